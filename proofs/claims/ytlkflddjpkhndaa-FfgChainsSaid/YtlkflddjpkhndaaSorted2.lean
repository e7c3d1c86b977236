/- Contracts: slices.Collect, SortedFunc at checkpoints; ffg.sorted, last, AllJustified, AllFinal, Best, Highest. -/
import Derived.Test.YtlkflddjpkhndaaSorted
namespace Go.Proofs.Ytlkflddjpkhndaa
open Go.RowKit Go.Maps Go.MapKept Go.ChangeMaps

/-- what maps.Keys hands back -/
abbrev keysF (B : Nat) : Value := .func (.func 147) #[] #[.pointer (some ⟨B, 0, none⟩)]
theorem collect_c (Bm b : Nat) (ks : List Pt) (w : World) (hm : w.cell? ⟨Bm, 0, none⟩ = some (.map (some b))) (hown : MapPts w b ks) (hk : ks.length ≤ 100000) :
    Calls Try.prog 145 #[keysF Bm] w fun e w' => ∃ v ss, e = .returned v ∧ ss.Perm ks ∧ OwnC w' w.heap.size 33 v ss.length (ptCells ss) ∧ Below w.heap.size w w' := by
  have hA := callsIn_wide.1 (appendSeq_in Fence.wide 4 trivial rfl (by omega) _ _ trivial (enters_of Try.func147 (by kernel_rfl) rfl) _ ks.length
    (Nat.le_trans hk (by decide)) (by omega) w (keys_stops Fence.wide 3 trivial rfl (by omega) Bm b ks w (block_lt_of_cell hm) hm hown))
  go_enter Try.func145, Try.ntmps145
  go_wp2_with (go_at_call 158; refine hA.mono ?_; rintro e w' ⟨v, ss, rfl, h1, h2, h3⟩)
  go_ret
  exact ⟨v, ss, rfl, h1, OwnC.of_row h2, h3⟩
theorem sortedFunc_c (Bm b : Nat) (ks : List Pt) (w : World) (hm : w.cell? ⟨Bm, 0, none⟩ = some (.map (some b))) (hown : MapPts w b ks) (hk : ks.length ≤ 100000) (h0 : ks ≠ []) :
    Calls Try.prog 114 #[keysF Bm, .func (.func 116) #[] #[]] w fun e w' => ∃ s, e = .returned s.v ∧ PtsR w' s (srtPt ks) ∧ Below w.heap.size w w' := by
  have hC := collect_c Bm b ks w hm hown hk
  go_enter Try.func114, Try.ntmps114
  go_wp2_with (go_at_call 145; refine hC.mono ?_; rintro e w1 ⟨v, ss, rfl, hp, ho, hb⟩)
  obtain ⟨g, c, rfl⟩ : ∃ g c, v = .slice (some ⟨g, 0, none⟩) ss.length c := by
    rcases ho.2 with ⟨e, hn⟩ | ⟨g, cap, e, _⟩
    · have := hp.length_eq
      exact absurd (List.eq_nil_of_length_eq_zero (by omega)) h0
    · exact ⟨g, cap, e⟩
  have hg := ho.lt g rfl
  have hnd := hp.nodup_iff.2 hown.nodup
  have hS := sortFunc_c ho hnd (by rw [hp.length_eq]; exact hk)
  rw [srt_eq hnd hown.nodup fun p => hp.mem_iff] at hS
  clear hC
  go_wp2_with (go_at_call 146; refine hS.mono ?_; rintro e w2 ⟨rfl, h1, h2⟩)
  go_ret
  exact ⟨⟨some ⟨g, 0, none⟩, ss.length, c⟩, rfl, h1, hb.grown h2 hb.size (fun k e => by cases e; exact hg.1)⟩
theorem fsorted_c (b : Nat) (ks : List Pt) (w : World) (hown : MapPts w b ks) (hk : ks.length ≤ 100000) (h0 : ks ≠ []) :
    Calls Try.prog 77 #[.map (some b)] w fun e w' => ∃ s, e = .returned s.v ∧ PtsR w' s (srtPt ks) ∧ Below w.heap.size w w' := by
  have hK : ∀ W, Calls Try.prog 115 #[.map (some b)] W _ := fun W => callsIn_wide.1 (keys_in Fence.wide 4 trivial rfl (some b) W)
  have hb0 : Below w.heap.size w (w.alloc (.cells #[.map (some b)] 77)) := bel_a w _
  have hS := sortedFunc_c w.heap.size b ks (w.alloc (.cells #[.map (some b)] 77)) (by simp) (hown.keep hb0 hown.lt) hk h0
  go_enter Try.func77, Try.ntmps77
  go_wp2_with (first
    | (go_at_call 115; refine (hK _).mono ?_; rintro e w' ⟨rfl, rfl⟩)
    | (go_at_call 114; refine hS.mono ?_; rintro e w2 ⟨s, rfl, h1, h2⟩))
  go_ret
  exact ⟨s, rfl, h1, hb0.trans (h2.mono (by simp))⟩
end Go.Proofs.Ytlkflddjpkhndaa
