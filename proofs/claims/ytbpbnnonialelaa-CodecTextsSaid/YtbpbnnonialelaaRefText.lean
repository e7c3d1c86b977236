/- Contracts: ref09.Text, SameVote, vote. -/
import Derived.Test.YtbpbnnonialelaaRefVote
namespace Go.Proofs.Ytbpbnnonialelaa
open Go.RowKit

set_option maxRecDepth 100000 in
set_option maxHeartbeats 800000 in
theorem fText_c (g : GVote) (v : Vote) (w : World) (e1 : g.validator = v.validator) (e2 : g.source = v.source) (e3 : g.target = v.target) (h1 : 1 ≤ v.validator) (h64 : v.validator ≤ 64) :
    Calls Try.prog 35 #[.agg (voteA g)] w fun e w' => ∃ s : Sl, e = .returned s.v ∧ BytesR w' s (txBytes v) ∧ Below w.heap.size w w' := by
  have g1 : 1 ≤ g.validator := by omega
  have g2 : g.validator ≤ 64 := by omega
  have hw : IntKind.u8.wrap g.validator = g.validator := by simp [IntKind.wrap, IntKind.min, IntKind.max, IntKind.signed, IntKind.bits]; omega
  have hnb : byteV (UInt8.ofNat g.validator.toNat) = .int .u8 g.validator := by simp [byteV]; omega
  have Hnb := Lib.hid hnb
  have E1 := Lib.hid e1
  have E2 := Lib.hid e2
  have E3 := Lib.hid e3
  have c0 : (w.alloc (.cells (voteA g) 61)).cell? ⟨w.heap.size, 0, none⟩ = some (.int .i64 g.validator) := by simp
  have c1 : row? (w.alloc (.cells (voteA g) 61)) w.heap.size 1 33 = some (pointA g.source) := by rw [row?_new]; simp
  have c34 : row? (w.alloc (.cells (voteA g) 61)) w.heap.size 34 33 = some (pointA g.target) := by rw [row?_new]; simp
  have hz0 : w.heap.size < (w.alloc (.cells (voteA g) 61)).heap.size := by simp
  have hB0 : Below w.heap.size w (w.alloc (.cells (voteA g) 61)) := bel_a _ _
  clear e1 e2 e3 h1 h64 hnb
  go_enter Try.func35, Try.ntmps35
  go_wp2_with fail
  generalize w.alloc (.cells (voteA g) 61) = w1 at *
  have HB0 := Lib.hid hB0
  clear hB0
  refine wp_region_freeG_l (CellsKept w1.heap.size) (by kernel_rfl) [3, 4, 5, 6, 7, 8, 9, 10, 11, 12, 13, 14, 15, 16, 2]
    [LitB #[.int .u8 118, .int .u8 111, .int .u8 116, .int .u8 101] 5 w1.heap.size, IsB [118, 111, 116, 101], Is (.pointer (some ⟨w.heap.size, 0, none⟩)), Is (.int .i64 g.validator), Is (.int .u8 g.validator), IsB (be 1 g.validator.toNat), Is (.pointer (some ⟨w.heap.size, 1, none⟩)), Is (.agg (pointA g.source)), IsB (ptBytes g.source), Is (.pointer (some ⟨w.heap.size, 34, none⟩)), Is (.agg (pointA g.target)), IsB (ptBytes g.target), Pieces [[118, 111, 116, 101], be 1 g.validator.toNat, ptBytes g.source, ptBytes g.target], IsB (txBytes v), IsB (txBytes v)]
    (by kernel_rfl) (fun w w' h hb => h.below hb) ?_ ?_ ?_
  · intro f hf
    simp only [List.mem_cons, List.not_mem_nil, or_false] at hf
    rcases hf with rfl | rfl | rfl | rfl | rfl | rfl | rfl | rfl | rfl | rfl | rfl | rfl | rfl | rfl | rfl <;> intro x W W' h hr <;> first | exact h | (obtain ⟨s, h1, h2⟩ := h; exact ⟨s, h1, h2.keepC hr⟩) | (obtain ⟨b, fr, h1, h2, h3⟩ := h; obtain ⟨fr', h4⟩ := hr.cells _ _ _ _ h3; exact ⟨b, fr', h1, h2, h4⟩) | (obtain ⟨b, ss, h1, h2, h3, h4⟩ := h; exact ⟨b, ss, h1, h2, fun i hi => hr.cell (h3 i hi), fun i hi hj => (h4 i hi hj).keepC hr⟩)
  · refine ⟨?_, ?_, ?_, ?_, ?_, ?_, ?_, ?_, ?_, ?_, ?_, ?_, ?_, ?_, ?_, trivial⟩
    · intro L ax W hf hd
      try simp [Region.binds] at hd
      refine ⟨fun _ => ?_, fun h => absurd trivial h⟩
      refine free_run (v := .slice (some ⟨W.heap.size, 0, none⟩) 4 4) (W' := W.alloc (.cells #[.int .u8 118, .int .u8 111, .int .u8 116, .int .u8 101] 5)) rfl ?_ ⟨W.heap.size, (0, 0), rfl, hf.below.size, heap_alloc_new W _⟩ (CellsKept.of (bel_a _ _) hf.below.size)
      go_simp
    · intro L ax W hf hd
      simp [Region.binds] at hd
      have f3 : LitB #[.int .u8 118, .int .u8 111, .int .u8 116, .int .u8 101] 5 w1.heap.size (sl ax 3) W := hf.got 0 (by decide) (by simp [hd])
      refine ⟨fun _ => ?_, fun h => absurd trivial h⟩
      obtain ⟨b, fr, e7, hb, hh⟩ := f3
      have e7' := slv e7
      have e7' : ax.tmps[3]?.getD undef = .slice (some ⟨b, 0, none⟩) 4 4 := e7'
      refine free_run (v := .slice (some ⟨b, 0, none⟩) 4 4) (W' := W.freeze ⟨b, 4, none⟩ 1) rfl ?_ ⟨⟨some ⟨b, 0, none⟩, 4, 4⟩, rfl, ?_⟩ (freeze_kept _ _ _ _ hb)
      · have hcv := run_convert_lit (P := Try.prog) W 35 5 #[.int .u8 118, .int .u8 111, .int .u8 116, .int .u8 101] fr b 4 4 Try.underlying35 Try.underlying5 hh
        simp [execOp, Act.eval, e7', hcv]
      · refine ⟨rfl, Nat.le_refl _, fun _ => ⟨b, 0, rfl, fun i hi => ?_⟩⟩
        refine (freeze_kept W b 4 w1.heap.size hb).cell ?_
        rw [cell_of_row _ b (0 + i) _ _ _ hh]
        have hi4 : i = 0 ∨ i = 1 ∨ i = 2 ∨ i = 3 := by simp at hi; omega
        rcases hi4 with rfl | rfl | rfl | rfl <;> rfl
    · intro L ax W hf hd
      try simp [Region.binds] at hd
      have e1 : ax.tmps[1]?.getD undef = .pointer (some ⟨w.heap.size, 0, none⟩) := hf.out 1 (by decide) rfl
      refine ⟨fun _ => ?_, fun h => absurd trivial h⟩
      refine free_run (v := .pointer (some ⟨w.heap.size, 0, none⟩)) (W' := W) rfl ?_ rfl (CellsKept.of (Below.refl _ _) hf.below.size)
      go_simp
    · intro L ax W hf hd
      simp [Region.binds] at hd
      have e5 : ax.tmps[5]?.getD undef = .pointer (some ⟨w.heap.size, 0, none⟩) := slv (hf.got 2 (by decide) (by simp [hd]))
      refine ⟨fun _ => ?_, fun h => absurd trivial h⟩
      have h1 : W.cell? ⟨w.heap.size, 0, none⟩ = some (.int .i64 g.validator) := (hf.below.cell (p := ⟨w.heap.size, 0, none⟩) hz0).trans c0
      refine free_run (v := .int .i64 g.validator) (W' := W) rfl ?_ rfl (CellsKept.of (Below.refl _ _) hf.below.size)
      go_simp
    · intro L ax W hf hd
      simp [Region.binds] at hd
      have e6 : ax.tmps[6]?.getD undef = .int .i64 g.validator := slv (hf.got 3 (by decide) (by simp [hd]))
      refine ⟨fun _ => ?_, fun h => absurd trivial h⟩
      refine free_run (v := .int .u8 g.validator) (W' := W) rfl ?_ rfl (CellsKept.of (Below.refl _ _) hf.below.size)
      go_simp
    · intro L ax W hf hd
      simp [Region.binds] at hd
      have e7 : ax.tmps[7]?.getD undef = .int .u8 g.validator := slv (hf.got 4 (by decide) (by simp [hd]))
      refine ⟨fun _ => ?_, fun h => absurd trivial h⟩
      refine free_run (v := .slice (some ⟨W.heap.size, 0, none⟩) 1 1) (W' := W.alloc (.cells #[.int .u8 g.validator] 5)) rfl ?_ ⟨⟨some ⟨W.heap.size, 0, none⟩, 1, 1⟩, rfl, BytesR.one _ _ _ _ _ rfl Hnb.out⟩ (CellsKept.of (bel_a _ _) hf.below.size)
      go_simp
    · intro L ax W hf hd
      try simp [Region.binds] at hd
      have e1 : ax.tmps[1]?.getD undef = .pointer (some ⟨w.heap.size, 0, none⟩) := hf.out 1 (by decide) rfl
      refine ⟨fun _ => ?_, fun h => absurd trivial h⟩
      refine free_run (v := .pointer (some ⟨w.heap.size, 1, none⟩)) (W' := W) rfl ?_ rfl (CellsKept.of (Below.refl _ _) hf.below.size)
      go_simp
    · intro L ax W hf hd
      simp [Region.binds] at hd
      have e9 : ax.tmps[9]?.getD undef = .pointer (some ⟨w.heap.size, 1, none⟩) := slv (hf.got 6 (by decide) (by simp [hd]))
      refine ⟨fun _ => ?_, fun h => absurd trivial h⟩
      have h1 : row? W w.heap.size 1 33 = some (pointA g.source) := (row?_below _ _ _ hf.below hz0).trans c1
      refine free_run (v := .agg (pointA g.source)) (W' := W) rfl ?_ rfl (CellsKept.of (Below.refl _ _) hf.below.size)
      go_simp
    · intro L ax W hf hd
      simp [Region.binds] at hd
      have e10 : ax.tmps[10]?.getD undef = .agg (pointA g.source) := slv (hf.got 7 (by decide) (by simp [hd]))
      refine ⟨fun _ => ?_, fun h => absurd trivial h⟩
      refine free_call (f := 48) (args := #[.agg (pointA g.source)]) rfl (by go_simp) ?_
      refine (fPoint_c g.source W).mono ?_
      rintro e w' ⟨x, rfl, ho, hb⟩
      obtain ⟨s2, rfl⟩ := ho.slice
      exact ⟨_, rfl, ⟨s2, rfl, ho.reads⟩, (CellsKept.of hb hf.below.size)⟩
    · intro L ax W hf hd
      try simp [Region.binds] at hd
      have e1 : ax.tmps[1]?.getD undef = .pointer (some ⟨w.heap.size, 0, none⟩) := hf.out 1 (by decide) rfl
      refine ⟨fun _ => ?_, fun h => absurd trivial h⟩
      refine free_run (v := .pointer (some ⟨w.heap.size, 34, none⟩)) (W' := W) rfl ?_ rfl (CellsKept.of (Below.refl _ _) hf.below.size)
      go_simp
    · intro L ax W hf hd
      simp [Region.binds] at hd
      have e12 : ax.tmps[12]?.getD undef = .pointer (some ⟨w.heap.size, 34, none⟩) := slv (hf.got 9 (by decide) (by simp [hd]))
      refine ⟨fun _ => ?_, fun h => absurd trivial h⟩
      have h1 : row? W w.heap.size 34 33 = some (pointA g.target) := (row?_below _ _ _ hf.below hz0).trans c34
      refine free_run (v := .agg (pointA g.target)) (W' := W) rfl ?_ rfl (CellsKept.of (Below.refl _ _) hf.below.size)
      go_simp
    · intro L ax W hf hd
      simp [Region.binds] at hd
      have e13 : ax.tmps[13]?.getD undef = .agg (pointA g.target) := slv (hf.got 10 (by decide) (by simp [hd]))
      refine ⟨fun _ => ?_, fun h => absurd trivial h⟩
      refine free_call (f := 48) (args := #[.agg (pointA g.target)]) rfl (by go_simp) ?_
      refine (fPoint_c g.target W).mono ?_
      rintro e w' ⟨x, rfl, ho, hb⟩
      obtain ⟨s2, rfl⟩ := ho.slice
      exact ⟨_, rfl, ⟨s2, rfl, ho.reads⟩, (CellsKept.of hb hf.below.size)⟩
    · intro L ax W hf hd
      simp [Region.binds] at hd
      have f4 : IsB [118, 111, 116, 101] (sl ax 4) W := hf.got 1 (by decide) (by simp [hd])
      have f8 : IsB (be 1 g.validator.toNat) (sl ax 8) W := hf.got 5 (by decide) (by simp [hd])
      have f11 : IsB (ptBytes g.source) (sl ax 11) W := hf.got 8 (by decide) (by simp [hd])
      have f14 : IsB (ptBytes g.target) (sl ax 14) W := hf.got 11 (by decide) (by simp [hd])
      refine ⟨fun _ => ?_, fun h => absurd trivial h⟩
      obtain ⟨s0, e0, r0⟩ := f4
      obtain ⟨s1, e1, r1⟩ := f8
      obtain ⟨s2, e2, r2⟩ := f11
      obtain ⟨s3, e3, r3⟩ := f14
      have e0 := slv e0
      have e1 := slv e1
      have e2 := slv e2
      have e3 := slv e3
      have hb := bel_a W (.cells #[s0.v, s1.v, s2.v, s3.v] 35)
      refine free_run (v := .slice (some ⟨W.heap.size, 0, none⟩) 4 4) (W' := W.alloc (.cells #[s0.v, s1.v, s2.v, s3.v] 35)) rfl ?_ ⟨W.heap.size, [s0, s1, s2, s3], rfl, rfl, ?_, ?_⟩ (CellsKept.of hb hf.below.size)
      · clear hb
        go_simp
      · intro i h
        have hi4 : i = 0 ∨ i = 1 ∨ i = 2 ∨ i = 3 := by simp at h; omega
        rcases hi4 with rfl | rfl | rfl | rfl <;> simp
      · intro i h h'
        have hi4 : i = 0 ∨ i = 1 ∨ i = 2 ∨ i = 3 := by simp at h; omega
        rcases hi4 with rfl | rfl | rfl | rfl
        · exact r0.keep hb
        · exact r1.keep hb
        · exact r2.keep hb
        · exact r3.keep hb
    · intro L ax W hf hd
      simp [Region.binds] at hd
      have f15 : Pieces [[118, 111, 116, 101], be 1 g.validator.toNat, ptBytes g.source, ptBytes g.target] (sl ax 15) W := hf.got 12 (by decide) (by simp [hd])
      refine ⟨fun _ => ?_, fun h => absurd trivial h⟩
      obtain ⟨b, ss, e0, hl, hc, hr⟩ := f15
      have e0 := slv e0
      refine free_call (f := 64) (args := #[.slice (some ⟨b, 0, none⟩) 4 4]) rfl (by simp [execOp, Act.eval, e0, resolve, invoke, Deferred.ofValue]; try go_simp) ?_
      refine (rjoin_c b 4 ss [[118, 111, 116, 101], be 1 g.validator.toNat, ptBytes g.source, ptBytes g.target] W ⟨hl, hc, hr⟩ (by simp) (by simp [be_length, ptBytes_length] <;> omega)).mono ?_
      rintro e w' ⟨x, rfl, ho, hb⟩
      obtain ⟨s, rfl⟩ := ho.slice
      refine ⟨_, rfl, ⟨s, rfl, ?_⟩, (CellsKept.of hb hf.below.size)⟩
      have := ho.reads
      rw [txBytes, ← E1.out, ← E2.out, ← E3.out]
      simpa using this
    · intro L ax W hf hd
      simp [Region.binds] at hd
      have f16 : IsB (txBytes v) (sl ax 16) W := hf.got 13 (by decide) (by simp [hd])
      refine ⟨fun _ => ?_, fun h => absurd trivial h⟩
      obtain ⟨s, e0, r0⟩ := f16
      have e0 := slv e0
      refine free_run (v := s.v) (W' := W) rfl ?_ ⟨s, rfl, r0⟩ (CellsKept.of (Below.refl _ _) hf.below.size)
      go_simp
  · intro vs W' hl' hF hb
    obtain ⟨g', hg1, hg2⟩ := vs_lit vs hl' hF
    obtain ⟨s, e15, r15⟩ : IsB (txBytes v) (g' 14) W' := hg2 14 (by decide)
    rw [hg1]
    clear hF hg1 hg2 hl'
    have Hr := Lib.hid r15
    clear r15
    simp only [List.length_cons, List.length_nil, Nat.reduceAdd, show List.range 15 = [0, 1, 2, 3, 4, 5, 6, 7, 8, 9, 10, 11, 12, 13, 14] from rfl, List.map_cons, List.map_nil, putL, List.zip_cons_cons, List.zip_nil_right, List.setIfInBounds_toArray, List.set_cons_succ, List.set_cons_zero, e15]
    go_wp2_with fail
    go_ret
    exact ⟨s, rfl, Hr.out, HB0.out.trans (hb.mono (Nat.le_of_lt hz0))⟩

set_option maxRecDepth 100000 in
set_option maxHeartbeats 800000 in
theorem fsameVote_c (g1 g2 : GVote) (v1 v2 : Vote) (w : World) (h1 : VoteR w g1 v1) (h2 : VoteR w g2 v2) :
    Calls Try.prog 39 #[.agg (voteA g1), .agg (voteA g2)] w fun e w' => e = .returned (.bool (decide (v1 = v2))) ∧ Below w.heap.size w w' := by
  have hg := eq_point_guard
  have hE : decide (v1 = v2) = ((g1.validator == g2.validator) && decide (g1.source = g2.source) && decide (g1.target = g2.target) && decide (v1.sig = v2.sig)) := by
    rw [vote_eq, ← h1.1, ← h1.2.1, ← h1.2.2.1, ← h2.1, ← h2.2.1, ← h2.2.2.1]
    congr 3
  have HE := Lib.hid hE
  have hB : Below w.heap.size w ((w.alloc (.cells (voteA g1) 61)).alloc (.cells (voteA g2) 61)) := by (repeat' (first | (with_reducible exact Below.refl _ _) | (with_reducible assumption) | (with_reducible refine bel_trans (by assumption) ?_ ?_) | (with_reducible refine bel_grown (by assumption) ?_ ?_ ?_) | (with_reducible refine Below.alloc ?_ ?_ _) | (with_reducible refine Below.drew ?_) | (with_reducible refine below_drewN ?_ _) | (with_reducible refine Below.setCell ?_ ?_ _) | (with_reducible refine below_put ?_ ?_ _ _) | (with_reducible exact Nat.le_refl _) | omega | (with_reducible refine Nat.le_trans ?_ (Below.size (by assumption))) | (with_reducible refine Nat.le_trans ?_ (World.grownBy.size (by assumption))) | (simp only [World.size_alloc, World.size_setCell, World.size_drew, size_drewN]; omega) | (simp only [World.size_alloc, World.size_setCell, World.size_drew, size_drewN, size_put]; omega) | (intro k hk; simp [Value.ownBlock] at hk; done) | (intro k hk; simp [Value.ownBlock] at hk; omega) | (simp [size_drewN] at *; omega)))
  have k1 := str_run (h1.2.2.2.keep hB)
  have k2 := str_run (h2.2.2.2.keep hB)
  clear hE h1 h2 hB
  go_enter Try.func39, Try.ntmps39
  go_wp2_with fail
  all_goals go_ret
  all_goals exact ⟨ret_bool (by rw [HE.out]; first | (simp [*]; done) | (simp [*]; rw [Bool.eq_iff_iff]; simp; done)), by (repeat' (first | (with_reducible exact Below.refl _ _) | (with_reducible assumption) | (with_reducible refine bel_trans (by assumption) ?_ ?_) | (with_reducible refine bel_grown (by assumption) ?_ ?_ ?_) | (with_reducible refine Below.alloc ?_ ?_ _) | (with_reducible refine Below.drew ?_) | (with_reducible refine below_drewN ?_ _) | (with_reducible refine Below.setCell ?_ ?_ _) | (with_reducible refine below_put ?_ ?_ _ _) | (with_reducible exact Nat.le_refl _) | omega | (with_reducible refine Nat.le_trans ?_ (Below.size (by assumption))) | (with_reducible refine Nat.le_trans ?_ (World.grownBy.size (by assumption))) | (simp only [World.size_alloc, World.size_setCell, World.size_drew, size_drewN]; omega) | (simp only [World.size_alloc, World.size_setCell, World.size_drew, size_drewN, size_put]; omega) | (intro k hk; simp [Value.ownBlock] at hk; done) | (intro k hk; simp [Value.ownBlock] at hk; omega) | (simp [size_drewN] at *; omega)))⟩
end Go.Proofs.Ytbpbnnonialelaa
