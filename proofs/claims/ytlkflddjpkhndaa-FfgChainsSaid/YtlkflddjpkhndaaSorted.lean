/- Contracts: slices.SortFunc, Collect, SortedFunc at checkpoints; ffg.sorted: the keys in order. -/
import Derived.Test.YtlkflddjpkhndaaCmp
import Derived.Test.YtlkflddjpkhndaaKeys
import Derived.Test.YtlkflddjpkhndaaCollect
import Derived.Test.YtlkflddjpkhndaaGadM
import Derived.Test.YtlkflddjpkhndaaShelf
namespace Go.Proofs.Ytlkflddjpkhndaa
open Go.RowKit

def encPt (p : Pt) : List Value := (pointA p).toList
instance : Inhabited Pt := ⟨zeroPt⟩
theorem encPt_length (p : Pt) : (encPt p).length = 33 := by simp [encPt]
theorem encPt_one (p : Pt) : ∀ v ∈ encPt p, v.oneCell' = true := pointA_one p
theorem cmpI_lt (x y : Int) : cmpI x y < 0 ↔ x < y := by
  unfold cmpI
  split
  · simp [*]
  · split <;> simp [*]
theorem cmpI_zero (x y : Int) : cmpI x y = 0 ↔ x = y := by
  unfold cmpI
  split
  · simp; omega
  · split
    · simp; omega
    · simp; omega
theorem compareBytes_iff : ∀ (x y : List UInt8), (Lib.compareBytes x y < 0 ↔ x < y) ∧ (Lib.compareBytes x y = 0 ↔ x = y)
  | [], [] => by simp [Lib.compareBytes]
  | [], _ :: _ => by simp [Lib.compareBytes]
  | _ :: _, [] => by simp [Lib.compareBytes]
  | a :: x, b :: y => by
    have ih := compareBytes_iff x y
    unfold Lib.compareBytes
    by_cases h1 : a < b
    · have hne : a ≠ b := fun e => by subst e; exact absurd h1 (UInt8.lt_irrefl a)
      simp [h1, List.cons_lt_cons_iff, hne]
    · by_cases h2 : b < a
      · have hne : a ≠ b := fun e => by subst e; exact absurd h2 (UInt8.lt_irrefl a)
        simp [h1, h2, List.cons_lt_cons_iff, hne]
      · have he : a = b := UInt8.le_antisymm (UInt8.not_lt.1 h2) (UInt8.not_lt.1 h1)
        subst he
        simp [List.cons_lt_cons_iff, ih]
theorem ptCmp_iff (p q : Pt) : ltOf ptCmp p q = decide (ptLt p q) := by
  unfold ltOf
  rw [Bool.eq_iff_iff, decide_eq_true_eq, decide_eq_true_eq]
  unfold ptCmp ptLt
  have h := compareBytes_iff p.name.1 q.name.1
  split
  · rename_i h0
    rw [cmpI_zero] at h0
    have he : p.epoch = q.epoch := UInt64.toNat_inj.1 (by omega)
    simp [he, h.1]
  · rename_i h0
    rw [cmpI_zero] at h0
    rw [cmpI_lt]
    constructor
    · intro h; exact .inl (by omega)
    · rintro (h | ⟨h, _⟩)
      · omega
      · rw [h] at h0; exact absurd rfl h0
theorem ptSwo : Go.Sort.SWO (ltOf ptCmp) where
  irrefl x := by rw [ptCmp_iff]; simp [ptLt_irrefl]
  trans x y z h1 h2 := by
    rw [ptCmp_iff] at *
    simp only [decide_eq_true_eq] at *
    exact ptLt_trans h1 h2
  ntrans x y z h1 h2 := by
    rw [ptCmp_iff] at *
    simp only [decide_eq_false_iff_not] at *
    intro h
    by_cases hxy : ptLt y x
    · exact h2 (ptLt_trans hxy h)
    · have e := ptLt_tri h1 hxy
      subst e
      exact h2 h
theorem cmpLays_pt (blk off size : Nat) (w : World) : CmpLays Try.prog 116 #[] encPt 33 ptCmp blk off size w := fun m os dk _ x y => by
  have h := closure_c x y (sortWorldK encPt 33 w blk off m dk os)
  simpa [encPt] using h

theorem flatPt_get (d : List Pt) (t : Nat) (h : t < d.length * 33) : (Go.Sort.flatK encPt 33 d.toArray)[t]? = (ptCells d)[t]? := by
  have h1 : t / 33 < d.length := by omega
  have h2 := ptCells_get d (t / 33) (t % 33) h1 (by omega)
  rw [show t / 33 * 33 + t % 33 = t by omega] at h2
  rw [h2]
  have hs : t < (Go.Sort.flatK encPt 33 d.toArray).size := by simpa using h
  have h3 := Go.Sort.get_flatK encPt 33 d.toArray t (by simpa using h)
  have h5 : t % 33 < (pointA d[t / 33]).size := by simp; omega
  rw [Array.getElem!_eq_getD, Array.getD_eq_getD_getElem?, Array.getElem?_eq_getElem hs, Option.getD_some] at h3
  rw [Array.getElem?_eq_getElem hs, h3, Array.getElem?_eq_getElem h5]
  simp [encPt, h1]
  rw [Array.getElem?_eq_getElem h5, Option.getD_some]
theorem holds_pts {w : World} {B g n c : Nat} {d : List Pt} (h : OwnC w B 33 (.slice (some ⟨g, 0, none⟩) n c) d.length (ptCells d)) : Go.Sort.HoldsK encPt 33 w g 0 d.toArray := by
  rcases h.2 with ⟨e, _⟩ | ⟨g', cap, e, h1, h2, h3, h4, h5, h6, h7⟩
  · cases e
  · cases e
    intro t ht
    have ht' : t < d.length * 33 := by simpa using ht
    have hc : t < c * 33 := by omega
    rw [Nat.zero_add]
    refine ⟨h7 t _ ?_, h6 t hc⟩
    rw [← flatPt_get d t ht', Array.getElem!_eq_getD, Array.getD_eq_getD_getElem?, Array.getElem?_eq_getElem ht]
    rfl
/-- a slice of checkpoints that can be read -/
abbrev PtsR (w : World) (s : Sl) (l : List Pt) : Prop := SlR 33 (fun cs p => cs = pointA p) w s l
theorem pts_of_holds {w : World} {g n c : Nat} {d : List Pt} (hn : n = d.length) (hc : n ≤ c) (h : Go.Sort.HoldsK encPt 33 w g 0 d.toArray) : PtsR w ⟨some ⟨g, 0, none⟩, n, c⟩ d := by
  refine ⟨hn, hc, fun _ => ⟨g, 0, rfl, fun i hi => ⟨_, row?_of_cells (by simp) (by decide) fun j hj => ?_, rfl⟩⟩⟩
  simp at hj
  have := (h.cell (i := i) (c := j) (by simpa using hi) hj).1
  rw [show 0 + i * 33 + j = 0 + i * 33 + j from rfl] at this
  rw [this]
  have hj' : j < (pointA d[i]).size := by simp; omega
  simp [encPt, hi]
  rw [Array.getElem?_eq_getElem hj', Option.getD_some]
theorem grownBy_sortedK {w : World} {g n : Nat} {os : Array Obj} (d : Array Pt) : w.grownBy (sortWorldK encPt 33 w g 0 n d os) (some g) := by
  unfold sortWorldK Go.Sort.putRowK
  refine ⟨rfl, rfl, rfl, by simp, fun k hk hne => ?_⟩
  rw [Go.Sort.heap_grow_old _ _ (by simpa using hk)]
  have : g ≠ k := fun e => hne (by rw [e])
  simp [Go.Sort.putRow, Go.Sort.mapBlock, Go.Sort.ahead, Array.getElem?_modify, this]

theorem sortFunc_c {w : World} {B g n c : Nat} {d : List Pt} (h : OwnC w B 33 (.slice (some ⟨g, 0, none⟩) n c) d.length (ptCells d)) (hnd : d.Nodup) (hlen : d.length ≤ 100000) :
    Calls Try.prog 146 #[.slice (some ⟨g, 0, none⟩) n c, .func (.func 116) #[] #[]] w fun e w' =>
      e = .returned (.tuple #[]) ∧ PtsR w' ⟨some ⟨g, 0, none⟩, n, c⟩ (srtPt d) ∧ w.grownBy w' (some g) := by
  have hH := holds_pts h
  obtain ⟨rfl, hcap, hg⟩ : n = d.length ∧ n ≤ c ∧ g < w.heap.size := by
    rcases h.2 with ⟨e, _⟩ | ⟨g', cap, e, h1, h2, h3, _⟩
    · cases e
    · cases e; exact ⟨rfl, h3, h2⟩
  have hc := Try.slices_SortFunc 33 Try.isAgg26 Try.sizeOf26 encPt encPt_length encPt_one ptCmp ptSwo 116 #[] g 0 c d.toArray w
    (enters_of Try.func116 (by kernel_rfl) rfl) (cmpLays_pt g 0 _ w) hH hg (by simp; omega)
  rw [List.size_toArray] at hc
  refine hc.mono ?_
  rintro e w' ⟨rfl, d', m, os, hp, hs, rfl⟩
  have hsz : d'.size = d.length := by simpa using hp.1
  have hperm : d'.toList.Perm d := by
    have := hp.2.2
    rw [Array.extract_eq_self_of_le (by simp [hsz]), Array.extract_eq_self_of_le (by simp)] at this
    simpa using this
  have hsorted : d'.toList.Pairwise ptLt := by
    refine List.pairwise_iff_getElem.2 fun i j hi hj hij => ?_
    have hi' : i < d'.size := by simpa using hi
    have hj' : j < d'.size := by simpa using hj
    have h1 := hs i j (Nat.zero_le _) hij (by omega)
    rw [getElem!_pos d' i hi', getElem!_pos d' j hj', ptCmp_iff, decide_eq_false_iff_not] at h1
    simp only [Array.getElem_toList]
    by_cases h2 : ptLt d'[i] d'[j]
    · exact h2
    · have e := ptLt_tri h2 h1
      have hn := (hperm.nodup_iff.2 hnd)
      have := List.pairwise_iff_getElem.1 hn i j hi hj hij
      simp only [Array.getElem_toList] at this
      exact absurd e this
  have hd' : d'.toList = srtPt d := srt_of hsorted hnd fun p => hperm.mem_iff
  have hd2 : d' = (srtPt d).toArray := by rw [← hd']
  refine ⟨rfl, ?_, grownBy_sortedK d'⟩
  have := holdsK_sortWorldK_c encPt 33 w g 0 d.toArray d' m os hH hg (by simp [hsz])
  rw [hd2] at this ⊢
  exact pts_of_holds (srt_length d).symm hcap this
end Go.Proofs.Ytlkflddjpkhndaa
