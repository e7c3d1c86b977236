/- Texts of this proof, one behind the other: ZfGadM, ZfSorted, ZfSorted2. -/
import Derived.Test.YthdjhbiigmcecaaGreatCAZ
import Derived.BigQuiet
import Derived.Test.YthdjhbiigmcecaaGreatShelf
set_option linter.unusedVariables false
set_option linter.unusedSimpArgs false
/- Contracts: the gadget's small methods: there, Justified, Final. -/
namespace Go.Proofs.YthdjhbiigmcecaaGreat.F13
open Go.RowKit

def lnkCells (ls : List Lnk) : List Value := (ls.map fun l => (linkA l).toList).flatten
/-- a gadget lies at r; its own are the blocks r, b1, b2 and that of s -/
structure Gad (w : World) (B r b1 b2 : Nat) (s : Sl) (ls : List Lnk) (js fs : List Pt) : Prop where
 row : w.heap[r]? = some (.cells #[s.v, .map (some b1), .map (some b2)] 85 (0, 0))
 own : OwnC w B 66 s.v ls.length (lnkCells ls)
 j : MapPts w b1 js
 f : MapPts w b2 fs
 ne : b1 ≠ b2
 n1 : r ≠ b1
 n2 : r ≠ b2
 hs : ∀ g, s.v.ownBlock = some g → g ≠ r ∧ g ≠ b1 ∧ g ≠ b2
 br : B ≤ r
 bb1 : B ≤ b1
 bb2 : B ≤ b2
theorem Gad.lt {w : World} {B r b1 b2 : Nat} {s : Sl} {ls : List Lnk} {js fs : List Pt} (h : Gad w B r b1 b2 s ls js fs) : r < w.heap.size ∧ b1 < w.heap.size ∧ b2 < w.heap.size ∧ ∀ g, s.v.ownBlock = some g → g < w.heap.size :=
 ⟨(Array.getElem?_eq_some_iff.1 h.row).1, h.j.lt, h.f.lt, fun g hg => (h.own.lt g hg).2⟩
theorem Gad.cells {w : World} {B r b1 b2 : Nat} {s : Sl} {ls : List Lnk} {js fs : List Pt} (h : Gad w B r b1 b2 s ls js fs) :
  w.cell? ⟨r, 0, none⟩ = some s.v ∧ w.cell? ⟨r, 1, none⟩ = some (.map (some b1)) ∧ w.cell? ⟨r, 2, none⟩ = some (.map (some b2)) ∧ w.frozen? ⟨r, 0, none⟩ = false :=
 ⟨cell_of_row w r 0 _ _ _ h.row, cell_of_row w r 1 _ _ _ h.row, cell_of_row w r 2 _ _ _ h.row, frozen_of_row w r 0 _ _ h.row⟩
/-- the same old blocks -/
theorem Gad.keep {w w' : World} {B r b1 b2 : Nat} {s : Sl} {ls : List Lnk} {js fs : List Pt} (h : Gad w B r b1 b2 s ls js fs) (hb : Below w.heap.size w w') : Gad w' B r b1 b2 s ls js fs :=
 { h with row := (hb.block r h.lt.1).trans h.row, own := h.own.keep hb, j := h.j.keep hb h.lt.2.1, f := h.f.keep hb h.lt.2.2.1 }
theorem Gad.drewN {w : World} {B r b1 b2 : Nat} {s : Sl} {ls : List Lnk} {js fs : List Pt} (h : Gad w B r b1 b2 s ls js fs) (n : Nat) : Gad (w.drewN n) B r b1 b2 s ls js fs := h.keep (below_drewN (Below.refl _ w) n)
theorem NewR.gad {w : World} {B r b1 b2 : Nat} {p : Pt} (h : NewR w r b1 b2 p) (h0 : B ≤ r) (h1 : B ≤ b1) (h2 : B ≤ b2) : Gad w B r b1 b2 ⟨none, 0, 0⟩ [] [p] [p] :=
 ⟨h.1, OwnC.nil _ _ _, h.2.1, h.2.2.1, h.2.2.2.1, h.2.2.2.2.1, h.2.2.2.2.2, fun g hg => by simp [Value.ownBlock] at hg, h0, h1, h2⟩

theorem neq_map_nil (p : Option Nat) (w : World) : (binOp .neq 82 (.map p) (.map none)).run Tryz.prog w = .ok (.bool p.isSome) w := by
 have h : ∀ d, (Op.equalIn (d + 1) 82 (.map p) (.map none)).run Tryz.prog w = .ok p.isNone w := fun d => by
  cases p <;> simp [Op.equalIn, run_underlying Tryz.underlying82]
 simp only [binOp]
 simp [show Op.equal 82 (.map p) (.map none) = Op.equalIn (9999 + 1) 82 (.map p) (.map none) from rfl, h 9999]
theorem there_c {w : World} {r b : Nat} (hc : w.cell? ⟨r, 1, none⟩ = some (.map (some b))) : Calls Tryz.prog 27 #[.pointer (some ⟨r, 0, none⟩)] w fun e w' => e = .returned (.bool true) ∧ w' = w := by
 have hq := fun w => neq_map_nil (some b) w
 go_enter Tryz.func27, Tryz.ntmps27
 go_wp2_with fail
 go_ret
 exact ⟨rfl, rfl⟩

theorem look_at {w : World} {b : Nat} {ks : List Pt} (h : MapPts w b ks) (p : Pt) :
  (Instr.lookup 82 (.map (some b)) (.agg (pointA p)) false).run Tryz.prog w = .ok (.agg #[.bool (decide (p ∈ ks))]) w := look_pts h p
theorem is_field (z : Bool) (w : World) : (Instr.field 81 (.agg #[.bool z]) 0).run Tryz.prog w = .ok (.bool z) w := by kernel_rfl
attribute [go_sem] is_field
set_option maxRecDepth 100000 in
theorem justified_c (p : Pt) {w : World} {B r b1 b2 : Nat} {s : Sl} {ls : List Lnk} {js fs : List Pt} (h : Gad w B r b1 b2 s ls js fs) :
  Calls Tryz.prog 14 #[.pointer (some ⟨r, 0, none⟩), .agg (pointA p)] w fun e w' => e = .returned (.bool (decide (p ∈ js))) ∧ Below w.heap.size w w' := by
 obtain ⟨c0, c1, c2, _⟩ := h.cells
 have hlt := h.lt.1
 have hW : Below w.heap.size w (w.alloc (.cells (pointA p) 26)) := bel_a w _
 have k1 : ∀ n, ((w.alloc (.cells (pointA p) 26)).drewN n).cell? ⟨r, 1, none⟩ = some (.map (some b1)) := fun n => (hW.cell (p := ⟨r, 1, none⟩) hlt).trans c1
 have HC := fun n => there_c (k1 n)
 have HL := fun n => look_at ((h.keep hW).drewN n).j p
 generalize decide (p ∈ js) = z at *
 clear h c0 c2
 go_enter Tryz.func14, Tryz.ntmps14
 go_wp2_with fail
 go_quiet ((go_at_call 27; exact Calls.quiet_of_same (HC _)))
 go_wp2_with fail
 go_ret
 exact ⟨rfl, by (repeat' (first | (with_reducible first | exact Below.refl _ _ | assumption | refine bel_trans (by assumption) ?_ ?_ | refine bel_grown (by assumption) ?_ ?_ ?_ | refine Below.alloc ?_ ?_ _ | refine Below.drew ?_ | refine below_drewN ?_ _ | refine Below.setCell ?_ ?_ _ | refine below_put ?_ ?_ _ _ | exact Nat.le_refl _) | omega | (with_reducible first | refine Nat.le_trans ?_ (Below.size (by assumption)) | refine Nat.le_trans ?_ (World.grownBy.size (by assumption))) | (simp only [World.size_alloc, World.size_setCell, World.size_drew, size_drewN]; omega) | (simp only [World.size_alloc, World.size_setCell, World.size_drew, size_drewN, size_put]; omega) | (intro k hk; simp [Value.ownBlock] at hk; first | done | omega) | (simp [size_drewN] at *; omega)))⟩
set_option maxRecDepth 100000 in
theorem final_c (p : Pt) {w : World} {B r b1 b2 : Nat} {s : Sl} {ls : List Lnk} {js fs : List Pt} (h : Gad w B r b1 b2 s ls js fs) :
  Calls Tryz.prog 15 #[.pointer (some ⟨r, 0, none⟩), .agg (pointA p)] w fun e w' => e = .returned (.bool (decide (p ∈ fs))) ∧ Below w.heap.size w w' := by
 obtain ⟨c0, c1, c2, _⟩ := h.cells
 have hlt := h.lt.1
 have hW : Below w.heap.size w (w.alloc (.cells (pointA p) 26)) := bel_a w _
 have k1 : ∀ n, ((w.alloc (.cells (pointA p) 26)).drewN n).cell? ⟨r, 1, none⟩ = some (.map (some b1)) := fun n => (hW.cell (p := ⟨r, 1, none⟩) hlt).trans c1
 have HC := fun n => there_c (k1 n)
 have HL := fun n => look_at ((h.keep hW).drewN n).f p
 generalize decide (p ∈ fs) = z at *
 clear h c0
 go_enter Tryz.func15, Tryz.ntmps15
 go_wp2_with fail
 go_quiet ((go_at_call 27; exact Calls.quiet_of_same (HC _)))
 go_wp2_with fail
 go_ret
 exact ⟨rfl, by (repeat' (first | (with_reducible first | exact Below.refl _ _ | assumption | refine bel_trans (by assumption) ?_ ?_ | refine bel_grown (by assumption) ?_ ?_ ?_ | refine Below.alloc ?_ ?_ _ | refine Below.drew ?_ | refine below_drewN ?_ _ | refine Below.setCell ?_ ?_ _ | refine below_put ?_ ?_ _ _ | exact Nat.le_refl _) | omega | (with_reducible first | refine Nat.le_trans ?_ (Below.size (by assumption)) | refine Nat.le_trans ?_ (World.grownBy.size (by assumption))) | (simp only [World.size_alloc, World.size_setCell, World.size_drew, size_drewN]; omega) | (simp only [World.size_alloc, World.size_setCell, World.size_drew, size_drewN, size_put]; omega) | (intro k hk; simp [Value.ownBlock] at hk; first | done | omega) | (simp [size_drewN] at *; omega)))⟩
end Go.Proofs.YthdjhbiigmcecaaGreat.F13

/- Contracts: slices.SortFunc, Collect, SortedFunc at checkpoints; ffg.sorted: the keys in order. -/
namespace Go.Proofs.YthdjhbiigmcecaaGreat.F13
open Go.RowKit

def encPt (p : Pt) : List Value := (pointA p).toList
instance : Inhabited Pt := ⟨zeroPt⟩
theorem encPt_length (p : Pt) : (encPt p).length = 33 := by simp [encPt]
theorem encPt_one (p : Pt) : ∀ v ∈ encPt p, v.oneCell' = true := pointA_one p
theorem cmpI_lt (x y : Int) : cmpI x y < 0 ↔ x < y := by
 unfold cmpI
 split
 ·simp [*]
 ·split <;> simp [*]
theorem cmpI_zero (x y : Int) : cmpI x y = 0 ↔ x = y := by
 unfold cmpI
 split
 ·simp; omega
 ·split
  ·simp; omega
  ·simp; omega
theorem compareBytes_iff : ∀ (x y : List UInt8), (Lib.compareBytes x y < 0 ↔ x < y) ∧ (Lib.compareBytes x y = 0 ↔ x = y)
 | [], [] => by simp [Lib.compareBytes]
 | [], _ :: _ => by simp [Lib.compareBytes]
 | _ :: _, [] => by simp [Lib.compareBytes]
 | a :: x, b :: y => by
  have ih := compareBytes_iff x y
  unfold Lib.compareBytes
  by_cases h1 : a < b
  ·have hne : a ≠ b := fun e => by subst e; exact absurd h1 (UInt8.lt_irrefl a)
   simp [h1, List.cons_lt_cons_iff, hne]
  ·by_cases h2 : b < a
   ·have hne : a ≠ b := fun e => by subst e; exact absurd h2 (UInt8.lt_irrefl a)
    simp [h1, h2, List.cons_lt_cons_iff, hne]
   ·have he : a = b := UInt8.le_antisymm (UInt8.not_lt.1 h2) (UInt8.not_lt.1 h1)
    subst he
    simp [List.cons_lt_cons_iff, ih]
theorem ptCmp_iff (p q : Pt) : ltOf ptCmp p q = decide (ptLt p q) := by
 unfold ltOf
 rw [Bool.eq_iff_iff, decide_eq_true_eq, decide_eq_true_eq]
 unfold ptCmp ptLt
 have h := compareBytes_iff p.name.1 q.name.1
 split
 ·rename_i h0
  rw [cmpI_zero] at h0
  have he : p.epoch = q.epoch := UInt64.toNat_inj.1 (by omega)
  simp [he, h.1]
 ·rename_i h0
  rw [cmpI_zero] at h0
  rw [cmpI_lt]
  constructor
  ·intro h; exact .inl (by omega)
  ·rintro (h | ⟨h, _⟩)
   ·omega
   ·rw [h] at h0; exact absurd rfl h0
theorem ptSwo : Go.Sort.SWO (ltOf ptCmp) where
 irrefl x := by rw [ptCmp_iff]; simp [ptLt_irrefl]
 trans x y z h1 h2 := by
  rw [ptCmp_iff] at *
  simp only [decide_eq_true_eq] at *
  exact ptLt_trans h1 h2
 ntrans x y z h1 h2 := by
  rw [ptCmp_iff] at *
  simp only [decide_eq_false_iff_not] at *
  intro h
  by_cases hxy : ptLt y x
  ·exact h2 (ptLt_trans hxy h)
  ·have e := ptLt_tri h1 hxy
   subst e
   exact h2 h
theorem cmpLays_pt (blk off size : Nat) (w : World) : CmpLays Tryz.prog 53 #[] encPt 33 ptCmp blk off size w := fun m os dk _ x y => by
 have h := closure_c x y (sortWorldK encPt 33 w blk off m dk os)
 simpa [encPt] using h

theorem flatPt_get (d : List Pt) (t : Nat) (h : t < d.length * 33) : (Go.Sort.flatK encPt 33 d.toArray)[t]? = (ptCells d)[t]? := by
 have h1 : t / 33 < d.length := by omega
 have h2 := ptCells_get d (t / 33) (t % 33) h1 (by omega)
 rw [show t / 33 * 33 + t % 33 = t by omega] at h2
 rw [h2]
 have hs : t < (Go.Sort.flatK encPt 33 d.toArray).size := by simpa using h
 have h3 := Go.Sort.get_flatK encPt 33 d.toArray t (by simpa using h)
 have h5 : t % 33 < (pointA d[t / 33]).size := by simp; omega
 rw [Array.getElem!_eq_getD, Array.getD_eq_getD_getElem?, Array.getElem?_eq_getElem hs, Option.getD_some] at h3
 rw [Array.getElem?_eq_getElem hs, h3, Array.getElem?_eq_getElem h5]
 simp [encPt, h1]
 rw [Array.getElem?_eq_getElem h5, Option.getD_some]
theorem holds_pts {w : World} {B g n c : Nat} {d : List Pt} (h : OwnC w B 33 (.slice (some ⟨g, 0, none⟩) n c) d.length (ptCells d)) : Go.Sort.HoldsK encPt 33 w g 0 d.toArray := by
 rcases h.2 with ⟨e, _⟩ | ⟨g', cap, e, h1, h2, h3, h4, h5, h6, h7⟩
 ·cases e
 ·cases e
  intro t ht
  have ht' : t < d.length * 33 := by simpa using ht
  have hc : t < c * 33 := by omega
  rw [Nat.zero_add]
  refine ⟨h7 t _ ?_, h6 t hc⟩
  rw [← flatPt_get d t ht', Array.getElem!_eq_getD, Array.getD_eq_getD_getElem?, Array.getElem?_eq_getElem ht]
  rfl
/-- a slice of checkpoints that can be read -/
abbrev PtsR (w : World) (s : Sl) (l : List Pt) : Prop := SlR 33 (fun cs p => cs = pointA p) w s l
theorem pts_of_holds {w : World} {g n c : Nat} {d : List Pt} (hn : n = d.length) (hc : n ≤ c) (h : Go.Sort.HoldsK encPt 33 w g 0 d.toArray) : PtsR w ⟨some ⟨g, 0, none⟩, n, c⟩ d := by
 refine ⟨hn, hc, fun _ => ⟨g, 0, rfl, fun i hi => ⟨_, row?_of_cells (by simp) (by decide) fun j hj => ?_, rfl⟩⟩⟩
 simp at hj
 have := (h.cell (i := i) (c := j) (by simpa using hi) hj).1
 rw [show 0 + i * 33 + j = 0 + i * 33 + j from rfl] at this
 rw [this]
 have hj' : j < (pointA d[i]).size := by simp; omega
 simp [encPt, hi]
 rw [Array.getElem?_eq_getElem hj', Option.getD_some]
theorem grownBy_sortedK {w : World} {g n : Nat} {os : Array Obj} (d : Array Pt) : w.grownBy (sortWorldK encPt 33 w g 0 n d os) (some g) := by
 unfold sortWorldK Go.Sort.putRowK
 refine ⟨rfl, rfl, rfl, by simp, fun k hk hne => ?_⟩
 rw [Go.Sort.heap_grow_old _ _ (by simpa using hk)]
 have : g ≠ k := fun e => hne (by rw [e])
 simp [Go.Sort.putRow, Go.Sort.mapBlock, Go.Sort.ahead, Array.getElem?_modify, this]

theorem sortFunc_c {w : World} {B g n c : Nat} {d : List Pt} (h : OwnC w B 33 (.slice (some ⟨g, 0, none⟩) n c) d.length (ptCells d)) (hnd : d.Nodup) (hlen : d.length ≤ 100000) :
  Calls Tryz.prog 71 #[.slice (some ⟨g, 0, none⟩) n c, .func (.func 53) #[] #[]] w fun e w' =>
   e = .returned (.tuple #[]) ∧ PtsR w' ⟨some ⟨g, 0, none⟩, n, c⟩ (srtPt d) ∧ w.grownBy w' (some g) := by
 have hH := holds_pts h
 obtain ⟨rfl, hcap, hg⟩ : n = d.length ∧ n ≤ c ∧ g < w.heap.size := by
  rcases h.2 with ⟨e, _⟩ | ⟨g', cap, e, h1, h2, h3, _⟩
  ·cases e
  ·cases e; exact ⟨rfl, h3, h2⟩
 have hc := Tryz.slices_SortFunc 33 Tryz.isAgg26 Tryz.sizeOf26 encPt encPt_length encPt_one ptCmp ptSwo 53 #[] g 0 c d.toArray w
  (enters_of Tryz.func53 (by kernel_rfl) rfl) (cmpLays_pt g 0 _ w) hH hg (by simp; omega)
 rw [List.size_toArray] at hc
 refine hc.mono ?_
 rintro e w' ⟨rfl, d', m, os, hp, hs, rfl⟩
 have hsz : d'.size = d.length := by simpa using hp.1
 have hperm : d'.toList.Perm d := by
  have := hp.2.2
  rw [Array.extract_eq_self_of_le (by simp [hsz]), Array.extract_eq_self_of_le (by simp)] at this
  simpa using this
 have hsorted : d'.toList.Pairwise ptLt := by
  refine List.pairwise_iff_getElem.2 fun i j hi hj hij => ?_
  have hi' : i < d'.size := by simpa using hi
  have hj' : j < d'.size := by simpa using hj
  have h1 := hs i j (Nat.zero_le _) hij (by omega)
  rw [getElem!_pos d' i hi', getElem!_pos d' j hj', ptCmp_iff, decide_eq_false_iff_not] at h1
  simp only [Array.getElem_toList]
  by_cases h2 : ptLt d'[i] d'[j]
  ·exact h2
  ·have e := ptLt_tri h2 h1
   have hn := (hperm.nodup_iff.2 hnd)
   have := List.pairwise_iff_getElem.1 hn i j hi hj hij
   simp only [Array.getElem_toList] at this
   exact absurd e this
 have hd' : d'.toList = srtPt d := srt_of hsorted hnd fun p => hperm.mem_iff
 have hd2 : d' = (srtPt d).toArray := by rw [← hd']
 refine ⟨rfl, ?_, grownBy_sortedK d'⟩
 have := holdsK_sortWorldK_c encPt 33 w g 0 d.toArray d' m os hH hg (by simp [hsz])
 rw [hd2] at this ⊢
 exact pts_of_holds (srt_length d).symm hcap this
end Go.Proofs.YthdjhbiigmcecaaGreat.F13

/- Contracts: slices.Collect, SortedFunc at checkpoints; ffg.sorted, last, AllJustified, AllFinal, Best, Highest. -/
namespace Go.Proofs.YthdjhbiigmcecaaGreat.F13
open Go.RowKit Go.Maps Go.MapKept Go.ChangeMaps

/-- what maps.Keys hands back -/
abbrev keysF (B : Nat) : Value := .func (.func 72) #[] #[.pointer (some ⟨B, 0, none⟩)]
theorem collect_c (Bm b : Nat) (ks : List Pt) (w : World) (hm : w.cell? ⟨Bm, 0, none⟩ = some (.map (some b))) (hown : MapPts w b ks) (hk : ks.length ≤ 100000) :
  Calls Tryz.prog 70 #[keysF Bm] w fun e w' => ∃ v ss, e = .returned v ∧ ss.Perm ks ∧ OwnC w' w.heap.size 33 v ss.length (ptCells ss) ∧ Below w.heap.size w w' := by
 have hA := callsIn_wide.1 (appendSeq_in Fence.wide 4 trivial rfl (by omega) _ _ trivial (enters_of Tryz.func72 (by kernel_rfl) rfl) _ ks.length
  (Nat.le_trans hk (by decide)) (by omega) w (keys_stops Fence.wide 3 trivial rfl (by omega) Bm b ks w (block_lt_of_cell hm) hm hown))
 go_enter Tryz.func70, Tryz.ntmps70
 go_wp2_with (go_at_call 91; refine hA.mono ?_; rintro e w' ⟨v, ss, rfl, h1, h2, h3⟩)
 go_ret
 exact ⟨v, ss, rfl, h1, OwnC.of_row h2, h3⟩
theorem sortedFunc_c (Bm b : Nat) (ks : List Pt) (w : World) (hm : w.cell? ⟨Bm, 0, none⟩ = some (.map (some b))) (hown : MapPts w b ks) (hk : ks.length ≤ 100000) (h0 : ks ≠ []) :
  Calls Tryz.prog 51 #[keysF Bm, .func (.func 53) #[] #[]] w fun e w' => ∃ s, e = .returned s.v ∧ PtsR w' s (srtPt ks) ∧ Below w.heap.size w w' := by
 have hC := collect_c Bm b ks w hm hown hk
 go_enter Tryz.func51, Tryz.ntmps51
 go_wp2_with (go_at_call 70; refine hC.mono ?_; rintro e w1 ⟨v, ss, rfl, hp, ho, hb⟩)
 obtain ⟨g, c, rfl⟩ : ∃ g c, v = .slice (some ⟨g, 0, none⟩) ss.length c := by
  rcases ho.2 with ⟨e, hn⟩ | ⟨g, cap, e, _⟩
  ·have := hp.length_eq
   exact absurd (List.eq_nil_of_length_eq_zero (by omega)) h0
  ·exact ⟨g, cap, e⟩
 have hg := ho.lt g rfl
 have hnd := hp.nodup_iff.2 hown.nodup
 have hS := sortFunc_c ho hnd (by rw [hp.length_eq]; exact hk)
 rw [srt_eq hnd hown.nodup fun p => hp.mem_iff] at hS
 clear hC
 go_wp2_with (go_at_call 71; refine hS.mono ?_; rintro e w2 ⟨rfl, h1, h2⟩)
 go_ret
 exact ⟨⟨some ⟨g, 0, none⟩, ss.length, c⟩, rfl, h1, hb.grown h2 hb.size (fun k e => by cases e; exact hg.1)⟩
theorem fsorted_c (b : Nat) (ks : List Pt) (w : World) (hown : MapPts w b ks) (hk : ks.length ≤ 100000) (h0 : ks ≠ []) :
  Calls Tryz.prog 44 #[.map (some b)] w fun e w' => ∃ s, e = .returned s.v ∧ PtsR w' s (srtPt ks) ∧ Below w.heap.size w w' := by
 have hK : ∀ W, Calls Tryz.prog 52 #[.map (some b)] W _ := fun W => callsIn_wide.1 (keys_in Fence.wide 4 trivial rfl (some b) W)
 have hb0 : Below w.heap.size w (w.alloc (.cells #[.map (some b)] 82)) := bel_a w _
 have hS := sortedFunc_c w.heap.size b ks (w.alloc (.cells #[.map (some b)] 82)) (by simp) (hown.keep hb0 hown.lt) hk h0
 go_enter Tryz.func44, Tryz.ntmps44
 go_wp2_with (first
  | (go_at_call 52; refine (hK _).mono ?_; rintro e w' ⟨rfl, rfl⟩)
  | (go_at_call 51; refine hS.mono ?_; rintro e w2 ⟨s, rfl, h1, h2⟩))
 go_ret
 exact ⟨s, rfl, h1, hb0.trans (h2.mono (by simp))⟩
end Go.Proofs.YthdjhbiigmcecaaGreat.F13
