/- Contracts: slices.Contains at links; the gadget's Strong. -/
import Derived.Test.YtlkflddjpkhndaaGadAll
import Derived.Deep.QuietTactic
import Derived.Deep.RegionHeld3
import Derived.Shelf.SlicesE.Kit
namespace Go.Proofs.Ytlkflddjpkhndaa
open Go.RowKit

def encLnk (l : Lnk) : List Value := (linkA l).toList
instance : Inhabited Lnk := ⟨zeroLnk⟩
theorem eqLnk_at : EqlAt Try.prog 28 (fun x => .agg (encLnk x).toArray) (fun x y => decide (x = y)) := by
  refine ⟨fun x y w => ?_, GuardAt.agg _ (by kernel_rfl)⟩
  have h := eq_link w x y
  simp only [binOp]
  simp [encLnk, show Op.equal 28 (.agg (linkA x)) (.agg (linkA y)) = Op.equalIn 10000 28 (.agg (linkA x)) (.agg (linkA y)) from rfl, h]
set_option maxRecDepth 100000 in
theorem index_nil (x : Lnk) (w : World) : Calls Try.prog 112 #[.slice none 0 0, .agg (linkA x)] w fun e w' => e = .returned (.int .i64 (-1)) ∧ Below w.heap.size w w' := by
  go_enter Try.func112, Try.ntmps112
  go_wp2_with fail
  go_rounds 1
  go_ret
  exact ⟨rfl, by (repeat' (first | (with_reducible exact Below.refl _ _) | (with_reducible assumption) | (with_reducible refine bel_trans (by assumption) ?_ ?_) | (with_reducible refine bel_grown (by assumption) ?_ ?_ ?_) | (with_reducible refine Below.alloc ?_ ?_ _) | (with_reducible refine Below.drew ?_) | (with_reducible refine below_drewN ?_ _) | (with_reducible refine Below.setCell ?_ ?_ _) | (with_reducible refine below_put ?_ ?_ _ _) | (with_reducible exact Nat.le_refl _) | omega | (with_reducible refine Nat.le_trans ?_ (Below.size (by assumption))) | (with_reducible refine Nat.le_trans ?_ (World.grownBy.size (by assumption))) | (simp only [World.size_alloc, World.size_setCell, World.size_drew, size_drewN]; omega) | (simp only [World.size_alloc, World.size_setCell, World.size_drew, size_drewN, size_put]; omega) | (intro k hk; simp [Value.ownBlock] at hk; done) | (intro k hk; simp [Value.ownBlock] at hk; omega) | (simp [size_drewN] at *; omega)))⟩
set_option maxRecDepth 100000 in
theorem contains_c {w : World} {B : Nat} {s : Sl} {ls : List Lnk} (h : OwnC w B 66 s.v ls.length (lnkCells ls)) (hn : ls.length ≤ 100000) (x : Lnk) :
    Calls Try.prog 72 #[s.v, .agg (linkA x)] w fun e w' => e = .returned (.bool (decide (x ∈ ls))) ∧ Below w.heap.size w w' := by
  obtain ⟨sa, sn, sc⟩ := s
  rcases h.2 with ⟨e, h0⟩ | ⟨g, cap, e, h1, h2, h3, h4, h5, h6, h7⟩
  · cases e
    have hls : ls = [] := List.eq_nil_of_length_eq_zero h0
    subst hls
    have HI := fun W => index_nil x W
    clear h
    show Calls Try.prog 72 #[.slice none 0 0, .agg (linkA x)] w _
    go_enter Try.func72, Try.ntmps72
    go_wp2_with (go_at_call 112; refine (HI _).mono ?_; rintro e w1 ⟨rfl, hb⟩)
    go_ret
    exact ⟨ret_bool (by simp), by (repeat' (first | (with_reducible exact Below.refl _ _) | (with_reducible assumption) | (with_reducible refine bel_trans (by assumption) ?_ ?_) | (with_reducible refine bel_grown (by assumption) ?_ ?_ ?_) | (with_reducible refine Below.alloc ?_ ?_ _) | (with_reducible refine Below.drew ?_) | (with_reducible refine below_drewN ?_ _) | (with_reducible refine Below.setCell ?_ ?_ _) | (with_reducible refine below_put ?_ ?_ _ _) | (with_reducible exact Nat.le_refl _) | omega | (with_reducible refine Nat.le_trans ?_ (Below.size (by assumption))) | (with_reducible refine Nat.le_trans ?_ (World.grownBy.size (by assumption))) | (simp only [World.size_alloc, World.size_setCell, World.size_drew, size_drewN]; omega) | (simp only [World.size_alloc, World.size_setCell, World.size_drew, size_drewN, size_put]; omega) | (intro k hk; simp [Value.ownBlock] at hk; done) | (intro k hk; simp [Value.ownBlock] at hk; omega) | (simp [size_drewN] at *; omega)))⟩
  · cases e
    have hc := Try.slices_Contains 66 Try.isAgg28 Try.sizeOf28 encLnk (fun x => by simp [encLnk]) (fun x y => decide (x = y)) eqLnk_at g 0 ls.length sc ls x w (Nat.le_refl _) (by omega) (fun j hj i v hv => by
      rw [Nat.zero_add]
      refine h7 _ _ ?_
      have hi : i < 66 := by
        have := (List.getElem?_eq_some_iff.1 hv).1
        simpa [encLnk] using this
      rw [lnkCells_get ls j i hj hi]
      rw [getElem!_pos ls j hj] at hv
      simpa [encLnk] using hv)
    rw [List.take_length] at hc
    have hany : (ls.any fun y => decide (x = y)) = decide (x ∈ ls) := by
      rw [Bool.eq_iff_iff]
      simp
    rw [hany] at hc
    simpa [encLnk] using hc
def goodL (x : Lnk) : Bool := mayPt x.source && mayPt x.target && decide (x.source.epoch.toNat < x.target.epoch.toNat)
def strongE (ls : List Lnk) (x : Lnk) : Int := if goodL x = true then (if x ∈ ls then 11 else 0) else 2
def addL (ls : List Lnk) (x : Lnk) : List Lnk := if goodL x = true ∧ x ∉ ls then ls ++ [x] else ls

theorem setCell_block (w : World) (r : Nat) (v : Value) (cs : Array Value) (t : TypeId) (fr : Nat × Nat) (h : w.heap[r]? = some (.cells cs t fr)) : (w.setCell ⟨r, 0, none⟩ v).heap[r]? = some (.cells (cs.setIfInBounds 0 v) t fr) := by
  rw [Go.Sort.setCell_eq]
  simp [Go.Sort.mapBlock, Array.getElem?_modify, h, Go.Sort.onCells]
theorem Gad.setS {w w' : World} {B r b1 b2 : Nat} {s s' : Sl} {ls ls' : List Lnk} {js fs : List Pt} (h : Gad w B r b1 b2 s ls js fs) (hg : w.grownBy w' s.v.ownBlock) (ho : OwnC w' B 66 s'.v ls'.length (lnkCells ls')) (hb : s'.v.ownBlock = s.v.ownBlock ∨ s'.v.ownBlock = some w.heap.size) :
    Gad (w'.setCell ⟨r, 0, none⟩ s'.v) B r b1 b2 s' ls' js fs := by
  have hlt := h.lt
  have hne : ∀ k, (k = r ∨ k = b1 ∨ k = b2) → some k ≠ s.v.ownBlock := fun k hk e => by
    have := h.hs k e.symm
    omega
  have hr' : ∀ g, s'.v.ownBlock = some g → g ≠ r ∧ g ≠ b1 ∧ g ≠ b2 := fun g hg' => by
    rcases hb with hb | hb
    · exact h.hs g (by rw [← hb]; exact hg')
    · rw [hb] at hg'
      cases hg'
      omega
  have hgs : w'.grownBy (w'.setCell ⟨r, 0, none⟩ s'.v) (some r) := ⟨rfl, rfl, rfl, by simp, fun k hk hne => heap_setCell_other w' ⟨r, 0, none⟩ k _ (fun e => hne (by rw [e]))⟩
  refine ⟨?_, ho.keepG hgs ?_, ?_, ?_, h.ne, h.n1, h.n2, hr', h.br, h.bb1, h.bb2⟩
  · exact setCell_block w' r _ _ _ _ ((hg.block r hlt.1 (hne r (.inl rfl))).trans h.row)
  · cases e : s'.v.ownBlock with
    | none => exact .inl rfl
    | some g => exact .inr (by have := (hr' g e).1; simpa using this)
  · exact h.j.of_block ((heap_setCell_other w' ⟨r, 0, none⟩ b1 _ (Ne.symm h.n1)).trans (hg.block b1 hlt.2.1 (hne b1 (.inr (.inl rfl)))))
  · exact h.f.of_block ((heap_setCell_other w' ⟨r, 0, none⟩ b2 _ (Ne.symm h.n2)).trans (hg.block b2 hlt.2.2.1 (hne b2 (.inr (.inr rfl)))))
/-- append at links, by a name that the walk does not open -/
def appLnk (args : Array Value) : Sem Value := Builtin.append_ #[57, 57] 57 args
theorem fold_append (args : Array Value) : Builtin.append_ #[57, 57] 57 args = appLnk args := rfl
attribute [local go_sem ↓] fold_append
/-- what a call of Strong has in common, whatever comes of it: the box of the link -/
theorem boxed_link (w : World) (x : Lnk) (t : TypeId) : row? (w.alloc (.cells (linkA x) t)) w.heap.size 0 66 = some (linkA x) := by rw [row?_new]; simp

set_option maxRecDepth 100000 in
set_option maxHeartbeats 1600000 in
theorem strong_bad {w : World} {B r b1 b2 : Nat} {s : Sl} {ls : List Lnk} {js fs : List Pt} (h : Gad w B r b1 b2 s ls js fs) (x : Lnk) (hx : goodL x = false) :
    Calls Try.prog 23 #[.pointer (some ⟨r, 0, none⟩), .agg (linkA x)] w fun e w' => e = .returned (.int .i64 2) ∧ Below w.heap.size w w' := by
  obtain ⟨_, c1, _, _⟩ := h.cells
  have hlt := h.lt.1
  have hm : r ≠ w.heap.size := by omega
  have hW := boxed_link w x 28
  have HC := there_c (w := w.alloc (.cells (linkA x) 28)) (r := r) (b := b1) (by rw [(kept (bel_a w _)).1 _ _ hlt]; exact c1)
  have HM := fun p W => mayPoint_c p W
  have hs0 := row?_sub hW 0 33 (by omega)
  have ht0 := row?_sub hW 33 33 (by omega)
  rw [linkA_source] at hs0
  rw [linkA_target] at ht0
  simp only [Nat.zero_add] at hs0 ht0
  have HG := Lib.hid (h.keep (bel_a w (.cells (linkA x) 28)))
  clear h c1
  go_enter Try.func23, Try.ntmps23
  go_wp2_with fail
  refine HC.mono ?_
  rintro e w' ⟨rfl, hw⟩
  subst hw
  clear HC
  go_wp2_with fail
  refine (HM _ _).mono ?_
  rintro e w1 ⟨rfl, hb1⟩
  have k1 := kept hb1
  simp only [World.size_alloc] at k1
  obtain ⟨k1, k2, k3⟩ := k1
  have hs1 : row? w1 w.heap.size 0 33 = some (pointA x.source) := (k3 _ _ _ (by omega)).trans hs0
  have ht1 : row? w1 w.heap.size 33 33 = some (pointA x.target) := (k3 _ _ _ (by omega)).trans ht0
  have hw1 : row? w1 w.heap.size 0 66 = some (linkA x) := (k3 _ _ _ (by omega)).trans hW
  have HG1 := Lib.hid (HG.out.keep hb1)
  have hB1 : Below w.heap.size w w1 := (bel_a w _).trans (hb1.mono (by simp))
  have hz1 : w.heap.size < w1.heap.size := by have := hb1.size; simp at this; omega
  clear k1 k2 k3 hs0 ht0 hW hb1 HG
  unfold goodL at hx
  cases e1 : mayPt x.source
  · go_wp2_with fail
    go_ret
    exact ⟨rfl, hB1⟩
  rw [e1, Bool.true_and] at hx
  go_wp2_with fail
  refine (HM _ _).mono ?_
  rintro e w2 ⟨rfl, hb2⟩
  obtain ⟨k1, k2, k3⟩ := kept hb2
  have hs2 : row? w2 w.heap.size 0 33 = some (pointA x.source) := (k3 _ _ _ (by omega)).trans hs1
  have ht2 : row? w2 w.heap.size 33 33 = some (pointA x.target) := (k3 _ _ _ (by omega)).trans ht1
  have hw2 : row? w2 w.heap.size 0 66 = some (linkA x) := (k3 _ _ _ (by omega)).trans hw1
  have HG2 := Lib.hid (HG1.out.keep hb2)
  have hB2 : Below w.heap.size w w2 := hB1.trans (hb2.mono (by omega))
  have hz2 : w.heap.size < w2.heap.size := by have := hb2.size; omega
  have hXe0 : w2.cell? ⟨w.heap.size, 0, none⟩ = some (.int .u64 (x.source.epoch.toNat : Int)) := (cell_of_row? hs2 0 (by omega)).trans (pointA_epoch _)
  have hXe1 : w2.cell? ⟨w.heap.size, 33, none⟩ = some (.int .u64 (x.target.epoch.toNat : Int)) := (cell_of_row? ht2 0 (by omega)).trans (pointA_epoch _)
  clear k1 k2 k3 hs1 ht1 hw1 hb2 HG1 hB1 HM
  cases e2 : mayPt x.target
  · go_wp2_with fail
    go_ret
    exact ⟨rfl, hB2⟩
  rw [e2, Bool.true_and, decide_eq_false_iff_not] at hx
  have hle : (x.target.epoch.toNat : Int) ≤ (x.source.epoch.toNat : Int) := by omega
  go_wp2_with fail
  go_ret
  exact ⟨rfl, hB2⟩
set_option maxRecDepth 100000 in
set_option maxHeartbeats 1600000 in
theorem strong_dup {w : World} {B r b1 b2 : Nat} {s : Sl} {ls : List Lnk} {js fs : List Pt} (h : Gad w B r b1 b2 s ls js fs) (hn : ls.length ≤ 100000) (x : Lnk) (hx : goodL x = true) (hd : x ∈ ls) :
    Calls Try.prog 23 #[.pointer (some ⟨r, 0, none⟩), .agg (linkA x)] w fun e w' => e = .returned (.int .i64 11) ∧ Below w.heap.size w w' := by
  obtain ⟨_, c1, _, _⟩ := h.cells
  have hlt := h.lt.1
  have hm : r ≠ w.heap.size := by omega
  have hW := boxed_link w x 28
  have HC := there_c (w := w.alloc (.cells (linkA x) 28)) (r := r) (b := b1) (by rw [(kept (bel_a w _)).1 _ _ hlt]; exact c1)
  have HM := fun p W => mayPoint_c p W
  have hs0 := row?_sub hW 0 33 (by omega)
  have ht0 := row?_sub hW 33 33 (by omega)
  rw [linkA_source] at hs0
  rw [linkA_target] at ht0
  simp only [Nat.zero_add] at hs0 ht0
  have HG := Lib.hid (h.keep (bel_a w (.cells (linkA x) 28)))
  clear h c1
  go_enter Try.func23, Try.ntmps23
  go_wp2_with fail
  refine HC.mono ?_
  rintro e w' ⟨rfl, hw⟩
  subst hw
  clear HC
  go_wp2_with fail
  refine (HM _ _).mono ?_
  rintro e w1 ⟨rfl, hb1⟩
  have k1 := kept hb1
  simp only [World.size_alloc] at k1
  obtain ⟨k1, k2, k3⟩ := k1
  have hs1 : row? w1 w.heap.size 0 33 = some (pointA x.source) := (k3 _ _ _ (by omega)).trans hs0
  have ht1 : row? w1 w.heap.size 33 33 = some (pointA x.target) := (k3 _ _ _ (by omega)).trans ht0
  have hw1 : row? w1 w.heap.size 0 66 = some (linkA x) := (k3 _ _ _ (by omega)).trans hW
  have HG1 := Lib.hid (HG.out.keep hb1)
  have hB1 : Below w.heap.size w w1 := (bel_a w _).trans (hb1.mono (by simp))
  have hz1 : w.heap.size < w1.heap.size := by have := hb1.size; simp at this; omega
  clear k1 k2 k3 hs0 ht0 hW hb1 HG
  unfold goodL at hx
  simp only [Bool.and_eq_true, decide_eq_true_eq] at hx
  obtain ⟨⟨e1, e2⟩, e3⟩ := hx
  rw [e1]
  go_wp2_with fail
  refine (HM _ _).mono ?_
  rintro e w2 ⟨rfl, hb2⟩
  obtain ⟨k1, k2, k3⟩ := kept hb2
  have hs2 : row? w2 w.heap.size 0 33 = some (pointA x.source) := (k3 _ _ _ (by omega)).trans hs1
  have ht2 : row? w2 w.heap.size 33 33 = some (pointA x.target) := (k3 _ _ _ (by omega)).trans ht1
  have hw2 : row? w2 w.heap.size 0 66 = some (linkA x) := (k3 _ _ _ (by omega)).trans hw1
  have HG2 := Lib.hid (HG1.out.keep hb2)
  have hB2 : Below w.heap.size w w2 := hB1.trans (hb2.mono (by omega))
  have hz2 : w.heap.size < w2.heap.size := by have := hb2.size; omega
  have hXe0 : w2.cell? ⟨w.heap.size, 0, none⟩ = some (.int .u64 (x.source.epoch.toNat : Int)) := (cell_of_row? hs2 0 (by omega)).trans (pointA_epoch _)
  have hXe1 : w2.cell? ⟨w.heap.size, 33, none⟩ = some (.int .u64 (x.target.epoch.toNat : Int)) := (cell_of_row? ht2 0 (by omega)).trans (pointA_epoch _)
  clear k1 k2 k3 hs1 ht1 hw1 hb2 HG1 hB1 HM
  rw [e2]
  have hle : ¬ (x.target.epoch.toNat : Int) ≤ (x.source.epoch.toNat : Int) := by omega
  have HGd : Gad w2.drew B r b1 b2 s ls js fs := HG2.out.drewN 1
  have HS := contains_c HGd.own hn x
  rw [decide_eq_true hd] at HS
  obtain ⟨g0, _, _, _⟩ := HG2.out.cells
  go_wp2_with fail
  have hS0 : w2.drew.cell? ⟨r, 0, none⟩ = some s.v ∧ row? w2.drew w.heap.size 0 66 = some (linkA x) := ⟨g0, hw2⟩
  go_region_held3 (fun W => W.cell? ⟨r, 0, none⟩ = some s.v ∧ row? W w.heap.size 0 66 = some (linkA x))
    (first | go_keep | (with_reducible exact hS0) | (with_reducible exact ⟨d0, hw3⟩))
    (first
      | (go_simp; go_at_call 72; (with_reducible refine HS.mono ?_); rintro e w3 ⟨rfl, hb3⟩; have HG3 := HGd.keep hb3; obtain ⟨d0, d1, d2, _⟩ := HG3.cells; have hw3 : row? w3 w.heap.size 0 66 = some (linkA x) := ((kept hb3).2.2 _ _ _ hz2).trans hw2))
  go_wp2_with fail
  go_ret
  have q3 : Below w2.heap.size w2 w3 := undrew hb3
  exact ⟨rfl, hB2.trans (q3.mono (by omega))⟩
set_option maxRecDepth 100000 in
set_option maxHeartbeats 1600000 in
theorem strong_new (a : Pt) {w : World} {B r b1 b2 : Nat} {s : Sl} {ls : List Lnk} {js fs : List Pt} (h : Gad w B r b1 b2 s ls js fs) (hk : Knows a ls js fs) (hn : ls.length < 1000) (x : Lnk) (hx : goodL x = true) (hd : x ∉ ls) :
    Calls Try.prog 23 #[.pointer (some ⟨r, 0, none⟩), .agg (linkA x)] w fun e w' => e = .returned (.int .i64 0) ∧ ∃ s' js' fs', Gad w' B r b1 b2 s' (ls ++ [x]) js' fs' ∧ Knows a (ls ++ [x]) js' fs' ∧ Fr ([r, b1, b2] ++ s.v.ownBlock.toList) w w' ∧ (s'.v.ownBlock = s.v.ownBlock ∨ ∃ g, s'.v.ownBlock = some g ∧ w.heap.size ≤ g) := by
  obtain ⟨_, c1, _, _⟩ := h.cells
  have hlt := h.lt.1
  have hm : r ≠ w.heap.size := by omega
  have hW := boxed_link w x 28
  have HC := there_c (w := w.alloc (.cells (linkA x) 28)) (r := r) (b := b1) (by rw [(kept (bel_a w _)).1 _ _ hlt]; exact c1)
  have HM := fun p W => mayPoint_c p W
  have hs0 := row?_sub hW 0 33 (by omega)
  have ht0 := row?_sub hW 33 33 (by omega)
  rw [linkA_source] at hs0
  rw [linkA_target] at ht0
  simp only [Nat.zero_add] at hs0 ht0
  have HG := Lib.hid (h.keep (bel_a w (.cells (linkA x) 28)))
  clear h c1
  go_enter Try.func23, Try.ntmps23
  go_wp2_with fail
  refine HC.mono ?_
  rintro e w' ⟨rfl, hw⟩
  subst hw
  clear HC
  go_wp2_with fail
  refine (HM _ _).mono ?_
  rintro e w1 ⟨rfl, hb1⟩
  have k1 := kept hb1
  simp only [World.size_alloc] at k1
  obtain ⟨k1, k2, k3⟩ := k1
  have hs1 : row? w1 w.heap.size 0 33 = some (pointA x.source) := (k3 _ _ _ (by omega)).trans hs0
  have ht1 : row? w1 w.heap.size 33 33 = some (pointA x.target) := (k3 _ _ _ (by omega)).trans ht0
  have hw1 : row? w1 w.heap.size 0 66 = some (linkA x) := (k3 _ _ _ (by omega)).trans hW
  have HG1 := Lib.hid (HG.out.keep hb1)
  have hB1 : Below w.heap.size w w1 := (bel_a w _).trans (hb1.mono (by simp))
  have hz1 : w.heap.size < w1.heap.size := by have := hb1.size; simp at this; omega
  clear k1 k2 k3 hs0 ht0 hW hb1 HG
  unfold goodL at hx
  simp only [Bool.and_eq_true, decide_eq_true_eq] at hx
  obtain ⟨⟨e1, e2⟩, e3⟩ := hx
  rw [e1]
  go_wp2_with fail
  refine (HM _ _).mono ?_
  rintro e w2 ⟨rfl, hb2⟩
  obtain ⟨k1, k2, k3⟩ := kept hb2
  have hs2 : row? w2 w.heap.size 0 33 = some (pointA x.source) := (k3 _ _ _ (by omega)).trans hs1
  have ht2 : row? w2 w.heap.size 33 33 = some (pointA x.target) := (k3 _ _ _ (by omega)).trans ht1
  have hw2 : row? w2 w.heap.size 0 66 = some (linkA x) := (k3 _ _ _ (by omega)).trans hw1
  have HG2 := Lib.hid (HG1.out.keep hb2)
  have hB2 : Below w.heap.size w w2 := hB1.trans (hb2.mono (by omega))
  have hz2 : w.heap.size < w2.heap.size := by have := hb2.size; omega
  have hXe0 : w2.cell? ⟨w.heap.size, 0, none⟩ = some (.int .u64 (x.source.epoch.toNat : Int)) := (cell_of_row? hs2 0 (by omega)).trans (pointA_epoch _)
  have hXe1 : w2.cell? ⟨w.heap.size, 33, none⟩ = some (.int .u64 (x.target.epoch.toNat : Int)) := (cell_of_row? ht2 0 (by omega)).trans (pointA_epoch _)
  clear k1 k2 k3 hs1 ht1 hw1 hb2 HG1 hB1 HM
  rw [e2]
  have hle : ¬ (x.target.epoch.toNat : Int) ≤ (x.source.epoch.toNat : Int) := by omega
  have HGd : Gad w2.drew B r b1 b2 s ls js fs := HG2.out.drewN 1
  have HS := contains_c HGd.own (by omega) x
  rw [decide_eq_false hd] at HS
  obtain ⟨g0, _, _, _⟩ := HG2.out.cells
  go_wp2_with fail
  have hS0 : w2.drew.cell? ⟨r, 0, none⟩ = some s.v ∧ row? w2.drew w.heap.size 0 66 = some (linkA x) := ⟨g0, hw2⟩
  go_region_held3 (fun W => W.cell? ⟨r, 0, none⟩ = some s.v ∧ row? W w.heap.size 0 66 = some (linkA x))
    (first | go_keep | (with_reducible exact hS0) | (with_reducible exact ⟨d0, hw3⟩))
    (first
      | (go_simp; go_at_call 72; (with_reducible refine HS.mono ?_); rintro e w3 ⟨rfl, hb3⟩; have HG3 := HGd.keep hb3; obtain ⟨d0, d1, d2, dfr⟩ := HG3.cells; have hw3 : row? w3 w.heap.size 0 66 = some (linkA x) := ((kept hb3).2.2 _ _ _ hz2).trans hw2))
  rename_i hHeld
  clear hHeld
  have q3 : Below w2.heap.size w2 w3 := undrew hb3
  have hB3 : Below w.heap.size w w3 := hB2.trans (q3.mono (by omega))
  have hz3 : w.heap.size < w3.heap.size := by have := q3.size; omega
  replace HG3 := Lib.hid HG3
  replace hB3 := Lib.hid hB3
  clear HS hb3 q3 hB2 hz2 hs2 ht2 hw2 hXe0 hXe1 g0 HG2 HGd hS0 hle
  go_wp2_with fail
  -- append
  obtain ⟨i0, hi, hy0, hy1, hy2⟩ := info_parts info_lnk
  obtain ⟨W1, hW1⟩ : ∃ W1, W1 = (w3.drew).alloc (.cells (linkA x) 28) := ⟨_, rfl⟩
  have HGW : Gad W1 B r b1 b2 s ls js fs := by
    rw [hW1]
    exact (HG3.out.drewN 1).keep (bel_a _ _)
  have hsrc : Src Try.prog 66 57 (.slice (some ⟨w3.heap.size, 0, none⟩) 1 1) 1 (lnkCells [x]) W1 := by
    refine Src.ofSlice W1 Try.underlying57 ⟨w3.heap.size, 0, none⟩ 1 1 (lnkCells [x]) (by rw [lnkCells_length]; rfl) (fun j u hu => ?_) (lnkCells_onecell _)
    have hadd : (⟨w3.heap.size, 0, none⟩ : Addr).add j = ⟨w3.heap.size, j, none⟩ := by unfold Addr.add; split <;> simp_all
    rw [lnkCells_one] at hu
    rw [hadd, hW1, cell_alloc, if_pos (by simp)]
    simpa using hu
  have hBW : B ≤ W1.heap.size := Nat.le_of_lt (Nat.lt_of_le_of_lt HGW.br HGW.lt.1)
  obtain ⟨v', W2, hrun, hown, hgr, hblk⟩ := run_append_ownC (P := Try.prog) W1 B 57 57 57 28 i0 _ 66 80 Try.underlying57 hi hy0 hy1 hy2 (by simp [Value.cells]) s.v ls.length (lnkCells ls) HGW.own (.slice (some ⟨w3.heap.size, 0, none⟩) 1 1) 1 (lnkCells [x]) hsrc (by simp only [maxLen]; omega) (by omega) hBW
  obtain ⟨s', rfl⟩ := hown.slice
  rw [← lnkCells_append] at hown
  have hown' : OwnC W2 B 66 s'.v (ls ++ [x]).length (lnkCells (ls ++ [x])) := by simpa using hown
  have HG4 := HGW.setS hgr hown' hblk
  have hrne : some r ≠ s.v.ownBlock := fun e => (HGW.hs r e.symm).1 rfl
  have hrc : W2.cell? ⟨r, 0, none⟩ = some s.v := (World.cell?_of_block (hgr.block r HGW.lt.1 hrne)).trans HGW.cells.1
  have hrf : W2.frozen? ⟨r, 0, none⟩ = false := (World.frozen?_of_block (hgr.block r HGW.lt.1 hrne)).trans HGW.cells.2.2.2
  have hrun0 : (Builtin.append_ #[57, 57] 57 #[s.v, .slice (some ⟨w3.heap.size, 0, none⟩) 1 1]).run Try.prog (w3.alloc (.cells (linkA x) 28)).drew = .ok s'.v W2 := by
    have e : (w3.alloc (.cells (linkA x) 28)).drew = W1 := hW1.symm
    rw [e]
    exact hrun
  rw [hW1] at hrun
  have hr3 : r < w3.heap.size := by omega
  have hr4 : r ≠ w3.heap.size := by omega
  have HG4 := Lib.hid HG4
  have HGW := Lib.hid HGW
  have hgr := Lib.hid hgr
  have hblk := Lib.hid hblk
  have HW1 := Lib.hid hW1
  clear hsrc hown hown' hBW hW1
  obtain ⟨sv, hsv⟩ : ∃ sv, s.v = sv := ⟨_, rfl⟩
  rw [hsv] at d0 hrun hrun0 hrc
  obtain ⟨sa', sn', sc'⟩ := s'
  rw [fold_append] at hrun hrun0
  replace hrun := hrun.trans (rfl : _ = Result.ok (Value.slice sa' sn' sc') W2)
  replace hrun0 := hrun0.trans (rfl : _ = Result.ok (Value.slice sa' sn' sc') W2)
  replace hsv := Lib.hid hsv
  go_region
  have hsub : ∀ l ∈ ls, l ∈ ls ++ [x] := fun l hl => List.mem_append_left _ hl
  have HF := follow_c a (w0 := W2.setCell ⟨r, 0, none⟩ (.slice sa' sn' sc')) (js0 := js) (fs0 := fs) ⟨HG4.out, Fr.refl _ _, fun p hp => ((hk.j p).1 hp).mono hsub, fun p hp => ((hk.f p).1 hp).mono hsub, (hk.j a).2 .anchor, (hk.f a).2 (.inl rfl), fun _ h => h, fun p hp => .inl hp⟩ (by simp; omega)
  have hHG := HGW.out.lt
  clear hrun hrun0 hrc hrf
  go_wp2_with (go_at_call 73; refine HF.mono ?_; rintro e w' ⟨rfl, js', fs', hg', hk', hfr⟩)
  go_ret
  refine ⟨rfl, _, js', fs', hg', hk', ?_, ?_⟩
  · have f1 : Fr ([r, b1, b2] ++ s.v.ownBlock.toList) w w3 := (Fr.of_below hB3.out)
    have f2 : Fr ([r, b1, b2] ++ s.v.ownBlock.toList) w3 W1 := by
      rw [HW1.out]
      exact Fr.of_below (((Below.refl _ _).drew).alloc (Nat.le_refl _) _)
    have f3 : Fr ([r, b1, b2] ++ s.v.ownBlock.toList) W1 W2 := by
      have hh := hgr.out
      refine ⟨hh.os, hh.tape, hh.output, hh.size, fun k hk hs => hh.block k hk (fun e => hs ?_)⟩
      rw [← e]
      simp
    have f4 : Fr ([r, b1, b2] ++ s.v.ownBlock.toList) W2 (W2.setCell ⟨r, 0, none⟩ (.slice sa' sn' sc')) :=
      ⟨rfl, rfl, rfl, by simp, fun k _ hs => heap_setCell_other W2 ⟨r, 0, none⟩ k _ (fun e => hs (by rw [e]; simp))⟩
    exact (((f1.trans f2).trans f3).trans f4).trans (hfr.mono fun k hk => .inl (by rcases (by simpa using hk : k = b1 ∨ k = b2) with rfl | rfl <;> simp))
  · rcases hblk.out with h | h
    · exact .inl h
    · refine .inr ⟨_, h, ?_⟩
      rw [HW1.out]
      simp
      omega
end Go.Proofs.Ytlkflddjpkhndaa