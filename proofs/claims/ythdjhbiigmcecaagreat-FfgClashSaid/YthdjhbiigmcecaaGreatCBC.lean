/- Texts of this proof, one behind the other: ZfGadAll, ZfGadCopy, ZfGadS, ZfRef13, ZfRef13s, ZfRef13j, ZfRef13f, ZfGadX. -/
import Derived.Test.YthdjhbiigmcecaaGreatCBA
import Derived.Test.YthdjhbiigmcecaaGreatCBB
import Derived.Shelf.SlMaps.Clone
import Derived.Deep.QuietTactic
import Derived.Deep.RegionHeld3
import Derived.Shelf.SlicesE.Kit
import Derived.Lib.BufferRead
set_option linter.unusedVariables false
set_option linter.unusedSimpArgs false
/- Contracts: AllJustified, AllFinal, last, Best, Highest. -/
namespace Go.Proofs.YthdjhbiigmcecaaGreat.F13
open Go.RowKit

theorem allJ_c {w : World} {B r b1 b2 : Nat} {s : Sl} {ls : List Lnk} {js fs : List Pt} (h : Gad w B r b1 b2 s ls js fs) (hk : js.length ≤ 100000) (h0 : js ≠ []) :
  Calls Tryz.prog 32 #[.pointer (some ⟨r, 0, none⟩)] w fun e w' => ∃ s, e = .returned s.v ∧ PtsR w' s (srtPt js) ∧ Below w.heap.size w w' := by
 obtain ⟨_, c1, _⟩ := h.cells
 have HC := there_c c1
 have HS := fsorted_c b1 js w h.j hk h0
 clear h
 go_enter Tryz.func32, Tryz.ntmps32
 go_wp2_with (first
  | (go_at_call 27; refine HC.mono ?_; rintro e w' ⟨rfl, rfl⟩)
  | (go_at_call 44; refine HS.mono ?_; rintro e w2 ⟨s, rfl, h1, h2⟩))
 go_ret
 exact ⟨s, rfl, h1, h2⟩
theorem allF_c {w : World} {B r b1 b2 : Nat} {s : Sl} {ls : List Lnk} {js fs : List Pt} (h : Gad w B r b1 b2 s ls js fs) (hk : fs.length ≤ 100000) (h0 : fs ≠ []) :
  Calls Tryz.prog 31 #[.pointer (some ⟨r, 0, none⟩)] w fun e w' => ∃ s, e = .returned s.v ∧ PtsR w' s (srtPt fs) ∧ Below w.heap.size w w' := by
 obtain ⟨_, c1, c2, _⟩ := h.cells
 have HC := there_c c1
 have HS := fsorted_c b2 fs w h.f hk h0
 clear h
 go_enter Tryz.func31, Tryz.ntmps31
 go_wp2_with (first
  | (go_at_call 27; refine HC.mono ?_; rintro e w' ⟨rfl, rfl⟩)
  | (go_at_call 44; refine HS.mono ?_; rintro e w2 ⟨s, rfl, h1, h2⟩))
 go_ret
 exact ⟨s, rfl, h1, h2⟩
theorem last_res : Tryz.f30.results = #[.cell 2 26] := by kernel_rfl
set_option maxRecDepth 100000 in
set_option maxHeartbeats 800000 in
theorem last_c {w : World} {s : Sl} {l : List Pt} (h : PtsR w s l) (h0 : l ≠ []) (hn : l.length ≤ 1000000) :
  Calls Tryz.prog 30 #[s.v] w fun e w' => e = .returned (.agg (pointA (l.getLast h0))) ∧ Below w.heap.size w w' := by
 have hl : 0 < l.length := List.length_pos_iff.2 h0
 obtain ⟨b, off, e, hb, hr⟩ := h.at hl
 obtain ⟨cs, hr2, rfl⟩ := hr (l.length - 1) (by omega)
 rw [← List.getLast_eq_getElem h0] at hr2
 clear hr
 generalize l.getLast h0 = p at *
 obtain ⟨sa, sn, sc⟩ := s
 simp only [Sl.mk.injEq] at e
 obtain ⟨rfl, rfl, _⟩ := e
 have hnz : ((l.length : Int) == 0) = false := by simp; omega
 have i0 : (0 : Int) ≤ (l.length : Int) - 1 := by omega
 have i1 : (l.length : Int) - 1 < (l.length : Int) := by omega
 have i2 : ((l.length : Int) - 1).toNat = l.length - 1 := by omega
 have w1 : (-9223372036854775808 : Int) ≤ (l.length : Int) - 1 := by omega
 have hm : b ≠ w.heap.size := by omega
 clear h
 generalize l.length = n at *
 show Calls Tryz.prog 30 #[.slice (some ⟨b, off, none⟩) n sc] w _
 go_enter Tryz.func30, Tryz.ntmps30
 go_wp2_with (with_reducible refine ret_row Tryz.isAgg26 Tryz.sizeOf26 last_res (x := .pointer (some ⟨w.heap.size, 0, none⟩)) (w.heap.size) 0 ?rrhx (Eq.refl _) ?rrh ?rrhd ?rrhR; (case rrhx => simp only [Array.getD_eq_getD_getElem?, List.getElem?_toArray, List.getElem?_cons_succ, List.getElem?_cons_zero, Option.getD_some]); (case rrhd => exact rfl); (case rrh => go_simp); (case rrhR => (exact ⟨(by go_simp), (by (repeat' (first | (with_reducible first | exact Below.refl _ _ | assumption | refine bel_trans (by assumption) ?_ ?_ | refine bel_grown (by assumption) ?_ ?_ ?_ | refine Below.alloc ?_ ?_ _ | refine Below.drew ?_ | refine below_drewN ?_ _ | refine Below.setCell ?_ ?_ _ | refine below_put ?_ ?_ _ _ | exact Nat.le_refl _) | omega | (with_reducible first | refine Nat.le_trans ?_ (Below.size (by assumption)) | refine Nat.le_trans ?_ (World.grownBy.size (by assumption))) | (simp only [World.size_alloc, World.size_setCell, World.size_drew, size_drewN]; omega) | (simp only [World.size_alloc, World.size_setCell, World.size_drew, size_drewN, size_put]; omega) | (intro k hk; simp [Value.ownBlock] at hk; first | done | omega) | (simp [size_drewN] at *; omega))))⟩)))
theorem srt_ne {l : List Pt} (h : l ≠ []) : srtPt l ≠ [] := fun e => h (List.eq_nil_of_length_eq_zero (by rw [← srt_length, e]; rfl))
theorem best_res : Tryz.f16.results = #[.cell 2 26] := by kernel_rfl
theorem highest_res : Tryz.f17.results = #[.cell 2 26] := by kernel_rfl
theorem bel_out {w X Y : World} (h : Below X.heap.size X Y) (hw : Below w.heap.size w X) : Below w.heap.size w Y := hw.trans (h.mono hw.size)
set_option maxRecDepth 100000 in
set_option maxHeartbeats 800000 in
theorem best_c {w : World} {B r b1 b2 : Nat} {s : Sl} {ls : List Lnk} {js fs : List Pt} (h : Gad w B r b1 b2 s ls js fs) (hk : fs.length ≤ 100000) (h0 : fs ≠ []) :
  Calls Tryz.prog 16 #[.pointer (some ⟨r, 0, none⟩)] w fun e w' => e = .returned (.agg (pointA ((srtPt fs).getLast (srt_ne h0)))) ∧ Below w.heap.size w w' := by
 have HA := allF_c (h.keep (bel_a w (.cells (pointA zeroPt) 26))) hk h0
 have HL := fun (W : World) (s : Sl) (hp : PtsR W s (srtPt fs)) => last_c hp (srt_ne h0) (by rw [srt_length]; omega)
 generalize (srtPt fs).getLast (srt_ne h0) = p at *
 clear h
 go_enter Tryz.func16, Tryz.ntmps16
 go_wp2_with (go_at_call 31; refine HA.mono ?_; rintro e w1 ⟨s1, rfl, h1, hb1⟩)
 refine (HL _ _ h1).mono ?_
 rintro e w2 ⟨rfl, hb2⟩
 have hz1 := hb1.size
 have hz2 := hb2.size
 simp only [World.size_alloc] at hz1
 have hrw : row? w2 w.heap.size 0 33 = some (pointA zeroPt) := by
  rw [(kept hb2).2.2 _ _ _ (by omega), (kept hb1).2.2 _ _ _ (by simp), row?_new]
  simp
 have hth : there w2 w.heap.size 0 33 := there_below hb2 (by omega) (there_below hb1 (by simp) (there_new _ _ _ _ _ (by simp)))
 have hfr : w2.frozen? ⟨w.heap.size, 0, none⟩ = false := by
  rw [(kept hb2).2.1 _ _ (by omega), (kept hb1).2.1 _ _ (by simp)]
  simp
 have hB : Below w.heap.size w w2 := bel_out hb2 ((bel_a w _).trans (hb1.mono (by simp)))
 clear h1 HA HL hb1 hb2
 go_wp2_with (with_reducible refine ret_row Tryz.isAgg26 Tryz.sizeOf26 best_res (x := .pointer (some ⟨w.heap.size, 0, none⟩)) (w.heap.size) 0 ?rrhx (Eq.refl _) ?rrh ?rrhd ?rrhR; (case rrhx => simp only [Array.getD_eq_getD_getElem?, List.getElem?_toArray, List.getElem?_cons_succ, List.getElem?_cons_zero, Option.getD_some]); (case rrhd => exact rfl); (case rrh => go_simp); (case rrhR => (exact ⟨(by go_simp), (by (repeat' (first | (with_reducible first | exact Below.refl _ _ | assumption | refine bel_trans (by assumption) ?_ ?_ | refine bel_grown (by assumption) ?_ ?_ ?_ | refine Below.alloc ?_ ?_ _ | refine Below.drew ?_ | refine below_drewN ?_ _ | refine Below.setCell ?_ ?_ _ | refine below_put ?_ ?_ _ _ | exact Nat.le_refl _) | omega | (with_reducible first | refine Nat.le_trans ?_ (Below.size (by assumption)) | refine Nat.le_trans ?_ (World.grownBy.size (by assumption))) | (simp only [World.size_alloc, World.size_setCell, World.size_drew, size_drewN]; omega) | (simp only [World.size_alloc, World.size_setCell, World.size_drew, size_drewN, size_put]; omega) | (intro k hk; simp [Value.ownBlock] at hk; first | done | omega) | (simp [size_drewN] at *; omega))))⟩)))
set_option maxRecDepth 100000 in
set_option maxHeartbeats 800000 in
theorem highest_c {w : World} {B r b1 b2 : Nat} {s : Sl} {ls : List Lnk} {js fs : List Pt} (h : Gad w B r b1 b2 s ls js fs) (hk : js.length ≤ 100000) (h0 : js ≠ []) :
  Calls Tryz.prog 17 #[.pointer (some ⟨r, 0, none⟩)] w fun e w' => e = .returned (.agg (pointA ((srtPt js).getLast (srt_ne h0)))) ∧ Below w.heap.size w w' := by
 have HA := allJ_c (h.keep (bel_a w (.cells (pointA zeroPt) 26))) hk h0
 have HL := fun (W : World) (s : Sl) (hp : PtsR W s (srtPt js)) => last_c hp (srt_ne h0) (by rw [srt_length]; omega)
 generalize (srtPt js).getLast (srt_ne h0) = p at *
 clear h
 go_enter Tryz.func17, Tryz.ntmps17
 go_wp2_with (go_at_call 32; refine HA.mono ?_; rintro e w1 ⟨s1, rfl, h1, hb1⟩)
 refine (HL _ _ h1).mono ?_
 rintro e w2 ⟨rfl, hb2⟩
 have hz1 := hb1.size
 have hz2 := hb2.size
 simp only [World.size_alloc] at hz1
 have hrw : row? w2 w.heap.size 0 33 = some (pointA zeroPt) := by
  rw [(kept hb2).2.2 _ _ _ (by omega), (kept hb1).2.2 _ _ _ (by simp), row?_new]
  simp
 have hth : there w2 w.heap.size 0 33 := there_below hb2 (by omega) (there_below hb1 (by simp) (there_new _ _ _ _ _ (by simp)))
 have hfr : w2.frozen? ⟨w.heap.size, 0, none⟩ = false := by
  rw [(kept hb2).2.1 _ _ (by omega), (kept hb1).2.1 _ _ (by simp)]
  simp
 have hB : Below w.heap.size w w2 := bel_out hb2 ((bel_a w _).trans (hb1.mono (by simp)))
 clear h1 HA HL hb1 hb2
 go_wp2_with (with_reducible refine ret_row Tryz.isAgg26 Tryz.sizeOf26 highest_res (x := .pointer (some ⟨w.heap.size, 0, none⟩)) (w.heap.size) 0 ?rrhx (Eq.refl _) ?rrh ?rrhd ?rrhR; (case rrhx => simp only [Array.getD_eq_getD_getElem?, List.getElem?_toArray, List.getElem?_cons_succ, List.getElem?_cons_zero, Option.getD_some]); (case rrhd => exact rfl); (case rrh => go_simp); (case rrhR => (exact ⟨(by go_simp), (by (repeat' (first | (with_reducible first | exact Below.refl _ _ | assumption | refine bel_trans (by assumption) ?_ ?_ | refine bel_grown (by assumption) ?_ ?_ ?_ | refine Below.alloc ?_ ?_ _ | refine Below.drew ?_ | refine below_drewN ?_ _ | refine Below.setCell ?_ ?_ _ | refine below_put ?_ ?_ _ _ | exact Nat.le_refl _) | omega | (with_reducible first | refine Nat.le_trans ?_ (Below.size (by assumption)) | refine Nat.le_trans ?_ (World.grownBy.size (by assumption))) | (simp only [World.size_alloc, World.size_setCell, World.size_drew, size_drewN]; omega) | (simp only [World.size_alloc, World.size_setCell, World.size_drew, size_drewN, size_put]; omega) | (intro k hk; simp [Value.ownBlock] at hk; first | done | omega) | (simp [size_drewN] at *; omega))))⟩)))
theorem info_lnk : (Tryz.prog.info? 60).map (fun i => (i.zero, i.size, i.bytes)) = some (some (.agg (linkA zeroLnk)), 66, 80) := by kernel_rfl
theorem linkA_one (p : Lnk) : ∀ u ∈ (linkA p).toList, u.oneCell' = true := by
 intro u hu
 have := oneLink p
 rw [Array.all_eq_true_iff_forall_mem] at this
 exact this u (by simpa using hu)
theorem lnkCells_onecell (ls : List Lnk) : ∀ u ∈ lnkCells ls, u.oneCell' = true := by
 intro u hu
 simp only [lnkCells, List.mem_flatten, List.mem_map] at hu
 obtain ⟨_, ⟨l, _, rfl⟩, hu⟩ := hu
 exact linkA_one l u hu
end Go.Proofs.YthdjhbiigmcecaaGreat.F13

/- Contracts: maps.Clone at maps of checkpoints; the gadget's Copy. -/
namespace Go.Proofs.YthdjhbiigmcecaaGreat.F13
open Go.RowKit

end Go.Proofs.YthdjhbiigmcecaaGreat.F13

/- Contracts: slices.Contains at links; the gadget's Strong. -/
namespace Go.Proofs.YthdjhbiigmcecaaGreat.F13
open Go.RowKit

def encLnk (l : Lnk) : List Value := (linkA l).toList
instance : Inhabited Lnk := ⟨zeroLnk⟩
theorem eqLnk_at : EqlAt Tryz.prog 60 (fun x => .agg (encLnk x).toArray) (fun x y => decide (x = y)) := by
 refine ⟨fun x y w => ?_, GuardAt.agg _ (by kernel_rfl)⟩
 have h := eq_link w x y
 simp only [binOp]
 simp [encLnk, show Op.equal 60 (.agg (linkA x)) (.agg (linkA y)) = Op.equalIn 10000 60 (.agg (linkA x)) (.agg (linkA y)) from rfl, h]
set_option maxRecDepth 100000 in
theorem index_nil (x : Lnk) (w : World) : Calls Tryz.prog 43 #[.slice none 0 0, .agg (linkA x)] w fun e w' => e = .returned (.int .i64 (-1)) ∧ Below w.heap.size w w' := by
 go_enter Tryz.func43, Tryz.ntmps43
 go_wp2_with fail
 go_rounds 1
 go_ret
 exact ⟨rfl, by (repeat' (first | (with_reducible first | exact Below.refl _ _ | assumption | refine bel_trans (by assumption) ?_ ?_ | refine bel_grown (by assumption) ?_ ?_ ?_ | refine Below.alloc ?_ ?_ _ | refine Below.drew ?_ | refine below_drewN ?_ _ | refine Below.setCell ?_ ?_ _ | refine below_put ?_ ?_ _ _ | exact Nat.le_refl _) | omega | (with_reducible first | refine Nat.le_trans ?_ (Below.size (by assumption)) | refine Nat.le_trans ?_ (World.grownBy.size (by assumption))) | (simp only [World.size_alloc, World.size_setCell, World.size_drew, size_drewN]; omega) | (simp only [World.size_alloc, World.size_setCell, World.size_drew, size_drewN, size_put]; omega) | (intro k hk; simp [Value.ownBlock] at hk; first | done | omega) | (simp [size_drewN] at *; omega)))⟩
set_option maxRecDepth 100000 in
theorem contains_c {w : World} {B : Nat} {s : Sl} {ls : List Lnk} (h : OwnC w B 66 s.v ls.length (lnkCells ls)) (hn : ls.length ≤ 100000) (x : Lnk) :
  Calls Tryz.prog 28 #[s.v, .agg (linkA x)] w fun e w' => e = .returned (.bool (decide (x ∈ ls))) ∧ Below w.heap.size w w' := by
 obtain ⟨sa, sn, sc⟩ := s
 rcases h.2 with ⟨e, h0⟩ | ⟨g, cap, e, h1, h2, h3, h4, h5, h6, h7⟩
 ·cases e
  have hls : ls = [] := List.eq_nil_of_length_eq_zero h0
  subst hls
  have HI := fun W => index_nil x W
  clear h
  show Calls Tryz.prog 28 #[.slice none 0 0, .agg (linkA x)] w _
  go_enter Tryz.func28, Tryz.ntmps28
  go_wp2_with (go_at_call 43; refine (HI _).mono ?_; rintro e w1 ⟨rfl, hb⟩)
  go_ret
  exact ⟨ret_bool (by simp), by (repeat' (first | (with_reducible first | exact Below.refl _ _ | assumption | refine bel_trans (by assumption) ?_ ?_ | refine bel_grown (by assumption) ?_ ?_ ?_ | refine Below.alloc ?_ ?_ _ | refine Below.drew ?_ | refine below_drewN ?_ _ | refine Below.setCell ?_ ?_ _ | refine below_put ?_ ?_ _ _ | exact Nat.le_refl _) | omega | (with_reducible first | refine Nat.le_trans ?_ (Below.size (by assumption)) | refine Nat.le_trans ?_ (World.grownBy.size (by assumption))) | (simp only [World.size_alloc, World.size_setCell, World.size_drew, size_drewN]; omega) | (simp only [World.size_alloc, World.size_setCell, World.size_drew, size_drewN, size_put]; omega) | (intro k hk; simp [Value.ownBlock] at hk; first | done | omega) | (simp [size_drewN] at *; omega)))⟩
 ·cases e
  have hc := Tryz.slices_Contains 66 Tryz.isAgg60 Tryz.sizeOf60 encLnk (fun x => by simp [encLnk]) (fun x y => decide (x = y)) eqLnk_at g 0 ls.length sc ls x w (Nat.le_refl _) (by omega) (fun j hj i v hv => by
   rw [Nat.zero_add]
   refine h7 _ _ ?_
   have hi : i < 66 := by
    have := (List.getElem?_eq_some_iff.1 hv).1
    simpa [encLnk] using this
   rw [lnkCells_get ls j i hj hi]
   rw [getElem!_pos ls j hj] at hv
   simpa [encLnk] using hv)
  rw [List.take_length] at hc
  have hany : (ls.any fun y => decide (x = y)) = decide (x ∈ ls) := by
   rw [Bool.eq_iff_iff]
   simp
  rw [hany] at hc
  simpa [encLnk] using hc
def goodL (x : Lnk) : Bool := mayPt x.source && mayPt x.target && decide (x.source.epoch.toNat < x.target.epoch.toNat)
def strongE (ls : List Lnk) (x : Lnk) : Int := if goodL x = true then (if x ∈ ls then 11 else 0) else 2
def addL (ls : List Lnk) (x : Lnk) : List Lnk := if goodL x = true ∧ x ∉ ls then ls ++ [x] else ls

theorem setCell_block (w : World) (r : Nat) (v : Value) (cs : Array Value) (t : TypeId) (fr : Nat × Nat) (h : w.heap[r]? = some (.cells cs t fr)) : (w.setCell ⟨r, 0, none⟩ v).heap[r]? = some (.cells (cs.setIfInBounds 0 v) t fr) := by
 rw [Go.Sort.setCell_eq]
 simp [Go.Sort.mapBlock, Array.getElem?_modify, h, Go.Sort.onCells]
theorem Gad.setS {w w' : World} {B r b1 b2 : Nat} {s s' : Sl} {ls ls' : List Lnk} {js fs : List Pt} (h : Gad w B r b1 b2 s ls js fs) (hg : w.grownBy w' s.v.ownBlock) (ho : OwnC w' B 66 s'.v ls'.length (lnkCells ls')) (hb : s'.v.ownBlock = s.v.ownBlock ∨ s'.v.ownBlock = some w.heap.size) :
  Gad (w'.setCell ⟨r, 0, none⟩ s'.v) B r b1 b2 s' ls' js fs := by
 have hlt := h.lt
 have hne : ∀ k, (k = r ∨ k = b1 ∨ k = b2) → some k ≠ s.v.ownBlock := fun k hk e => by
  have := h.hs k e.symm
  omega
 have hr' : ∀ g, s'.v.ownBlock = some g → g ≠ r ∧ g ≠ b1 ∧ g ≠ b2 := fun g hg' => by
  rcases hb with hb | hb
  ·exact h.hs g (by rw [← hb]; exact hg')
  ·rw [hb] at hg'
   cases hg'
   omega
 have hgs : w'.grownBy (w'.setCell ⟨r, 0, none⟩ s'.v) (some r) := ⟨rfl, rfl, rfl, by simp, fun k hk hne => heap_setCell_other w' ⟨r, 0, none⟩ k _ (fun e => hne (by rw [e]))⟩
 refine ⟨?_, ho.keepG hgs ?_, ?_, ?_, h.ne, h.n1, h.n2, hr', h.br, h.bb1, h.bb2⟩
 ·exact setCell_block w' r _ _ _ _ ((hg.block r hlt.1 (hne r (.inl rfl))).trans h.row)
 ·cases e : s'.v.ownBlock with
  | none => exact .inl rfl
  | some g => exact .inr (by have := (hr' g e).1; simpa using this)
 ·exact h.j.of_block ((heap_setCell_other w' ⟨r, 0, none⟩ b1 _ (Ne.symm h.n1)).trans (hg.block b1 hlt.2.1 (hne b1 (.inr (.inl rfl)))))
 ·exact h.f.of_block ((heap_setCell_other w' ⟨r, 0, none⟩ b2 _ (Ne.symm h.n2)).trans (hg.block b2 hlt.2.2.1 (hne b2 (.inr (.inr rfl)))))
/-- append at links, by a name that the walk does not open -/
def appLnk (args : Array Value) : Sem Value := Builtin.append_ #[83, 83] 83 args
theorem fold_append (args : Array Value) : Builtin.append_ #[83, 83] 83 args = appLnk args := rfl
attribute [local go_sem ↓] fold_append
/-- what a call of Strong has in common, whatever comes of it: the box of the link -/
theorem boxed_link (w : World) (x : Lnk) (t : TypeId) : row? (w.alloc (.cells (linkA x) t)) w.heap.size 0 66 = some (linkA x) := by rw [row?_new]; simp

set_option maxRecDepth 100000 in
set_option maxHeartbeats 1600000 in
theorem strong_bad {w : World} {B r b1 b2 : Nat} {s : Sl} {ls : List Lnk} {js fs : List Pt} (h : Gad w B r b1 b2 s ls js fs) (x : Lnk) (hx : goodL x = false) :
  Calls Tryz.prog 13 #[.pointer (some ⟨r, 0, none⟩), .agg (linkA x)] w fun e w' => e = .returned (.int .i64 2) ∧ Below w.heap.size w w' := by
 obtain ⟨_, c1, _, _⟩ := h.cells
 have hlt := h.lt.1
 have hm : r ≠ w.heap.size := by omega
 have hW := boxed_link w x 60
 have HC := there_c (w := w.alloc (.cells (linkA x) 60)) (r := r) (b := b1) (by rw [(kept (bel_a w _)).1 _ _ hlt]; exact c1)
 have HM := fun p W => mayPoint_c p W
 have hs0 := row?_sub hW 0 33 (by omega)
 have ht0 := row?_sub hW 33 33 (by omega)
 rw [linkA_source] at hs0
 rw [linkA_target] at ht0
 simp only [Nat.zero_add] at hs0 ht0
 have HG := Lib.hid (h.keep (bel_a w (.cells (linkA x) 60)))
 clear h c1
 go_enter Tryz.func13, Tryz.ntmps13
 go_wp2_with fail
 refine HC.mono ?_
 rintro e w' ⟨rfl, hw⟩
 subst hw
 clear HC
 go_wp2_with fail
 refine (HM _ _).mono ?_
 rintro e w1 ⟨rfl, hb1⟩
 have k1 := kept hb1
 simp only [World.size_alloc] at k1
 obtain ⟨k1, k2, k3⟩ := k1
 have hs1 : row? w1 w.heap.size 0 33 = some (pointA x.source) := (k3 _ _ _ (by omega)).trans hs0
 have ht1 : row? w1 w.heap.size 33 33 = some (pointA x.target) := (k3 _ _ _ (by omega)).trans ht0
 have hw1 : row? w1 w.heap.size 0 66 = some (linkA x) := (k3 _ _ _ (by omega)).trans hW
 have HG1 := Lib.hid (HG.out.keep hb1)
 have hB1 : Below w.heap.size w w1 := (bel_a w _).trans (hb1.mono (by simp))
 have hz1 : w.heap.size < w1.heap.size := by have := hb1.size; simp at this; omega
 clear k1 k2 k3 hs0 ht0 hW hb1 HG
 unfold goodL at hx
 cases e1 : mayPt x.source
 ·go_wp2_with fail
  go_ret
  exact ⟨rfl, hB1⟩
 rw [e1, Bool.true_and] at hx
 go_wp2_with fail
 refine (HM _ _).mono ?_
 rintro e w2 ⟨rfl, hb2⟩
 obtain ⟨k1, k2, k3⟩ := kept hb2
 have hs2 : row? w2 w.heap.size 0 33 = some (pointA x.source) := (k3 _ _ _ (by omega)).trans hs1
 have ht2 : row? w2 w.heap.size 33 33 = some (pointA x.target) := (k3 _ _ _ (by omega)).trans ht1
 have hw2 : row? w2 w.heap.size 0 66 = some (linkA x) := (k3 _ _ _ (by omega)).trans hw1
 have HG2 := Lib.hid (HG1.out.keep hb2)
 have hB2 : Below w.heap.size w w2 := hB1.trans (hb2.mono (by omega))
 have hz2 : w.heap.size < w2.heap.size := by have := hb2.size; omega
 have hXe0 : w2.cell? ⟨w.heap.size, 0, none⟩ = some (.int .u64 (x.source.epoch.toNat : Int)) := (cell_of_row? hs2 0 (by omega)).trans (pointA_epoch _)
 have hXe1 : w2.cell? ⟨w.heap.size, 33, none⟩ = some (.int .u64 (x.target.epoch.toNat : Int)) := (cell_of_row? ht2 0 (by omega)).trans (pointA_epoch _)
 clear k1 k2 k3 hs1 ht1 hw1 hb2 HG1 hB1 HM
 cases e2 : mayPt x.target
 ·go_wp2_with fail
  go_ret
  exact ⟨rfl, hB2⟩
 rw [e2, Bool.true_and, decide_eq_false_iff_not] at hx
 have hle : (x.target.epoch.toNat : Int) ≤ (x.source.epoch.toNat : Int) := by omega
 go_wp2_with fail
 go_ret
 exact ⟨rfl, hB2⟩
set_option maxRecDepth 100000 in
set_option maxHeartbeats 1600000 in
theorem strong_dup {w : World} {B r b1 b2 : Nat} {s : Sl} {ls : List Lnk} {js fs : List Pt} (h : Gad w B r b1 b2 s ls js fs) (hn : ls.length ≤ 100000) (x : Lnk) (hx : goodL x = true) (hd : x ∈ ls) :
  Calls Tryz.prog 13 #[.pointer (some ⟨r, 0, none⟩), .agg (linkA x)] w fun e w' => e = .returned (.int .i64 11) ∧ Below w.heap.size w w' := by
 obtain ⟨_, c1, _, _⟩ := h.cells
 have hlt := h.lt.1
 have hm : r ≠ w.heap.size := by omega
 have hW := boxed_link w x 60
 have HC := there_c (w := w.alloc (.cells (linkA x) 60)) (r := r) (b := b1) (by rw [(kept (bel_a w _)).1 _ _ hlt]; exact c1)
 have HM := fun p W => mayPoint_c p W
 have hs0 := row?_sub hW 0 33 (by omega)
 have ht0 := row?_sub hW 33 33 (by omega)
 rw [linkA_source] at hs0
 rw [linkA_target] at ht0
 simp only [Nat.zero_add] at hs0 ht0
 have HG := Lib.hid (h.keep (bel_a w (.cells (linkA x) 60)))
 clear h c1
 go_enter Tryz.func13, Tryz.ntmps13
 go_wp2_with fail
 refine HC.mono ?_
 rintro e w' ⟨rfl, hw⟩
 subst hw
 clear HC
 go_wp2_with fail
 refine (HM _ _).mono ?_
 rintro e w1 ⟨rfl, hb1⟩
 have k1 := kept hb1
 simp only [World.size_alloc] at k1
 obtain ⟨k1, k2, k3⟩ := k1
 have hs1 : row? w1 w.heap.size 0 33 = some (pointA x.source) := (k3 _ _ _ (by omega)).trans hs0
 have ht1 : row? w1 w.heap.size 33 33 = some (pointA x.target) := (k3 _ _ _ (by omega)).trans ht0
 have hw1 : row? w1 w.heap.size 0 66 = some (linkA x) := (k3 _ _ _ (by omega)).trans hW
 have HG1 := Lib.hid (HG.out.keep hb1)
 have hB1 : Below w.heap.size w w1 := (bel_a w _).trans (hb1.mono (by simp))
 have hz1 : w.heap.size < w1.heap.size := by have := hb1.size; simp at this; omega
 clear k1 k2 k3 hs0 ht0 hW hb1 HG
 unfold goodL at hx
 simp only [Bool.and_eq_true, decide_eq_true_eq] at hx
 obtain ⟨⟨e1, e2⟩, e3⟩ := hx
 rw [e1]
 go_wp2_with fail
 refine (HM _ _).mono ?_
 rintro e w2 ⟨rfl, hb2⟩
 obtain ⟨k1, k2, k3⟩ := kept hb2
 have hs2 : row? w2 w.heap.size 0 33 = some (pointA x.source) := (k3 _ _ _ (by omega)).trans hs1
 have ht2 : row? w2 w.heap.size 33 33 = some (pointA x.target) := (k3 _ _ _ (by omega)).trans ht1
 have hw2 : row? w2 w.heap.size 0 66 = some (linkA x) := (k3 _ _ _ (by omega)).trans hw1
 have HG2 := Lib.hid (HG1.out.keep hb2)
 have hB2 : Below w.heap.size w w2 := hB1.trans (hb2.mono (by omega))
 have hz2 : w.heap.size < w2.heap.size := by have := hb2.size; omega
 have hXe0 : w2.cell? ⟨w.heap.size, 0, none⟩ = some (.int .u64 (x.source.epoch.toNat : Int)) := (cell_of_row? hs2 0 (by omega)).trans (pointA_epoch _)
 have hXe1 : w2.cell? ⟨w.heap.size, 33, none⟩ = some (.int .u64 (x.target.epoch.toNat : Int)) := (cell_of_row? ht2 0 (by omega)).trans (pointA_epoch _)
 clear k1 k2 k3 hs1 ht1 hw1 hb2 HG1 hB1 HM
 rw [e2]
 have hle : ¬ (x.target.epoch.toNat : Int) ≤ (x.source.epoch.toNat : Int) := by omega
 have HGd : Gad w2.drew B r b1 b2 s ls js fs := HG2.out.drewN 1
 have HS := contains_c HGd.own hn x
 rw [decide_eq_true hd] at HS
 obtain ⟨g0, _, _, _⟩ := HG2.out.cells
 go_wp2_with fail
 have hS0 : w2.drew.cell? ⟨r, 0, none⟩ = some s.v ∧ row? w2.drew w.heap.size 0 66 = some (linkA x) := ⟨g0, hw2⟩
 go_region_held3 (fun W => W.cell? ⟨r, 0, none⟩ = some s.v ∧ row? W w.heap.size 0 66 = some (linkA x))
  (first | go_keep | (with_reducible exact hS0) | (with_reducible exact ⟨d0, hw3⟩))
  (first
   | (go_simp; go_at_call 28; (with_reducible refine HS.mono ?_); rintro e w3 ⟨rfl, hb3⟩; have HG3 := HGd.keep hb3; obtain ⟨d0, d1, d2, _⟩ := HG3.cells; have hw3 : row? w3 w.heap.size 0 66 = some (linkA x) := ((kept hb3).2.2 _ _ _ hz2).trans hw2))
 go_wp2_with fail
 go_ret
 have q3 : Below w2.heap.size w2 w3 := undrew hb3
 exact ⟨rfl, hB2.trans (q3.mono (by omega))⟩
set_option maxRecDepth 100000 in
set_option maxHeartbeats 1600000 in
theorem strong_new (a : Pt) {w : World} {B r b1 b2 : Nat} {s : Sl} {ls : List Lnk} {js fs : List Pt} (h : Gad w B r b1 b2 s ls js fs) (hk : Knows a ls js fs) (hn : ls.length < 1000) (x : Lnk) (hx : goodL x = true) (hd : x ∉ ls) :
  Calls Tryz.prog 13 #[.pointer (some ⟨r, 0, none⟩), .agg (linkA x)] w fun e w' => e = .returned (.int .i64 0) ∧ ∃ s' js' fs', Gad w' B r b1 b2 s' (ls ++ [x]) js' fs' ∧ Knows a (ls ++ [x]) js' fs' ∧ Fr ([r, b1, b2] ++ s.v.ownBlock.toList) w w' ∧ (s'.v.ownBlock = s.v.ownBlock ∨ ∃ g, s'.v.ownBlock = some g ∧ w.heap.size ≤ g) := by
 obtain ⟨_, c1, _, _⟩ := h.cells
 have hlt := h.lt.1
 have hm : r ≠ w.heap.size := by omega
 have hW := boxed_link w x 60
 have HC := there_c (w := w.alloc (.cells (linkA x) 60)) (r := r) (b := b1) (by rw [(kept (bel_a w _)).1 _ _ hlt]; exact c1)
 have HM := fun p W => mayPoint_c p W
 have hs0 := row?_sub hW 0 33 (by omega)
 have ht0 := row?_sub hW 33 33 (by omega)
 rw [linkA_source] at hs0
 rw [linkA_target] at ht0
 simp only [Nat.zero_add] at hs0 ht0
 have HG := Lib.hid (h.keep (bel_a w (.cells (linkA x) 60)))
 clear h c1
 go_enter Tryz.func13, Tryz.ntmps13
 go_wp2_with fail
 refine HC.mono ?_
 rintro e w' ⟨rfl, hw⟩
 subst hw
 clear HC
 go_wp2_with fail
 refine (HM _ _).mono ?_
 rintro e w1 ⟨rfl, hb1⟩
 have k1 := kept hb1
 simp only [World.size_alloc] at k1
 obtain ⟨k1, k2, k3⟩ := k1
 have hs1 : row? w1 w.heap.size 0 33 = some (pointA x.source) := (k3 _ _ _ (by omega)).trans hs0
 have ht1 : row? w1 w.heap.size 33 33 = some (pointA x.target) := (k3 _ _ _ (by omega)).trans ht0
 have hw1 : row? w1 w.heap.size 0 66 = some (linkA x) := (k3 _ _ _ (by omega)).trans hW
 have HG1 := Lib.hid (HG.out.keep hb1)
 have hB1 : Below w.heap.size w w1 := (bel_a w _).trans (hb1.mono (by simp))
 have hz1 : w.heap.size < w1.heap.size := by have := hb1.size; simp at this; omega
 clear k1 k2 k3 hs0 ht0 hW hb1 HG
 unfold goodL at hx
 simp only [Bool.and_eq_true, decide_eq_true_eq] at hx
 obtain ⟨⟨e1, e2⟩, e3⟩ := hx
 rw [e1]
 go_wp2_with fail
 refine (HM _ _).mono ?_
 rintro e w2 ⟨rfl, hb2⟩
 obtain ⟨k1, k2, k3⟩ := kept hb2
 have hs2 : row? w2 w.heap.size 0 33 = some (pointA x.source) := (k3 _ _ _ (by omega)).trans hs1
 have ht2 : row? w2 w.heap.size 33 33 = some (pointA x.target) := (k3 _ _ _ (by omega)).trans ht1
 have hw2 : row? w2 w.heap.size 0 66 = some (linkA x) := (k3 _ _ _ (by omega)).trans hw1
 have HG2 := Lib.hid (HG1.out.keep hb2)
 have hB2 : Below w.heap.size w w2 := hB1.trans (hb2.mono (by omega))
 have hz2 : w.heap.size < w2.heap.size := by have := hb2.size; omega
 have hXe0 : w2.cell? ⟨w.heap.size, 0, none⟩ = some (.int .u64 (x.source.epoch.toNat : Int)) := (cell_of_row? hs2 0 (by omega)).trans (pointA_epoch _)
 have hXe1 : w2.cell? ⟨w.heap.size, 33, none⟩ = some (.int .u64 (x.target.epoch.toNat : Int)) := (cell_of_row? ht2 0 (by omega)).trans (pointA_epoch _)
 clear k1 k2 k3 hs1 ht1 hw1 hb2 HG1 hB1 HM
 rw [e2]
 have hle : ¬ (x.target.epoch.toNat : Int) ≤ (x.source.epoch.toNat : Int) := by omega
 have HGd : Gad w2.drew B r b1 b2 s ls js fs := HG2.out.drewN 1
 have HS := contains_c HGd.own (by omega) x
 rw [decide_eq_false hd] at HS
 obtain ⟨g0, _, _, _⟩ := HG2.out.cells
 go_wp2_with fail
 have hS0 : w2.drew.cell? ⟨r, 0, none⟩ = some s.v ∧ row? w2.drew w.heap.size 0 66 = some (linkA x) := ⟨g0, hw2⟩
 go_region_held3 (fun W => W.cell? ⟨r, 0, none⟩ = some s.v ∧ row? W w.heap.size 0 66 = some (linkA x))
  (first | go_keep | (with_reducible exact hS0) | (with_reducible exact ⟨d0, hw3⟩))
  (first
   | (go_simp; go_at_call 28; (with_reducible refine HS.mono ?_); rintro e w3 ⟨rfl, hb3⟩; have HG3 := HGd.keep hb3; obtain ⟨d0, d1, d2, dfr⟩ := HG3.cells; have hw3 : row? w3 w.heap.size 0 66 = some (linkA x) := ((kept hb3).2.2 _ _ _ hz2).trans hw2))
 rename_i hHeld
 clear hHeld
 have q3 : Below w2.heap.size w2 w3 := undrew hb3
 have hB3 : Below w.heap.size w w3 := hB2.trans (q3.mono (by omega))
 have hz3 : w.heap.size < w3.heap.size := by have := q3.size; omega
 replace HG3 := Lib.hid HG3
 replace hB3 := Lib.hid hB3
 clear HS hb3 q3 hB2 hz2 hs2 ht2 hw2 hXe0 hXe1 g0 HG2 HGd hS0 hle
 go_wp2_with fail
 -- append
 obtain ⟨i0, hi, hy0, hy1, hy2⟩ := info_parts info_lnk
 obtain ⟨W1, hW1⟩ : ∃ W1, W1 = (w3.drew).alloc (.cells (linkA x) 60) := ⟨_, rfl⟩
 have HGW : Gad W1 B r b1 b2 s ls js fs := by
  rw [hW1]
  exact (HG3.out.drewN 1).keep (bel_a _ _)
 have hsrc : Src Tryz.prog 66 83 (.slice (some ⟨w3.heap.size, 0, none⟩) 1 1) 1 (lnkCells [x]) W1 := by
  refine Src.ofSlice W1 Tryz.underlying83 ⟨w3.heap.size, 0, none⟩ 1 1 (lnkCells [x]) (by rw [lnkCells_length]; rfl) (fun j u hu => ?_) (lnkCells_onecell _)
  have hadd : (⟨w3.heap.size, 0, none⟩ : Addr).add j = ⟨w3.heap.size, j, none⟩ := by unfold Addr.add; split <;> simp_all
  rw [lnkCells_one] at hu
  rw [hadd, hW1, cell_alloc, if_pos (by simp)]
  simpa using hu
 have hBW : B ≤ W1.heap.size := Nat.le_of_lt (Nat.lt_of_le_of_lt HGW.br HGW.lt.1)
 obtain ⟨v', W2, hrun, hown, hgr, hblk⟩ := run_append_ownC (P := Tryz.prog) W1 B 83 83 83 60 i0 _ 66 80 Tryz.underlying83 hi hy0 hy1 hy2 (by simp [Value.cells]) s.v ls.length (lnkCells ls) HGW.own (.slice (some ⟨w3.heap.size, 0, none⟩) 1 1) 1 (lnkCells [x]) hsrc (by simp only [maxLen]; omega) (by omega) hBW
 obtain ⟨s', rfl⟩ := hown.slice
 rw [← lnkCells_append] at hown
 have hown' : OwnC W2 B 66 s'.v (ls ++ [x]).length (lnkCells (ls ++ [x])) := by simpa using hown
 have HG4 := HGW.setS hgr hown' hblk
 have hrne : some r ≠ s.v.ownBlock := fun e => (HGW.hs r e.symm).1 rfl
 have hrc : W2.cell? ⟨r, 0, none⟩ = some s.v := (World.cell?_of_block (hgr.block r HGW.lt.1 hrne)).trans HGW.cells.1
 have hrf : W2.frozen? ⟨r, 0, none⟩ = false := (World.frozen?_of_block (hgr.block r HGW.lt.1 hrne)).trans HGW.cells.2.2.2
 have hrun0 : (Builtin.append_ #[83, 83] 83 #[s.v, .slice (some ⟨w3.heap.size, 0, none⟩) 1 1]).run Tryz.prog (w3.alloc (.cells (linkA x) 60)).drew = .ok s'.v W2 := by
  have e : (w3.alloc (.cells (linkA x) 60)).drew = W1 := hW1.symm
  rw [e]
  exact hrun
 rw [hW1] at hrun
 have hr3 : r < w3.heap.size := by omega
 have hr4 : r ≠ w3.heap.size := by omega
 have HG4 := Lib.hid HG4
 have HGW := Lib.hid HGW
 have hgr := Lib.hid hgr
 have hblk := Lib.hid hblk
 have HW1 := Lib.hid hW1
 clear hsrc hown hown' hBW hW1
 obtain ⟨sv, hsv⟩ : ∃ sv, s.v = sv := ⟨_, rfl⟩
 rw [hsv] at d0 hrun hrun0 hrc
 obtain ⟨sa', sn', sc'⟩ := s'
 rw [fold_append] at hrun hrun0
 replace hrun := hrun.trans (rfl : _ = Result.ok (Value.slice sa' sn' sc') W2)
 replace hrun0 := hrun0.trans (rfl : _ = Result.ok (Value.slice sa' sn' sc') W2)
 replace hsv := Lib.hid hsv
 go_region
 have hsub : ∀ l ∈ ls, l ∈ ls ++ [x] := fun l hl => List.mem_append_left _ hl
 have HF := follow_c a (w0 := W2.setCell ⟨r, 0, none⟩ (.slice sa' sn' sc')) (js0 := js) (fs0 := fs) ⟨HG4.out, Fr.refl _ _, fun p hp => ((hk.j p).1 hp).mono hsub, fun p hp => ((hk.f p).1 hp).mono hsub, (hk.j a).2 .anchor, (hk.f a).2 (.inl rfl), fun _ h => h, fun p hp => .inl hp⟩ (by simp; omega)
 have hHG := HGW.out.lt
 clear hrun hrun0 hrc hrf
 go_wp2_with (go_at_call 29; refine HF.mono ?_; rintro e w' ⟨rfl, js', fs', hg', hk', hfr⟩)
 go_ret
 refine ⟨rfl, _, js', fs', hg', hk', ?_, ?_⟩
 ·have f1 : Fr ([r, b1, b2] ++ s.v.ownBlock.toList) w w3 := (Fr.of_below hB3.out)
  have f2 : Fr ([r, b1, b2] ++ s.v.ownBlock.toList) w3 W1 := by
   rw [HW1.out]
   exact Fr.of_below (((Below.refl _ _).drew).alloc (Nat.le_refl _) _)
  have f3 : Fr ([r, b1, b2] ++ s.v.ownBlock.toList) W1 W2 := by
   have hh := hgr.out
   refine ⟨hh.os, hh.tape, hh.output, hh.size, fun k hk hs => hh.block k hk (fun e => hs ?_)⟩
   rw [← e]
   simp
  have f4 : Fr ([r, b1, b2] ++ s.v.ownBlock.toList) W2 (W2.setCell ⟨r, 0, none⟩ (.slice sa' sn' sc')) :=
   ⟨rfl, rfl, rfl, by simp, fun k _ hs => heap_setCell_other W2 ⟨r, 0, none⟩ k _ (fun e => hs (by rw [e]; simp))⟩
  exact (((f1.trans f2).trans f3).trans f4).trans (hfr.mono fun k hk => .inl (by rcases (by simpa using hk : k = b1 ∨ k = b2) with rfl | rfl <;> simp))
 ·rcases hblk.out with h | h
  ·exact .inl h
  ·refine .inr ⟨_, h, ?_⟩
   rw [HW1.out]
   simp
   omega
end Go.Proofs.YthdjhbiigmcecaaGreat.F13

/- Contracts of package landmarkref13: has, less, Same; slices of checkpoints of the call's own. -/
namespace Go.Proofs.YthdjhbiigmcecaaGreat.F13
open Go.RowKit

theorem PtsR.keep' {w w' : World} {s : Sl} {l : List Pt} (h : PtsR w s l) (hb : Below w.heap.size w w') : PtsR w' s l := SlR.keep h hb (fun _ _ h => h)
/-! slices of checkpoints of the call's own -/
end Go.Proofs.YthdjhbiigmcecaaGreat.F13

/- Contract: landmarkref13.sort. -/
namespace Go.Proofs.YthdjhbiigmcecaaGreat.F13
open Go.RowKit

/-- append at checkpoints, by a name that the walk does not open -/
def appPt (args : Array Value) : Sem Value := Builtin.append_ #[49, 49] 49 args
theorem fold_appPt (args : Array Value) : Builtin.append_ #[49, 49] 49 args = appPt args := rfl
attribute [local go_sem ↓] fold_appPt
end Go.Proofs.YthdjhbiigmcecaaGreat.F13

/- Contracts: landmarkref13.Justified, Final. -/
namespace Go.Proofs.YthdjhbiigmcecaaGreat.F13
open Go.RowKit

theorem passes_length (a : Pt) (ls : List Lnk) (n : Nat) : (passes ls n [a]).length ≤ ls.length + 1 := by
 obtain ⟨h1, _, _, h4, _⟩ := passes_inv a ls n
 have := nodup_sub_length (m := a :: ls.map (·.target)) h1 (fun p hp => by
  rcases h4 p hp with h | ⟨x, hx, h⟩
  ·simp [h]
  ·exact List.mem_cons_of_mem _ (List.mem_map.2 ⟨x, hx, h⟩))
 simpa using this
end Go.Proofs.YthdjhbiigmcecaaGreat.F13

/- Contract: landmarkref13.Final. -/
namespace Go.Proofs.YthdjhbiigmcecaaGreat.F13
open Go.RowKit

theorem fold_fone_length (j : List Pt) : ∀ (ls : List Lnk) (l : List Pt), (ls.foldl (fone j) l).length ≤ l.length + ls.length
 | [], l => Nat.le_refl _
 | x :: ls, l => by
  have h1 := fold_fone_length j ls (fone j l x)
  have h2 : (fone j l x).length ≤ l.length + 1 := by unfold fone; split <;> simp
  simp only [List.foldl_cons, List.length_cons]
  omega
end Go.Proofs.YthdjhbiigmcecaaGreat.F13

/- The gadget as the laws see it: its anchor and its links; what it answers is the document's. -/
namespace Go.Proofs.YthdjhbiigmcecaaGreat.F13
open Go.RowKit

def JL (a : Pt) (ls : List Lnk) : List Pt := srtPt (refJus a ls)
def FL (a : Pt) (ls : List Lnk) : List Pt := srtPt (refFin a ls (JL a ls))
theorem JL_mem (a : Pt) (ls : List Lnk) (p : Pt) : p ∈ JL a ls ↔ Jus a ls p := by unfold JL; rw [srt_mem, refJus_mem]
theorem FL_mem (a : Pt) (ls : List Lnk) (p : Pt) : p ∈ FL a ls ↔ Fin a ls p := by unfold FL; rw [srt_mem, refFin_mem a ls _ (JL_mem a ls)]
theorem JL_ne (a : Pt) (ls : List Lnk) : JL a ls ≠ [] := List.ne_nil_of_mem ((JL_mem a ls a).2 .anchor)
theorem FL_ne (a : Pt) (ls : List Lnk) : FL a ls ≠ [] := List.ne_nil_of_mem ((FL_mem a ls a).2 (.inl rfl))
theorem JL_length (a : Pt) (ls : List Lnk) : (JL a ls).length ≤ ls.length + 1 := by
 unfold JL refJus
 rw [srt_length]
 exact passes_length a ls _
theorem FL_length (a : Pt) (ls : List Lnk) : (FL a ls).length ≤ ls.length + 1 := by
 unfold FL refFin
 rw [srt_length]
 have := fold_fone_length (JL a ls) ls [a]
 simp at this
 omega
theorem Knows.lists {a : Pt} {ls : List Lnk} {js fs : List Pt} (h : Knows a ls js fs) : srtPt js = JL a ls ∧ srtPt fs = FL a ls := ⟨h.ref.1.symm, h.ref.2.symm⟩
theorem Knows.jlen {a : Pt} {ls : List Lnk} {js fs : List Pt} (h : Knows a ls js fs) : js.length ≤ ls.length + 1 ∧ fs.length ≤ ls.length + 1 := by
 have h1 := srt_length js
 have h2 := srt_length fs
 rw [h.lists.1] at h1
 rw [h.lists.2] at h2
 have := JL_length a ls
 have := FL_length a ls
 omega
theorem Knows.ne {a : Pt} {ls : List Lnk} {js fs : List Pt} (h : Knows a ls js fs) : js ≠ [] ∧ fs ≠ [] :=
 ⟨List.ne_nil_of_mem ((h.j a).2 .anchor), List.ne_nil_of_mem ((h.f a).2 (.inl rfl))⟩

/-- a gadget lies at r, of blocks from B on -/
def GadX (w : World) (B r : Nat) (a : Pt) (ls : List Lnk) : Prop := ∃ b1 b2 s js fs, Gad w B r b1 b2 s ls js fs ∧ Knows a ls js fs
theorem GadX.keep {w w' : World} {B r : Nat} {a : Pt} {ls : List Lnk} (h : GadX w B r a ls) (hb : Below w.heap.size w w') : GadX w' B r a ls := by
 obtain ⟨b1, b2, s, js, fs, h1, h2⟩ := h
 exact ⟨b1, b2, s, js, fs, h1.keep hb, h2⟩
theorem GadX.more {w : World} {B B' r : Nat} {a : Pt} {ls : List Lnk} (h : GadX w B r a ls) (hb : B' ≤ B) : GadX w B' r a ls := by
 obtain ⟨b1, b2, s, js, fs, h1, h2⟩ := h
 exact ⟨b1, b2, s, js, fs, { h1 with own := h1.own.more hb, br := Nat.le_trans hb h1.br, bb1 := Nat.le_trans hb h1.bb1, bb2 := Nat.le_trans hb h1.bb2 }, h2⟩
theorem GadX.lt {w : World} {B r : Nat} {a : Pt} {ls : List Lnk} (h : GadX w B r a ls) : B ≤ r ∧ r < w.heap.size := by
 obtain ⟨b1, b2, s, js, fs, h1, h2⟩ := h
 exact ⟨h1.br, h1.lt.1⟩
theorem new_x (p : Pt) (w : World) (hp : mayPt p = true) : Calls Tryz.prog 12 #[.agg (pointA p)] w fun e w' => ∃ r, e = .returned (.tuple #[.pointer (some ⟨r, 0, none⟩), .int .i64 0]) ∧ GadX w' w.heap.size r p [] ∧ Below w.heap.size w w' := by
 refine (new_c p w hp).mono ?_
 rintro e w' ⟨r, b1, b2, rfl, h, h0, h1, h2, hb⟩
 exact ⟨r, rfl, ⟨b1, b2, _, _, _, h.gad h0 h1 h2, Knows.start p⟩, hb⟩
/-- Strong, whatever comes of it -/
theorem strong_f (a : Pt) {w : World} {B r b1 b2 : Nat} {s : Sl} {ls : List Lnk} {js fs : List Pt} (h : Gad w B r b1 b2 s ls js fs) (hk : Knows a ls js fs) (hn : ls.length < 1000) (x : Lnk) :
  Calls Tryz.prog 13 #[.pointer (some ⟨r, 0, none⟩), .agg (linkA x)] w fun e w' => e = .returned (.int .i64 (strongE ls x)) ∧ ∃ s' js' fs', Gad w' B r b1 b2 s' (addL ls x) js' fs' ∧ Knows a (addL ls x) js' fs' ∧ Fr ([r, b1, b2] ++ s.v.ownBlock.toList) w w' ∧ (s'.v.ownBlock = s.v.ownBlock ∨ ∃ g, s'.v.ownBlock = some g ∧ w.heap.size ≤ g) := by
 by_cases hx : goodL x = true
 ·by_cases hd : x ∈ ls
  ·have e1 : strongE ls x = 11 := by unfold strongE; rw [if_pos hx, if_pos hd]
   have e2 : addL ls x = ls := by unfold addL; rw [if_neg (fun h => h.2 hd)]
   rw [e1, e2]
   refine (strong_dup h (by omega) x hx hd).mono ?_
   rintro e w' ⟨rfl, hb⟩
   exact ⟨rfl, s, js, fs, h.keep hb, hk, Fr.of_below hb, .inl rfl⟩
  ·have e1 : strongE ls x = 0 := by unfold strongE; rw [if_pos hx, if_neg hd]
   have e2 : addL ls x = ls ++ [x] := by unfold addL; rw [if_pos ⟨hx, hd⟩]
   rw [e1, e2]
   exact strong_new a h hk hn x hx hd
 ·have hx' : goodL x = false := by simpa using hx
  have e1 : strongE ls x = 2 := by unfold strongE; rw [if_neg hx]
  have e2 : addL ls x = ls := by unfold addL; rw [if_neg (fun h => hx h.1)]
  rw [e1, e2]
  refine (strong_bad h x hx').mono ?_
  rintro e w' ⟨rfl, hb⟩
  exact ⟨rfl, s, js, fs, h.keep hb, hk, Fr.of_below hb, .inl rfl⟩
theorem strong_x (x : Lnk) {w : World} {B r : Nat} {a : Pt} {ls : List Lnk} (h : GadX w B r a ls) (hn : ls.length < 1000) :
  Calls Tryz.prog 13 #[.pointer (some ⟨r, 0, none⟩), .agg (linkA x)] w fun e w' => e = .returned (.int .i64 (strongE ls x)) ∧ GadX w' B r a (addL ls x) ∧ Below B w w' := by
 obtain ⟨b1, b2, s, js, fs, h1, h2⟩ := h
 refine (strong_f a h1 h2 hn x).mono ?_
 rintro e w' ⟨rfl, s', js', fs', g1, g2, g3, g4⟩
 refine ⟨rfl, ⟨b1, b2, s', js', fs', g1, g2⟩, g3.under (Nat.le_of_lt (Nat.lt_of_le_of_lt h1.br h1.lt.1)) fun k hk => ?_⟩
 simp only [List.mem_append, List.mem_cons, List.not_mem_nil, or_false, Option.mem_toList] at hk
 rcases hk with (rfl | rfl | rfl) | hk
 ·exact h1.br
 ·exact h1.bb1
 ·exact h1.bb2
 ·exact (h1.own.lt k hk).1
theorem justified_x (p : Pt) {w : World} {B r : Nat} {a : Pt} {ls : List Lnk} (h : GadX w B r a ls) :
  Calls Tryz.prog 14 #[.pointer (some ⟨r, 0, none⟩), .agg (pointA p)] w fun e w' => e = .returned (.bool (decide (p ∈ JL a ls))) ∧ Below w.heap.size w w' := by
 obtain ⟨b1, b2, s, js, fs, h1, h2⟩ := h
 have e : decide (p ∈ JL a ls) = decide (p ∈ js) := by rw [decide_eq_decide, JL_mem, h2.j]
 rw [e]
 exact justified_c p h1
theorem final_x (p : Pt) {w : World} {B r : Nat} {a : Pt} {ls : List Lnk} (h : GadX w B r a ls) :
  Calls Tryz.prog 15 #[.pointer (some ⟨r, 0, none⟩), .agg (pointA p)] w fun e w' => e = .returned (.bool (decide (p ∈ FL a ls))) ∧ Below w.heap.size w w' := by
 obtain ⟨b1, b2, s, js, fs, h1, h2⟩ := h
 have e : decide (p ∈ FL a ls) = decide (p ∈ fs) := by rw [decide_eq_decide, FL_mem, h2.f]
 rw [e]
 exact final_c p h1
theorem allJ_x {w : World} {B r : Nat} {a : Pt} {ls : List Lnk} (h : GadX w B r a ls) (hn : ls.length ≤ 1000) :
  Calls Tryz.prog 32 #[.pointer (some ⟨r, 0, none⟩)] w fun e w' => ∃ s : Sl, e = .returned s.v ∧ PtsR w' s (JL a ls) ∧ Below w.heap.size w w' := by
 obtain ⟨b1, b2, s, js, fs, h1, h2⟩ := h
 have := allJ_c h1 (by have := h2.jlen.1; omega) h2.ne.1
 rwa [h2.lists.1] at this
theorem best_x {w : World} {B r : Nat} {a : Pt} {ls : List Lnk} (h : GadX w B r a ls) (hn : ls.length ≤ 1000) :
  Calls Tryz.prog 16 #[.pointer (some ⟨r, 0, none⟩)] w fun e w' => e = .returned (.agg (pointA ((FL a ls).getLast (FL_ne a ls)))) ∧ Below w.heap.size w w' := by
 obtain ⟨b1, b2, s, js, fs, h1, h2⟩ := h
 have := best_c h1 (by have := h2.jlen.2; omega) h2.ne.2
 have e : (srtPt fs).getLast (srt_ne h2.ne.2) = (FL a ls).getLast (FL_ne a ls) := by congr 1; exact h2.lists.2
 rwa [e] at this
theorem highest_x {w : World} {B r : Nat} {a : Pt} {ls : List Lnk} (h : GadX w B r a ls) (hn : ls.length ≤ 1000) :
  Calls Tryz.prog 17 #[.pointer (some ⟨r, 0, none⟩)] w fun e w' => e = .returned (.agg (pointA ((JL a ls).getLast (JL_ne a ls)))) ∧ Below w.heap.size w w' := by
 obtain ⟨b1, b2, s, js, fs, h1, h2⟩ := h
 have := highest_c h1 (by have := h2.jlen.1; omega) h2.ne.1
 have e : (srtPt js).getLast (srt_ne h2.ne.1) = (JL a ls).getLast (JL_ne a ls) := by congr 1; exact h2.lists.1
 rwa [e] at this
end Go.Proofs.YthdjhbiigmcecaaGreat.F13
