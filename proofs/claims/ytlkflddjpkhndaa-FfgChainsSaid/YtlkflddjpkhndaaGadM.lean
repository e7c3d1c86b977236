/- Contracts: the gadget's small methods: there, Justified, Final. -/
import Derived.Test.YtlkflddjpkhndaaGad
import Derived.Test.YtlkflddjpkhndaaFPlain
import Derived.Test.YtlkflddjpkhndaaCollect
import Derived.BigQuiet
namespace Go.Proofs.Ytlkflddjpkhndaa
open Go.RowKit

def lnkCells (ls : List Lnk) : List Value := (ls.map fun l => (linkA l).toList).flatten
/-- a gadget lies at r; its own are the blocks r, b1, b2 and that of s -/
structure Gad (w : World) (B r b1 b2 : Nat) (s : Sl) (ls : List Lnk) (js fs : List Pt) : Prop where
  row : w.heap[r]? = some (.cells #[s.v, .map (some b1), .map (some b2)] 79 (0, 0))
  own : OwnC w B 66 s.v ls.length (lnkCells ls)
  j : MapPts w b1 js
  f : MapPts w b2 fs
  ne : b1 ≠ b2
  n1 : r ≠ b1
  n2 : r ≠ b2
  hs : ∀ g, s.v.ownBlock = some g → g ≠ r ∧ g ≠ b1 ∧ g ≠ b2
  br : B ≤ r
  bb1 : B ≤ b1
  bb2 : B ≤ b2
theorem Gad.lt {w : World} {B r b1 b2 : Nat} {s : Sl} {ls : List Lnk} {js fs : List Pt} (h : Gad w B r b1 b2 s ls js fs) : r < w.heap.size ∧ b1 < w.heap.size ∧ b2 < w.heap.size ∧ ∀ g, s.v.ownBlock = some g → g < w.heap.size :=
  ⟨(Array.getElem?_eq_some_iff.1 h.row).1, h.j.lt, h.f.lt, fun g hg => (h.own.lt g hg).2⟩
theorem Gad.cells {w : World} {B r b1 b2 : Nat} {s : Sl} {ls : List Lnk} {js fs : List Pt} (h : Gad w B r b1 b2 s ls js fs) :
    w.cell? ⟨r, 0, none⟩ = some s.v ∧ w.cell? ⟨r, 1, none⟩ = some (.map (some b1)) ∧ w.cell? ⟨r, 2, none⟩ = some (.map (some b2)) ∧ w.frozen? ⟨r, 0, none⟩ = false :=
  ⟨cell_of_row w r 0 _ _ _ h.row, cell_of_row w r 1 _ _ _ h.row, cell_of_row w r 2 _ _ _ h.row, frozen_of_row w r 0 _ _ h.row⟩
/-- the same old blocks -/
theorem Gad.keep {w w' : World} {B r b1 b2 : Nat} {s : Sl} {ls : List Lnk} {js fs : List Pt} (h : Gad w B r b1 b2 s ls js fs) (hb : Below w.heap.size w w') : Gad w' B r b1 b2 s ls js fs :=
  { h with row := (hb.block r h.lt.1).trans h.row, own := h.own.keep hb, j := h.j.keep hb h.lt.2.1, f := h.f.keep hb h.lt.2.2.1 }
theorem Gad.drewN {w : World} {B r b1 b2 : Nat} {s : Sl} {ls : List Lnk} {js fs : List Pt} (h : Gad w B r b1 b2 s ls js fs) (n : Nat) : Gad (w.drewN n) B r b1 b2 s ls js fs := h.keep (below_drewN (Below.refl _ w) n)
theorem NewR.gad {w : World} {B r b1 b2 : Nat} {p : Pt} (h : NewR w r b1 b2 p) (h0 : B ≤ r) (h1 : B ≤ b1) (h2 : B ≤ b2) : Gad w B r b1 b2 ⟨none, 0, 0⟩ [] [p] [p] :=
  ⟨h.1, OwnC.nil _ _ _, h.2.1, h.2.2.1, h.2.2.2.1, h.2.2.2.2.1, h.2.2.2.2.2, fun g hg => by simp [Value.ownBlock] at hg, h0, h1, h2⟩

theorem neq_map_nil (p : Option Nat) (w : World) : (binOp .neq 77 (.map p) (.map none)).run Try.prog w = .ok (.bool p.isSome) w := by
  have h : ∀ d, (Op.equalIn (d + 1) 77 (.map p) (.map none)).run Try.prog w = .ok p.isNone w := fun d => by
    cases p <;> simp [Op.equalIn, run_underlying Try.underlying77]
  simp only [binOp]
  simp [show Op.equal 77 (.map p) (.map none) = Op.equalIn (9999 + 1) 77 (.map p) (.map none) from rfl, h 9999]
theorem there_none (w : World) : Calls Try.prog 71 #[.pointer none] w fun e w' => e = .returned (.bool false) ∧ w = w' := by
  go_enter Try.func71, Try.ntmps71
  go_wp2_with fail
  go_ret
  exact ⟨rfl, rfl⟩
theorem there_zero (r : Nat) (w : World) (hc : w.cell? ⟨r, 1, none⟩ = some (.map none)) : Calls Try.prog 71 #[.pointer (some ⟨r, 0, none⟩)] w fun e w' => e = .returned (.bool false) ∧ w = w' := by
  have hq := fun w => neq_map_nil none w
  go_enter Try.func71, Try.ntmps71
  go_wp2_with fail
  go_ret
  exact ⟨rfl, rfl⟩
theorem there_c {w : World} {r b : Nat} (hc : w.cell? ⟨r, 1, none⟩ = some (.map (some b))) : Calls Try.prog 71 #[.pointer (some ⟨r, 0, none⟩)] w fun e w' => e = .returned (.bool true) ∧ w' = w := by
  have hq := fun w => neq_map_nil (some b) w
  go_enter Try.func71, Try.ntmps71
  go_wp2_with fail
  go_ret
  exact ⟨rfl, rfl⟩

theorem look_at {w : World} {b : Nat} {ks : List Pt} (h : MapPts w b ks) (p : Pt) :
    (Instr.lookup 77 (.map (some b)) (.agg (pointA p)) false).run Try.prog w = .ok (.agg #[.bool (decide (p ∈ ks))]) w := look_pts h p
theorem is_field (z : Bool) (w : World) : (Instr.field 110 (.agg #[.bool z]) 0).run Try.prog w = .ok (.bool z) w := by kernel_rfl
attribute [go_sem] is_field
set_option maxRecDepth 100000 in
theorem justified_c (p : Pt) {w : World} {B r b1 b2 : Nat} {s : Sl} {ls : List Lnk} {js fs : List Pt} (h : Gad w B r b1 b2 s ls js fs) :
    Calls Try.prog 24 #[.pointer (some ⟨r, 0, none⟩), .agg (pointA p)] w fun e w' => e = .returned (.bool (decide (p ∈ js))) ∧ Below w.heap.size w w' := by
  obtain ⟨c0, c1, c2, _⟩ := h.cells
  have hlt := h.lt.1
  have hW : Below w.heap.size w (w.alloc (.cells (pointA p) 26)) := bel_a w _
  have k1 : ∀ n, ((w.alloc (.cells (pointA p) 26)).drewN n).cell? ⟨r, 1, none⟩ = some (.map (some b1)) := fun n => (hW.cell (p := ⟨r, 1, none⟩) hlt).trans c1
  have HC := fun n => there_c (k1 n)
  have HL := fun n => look_at ((h.keep hW).drewN n).j p
  generalize decide (p ∈ js) = z at *
  clear h c0 c2
  go_enter Try.func24, Try.ntmps24
  go_wp2_with fail
  go_quiet ((go_at_call 71; exact Calls.quiet_of_same (HC _)))
  go_wp2_with fail
  go_ret
  exact ⟨rfl, by (repeat' (first | (with_reducible exact Below.refl _ _) | (with_reducible assumption) | (with_reducible refine bel_trans (by assumption) ?_ ?_) | (with_reducible refine bel_grown (by assumption) ?_ ?_ ?_) | (with_reducible refine Below.alloc ?_ ?_ _) | (with_reducible refine Below.drew ?_) | (with_reducible refine below_drewN ?_ _) | (with_reducible refine Below.setCell ?_ ?_ _) | (with_reducible refine below_put ?_ ?_ _ _) | (with_reducible exact Nat.le_refl _) | omega | (with_reducible refine Nat.le_trans ?_ (Below.size (by assumption))) | (with_reducible refine Nat.le_trans ?_ (World.grownBy.size (by assumption))) | (simp only [World.size_alloc, World.size_setCell, World.size_drew, size_drewN]; omega) | (simp only [World.size_alloc, World.size_setCell, World.size_drew, size_drewN, size_put]; omega) | (intro k hk; simp [Value.ownBlock] at hk; done) | (intro k hk; simp [Value.ownBlock] at hk; omega) | (simp [size_drewN] at *; omega)))⟩
set_option maxRecDepth 100000 in
theorem final_c (p : Pt) {w : World} {B r b1 b2 : Nat} {s : Sl} {ls : List Lnk} {js fs : List Pt} (h : Gad w B r b1 b2 s ls js fs) :
    Calls Try.prog 25 #[.pointer (some ⟨r, 0, none⟩), .agg (pointA p)] w fun e w' => e = .returned (.bool (decide (p ∈ fs))) ∧ Below w.heap.size w w' := by
  obtain ⟨c0, c1, c2, _⟩ := h.cells
  have hlt := h.lt.1
  have hW : Below w.heap.size w (w.alloc (.cells (pointA p) 26)) := bel_a w _
  have k1 : ∀ n, ((w.alloc (.cells (pointA p) 26)).drewN n).cell? ⟨r, 1, none⟩ = some (.map (some b1)) := fun n => (hW.cell (p := ⟨r, 1, none⟩) hlt).trans c1
  have HC := fun n => there_c (k1 n)
  have HL := fun n => look_at ((h.keep hW).drewN n).f p
  generalize decide (p ∈ fs) = z at *
  clear h c0
  go_enter Try.func25, Try.ntmps25
  go_wp2_with fail
  go_quiet ((go_at_call 71; exact Calls.quiet_of_same (HC _)))
  go_wp2_with fail
  go_ret
  exact ⟨rfl, by (repeat' (first | (with_reducible exact Below.refl _ _) | (with_reducible assumption) | (with_reducible refine bel_trans (by assumption) ?_ ?_) | (with_reducible refine bel_grown (by assumption) ?_ ?_ ?_) | (with_reducible refine Below.alloc ?_ ?_ _) | (with_reducible refine Below.drew ?_) | (with_reducible refine below_drewN ?_ _) | (with_reducible refine Below.setCell ?_ ?_ _) | (with_reducible refine below_put ?_ ?_ _ _) | (with_reducible exact Nat.le_refl _) | omega | (with_reducible refine Nat.le_trans ?_ (Below.size (by assumption))) | (with_reducible refine Nat.le_trans ?_ (World.grownBy.size (by assumption))) | (simp only [World.size_alloc, World.size_setCell, World.size_drew, size_drewN]; omega) | (simp only [World.size_alloc, World.size_setCell, World.size_drew, size_drewN, size_put]; omega) | (intro k hk; simp [Value.ownBlock] at hk; done) | (intro k hk; simp [Value.ownBlock] at hk; omega) | (simp [size_drewN] at *; omega)))⟩
end Go.Proofs.Ytlkflddjpkhndaa
