/- Contracts: codec.bare, sameOp, MayOp, MayHeader. -/
import Derived.Test.YtbpbnnonialelaaSlices
import Derived.Test.YtbpbnnonialelaaMay
import Derived.Test.YtbpbnnonialelaaStores
import Derived.Deep.QuietTactic
import Derived.BigQuiet
namespace Go.Proofs.Ytbpbnnonialelaa
open Go.RowKit
/-- an operation with what it names alone -/
def bareOp (o : GOp) : GOp :=
  if o.kind = 1 then { o with validator := 0, evidence := ⟨none, 0, 0⟩ }
  else if o.kind = 3 then { o with key := zeroHash, stake := 0 }
  else if o.kind = 2 then { o with key := zeroHash, stake := 0, evidence := ⟨none, 0, 0⟩ }
  else { kind := o.kind, key := zeroHash, stake := 0, validator := 0, evidence := ⟨none, 0, 0⟩ }

theorem bare_res : Try.f102.results = #[.cell 2 54] := by kernel_rfl
set_option maxHeartbeats 1000000 in
set_option maxRecDepth 100000 in
theorem bare_c (o : GOp) (w : World) : Calls Try.prog 102 #[.agg (opA o)] w fun e w' => e = .returned (.agg (opA (bareOp o))) ∧ Below w.heap.size w w' := by
  go_enter Try.func102, Try.ntmps102
  go_wp2_with (with_reducible refine ret_row Try.isAgg54 Try.sizeOf54 bare_res (x := .pointer (some ⟨w.heap.size + 1, 0, none⟩)) (w.heap.size + 1) 0 ?rrhx (Eq.refl _) ?rrh ?rrhd ?rrhR; (case rrhx => simp only [Array.getD_eq_getD_getElem?, List.getElem?_toArray, List.getElem?_cons_succ, List.getElem?_cons_zero, Option.getD_some]); (case rrhd => exact rfl); (case rrh => go_simp); (case rrhR => (refine And.intro ?rra ?rrb; (case rra => (go_simp; first | (simp_all [bareOp]; done) )); (case rrb => ((repeat' (first | (with_reducible exact Below.refl _ _) | (with_reducible assumption) | (with_reducible refine bel_trans (by assumption) ?_ ?_) | (with_reducible refine bel_grown (by assumption) ?_ ?_ ?_) | (with_reducible refine Below.alloc ?_ ?_ _) | (with_reducible refine Below.drew ?_) | (with_reducible refine below_drewN ?_ _) | (with_reducible refine Below.setCell ?_ ?_ _) | (with_reducible refine below_put ?_ ?_ _ _) | (with_reducible exact Nat.le_refl _) | omega | (with_reducible refine Nat.le_trans ?_ (Below.size (by assumption))) | (with_reducible refine Nat.le_trans ?_ (World.grownBy.size (by assumption))) | (simp only [World.size_alloc, World.size_setCell, World.size_drew, size_drewN]; omega) | (simp only [World.size_alloc, World.size_setCell, World.size_drew, size_drewN, size_put]; omega) | (intro k hk; simp [Value.ownBlock] at hk; done) | (intro k hk; simp [Value.ownBlock] at hk; omega) | (simp [size_drewN] at *; omega))))))))
  go_region
  go_wp2_with (with_reducible refine ret_row Try.isAgg54 Try.sizeOf54 bare_res (x := .pointer (some ⟨w.heap.size + 1, 0, none⟩)) (w.heap.size + 1) 0 ?rrhx (Eq.refl _) ?rrh ?rrhd ?rrhR; (case rrhx => simp only [Array.getD_eq_getD_getElem?, List.getElem?_toArray, List.getElem?_cons_succ, List.getElem?_cons_zero, Option.getD_some]); (case rrhd => exact rfl); (case rrh => go_simp); (case rrhR => (refine And.intro ?rra ?rrb; (case rra => (go_simp; first | (simp_all [bareOp]; done) )); (case rrb => ((repeat' (first | (with_reducible exact Below.refl _ _) | (with_reducible assumption) | (with_reducible refine bel_trans (by assumption) ?_ ?_) | (with_reducible refine bel_grown (by assumption) ?_ ?_ ?_) | (with_reducible refine Below.alloc ?_ ?_ _) | (with_reducible refine Below.drew ?_) | (with_reducible refine below_drewN ?_ _) | (with_reducible refine Below.setCell ?_ ?_ _) | (with_reducible refine below_put ?_ ?_ _ _) | (with_reducible exact Nat.le_refl _) | omega | (with_reducible refine Nat.le_trans ?_ (Below.size (by assumption))) | (with_reducible refine Nat.le_trans ?_ (World.grownBy.size (by assumption))) | (simp only [World.size_alloc, World.size_setCell, World.size_drew, size_drewN]; omega) | (simp only [World.size_alloc, World.size_setCell, World.size_drew, size_drewN, size_put]; omega) | (intro k hk; simp [Value.ownBlock] at hk; done) | (intro k hk; simp [Value.ownBlock] at hk; omega) | (simp [size_drewN] at *; omega))))))))
end Go.Proofs.Ytbpbnnonialelaa
