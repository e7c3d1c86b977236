/- Proves Rows.ChainOrderSaid: ChainOrder always answers true: who is whose ancestor does not hang on the order in which headers were added. No conditions. -/
import Derived.Test.YtkocpihfdpahpaaRows
import Derived.Test.YtkocpihfdpahpaaKJ
import Derived.Test.YtkocpihfdpahpaaKI
set_option linter.unusedVariables false
set_option linter.unusedSimpArgs false
namespace Go.Proofs.Ytkocpihfdpahpaa.chainOrder
open Go.ChangeShapes Go.WideShapes Go.ChangeAt Go.RowKit

theorem own : ownKnob Try.prog.godebug = none := by kernel_rfl

set_option maxRecDepth 100000 in
theorem contract (H : Type) (enc : TypeId × Value → H) (W : World) (args : Array Value) (ds gs : List (DataW H)) (before : List MemPlace)
    (hval : ∀ (j : Nat) t v, Try.f5.params[j]? = some t → args[j]? = some v → Value.okWide Try.prog W .any 0 t v)
    (hW : DataW.Whole enc Try.prog Try.f5.params.toList Rows.chainOrderSpec.vars false W args.toList ds gs before) :
    Calls Try.prog 5 args W fun e W' => ∃ v, e = .returned v ∧ Rows.chainOrderSpec.post enc Try.prog Try.f5 false true false false W args v W' := by
  have hW' := hW
  obtain ⟨p, q, hA0, hV, rfl, hfz, hnd⟩ := hW
  have hA : DataW.TrodAll enc Try.prog W 0 (fun _ => true) true Try.f5.params.toList args.toList ds p := hA0
  rw [Try.params5] at hA hval
  obtain ⟨v0, vs0, d0, ds0, p90, q90, hargs, rfl, rfl, h0, r0⟩ := trodAll_cons hA
  obtain ⟨v1, vs1, d1, ds1, p91, q91, rfl, rfl, rfl, h1, r1⟩ := trodAll_cons r0
  obtain ⟨v2, vs2, d2, ds2, p92, q92, rfl, rfl, rfl, h2, r2⟩ := trodAll_cons r1
  obtain ⟨rfl, rfl, rfl⟩ := trodAll_nil r2
  obtain rfl : args = #[v0, v1, v2] := by cases args; simp_all
  obtain ⟨k0, rfl⟩ := open_point_v (hval 0 26 v0 rfl rfl) h0
  obtain ⟨s1, l1, rfl, g1, h1l⟩ := open_acts (hval 1 57 v1 rfl rfl) h1
  obtain ⟨s2, l2, rfl, g2⟩ := open_is (hval 2 58 v2 rfl rfl) h2
  refine (order_walk k0 s1 l1 s2 l2 W g1 h1l g2).mono fun e W' ⟨he, hb⟩ => ?_
  subst he
  exact ⟨_, rfl, law_post 4 laidOut (by kernel_rfl) (by kernel_rfl) Try.underlying4 rfl hW' rfl rfl rfl hb⟩

set_option maxRecDepth 100000 in
theorem lifted (os : Os) (started : os.Started) (H : Type) (enc : TypeId × Value → H) :
    ReturnsInHanded {} Try.checked os 5 .any (Rows.chainOrderSpec.pre6 enc Try.prog Try.f5 Rows.chainOrderRow.domain false) (Rows.chainOrderSpec.post enc Try.prog Try.f5 false true false false) := by
  refine returnsInHanded_of_change (C := Try.checked) own started (by kernel_rfl) Try.func5
    (ChangeSpec.witness6 (enc := enc) (C := Try.checked) false ⟨#[], #[.agg (pointA zeroPt), .slice none 0 0, .slice none 0 0], []⟩ 8 (by kernel_rfl) (by kernel_rfl) (by kernel_rfl) (by kernel_rfl)) ?_
  intro W base args ds gs before hval hW _ _
  exact contract H enc W args ds gs before hval hW

theorem named : Try.pinned.checked.prog.funcNamed Rows.chainOrderRow.func = some 5 := by kernel_rfl
theorem shut : joinedFacts Try.pinned.checked.prog 5 Try.f5 Rows.chainOrderSpec Rows.chainOrderRow = true := by kernel_rfl
theorem inst : Try.f5.isInstance Try.pinned.checked.prog Rows.chainOrderRow.origin Rows.chainOrderRow.targs := of_decide_eq_true (by kernel_rfl)
theorem wrap : Try.f5.isWrapper Try.pinned.checked.prog Rows.chainOrderRow.wrapper Rows.chainOrderRow.mainSum := by unfold Func.isWrapper; first | (rw [if_pos (by decide +kernel)]; kernel_rfl) | (rw [if_neg (by decide +kernel)]; exact ⟨rfl, rfl⟩)
theorem holds : Rows.ChainOrderSaid :=
  OpenClaim.holds_of_wide (p := Try.pinned) (s := Rows.chainOrderSpec) (c := Rows.chainOrderRow) 5 Try.f5 rfl rfl rfl rfl rfl rfl rfl ⟨rfl, rfl, rfl, rfl, rfl⟩ rfl rfl rfl rfl rfl named Try.func5 shut inst wrap
    (fun os started H enc _ => lifted os started H enc)
end Go.Proofs.Ytkocpihfdpahpaa.chainOrder
