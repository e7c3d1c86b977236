/- Proves Rows.CodecOrderSaid: PointLess orders checkpoints as their bytes are ordered, for any three; no conditions. -/
import Derived.Test.YtbpbnnonialelaaRows
import Derived.Test.YtbpbnnonialelaaOrder
import Derived.Test.YtbpbnnonialelaaLaw
namespace Go.Proofs.Ytbpbnnonialelaa.codecOrder
open Go.ChangeShapes Go.WideShapes Go.ChangeAt Go.RowKit

theorem own : ownKnob Try.prog.godebug = none := by kernel_rfl

theorem walk (a b c : Pt) (w : World) : Calls Try.prog 8 #[.agg (pointA a), .agg (pointA b), .agg (pointA c)] w fun e w' => e = .returned (.bool true) ∧ Below w.heap.size w w' := by
  refine order_walk a b c _ _ _ _ _ w rfl rfl rfl rfl rfl ?_
  cases hab : ptLt a b
  · cases hba : ptLt b a
    · exact .inr ⟨rfl, .inr ⟨rfl, decide_eq_true (ptLt_tri a b hab hba)⟩⟩
    · refine .inr ⟨rfl, .inl ⟨rfl, decide_eq_false fun h => ?_⟩⟩
      subst h
      rw [ptLt_irrefl] at hba
      cases hba
  · refine .inl ⟨rfl, ptLt_asymm a b hab, decide_eq_false fun h => ?_, ?_⟩
    · subst h
      rw [ptLt_irrefl] at hab
      cases hab
    · cases hbc : ptLt b c
      · exact .inr rfl
      · exact .inl ⟨rfl, ptLt_trans a b c hab hbc⟩

set_option maxRecDepth 100000 in
theorem contract (H : Type) (enc : TypeId × Value → H) (W : World) (args : Array Value) (ds gs : List (DataW H)) (before : List MemPlace)
    (hval : ∀ (j : Nat) t v, Try.f8.params[j]? = some t → args[j]? = some v → Value.okWide Try.prog W .any 0 t v)
    (hW : DataW.Whole enc Try.prog Try.f8.params.toList Rows.codecOrderSpec.vars false W args.toList ds gs before) :
    Calls Try.prog 8 args W fun e W' => ∃ v, e = .returned v ∧ Rows.codecOrderSpec.post enc Try.prog Try.f8 false true false false W args v W' := by
  have hW' := hW
  obtain ⟨p, q, hA0, hV, rfl, hfz, hnd⟩ := hW
  have hA : DataW.TrodAll enc Try.prog W 0 (fun _ => true) true Try.f8.params.toList args.toList ds p := hA0
  rw [Try.params8] at hA hval
  obtain ⟨v0, vs0, d0, ds0, p0, q0, hargs, rfl, rfl, h0, r0⟩ := trodAll_cons hA
  obtain ⟨v1, vs1, d1, ds1, p1, q1, rfl, rfl, rfl, h1, r1⟩ := trodAll_cons r0
  obtain ⟨v2, vs2, d2, ds2, p2, q2, rfl, rfl, rfl, h2, r2⟩ := trodAll_cons r1
  obtain ⟨rfl, rfl, rfl⟩ := trodAll_nil r2
  obtain rfl : args = #[v0, v1, v2] := by cases args; simp_all
  obtain ⟨a, rfl⟩ := open_point (hval 0 29 v0 rfl rfl) h0
  obtain ⟨b, rfl⟩ := open_point (hval 1 29 v1 rfl rfl) h1
  obtain ⟨c, rfl⟩ := open_point (hval 2 29 v2 rfl rfl) h2
  refine (walk a b c W).mono fun e W' ⟨he, hb⟩ => ?_
  subst he
  exact ⟨_, rfl, law_post 4 laidOut (by kernel_rfl) (by kernel_rfl) Try.underlying4 rfl hW' rfl rfl rfl hb⟩

set_option maxRecDepth 100000 in
theorem lifted (os : Os) (started : os.Started) (H : Type) (enc : TypeId × Value → H) :
    ReturnsInHanded {} Try.checked os 8 .any (Rows.codecOrderSpec.pre6 enc Try.prog Try.f8 Rows.codecOrderRow.domain false) (Rows.codecOrderSpec.post enc Try.prog Try.f8 false true false false) := by
  refine returnsInHanded_of_change (C := Try.checked) own started (by kernel_rfl) Try.func8
    (ChangeSpec.witness6 (enc := enc) (C := Try.checked) false ⟨#[], #[.agg (pointA zeroPt), .agg (pointA zeroPt), .agg (pointA zeroPt)], []⟩ 8 (by kernel_rfl) (by kernel_rfl) (by kernel_rfl) (by kernel_rfl)) ?_
  intro W base args ds gs before hval hW _ _
  exact contract H enc W args ds gs before hval hW

theorem holds : Rows.CodecOrderSaid :=
  OpenClaim.holds_of_wide (p := Try.pinned) (s := Rows.codecOrderSpec) (c := Rows.codecOrderRow) 8 Try.f8 rfl rfl rfl rfl rfl rfl rfl ⟨rfl, rfl, rfl, rfl, rfl⟩ rfl rfl rfl rfl rfl (by kernel_rfl) Try.func8 (by kernel_rfl)
    (of_decide_eq_true (by kernel_rfl)) (by unfold Func.isWrapper; first | (rw [if_pos (by decide +kernel)]; kernel_rfl) | (rw [if_neg (by decide +kernel)]; exact ⟨rfl, rfl⟩))
    (fun os started H enc _ => lifted os started H enc)
end Go.Proofs.Ytbpbnnonialelaa.codecOrder
