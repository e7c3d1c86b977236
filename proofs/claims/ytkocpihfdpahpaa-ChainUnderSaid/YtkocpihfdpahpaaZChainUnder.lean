/- Proves Rows.ChainUnderSaid: ChainUnder always answers true: who is whose ancestor, and what stands at each epoch. No conditions. -/
import Derived.Test.YtkocpihfdpahpaaRows
import Derived.Test.YtkocpihfdpahpaaKJ
import Derived.Test.YtkocpihfdpahpaaKI
set_option linter.unusedVariables false
set_option linter.unusedSimpArgs false
namespace Go.Proofs.Ytkocpihfdpahpaa.chainUnder
open Go.ChangeShapes Go.WideShapes Go.ChangeAt Go.RowKit

theorem own : ownKnob Try.prog.godebug = none := by kernel_rfl

set_option maxRecDepth 100000 in
theorem contract (H : Type) (enc : TypeId × Value → H) (W : World) (args : Array Value) (ds gs : List (DataW H)) (before : List MemPlace)
    (hval : ∀ (j : Nat) t v, Try.f7.params[j]? = some t → args[j]? = some v → Value.okWide Try.prog W .any 0 t v)
    (hW : DataW.Whole enc Try.prog Try.f7.params.toList Rows.chainUnderSpec.vars false W args.toList ds gs before) :
    Calls Try.prog 7 args W fun e W' => ∃ v, e = .returned v ∧ Rows.chainUnderSpec.post enc Try.prog Try.f7 false true false false W args v W' := by
  have hW' := hW
  obtain ⟨p, q, hA0, hV, rfl, hfz, hnd⟩ := hW
  have hA : DataW.TrodAll enc Try.prog W 0 (fun _ => true) true Try.f7.params.toList args.toList ds p := hA0
  rw [Try.params7] at hA hval
  obtain ⟨v0, vs0, d0, ds0, p90, q90, hargs, rfl, rfl, h0, r0⟩ := trodAll_cons hA
  obtain ⟨v1, vs1, d1, ds1, p91, q91, rfl, rfl, rfl, h1, r1⟩ := trodAll_cons r0
  obtain ⟨v2, vs2, d2, ds2, p92, q92, rfl, rfl, rfl, h2, r2⟩ := trodAll_cons r1
  obtain ⟨v3, vs3, d3, ds3, p93, q93, rfl, rfl, rfl, h3, r3⟩ := trodAll_cons r2
  obtain ⟨rfl, rfl, rfl⟩ := trodAll_nil r3
  obtain rfl : args = #[v0, v1, v2, v3] := by cases args; simp_all
  obtain ⟨k0, rfl⟩ := open_point_v (hval 0 26 v0 rfl rfl) h0
  obtain ⟨s1, l1, rfl, g1, h1l⟩ := open_acts (hval 1 57 v1 rfl rfl) h1
  obtain ⟨n2, rfl⟩ := open_u (hval 2 22 v2 rfl rfl) h2
  obtain ⟨k3, rfl⟩ := open_hash_v (hval 3 24 v3 rfl rfl) h3
  refine (under_walk k0 s1 l1 n2 k3 W g1 h1l).mono fun e W' ⟨he, hb⟩ => ?_
  subst he
  exact ⟨_, rfl, law_post 4 laidOut (by kernel_rfl) (by kernel_rfl) Try.underlying4 rfl hW' rfl rfl rfl hb⟩

set_option maxRecDepth 100000 in
theorem lifted (os : Os) (started : os.Started) (H : Type) (enc : TypeId × Value → H) :
    ReturnsInHanded {} Try.checked os 7 .any (Rows.chainUnderSpec.pre6 enc Try.prog Try.f7 Rows.chainUnderRow.domain false) (Rows.chainUnderSpec.post enc Try.prog Try.f7 false true false false) := by
  refine returnsInHanded_of_change (C := Try.checked) own started (by kernel_rfl) Try.func7
    (ChangeSpec.witness6 (enc := enc) (C := Try.checked) false ⟨#[], #[.agg (pointA zeroPt), .slice none 0 0, .int .u64 0, .agg (hashA zeroHash)], []⟩ 8 (by kernel_rfl) (by kernel_rfl) (by kernel_rfl) (by kernel_rfl)) ?_
  intro W base args ds gs before hval hW _ _
  exact contract H enc W args ds gs before hval hW

theorem named : Try.pinned.checked.prog.funcNamed Rows.chainUnderRow.func = some 7 := by kernel_rfl
theorem shut : joinedFacts Try.pinned.checked.prog 7 Try.f7 Rows.chainUnderSpec Rows.chainUnderRow = true := by kernel_rfl
theorem inst : Try.f7.isInstance Try.pinned.checked.prog Rows.chainUnderRow.origin Rows.chainUnderRow.targs := of_decide_eq_true (by kernel_rfl)
theorem wrap : Try.f7.isWrapper Try.pinned.checked.prog Rows.chainUnderRow.wrapper Rows.chainUnderRow.mainSum := by unfold Func.isWrapper; first | (rw [if_pos (by decide +kernel)]; kernel_rfl) | (rw [if_neg (by decide +kernel)]; exact ⟨rfl, rfl⟩)
theorem holds : Rows.ChainUnderSaid :=
  OpenClaim.holds_of_wide (p := Try.pinned) (s := Rows.chainUnderSpec) (c := Rows.chainUnderRow) 7 Try.f7 rfl rfl rfl rfl rfl rfl rfl ⟨rfl, rfl, rfl, rfl, rfl⟩ rfl rfl rfl rfl rfl named Try.func7 shut inst wrap
    (fun os started H enc _ => lifted os started H enc)
end Go.Proofs.Ytkocpihfdpahpaa.chainUnder
