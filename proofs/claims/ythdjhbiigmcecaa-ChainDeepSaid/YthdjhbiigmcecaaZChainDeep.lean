/- Proves Rows.ChainDeepSaid: ChainDeep always answers true: of one long branch, and one that leaves it somewhere, who is whose ancestor, and what stands at an epoch. No conditions. -/
import Derived.Test.YthdjhbiigmcecaaRows
import Derived.Test.YthdjhbiigmcecaaKO
import Derived.Test.YthdjhbiigmcecaaKI
set_option linter.unusedVariables false
set_option linter.unusedSimpArgs false
namespace Go.Proofs.Ythdjhbiigmcecaa.chainDeep
open Go.ChangeShapes Go.WideShapes Go.ChangeAt Go.RowKit

theorem own : ownKnob Try.prog.godebug = none := by kernel_rfl

set_option maxRecDepth 100000 in
theorem contract (H : Type) (enc : TypeId × Value → H) (W : World) (args : Array Value) (ds gs : List (DataW H)) (before : List MemPlace)
    (hval : ∀ (j : Nat) t v, Try.f7.params[j]? = some t → args[j]? = some v → Value.okWide Try.prog W .any 0 t v)
    (hW : DataW.Whole enc Try.prog Try.f7.params.toList Rows.chainDeepSpec.vars false W args.toList ds gs before) :
    Calls Try.prog 7 args W fun e W' => ∃ v, e = .returned v ∧ Rows.chainDeepSpec.post enc Try.prog Try.f7 false true false false W args v W' := by
  have hW' := hW
  obtain ⟨p, q, hA0, hV, rfl, hfz, hnd⟩ := hW
  have hA : DataW.TrodAll enc Try.prog W 0 (fun _ => true) true Try.f7.params.toList args.toList ds p := hA0
  rw [Try.params7] at hA hval
  obtain ⟨v0, vs0, d0, ds0, p90, q90, hargs, rfl, rfl, h0, r0⟩ := trodAll_cons hA
  obtain ⟨v1, vs1, d1, ds1, p91, q91, rfl, rfl, rfl, h1, r1⟩ := trodAll_cons r0
  obtain ⟨v2, vs2, d2, ds2, p92, q92, rfl, rfl, rfl, h2, r2⟩ := trodAll_cons r1
  obtain ⟨v3, vs3, d3, ds3, p93, q93, rfl, rfl, rfl, h3, r3⟩ := trodAll_cons r2
  obtain ⟨v4, vs4, d4, ds4, p94, q94, rfl, rfl, rfl, h4, r4⟩ := trodAll_cons r3
  obtain ⟨v5, vs5, d5, ds5, p95, q95, rfl, rfl, rfl, h5, r5⟩ := trodAll_cons r4
  obtain ⟨v6, vs6, d6, ds6, p96, q96, rfl, rfl, rfl, h6, r6⟩ := trodAll_cons r5
  obtain ⟨rfl, rfl, rfl⟩ := trodAll_nil r6
  obtain rfl : args = #[v0, v1, v2, v3, v4, v5, v6] := by cases args; simp_all
  obtain ⟨n0, rfl, g0⟩ := open_i (hval 0 3 v0 rfl rfl) h0
  obtain ⟨n1, rfl, g1⟩ := open_i (hval 1 3 v1 rfl rfl) h1
  obtain ⟨n2, rfl, g2⟩ := open_i (hval 2 3 v2 rfl rfl) h2
  obtain ⟨n3, rfl, g3⟩ := open_i (hval 3 3 v3 rfl rfl) h3
  obtain ⟨n4, rfl⟩ := open_u (hval 4 22 v4 rfl rfl) h4
  obtain ⟨n5, rfl, g5⟩ := open_i (hval 5 3 v5 rfl rfl) h5
  obtain ⟨n6, rfl, g6⟩ := open_i (hval 6 3 v6 rfl rfl) h6
  refine (deep_walk n0 n1 n2 n3 n4 n5 n6 W).mono fun e W' ⟨he, hb⟩ => ?_
  subst he
  exact ⟨_, rfl, law_post 4 laidOut (by kernel_rfl) (by kernel_rfl) Try.underlying4 rfl hW' rfl rfl rfl hb⟩

set_option maxRecDepth 100000 in
theorem lifted (os : Os) (started : os.Started) (H : Type) (enc : TypeId × Value → H) :
    ReturnsInHanded {} Try.checked os 7 .any (Rows.chainDeepSpec.pre6 enc Try.prog Try.f7 Rows.chainDeepRow.domain false) (Rows.chainDeepSpec.post enc Try.prog Try.f7 false true false false) := by
  refine returnsInHanded_of_change (C := Try.checked) own started (by kernel_rfl) Try.func7
    (ChangeSpec.witness6 (enc := enc) (C := Try.checked) false ⟨#[], #[.int .i64 0, .int .i64 0, .int .i64 0, .int .i64 0, .int .u64 0, .int .i64 0, .int .i64 0], []⟩ 8 (by kernel_rfl) (by kernel_rfl) (by kernel_rfl) (by kernel_rfl)) ?_
  intro W base args ds gs before hval hW _ _
  exact contract H enc W args ds gs before hval hW

theorem named : Try.pinned.checked.prog.funcNamed Rows.chainDeepRow.func = some 7 := by kernel_rfl
theorem shut : joinedFacts Try.pinned.checked.prog 7 Try.f7 Rows.chainDeepSpec Rows.chainDeepRow = true := by kernel_rfl
theorem inst : Try.f7.isInstance Try.pinned.checked.prog Rows.chainDeepRow.origin Rows.chainDeepRow.targs := of_decide_eq_true (by kernel_rfl)
theorem wrap : Try.f7.isWrapper Try.pinned.checked.prog Rows.chainDeepRow.wrapper Rows.chainDeepRow.mainSum := by unfold Func.isWrapper; first | (rw [if_pos (by decide +kernel)]; kernel_rfl) | (rw [if_neg (by decide +kernel)]; exact ⟨rfl, rfl⟩)
theorem holds : Rows.ChainDeepSaid :=
  OpenClaim.holds_of_wide (p := Try.pinned) (s := Rows.chainDeepSpec) (c := Rows.chainDeepRow) 7 Try.f7 rfl rfl rfl rfl rfl rfl rfl ⟨rfl, rfl, rfl, rfl, rfl⟩ rfl rfl rfl rfl rfl named Try.func7 shut inst wrap
    (fun os started H enc _ => lifted os started H enc)
end Go.Proofs.Ythdjhbiigmcecaa.chainDeep
