/- Proves Rows.RegistryNextSaid: RegistryNext always answers true -/
import Derived.Test.YtkocpihfdpahpaaRows
import Derived.Test.YtkocpihfdpahpaaRN
import Derived.Test.YtkocpihfdpahpaaQL
import Derived.Test.YtkocpihfdpahpaaRJ
set_option linter.unusedVariables false
set_option linter.unusedSimpArgs false
namespace Go.Proofs.Ytkocpihfdpahpaa.registryNext
open Go.ChangeShapes Go.WideShapes Go.ChangeAt Go.RowKit

theorem own : ownKnob Try.prog.godebug = none := by kernel_rfl

set_option maxRecDepth 100000 in
theorem contract (H : Type) (enc : TypeId × Value → H) (W : World) (args : Array Value) (ds gs : List (DataW H)) (before : List MemPlace)
    (hval : ∀ (j : Nat) t v, Try.f8.params[j]? = some t → args[j]? = some v → Value.okWide Try.prog W .any 0 t v)
    (hW : DataW.Whole enc Try.prog Try.f8.params.toList Rows.registryNextSpec.vars false W args.toList ds gs before) :
    Calls Try.prog 8 args W fun e W' => ∃ v, e = .returned v ∧ Rows.registryNextSpec.post enc Try.prog Try.f8 false true false false W args v W' := by
  have hW' := hW
  obtain ⟨p, q, hA0, hV, rfl, hfz, hnd⟩ := hW
  have hA : DataW.TrodAll enc Try.prog W 0 (fun _ => true) true Try.f8.params.toList args.toList ds p := hA0
  rw [Try.params8] at hA hval
  obtain ⟨v0, vs0, d0, ds0, p90, q90, hargs, rfl, rfl, h0, r0⟩ := trodAll_cons hA
  obtain ⟨v1, vs1, d1, ds1, p91, q91, rfl, rfl, rfl, h1, r1⟩ := trodAll_cons r0
  obtain ⟨v2, vs2, d2, ds2, p92, q92, rfl, rfl, rfl, h2, r2⟩ := trodAll_cons r1
  obtain ⟨rfl, rfl, rfl⟩ := trodAll_nil r2
  obtain rfl : args = #[v0, v1, v2] := by cases args; simp_all
  obtain ⟨g0, c0, rfl, e0⟩ := open_reg (hval 0 103 v0 rfl rfl) h0
  obtain ⟨g1, c1, rfl, e1⟩ := open_header (hval 1 49 v1 rfl rfl) h1
  obtain ⟨n2, rfl⟩ := open_u (hval 2 22 v2 rfl rfl) h2
  refine (next_walk g0 c0 g1 c1 n2 W e0 e1).mono fun e W' ⟨he, hb⟩ => ?_
  subst he
  exact ⟨_, rfl, law_post 4 laidOut (by kernel_rfl) (by kernel_rfl) Try.underlying4 rfl hW' rfl rfl rfl hb⟩

set_option maxRecDepth 100000 in
theorem lifted (os : Os) (started : os.Started) (H : Type) (enc : TypeId × Value → H) :
    ReturnsInHanded {} Try.checked os 8 .any (Rows.registryNextSpec.pre6 enc Try.prog Try.f8 Rows.registryNextRow.domain false) (Rows.registryNextSpec.post enc Try.prog Try.f8 false true false false) := by
  refine returnsInHanded_of_change (C := Try.checked) own started (by kernel_rfl) Try.func8
    (ChangeSpec.witness6 (enc := enc) (C := Try.checked) false ⟨#[], #[.agg (regA ⟨⟨none, 0, 0⟩, ⟨none, 0, 0⟩, ⟨none, 0, 0⟩, 0⟩), .agg (headerA ⟨zeroHash, 0, ⟨none, 0, 0⟩⟩), .int .u64 0], []⟩ 8 (by kernel_rfl) (by kernel_rfl) (by kernel_rfl) (by kernel_rfl)) ?_
  intro W base args ds gs before hval hW _ _
  exact contract H enc W args ds gs before hval hW

theorem named : Try.pinned.checked.prog.funcNamed Rows.registryNextRow.func = some 8 := by kernel_rfl
theorem shut : joinedFacts Try.pinned.checked.prog 8 Try.f8 Rows.registryNextSpec Rows.registryNextRow = true := by kernel_rfl
theorem inst : Try.f8.isInstance Try.pinned.checked.prog Rows.registryNextRow.origin Rows.registryNextRow.targs := of_decide_eq_true (by kernel_rfl)
theorem wrap : Try.f8.isWrapper Try.pinned.checked.prog Rows.registryNextRow.wrapper Rows.registryNextRow.mainSum := by unfold Func.isWrapper; first | (rw [if_pos (by decide +kernel)]; kernel_rfl) | (rw [if_neg (by decide +kernel)]; exact ⟨rfl, rfl⟩)
theorem holds : Rows.RegistryNextSaid :=
  OpenClaim.holds_of_wide (p := Try.pinned) (s := Rows.registryNextSpec) (c := Rows.registryNextRow) 8 Try.f8 rfl rfl rfl rfl rfl rfl rfl ⟨rfl, rfl, rfl, rfl, rfl⟩ rfl rfl rfl rfl rfl named Try.func8 shut inst wrap
    (fun os started H enc _ => lifted os started H enc)
end Go.Proofs.Ytkocpihfdpahpaa.registryNext
