/- Proves Rows.FfgClashSaid: FfgClash always answers true: which checkpoints of a chain clash. No conditions. -/
import Derived.Test.YthdjhbiigmcecaaGreatRows
import Derived.Test.YthdjhbiigmcecaaGreatCBE
set_option linter.unusedVariables false
set_option linter.unusedSimpArgs false
namespace Go.Proofs.YthdjhbiigmcecaaGreat.ffgClash
open Go.ChangeShapes Go.WideShapes Go.ChangeAt Go.RowKit

theorem own : ownKnob Tryz.prog.godebug = none := by kernel_rfl

set_option maxRecDepth 100000 in
theorem contract (H : Type) (enc : TypeId × Value → H) (W : World) (args : Array Value) (ds gs : List (DataW H)) (before : List MemPlace)
  (hval : ∀ (j : Nat) t v, Tryz.f3.params[j]? = some t → args[j]? = some v → Value.okWide Tryz.prog W .any 0 t v)
  (hW : DataW.Whole enc Tryz.prog Tryz.f3.params.toList Rows.ffgClashSpec.vars false W args.toList ds gs before) :
  Calls Tryz.prog 3 args W fun e W' => ∃ v, e = .returned v ∧ Rows.ffgClashSpec.post enc Tryz.prog Tryz.f3 false true false false W args v W' := by
 have hW' := hW
 obtain ⟨p, q, hA0, hV, rfl, hfz, hnd⟩ := hW
 have hA : DataW.TrodAll enc Tryz.prog W 0 (fun _ => true) true Tryz.f3.params.toList args.toList ds p := hA0
 rw [Tryz.params3] at hA hval
 obtain ⟨v0, vs0, d0, ds0, p90, q90, hargs, rfl, rfl, h0, r0⟩ := trodAll_cons hA
 obtain ⟨v1, vs1, d1, ds1, p91, q91, rfl, rfl, rfl, h1, r1⟩ := trodAll_cons r0
 obtain ⟨v2, vs2, d2, ds2, p92, q92, rfl, rfl, rfl, h2, r2⟩ := trodAll_cons r1
 obtain ⟨v3, vs3, d3, ds3, p93, q93, rfl, rfl, rfl, h3, r3⟩ := trodAll_cons r2
 obtain ⟨v4, vs4, d4, ds4, p94, q94, rfl, rfl, rfl, h4, r4⟩ := trodAll_cons r3
 obtain ⟨rfl, rfl, rfl⟩ := trodAll_nil r4
 obtain rfl : args = #[v0, v1, v2, v3, v4] := by cases args; simp_all
 obtain ⟨k0, rfl⟩ := open_point_v (hval 0 26 v0 rfl rfl) h0
 obtain ⟨s1, l1, rfl, g1⟩ := open_hds (hval 1 27 v1 rfl rfl) h1
 obtain ⟨s2, l2, rfl, g2⟩ := open_is (hval 2 28 v2 rfl rfl) h2
 obtain ⟨s3, l3, rfl, g3⟩ := open_is (hval 3 28 v3 rfl rfl) h3
 obtain ⟨n4, rfl⟩ := open_u (hval 4 22 v4 rfl rfl) h4
 refine (fclash_walk k0 s1 l1 s2 l2 s3 l3 n4 W g1 g2 g3).mono fun e W' ⟨he, hb⟩ => ?_
 subst he
 exact ⟨_, rfl, law_post 4 laidOut (by kernel_rfl) (by kernel_rfl) Tryz.underlying4 rfl hW' rfl rfl rfl hb⟩

set_option maxRecDepth 100000 in
theorem lifted (os : Os) (started : os.Started) (H : Type) (enc : TypeId × Value → H) :
  ReturnsInHanded {} Tryz.checked os 3 .any (Rows.ffgClashSpec.pre6 enc Tryz.prog Tryz.f3 Rows.ffgClashRow.domain false) (Rows.ffgClashSpec.post enc Tryz.prog Tryz.f3 false true false false) := by
 refine returnsInHanded_of_change (C := Tryz.checked) own started (by kernel_rfl) Tryz.func3
  (ChangeSpec.witness6 (enc := enc) (C := Tryz.checked) false ⟨#[], #[.agg (pointA zeroPt), .slice none 0 0, .slice none 0 0, .slice none 0 0, .int .u64 0], []⟩ 8 (by kernel_rfl) (by kernel_rfl) (by kernel_rfl) (by kernel_rfl)) ?_
 intro W base args ds gs before hval hW _ _
 exact contract H enc W args ds gs before hval hW

theorem named : Tryz.pinned.checked.prog.funcNamed Rows.ffgClashRow.func = some 3 := by kernel_rfl
theorem shut : joinedFacts Tryz.pinned.checked.prog 3 Tryz.f3 Rows.ffgClashSpec Rows.ffgClashRow = true := by kernel_rfl
theorem inst : Tryz.f3.isInstance Tryz.pinned.checked.prog Rows.ffgClashRow.origin Rows.ffgClashRow.targs := of_decide_eq_true (by kernel_rfl)
theorem wrap : Tryz.f3.isWrapper Tryz.pinned.checked.prog Rows.ffgClashRow.wrapper Rows.ffgClashRow.mainSum := by unfold Func.isWrapper; first | (rw [if_pos (by decide +kernel)]; kernel_rfl) | (rw [if_neg (by decide +kernel)]; exact ⟨rfl, rfl⟩)
theorem holds : Rows.FfgClashSaid :=
 OpenClaim.holds_of_wide (p := Tryz.pinned) (s := Rows.ffgClashSpec) (c := Rows.ffgClashRow) 3 Tryz.f3 rfl rfl rfl rfl rfl rfl rfl ⟨rfl, rfl, rfl, rfl, rfl⟩ rfl rfl rfl rfl rfl named Tryz.func3 shut inst wrap
  (fun os started H enc _ => lifted os started H enc)
end Go.Proofs.YthdjhbiigmcecaaGreat.ffgClash

