/-
  No cell of these rows narrows 'for every input' (looked for: loops, veiled, ifaces, maps, wideKeys, modest, calm, conditions, laid).
  DERIVED. THE GIVEN ROWS OF THIS SEAT. 10 by the template 'for every input the law returns true; each argument reads behind the call as it read before'; 0 by the template 'total and deterministic' (their statements: YthdjhbiigmcecaaTotals.lean).
  GIVEN WITH THE SEED: the statements are not yours to turn. If you find one false, say at which input.
  Laid BY PROGRAM, IN A SANDBOX (cutbox-rows.mjs): the forced cells as the released guide's own fill.sh prints them over the translation 4f971e62b96fe494… (all of the seat's roots in one cut). By AI agents, Wed Nov 11 2026. No macro, syntax, notation, axiom, sorry.
-/
import Derived.Test.YthdjhbiigmcecaaChecked
import GoSem.Claim
import GoSem.ClaimJoined
import GoSem.ClaimMapViews
import Derived.JoinedTies
import Derived.KernelRfl
namespace Go.Proofs.Ythdjhbiigmcecaa
/- THE CELL 'sum', in the pinned program and in every row, IS THE sha256 OF THE DUMP (.gsa) THAT YthdjhbiigmcecaaProg.lean LOADS. Nothing in Lean hashes anything: it is a label: what it is worth is what the hold of that sum in a sandbox is worth. -/
noncomputable def Try.pinned : Pinned := { name := "ythdjhbiigmcecaa", sum := "4f971e62b96fe494e2a4823971b674511dd2f9ebdc0d614f4ccae9cce591b2e4", checked := Try.checked }
namespace Rows
def none {H : Type} : Left H := { results := [], args := [] }

/-- 'landmarklaw15.CertBytes': WHATEVER THE INPUT: true; the input reads as it did. -/
def certBytesSpec : ChangeSpec := { name := "certBytes", fn := fun _ => fun
  | [d1, d2, d3] => { results := [.lit (.bool true)], args := [d1, d2, d3] }
  | _ => none }
def certBytesRow : OpenClaim := { program := "ythdjhbiigmcecaa", sum := "4f971e62b96fe494e2a4823971b674511dd2f9ebdc0d614f4ccae9cce591b2e4", func := "landmark/landmarklaw15.CertBytes", spec := "certBytes", inPlace := ["internal/bytealg.Count", "internal/bytealg.IndexByte", "internal/bytealg.Index", "internal/bytealg.MakeNoZero"], unfollowed := true, recurses := true, named := ["internal/bytealg.MaxLen"], plainKeys := false, apart := false }
def CertBytesSaid : Prop := certBytesRow.holds Try.pinned (OpenSpec.ofChange certBytesSpec)

/-- ITS FALSE NEIGHBOUR: 'it returns false'. Refute it at one input. -/
def certBytesWrong : ChangeSpec := { name := "certBytes", fn := fun _ => fun
  | [d1, d2, d3] => { results := [.lit (.bool false)], args := [d1, d2, d3] }
  | _ => none }
def CertBytesWrongFalsely : Prop := certBytesRow.holds Try.pinned (OpenSpec.ofChange certBytesWrong)

/-- 'landmarklaw09.CodecNames': WHATEVER THE INPUT: true; the input reads as it did. -/
def codecNamesSpec : ChangeSpec := { name := "codecNames", fn := fun _ => fun
  | [d1, d2] => { results := [.lit (.bool true)], args := [d1, d2] }
  | _ => none }
def codecNamesRow : OpenClaim := { program := "ythdjhbiigmcecaa", sum := "4f971e62b96fe494e2a4823971b674511dd2f9ebdc0d614f4ccae9cce591b2e4", func := "landmark/landmarklaw09.CodecNames", spec := "codecNames", inPlace := ["internal/bytealg.Count", "internal/bytealg.IndexByte", "internal/bytealg.Index", "internal/bytealg.MakeNoZero"], unfollowed := true, recurses := true, named := ["internal/bytealg.MaxLen"], plainKeys := false, apart := false }
def CodecNamesSaid : Prop := codecNamesRow.holds Try.pinned (OpenSpec.ofChange codecNamesSpec)

/-- ITS FALSE NEIGHBOUR: 'it returns false'. Refute it at one input. -/
def codecNamesWrong : ChangeSpec := { name := "codecNames", fn := fun _ => fun
  | [d1, d2] => { results := [.lit (.bool false)], args := [d1, d2] }
  | _ => none }
def CodecNamesWrongFalsely : Prop := codecNamesRow.holds Try.pinned (OpenSpec.ofChange codecNamesWrong)

/-- 'landmarklaw10.ChainOrder': WHATEVER THE INPUT: true; the input reads as it did. -/
def chainOrderSpec : ChangeSpec := { name := "chainOrder", fn := fun _ => fun
  | [d1, d2, d3] => { results := [.lit (.bool true)], args := [d1, d2, d3] }
  | _ => none }
def chainOrderRow : OpenClaim := { program := "ythdjhbiigmcecaa", sum := "4f971e62b96fe494e2a4823971b674511dd2f9ebdc0d614f4ccae9cce591b2e4", func := "landmark/landmarklaw10.ChainOrder", spec := "chainOrder", inPlace := ["internal/bytealg.Count", "internal/bytealg.IndexByte", "internal/bytealg.Index", "internal/bytealg.MakeNoZero"], unfollowed := true, recurses := true, named := ["internal/bytealg.MaxLen"], plainKeys := false, apart := false }
def ChainOrderSaid : Prop := chainOrderRow.holds Try.pinned (OpenSpec.ofChange chainOrderSpec)

/-- ITS FALSE NEIGHBOUR: 'it returns false'. Refute it at one input. -/
def chainOrderWrong : ChangeSpec := { name := "chainOrder", fn := fun _ => fun
  | [d1, d2, d3] => { results := [.lit (.bool false)], args := [d1, d2, d3] }
  | _ => none }
def ChainOrderWrongFalsely : Prop := chainOrderRow.holds Try.pinned (OpenSpec.ofChange chainOrderWrong)

/-- 'landmarklaw11.RegistryNext': WHATEVER THE INPUT: true; the input reads as it did. -/
def registryNextSpec : ChangeSpec := { name := "registryNext", fn := fun _ => fun
  | [d1, d2, d3] => { results := [.lit (.bool true)], args := [d1, d2, d3] }
  | _ => none }
def registryNextRow : OpenClaim := { program := "ythdjhbiigmcecaa", sum := "4f971e62b96fe494e2a4823971b674511dd2f9ebdc0d614f4ccae9cce591b2e4", func := "landmark/landmarklaw11.RegistryNext", spec := "registryNext", inPlace := ["internal/bytealg.Count", "internal/bytealg.IndexByte", "internal/bytealg.Index", "internal/bytealg.MakeNoZero"], unfollowed := true, recurses := true, named := ["internal/bytealg.MaxLen"], plainKeys := false, apart := false }
def RegistryNextSaid : Prop := registryNextRow.holds Try.pinned (OpenSpec.ofChange registryNextSpec)

/-- ITS FALSE NEIGHBOUR: 'it returns false'. Refute it at one input. -/
def registryNextWrong : ChangeSpec := { name := "registryNext", fn := fun _ => fun
  | [d1, d2, d3] => { results := [.lit (.bool false)], args := [d1, d2, d3] }
  | _ => none }
def RegistryNextWrongFalsely : Prop := registryNextRow.holds Try.pinned (OpenSpec.ofChange registryNextWrong)

/-- 'landmarklaw10.ChainDeep': WHATEVER THE INPUT: true; the input reads as it did. -/
def chainDeepSpec : ChangeSpec := { name := "chainDeep", fn := fun _ => fun
  | [d1, d2, d3, d4, d5, d6, d7] => { results := [.lit (.bool true)], args := [d1, d2, d3, d4, d5, d6, d7] }
  | _ => none }
def chainDeepRow : OpenClaim := { program := "ythdjhbiigmcecaa", sum := "4f971e62b96fe494e2a4823971b674511dd2f9ebdc0d614f4ccae9cce591b2e4", func := "landmark/landmarklaw10.ChainDeep", spec := "chainDeep", inPlace := ["internal/bytealg.Count", "internal/bytealg.IndexByte", "internal/bytealg.Index", "internal/bytealg.MakeNoZero"], unfollowed := true, recurses := true, named := ["internal/bytealg.MaxLen"], plainKeys := false, apart := false }
def ChainDeepSaid : Prop := chainDeepRow.holds Try.pinned (OpenSpec.ofChange chainDeepSpec)

/-- ITS FALSE NEIGHBOUR: 'it returns false'. Refute it at one input. -/
def chainDeepWrong : ChangeSpec := { name := "chainDeep", fn := fun _ => fun
  | [d1, d2, d3, d4, d5, d6, d7] => { results := [.lit (.bool false)], args := [d1, d2, d3, d4, d5, d6, d7] }
  | _ => none }
def ChainDeepWrongFalsely : Prop := chainDeepRow.holds Try.pinned (OpenSpec.ofChange chainDeepWrong)

/-- 'landmarklaw10.ChainApart': WHATEVER THE INPUT: true; the input reads as it did. -/
def chainApartSpec : ChangeSpec := { name := "chainApart", fn := fun _ => fun
  | [d1, d2] => { results := [.lit (.bool true)], args := [d1, d2] }
  | _ => none }
def chainApartRow : OpenClaim := { program := "ythdjhbiigmcecaa", sum := "4f971e62b96fe494e2a4823971b674511dd2f9ebdc0d614f4ccae9cce591b2e4", func := "landmark/landmarklaw10.ChainApart", spec := "chainApart", inPlace := ["internal/bytealg.Count", "internal/bytealg.IndexByte", "internal/bytealg.Index", "internal/bytealg.MakeNoZero", "maps.clone"], unfollowed := true, recurses := true, named := ["internal/bytealg.MaxLen"], plainKeys := false, apart := false }
def ChainApartSaid : Prop := chainApartRow.holds Try.pinned (OpenSpec.ofChange chainApartSpec)

/-- ITS FALSE NEIGHBOUR: 'it returns false'. Refute it at one input. -/
def chainApartWrong : ChangeSpec := { name := "chainApart", fn := fun _ => fun
  | [d1, d2] => { results := [.lit (.bool false)], args := [d1, d2] }
  | _ => none }
def ChainApartWrongFalsely : Prop := chainApartRow.holds Try.pinned (OpenSpec.ofChange chainApartWrong)

/-- 'landmarklaw10.ChainPlays': WHATEVER THE INPUT: true; the input reads as it did. -/
def chainPlaysSpec : ChangeSpec := { name := "chainPlays", fn := fun _ => fun
  | [d1, d2] => { results := [.lit (.bool true)], args := [d1, d2] }
  | _ => none }
def chainPlaysRow : OpenClaim := { program := "ythdjhbiigmcecaa", sum := "4f971e62b96fe494e2a4823971b674511dd2f9ebdc0d614f4ccae9cce591b2e4", func := "landmark/landmarklaw10.ChainPlays", spec := "chainPlays", inPlace := ["internal/bytealg.Count", "internal/bytealg.IndexByte", "internal/bytealg.Index", "internal/bytealg.MakeNoZero"], unfollowed := true, recurses := true, named := ["internal/bytealg.MaxLen"], plainKeys := false, apart := false }
def ChainPlaysSaid : Prop := chainPlaysRow.holds Try.pinned (OpenSpec.ofChange chainPlaysSpec)

/-- ITS FALSE NEIGHBOUR: 'it returns false'. Refute it at one input. -/
def chainPlaysWrong : ChangeSpec := { name := "chainPlays", fn := fun _ => fun
  | [d1, d2] => { results := [.lit (.bool false)], args := [d1, d2] }
  | _ => none }
def ChainPlaysWrongFalsely : Prop := chainPlaysRow.holds Try.pinned (OpenSpec.ofChange chainPlaysWrong)

/-- 'landmarklaw10.ChainNil': WHATEVER THE INPUT: true; the input reads as it did. -/
def chainNilSpec : ChangeSpec := { name := "chainNil", fn := fun _ => fun
  | [] => { results := [.lit (.bool true)], args := [] }
  | _ => none }
def chainNilRow : OpenClaim := { program := "ythdjhbiigmcecaa", sum := "4f971e62b96fe494e2a4823971b674511dd2f9ebdc0d614f4ccae9cce591b2e4", func := "landmark/landmarklaw10.ChainNil", spec := "chainNil", inPlace := ["internal/bytealg.Count", "internal/bytealg.IndexByte", "internal/bytealg.Index", "internal/bytealg.MakeNoZero", "maps.clone"], unfollowed := true, recurses := true, named := ["internal/bytealg.MaxLen"], plainKeys := false, apart := false }
def ChainNilSaid : Prop := chainNilRow.holds Try.pinned (OpenSpec.ofChange chainNilSpec)

/-- ITS FALSE NEIGHBOUR: 'it returns false'. Refute it at one input. -/
def chainNilWrong : ChangeSpec := { name := "chainNil", fn := fun _ => fun
  | [] => { results := [.lit (.bool false)], args := [] }
  | _ => none }
def ChainNilWrongFalsely : Prop := chainNilRow.holds Try.pinned (OpenSpec.ofChange chainNilWrong)

/-- 'landmarklaw15.CertOthers': WHATEVER THE INPUT: true; the input reads as it did. -/
def certOthersSpec : ChangeSpec := { name := "certOthers", fn := fun _ => fun
  | [d1, d2, d3, d4] => { results := [.lit (.bool true)], args := [d1, d2, d3, d4] }
  | _ => none }
def certOthersRow : OpenClaim := { program := "ythdjhbiigmcecaa", sum := "4f971e62b96fe494e2a4823971b674511dd2f9ebdc0d614f4ccae9cce591b2e4", func := "landmark/landmarklaw15.CertOthers", spec := "certOthers", inPlace := ["internal/bytealg.Count", "internal/bytealg.IndexByte", "internal/bytealg.Index", "internal/bytealg.MakeNoZero"], unfollowed := true, recurses := true, named := ["internal/bytealg.MaxLen"], plainKeys := false, apart := false }
def CertOthersSaid : Prop := certOthersRow.holds Try.pinned (OpenSpec.ofChange certOthersSpec)

/-- ITS FALSE NEIGHBOUR: 'it returns false'. Refute it at one input. -/
def certOthersWrong : ChangeSpec := { name := "certOthers", fn := fun _ => fun
  | [d1, d2, d3, d4] => { results := [.lit (.bool false)], args := [d1, d2, d3, d4] }
  | _ => none }
def CertOthersWrongFalsely : Prop := certOthersRow.holds Try.pinned (OpenSpec.ofChange certOthersWrong)

/-- 'landmarklaw15.CertGrows': WHATEVER THE INPUT: true; the input reads as it did. -/
def certGrowsSpec : ChangeSpec := { name := "certGrows", fn := fun _ => fun
  | [d1, d2, d3, d4] => { results := [.lit (.bool true)], args := [d1, d2, d3, d4] }
  | _ => none }
def certGrowsRow : OpenClaim := { program := "ythdjhbiigmcecaa", sum := "4f971e62b96fe494e2a4823971b674511dd2f9ebdc0d614f4ccae9cce591b2e4", func := "landmark/landmarklaw15.CertGrows", spec := "certGrows", inPlace := ["internal/bytealg.Count", "internal/bytealg.IndexByte", "internal/bytealg.Index", "internal/bytealg.MakeNoZero"], unfollowed := true, recurses := true, named := ["internal/bytealg.MaxLen"], plainKeys := false, apart := false }
def CertGrowsSaid : Prop := certGrowsRow.holds Try.pinned (OpenSpec.ofChange certGrowsSpec)

/-- ITS FALSE NEIGHBOUR: 'it returns false'. Refute it at one input. -/
def certGrowsWrong : ChangeSpec := { name := "certGrows", fn := fun _ => fun
  | [d1, d2, d3, d4] => { results := [.lit (.bool false)], args := [d1, d2, d3, d4] }
  | _ => none }
def CertGrowsWrongFalsely : Prop := certGrowsRow.holds Try.pinned (OpenSpec.ofChange certGrowsWrong)

/- THE SECOND FORM. 'bulk': how many values and letters a reading holds, each counted each time it is reached (what is shared counts as often as it is met; a slice's spare places count too). A statement '..UptoSaid' is the law's where the arguments, and the package variables that the reading takes, are together of bulk at most 1048576: NARROWER than '..Said'. Prove '..Said' where nothing that the law and all that it calls make is longer than what came in: it says more and counts as full. Else prove '..UptoSaid'. A law counts once. -/
mutual
def uptoBulk {H : Type} : DataW H → Nat
  | .lit (.string bytes) => bytes.length + 1
  | .lit _ => 1
  | .nil => 1
  | .ptr d => uptoBulk d + 1
  | .slice elems spare => uptoBulkAll elems + uptoBulkAll spare + 1
  | .agg parts => uptoBulkAll parts + 1
  | .iface _ d => uptoBulk d + 1
  | .map entries => uptoBulkEntries entries + 1
  | .held _ => 1
def uptoBulkAll {H : Type} : List (DataW H) → Nat
  | [] => 0
  | d :: r => uptoBulk d + uptoBulkAll r
def uptoBulkEntries {H : Type} : List (Lit × DataW H) → Nat
  | [] => 0
  | x :: r => uptoBulkEntry x + uptoBulkEntries r
def uptoBulkEntry {H : Type} : Lit × DataW H → Nat
  | (.string bytes, d) => bytes.length + uptoBulk d + 1
  | (_, d) => uptoBulk d + 1
 end
def uptoSmall : (H : Type) → List (DataW H) → Bool := fun _ ds => decide (uptoBulkAll ds ≤ 1048576)
def OpenSpec.upto (s : _root_.Go.ChangeSpec) : _root_.Go.OpenSpec := { _root_.Go.OpenSpec.ofChange s with cond := some uptoSmall }

/-- 'landmarklaw15.CertBytes', WHERE WHAT IT READS IS OF BULK AT MOST 1048576: true; the input reads as it did. -/
def certBytesUptoRow : OpenClaim := { program := "ythdjhbiigmcecaa", sum := "4f971e62b96fe494e2a4823971b674511dd2f9ebdc0d614f4ccae9cce591b2e4", func := "landmark/landmarklaw15.CertBytes", spec := "certBytes", inPlace := ["internal/bytealg.Count", "internal/bytealg.IndexByte", "internal/bytealg.Index", "internal/bytealg.MakeNoZero"], unfollowed := true, recurses := true, named := ["internal/bytealg.MaxLen"], plainKeys := false, apart := false, narrowed := true }
def CertBytesUptoSaid : Prop := certBytesUptoRow.holds Try.pinned (OpenSpec.upto certBytesSpec)

/-- 'landmarklaw09.CodecNames', WHERE WHAT IT READS IS OF BULK AT MOST 1048576: true; the input reads as it did. -/
def codecNamesUptoRow : OpenClaim := { program := "ythdjhbiigmcecaa", sum := "4f971e62b96fe494e2a4823971b674511dd2f9ebdc0d614f4ccae9cce591b2e4", func := "landmark/landmarklaw09.CodecNames", spec := "codecNames", inPlace := ["internal/bytealg.Count", "internal/bytealg.IndexByte", "internal/bytealg.Index", "internal/bytealg.MakeNoZero"], unfollowed := true, recurses := true, named := ["internal/bytealg.MaxLen"], plainKeys := false, apart := false, narrowed := true }
def CodecNamesUptoSaid : Prop := codecNamesUptoRow.holds Try.pinned (OpenSpec.upto codecNamesSpec)

/-- 'landmarklaw10.ChainOrder', WHERE WHAT IT READS IS OF BULK AT MOST 1048576: true; the input reads as it did. -/
def chainOrderUptoRow : OpenClaim := { program := "ythdjhbiigmcecaa", sum := "4f971e62b96fe494e2a4823971b674511dd2f9ebdc0d614f4ccae9cce591b2e4", func := "landmark/landmarklaw10.ChainOrder", spec := "chainOrder", inPlace := ["internal/bytealg.Count", "internal/bytealg.IndexByte", "internal/bytealg.Index", "internal/bytealg.MakeNoZero"], unfollowed := true, recurses := true, named := ["internal/bytealg.MaxLen"], plainKeys := false, apart := false, narrowed := true }
def ChainOrderUptoSaid : Prop := chainOrderUptoRow.holds Try.pinned (OpenSpec.upto chainOrderSpec)

/-- 'landmarklaw11.RegistryNext', WHERE WHAT IT READS IS OF BULK AT MOST 1048576: true; the input reads as it did. -/
def registryNextUptoRow : OpenClaim := { program := "ythdjhbiigmcecaa", sum := "4f971e62b96fe494e2a4823971b674511dd2f9ebdc0d614f4ccae9cce591b2e4", func := "landmark/landmarklaw11.RegistryNext", spec := "registryNext", inPlace := ["internal/bytealg.Count", "internal/bytealg.IndexByte", "internal/bytealg.Index", "internal/bytealg.MakeNoZero"], unfollowed := true, recurses := true, named := ["internal/bytealg.MaxLen"], plainKeys := false, apart := false, narrowed := true }
def RegistryNextUptoSaid : Prop := registryNextUptoRow.holds Try.pinned (OpenSpec.upto registryNextSpec)

/-- 'landmarklaw10.ChainDeep', WHERE WHAT IT READS IS OF BULK AT MOST 1048576: true; the input reads as it did. -/
def chainDeepUptoRow : OpenClaim := { program := "ythdjhbiigmcecaa", sum := "4f971e62b96fe494e2a4823971b674511dd2f9ebdc0d614f4ccae9cce591b2e4", func := "landmark/landmarklaw10.ChainDeep", spec := "chainDeep", inPlace := ["internal/bytealg.Count", "internal/bytealg.IndexByte", "internal/bytealg.Index", "internal/bytealg.MakeNoZero"], unfollowed := true, recurses := true, named := ["internal/bytealg.MaxLen"], plainKeys := false, apart := false, narrowed := true }
def ChainDeepUptoSaid : Prop := chainDeepUptoRow.holds Try.pinned (OpenSpec.upto chainDeepSpec)

/-- 'landmarklaw10.ChainApart', WHERE WHAT IT READS IS OF BULK AT MOST 1048576: true; the input reads as it did. -/
def chainApartUptoRow : OpenClaim := { program := "ythdjhbiigmcecaa", sum := "4f971e62b96fe494e2a4823971b674511dd2f9ebdc0d614f4ccae9cce591b2e4", func := "landmark/landmarklaw10.ChainApart", spec := "chainApart", inPlace := ["internal/bytealg.Count", "internal/bytealg.IndexByte", "internal/bytealg.Index", "internal/bytealg.MakeNoZero", "maps.clone"], unfollowed := true, recurses := true, named := ["internal/bytealg.MaxLen"], plainKeys := false, apart := false, narrowed := true }
def ChainApartUptoSaid : Prop := chainApartUptoRow.holds Try.pinned (OpenSpec.upto chainApartSpec)

/-- 'landmarklaw10.ChainPlays', WHERE WHAT IT READS IS OF BULK AT MOST 1048576: true; the input reads as it did. -/
def chainPlaysUptoRow : OpenClaim := { program := "ythdjhbiigmcecaa", sum := "4f971e62b96fe494e2a4823971b674511dd2f9ebdc0d614f4ccae9cce591b2e4", func := "landmark/landmarklaw10.ChainPlays", spec := "chainPlays", inPlace := ["internal/bytealg.Count", "internal/bytealg.IndexByte", "internal/bytealg.Index", "internal/bytealg.MakeNoZero"], unfollowed := true, recurses := true, named := ["internal/bytealg.MaxLen"], plainKeys := false, apart := false, narrowed := true }
def ChainPlaysUptoSaid : Prop := chainPlaysUptoRow.holds Try.pinned (OpenSpec.upto chainPlaysSpec)

/-- 'landmarklaw10.ChainNil', WHERE WHAT IT READS IS OF BULK AT MOST 1048576: true; the input reads as it did. -/
def chainNilUptoRow : OpenClaim := { program := "ythdjhbiigmcecaa", sum := "4f971e62b96fe494e2a4823971b674511dd2f9ebdc0d614f4ccae9cce591b2e4", func := "landmark/landmarklaw10.ChainNil", spec := "chainNil", inPlace := ["internal/bytealg.Count", "internal/bytealg.IndexByte", "internal/bytealg.Index", "internal/bytealg.MakeNoZero", "maps.clone"], unfollowed := true, recurses := true, named := ["internal/bytealg.MaxLen"], plainKeys := false, apart := false, narrowed := true }
def ChainNilUptoSaid : Prop := chainNilUptoRow.holds Try.pinned (OpenSpec.upto chainNilSpec)

/-- 'landmarklaw15.CertOthers', WHERE WHAT IT READS IS OF BULK AT MOST 1048576: true; the input reads as it did. -/
def certOthersUptoRow : OpenClaim := { program := "ythdjhbiigmcecaa", sum := "4f971e62b96fe494e2a4823971b674511dd2f9ebdc0d614f4ccae9cce591b2e4", func := "landmark/landmarklaw15.CertOthers", spec := "certOthers", inPlace := ["internal/bytealg.Count", "internal/bytealg.IndexByte", "internal/bytealg.Index", "internal/bytealg.MakeNoZero"], unfollowed := true, recurses := true, named := ["internal/bytealg.MaxLen"], plainKeys := false, apart := false, narrowed := true }
def CertOthersUptoSaid : Prop := certOthersUptoRow.holds Try.pinned (OpenSpec.upto certOthersSpec)

/-- 'landmarklaw15.CertGrows', WHERE WHAT IT READS IS OF BULK AT MOST 1048576: true; the input reads as it did. -/
def certGrowsUptoRow : OpenClaim := { program := "ythdjhbiigmcecaa", sum := "4f971e62b96fe494e2a4823971b674511dd2f9ebdc0d614f4ccae9cce591b2e4", func := "landmark/landmarklaw15.CertGrows", spec := "certGrows", inPlace := ["internal/bytealg.Count", "internal/bytealg.IndexByte", "internal/bytealg.Index", "internal/bytealg.MakeNoZero"], unfollowed := true, recurses := true, named := ["internal/bytealg.MaxLen"], plainKeys := false, apart := false, narrowed := true }
def CertGrowsUptoSaid : Prop := certGrowsUptoRow.holds Try.pinned (OpenSpec.upto certGrowsSpec)

end Rows
end Go.Proofs.Ythdjhbiigmcecaa
