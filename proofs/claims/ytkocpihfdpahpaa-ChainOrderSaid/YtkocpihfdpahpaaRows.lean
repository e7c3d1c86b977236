/-
  No cell of these rows narrows 'for every input' (looked for: loops, veiled, ifaces, maps, wideKeys, modest, calm, conditions, laid).
  DERIVED. THE GIVEN ROWS OF THIS SEAT. 13 by the template 'for every input the law returns true; each argument reads behind the call as it read before'; 0 by the template 'total and deterministic' (their statements: YtkocpihfdpahpaaTotals.lean).
  GIVEN WITH THE SEED: the statements are not yours to turn. If you find one false, say at which input.
  Laid BY PROGRAM, IN A SANDBOX (cutbox-rows.mjs): the forced cells as the released guide's own fill.sh prints them over the translation 3df26724e32dc3e0… (all of the seat's roots in one cut). By AI agents, Wed Nov 11 2026. No macro, syntax, notation, axiom, sorry.
-/
import Derived.Test.YtkocpihfdpahpaaChecked
import GoSem.Claim
import GoSem.ClaimJoined
import GoSem.ClaimMapViews
import Derived.JoinedTies
import Derived.KernelRfl
namespace Go.Proofs.Ytkocpihfdpahpaa
/- THE CELL 'sum', in the pinned program and in every row, IS THE sha256 OF THE DUMP (.gsa) THAT YtkocpihfdpahpaaProg.lean LOADS. Nothing in Lean hashes anything: it is a label: what it is worth is what the hold of that sum in a sandbox is worth. -/
noncomputable def Try.pinned : Pinned := { name := "ytkocpihfdpahpaa", sum := "3df26724e32dc3e0ec8a7707273fb2fa8ae0d159d77a0d0f78dbdbd2fba16733", checked := Try.checked }
namespace Rows
def none {H : Type} : Left H := { results := [], args := [] }

/-- 'landmarklaw15.CertBytes': WHATEVER THE INPUT: true; the input reads as it did. -/
def certBytesSpec : ChangeSpec := { name := "certBytes", fn := fun _ => fun
  | [d1, d2, d3] => { results := [.lit (.bool true)], args := [d1, d2, d3] }
  | _ => none }
def certBytesRow : OpenClaim := { program := "ytkocpihfdpahpaa", sum := "3df26724e32dc3e0ec8a7707273fb2fa8ae0d159d77a0d0f78dbdbd2fba16733", func := "landmark/landmarklaw15.CertBytes", spec := "certBytes", inPlace := ["internal/bytealg.Count", "internal/bytealg.IndexByte", "internal/bytealg.Index", "internal/bytealg.MakeNoZero"], unfollowed := true, recurses := true, named := ["internal/bytealg.MaxLen"], plainKeys := false, apart := false }
def CertBytesSaid : Prop := certBytesRow.holds Try.pinned (OpenSpec.ofChange certBytesSpec)

/-- ITS FALSE NEIGHBOUR: 'it returns false'. Refute it at one input. -/
def certBytesWrong : ChangeSpec := { name := "certBytes", fn := fun _ => fun
  | [d1, d2, d3] => { results := [.lit (.bool false)], args := [d1, d2, d3] }
  | _ => none }
def CertBytesWrongFalsely : Prop := certBytesRow.holds Try.pinned (OpenSpec.ofChange certBytesWrong)

/-- 'landmarklaw09.CodecNames': WHATEVER THE INPUT: true; the input reads as it did. -/
def codecNamesSpec : ChangeSpec := { name := "codecNames", fn := fun _ => fun
  | [d1, d2] => { results := [.lit (.bool true)], args := [d1, d2] }
  | _ => none }
def codecNamesRow : OpenClaim := { program := "ytkocpihfdpahpaa", sum := "3df26724e32dc3e0ec8a7707273fb2fa8ae0d159d77a0d0f78dbdbd2fba16733", func := "landmark/landmarklaw09.CodecNames", spec := "codecNames", inPlace := ["internal/bytealg.Count", "internal/bytealg.IndexByte", "internal/bytealg.Index", "internal/bytealg.MakeNoZero"], unfollowed := true, recurses := true, named := ["internal/bytealg.MaxLen"], plainKeys := false, apart := false }
def CodecNamesSaid : Prop := codecNamesRow.holds Try.pinned (OpenSpec.ofChange codecNamesSpec)

/-- ITS FALSE NEIGHBOUR: 'it returns false'. Refute it at one input. -/
def codecNamesWrong : ChangeSpec := { name := "codecNames", fn := fun _ => fun
  | [d1, d2] => { results := [.lit (.bool false)], args := [d1, d2] }
  | _ => none }
def CodecNamesWrongFalsely : Prop := codecNamesRow.holds Try.pinned (OpenSpec.ofChange codecNamesWrong)

/-- 'landmarklaw10.ChainOrder': WHATEVER THE INPUT: true; the input reads as it did. -/
def chainOrderSpec : ChangeSpec := { name := "chainOrder", fn := fun _ => fun
  | [d1, d2, d3] => { results := [.lit (.bool true)], args := [d1, d2, d3] }
  | _ => none }
def chainOrderRow : OpenClaim := { program := "ytkocpihfdpahpaa", sum := "3df26724e32dc3e0ec8a7707273fb2fa8ae0d159d77a0d0f78dbdbd2fba16733", func := "landmark/landmarklaw10.ChainOrder", spec := "chainOrder", inPlace := ["internal/bytealg.Count", "internal/bytealg.IndexByte", "internal/bytealg.Index", "internal/bytealg.MakeNoZero"], unfollowed := true, recurses := true, named := ["internal/bytealg.MaxLen"], plainKeys := false, apart := false }
def ChainOrderSaid : Prop := chainOrderRow.holds Try.pinned (OpenSpec.ofChange chainOrderSpec)

/-- ITS FALSE NEIGHBOUR: 'it returns false'. Refute it at one input. -/
def chainOrderWrong : ChangeSpec := { name := "chainOrder", fn := fun _ => fun
  | [d1, d2, d3] => { results := [.lit (.bool false)], args := [d1, d2, d3] }
  | _ => none }
def ChainOrderWrongFalsely : Prop := chainOrderRow.holds Try.pinned (OpenSpec.ofChange chainOrderWrong)

/-- 'landmarklaw10.ChainApart': WHATEVER THE INPUT: true; the input reads as it did. -/
def chainApartSpec : ChangeSpec := { name := "chainApart", fn := fun _ => fun
  | [d1, d2] => { results := [.lit (.bool true)], args := [d1, d2] }
  | _ => none }
def chainApartRow : OpenClaim := { program := "ytkocpihfdpahpaa", sum := "3df26724e32dc3e0ec8a7707273fb2fa8ae0d159d77a0d0f78dbdbd2fba16733", func := "landmark/landmarklaw10.ChainApart", spec := "chainApart", inPlace := ["internal/bytealg.Count", "internal/bytealg.IndexByte", "internal/bytealg.Index", "internal/bytealg.MakeNoZero", "maps.clone"], unfollowed := true, recurses := true, named := ["internal/bytealg.MaxLen"], plainKeys := false, apart := false }
def ChainApartSaid : Prop := chainApartRow.holds Try.pinned (OpenSpec.ofChange chainApartSpec)

/-- ITS FALSE NEIGHBOUR: 'it returns false'. Refute it at one input. -/
def chainApartWrong : ChangeSpec := { name := "chainApart", fn := fun _ => fun
  | [d1, d2] => { results := [.lit (.bool false)], args := [d1, d2] }
  | _ => none }
def ChainApartWrongFalsely : Prop := chainApartRow.holds Try.pinned (OpenSpec.ofChange chainApartWrong)

/-- 'landmarklaw10.ChainUnder': WHATEVER THE INPUT: true; the input reads as it did. -/
def chainUnderSpec : ChangeSpec := { name := "chainUnder", fn := fun _ => fun
  | [d1, d2, d3, d4] => { results := [.lit (.bool true)], args := [d1, d2, d3, d4] }
  | _ => none }
def chainUnderRow : OpenClaim := { program := "ytkocpihfdpahpaa", sum := "3df26724e32dc3e0ec8a7707273fb2fa8ae0d159d77a0d0f78dbdbd2fba16733", func := "landmark/landmarklaw10.ChainUnder", spec := "chainUnder", inPlace := ["internal/bytealg.Count", "internal/bytealg.IndexByte", "internal/bytealg.Index", "internal/bytealg.MakeNoZero"], unfollowed := true, recurses := true, named := ["internal/bytealg.MaxLen"], plainKeys := false, apart := false }
def ChainUnderSaid : Prop := chainUnderRow.holds Try.pinned (OpenSpec.ofChange chainUnderSpec)

/-- ITS FALSE NEIGHBOUR: 'it returns false'. Refute it at one input. -/
def chainUnderWrong : ChangeSpec := { name := "chainUnder", fn := fun _ => fun
  | [d1, d2, d3, d4] => { results := [.lit (.bool false)], args := [d1, d2, d3, d4] }
  | _ => none }
def ChainUnderWrongFalsely : Prop := chainUnderRow.holds Try.pinned (OpenSpec.ofChange chainUnderWrong)

/-- 'landmarklaw11.RegistryNext': WHATEVER THE INPUT: true; the input reads as it did. -/
def registryNextSpec : ChangeSpec := { name := "registryNext", fn := fun _ => fun
  | [d1, d2, d3] => { results := [.lit (.bool true)], args := [d1, d2, d3] }
  | _ => none }
def registryNextRow : OpenClaim := { program := "ytkocpihfdpahpaa", sum := "3df26724e32dc3e0ec8a7707273fb2fa8ae0d159d77a0d0f78dbdbd2fba16733", func := "landmark/landmarklaw11.RegistryNext", spec := "registryNext", inPlace := ["internal/bytealg.Count", "internal/bytealg.IndexByte", "internal/bytealg.Index", "internal/bytealg.MakeNoZero"], unfollowed := true, recurses := true, named := ["internal/bytealg.MaxLen"], plainKeys := false, apart := false }
def RegistryNextSaid : Prop := registryNextRow.holds Try.pinned (OpenSpec.ofChange registryNextSpec)

/-- ITS FALSE NEIGHBOUR: 'it returns false'. Refute it at one input. -/
def registryNextWrong : ChangeSpec := { name := "registryNext", fn := fun _ => fun
  | [d1, d2, d3] => { results := [.lit (.bool false)], args := [d1, d2, d3] }
  | _ => none }
def RegistryNextWrongFalsely : Prop := registryNextRow.holds Try.pinned (OpenSpec.ofChange registryNextWrong)

/-- 'landmarklaw11.RegistryPlays': WHATEVER THE INPUT: true; the input reads as it did. -/
def registryPlaysSpec : ChangeSpec := { name := "registryPlays", fn := fun _ => fun
  | [d1, d2] => { results := [.lit (.bool true)], args := [d1, d2] }
  | _ => none }
def registryPlaysRow : OpenClaim := { program := "ytkocpihfdpahpaa", sum := "3df26724e32dc3e0ec8a7707273fb2fa8ae0d159d77a0d0f78dbdbd2fba16733", func := "landmark/landmarklaw11.RegistryPlays", spec := "registryPlays", inPlace := ["internal/bytealg.Count", "internal/bytealg.IndexByte", "internal/bytealg.Index", "internal/bytealg.MakeNoZero"], unfollowed := true, recurses := true, named := ["internal/bytealg.MaxLen"], plainKeys := false, apart := false }
def RegistryPlaysSaid : Prop := registryPlaysRow.holds Try.pinned (OpenSpec.ofChange registryPlaysSpec)

/-- ITS FALSE NEIGHBOUR: 'it returns false'. Refute it at one input. -/
def registryPlaysWrong : ChangeSpec := { name := "registryPlays", fn := fun _ => fun
  | [d1, d2] => { results := [.lit (.bool false)], args := [d1, d2] }
  | _ => none }
def RegistryPlaysWrongFalsely : Prop := registryPlaysRow.holds Try.pinned (OpenSpec.ofChange registryPlaysWrong)

/-- 'landmarklaw11.RegistryChurns': WHATEVER THE INPUT: true; the input reads as it did. -/
def registryChurnsSpec : ChangeSpec := { name := "registryChurns", fn := fun _ => fun
  | [d1, d2] => { results := [.lit (.bool true)], args := [d1, d2] }
  | _ => none }
def registryChurnsRow : OpenClaim := { program := "ytkocpihfdpahpaa", sum := "3df26724e32dc3e0ec8a7707273fb2fa8ae0d159d77a0d0f78dbdbd2fba16733", func := "landmark/landmarklaw11.RegistryChurns", spec := "registryChurns", inPlace := ["internal/bytealg.Count", "internal/bytealg.IndexByte", "internal/bytealg.Index", "internal/bytealg.MakeNoZero"], unfollowed := true, recurses := true, named := ["internal/bytealg.MaxLen"], plainKeys := false, apart := false }
def RegistryChurnsSaid : Prop := registryChurnsRow.holds Try.pinned (OpenSpec.ofChange registryChurnsSpec)

/-- ITS FALSE NEIGHBOUR: 'it returns false'. Refute it at one input. -/
def registryChurnsWrong : ChangeSpec := { name := "registryChurns", fn := fun _ => fun
  | [d1, d2] => { results := [.lit (.bool false)], args := [d1, d2] }
  | _ => none }
def RegistryChurnsWrongFalsely : Prop := registryChurnsRow.holds Try.pinned (OpenSpec.ofChange registryChurnsWrong)

/-- 'landmarklaw11.RegistryStays': WHATEVER THE INPUT: true; the input reads as it did. -/
def registryStaysSpec : ChangeSpec := { name := "registryStays", fn := fun _ => fun
  | [d1, d2] => { results := [.lit (.bool true)], args := [d1, d2] }
  | _ => none }
def registryStaysRow : OpenClaim := { program := "ytkocpihfdpahpaa", sum := "3df26724e32dc3e0ec8a7707273fb2fa8ae0d159d77a0d0f78dbdbd2fba16733", func := "landmark/landmarklaw11.RegistryStays", spec := "registryStays", inPlace := ["internal/bytealg.Count", "internal/bytealg.IndexByte", "internal/bytealg.Index", "internal/bytealg.MakeNoZero"], unfollowed := true, recurses := true, named := ["internal/bytealg.MaxLen"], plainKeys := false, apart := false }
def RegistryStaysSaid : Prop := registryStaysRow.holds Try.pinned (OpenSpec.ofChange registryStaysSpec)

/-- ITS FALSE NEIGHBOUR: 'it returns false'. Refute it at one input. -/
def registryStaysWrong : ChangeSpec := { name := "registryStays", fn := fun _ => fun
  | [d1, d2] => { results := [.lit (.bool false)], args := [d1, d2] }
  | _ => none }
def RegistryStaysWrongFalsely : Prop := registryStaysRow.holds Try.pinned (OpenSpec.ofChange registryStaysWrong)

/-- 'landmarklaw11.RegistryJoins': WHATEVER THE INPUT: true; the input reads as it did. -/
def registryJoinsSpec : ChangeSpec := { name := "registryJoins", fn := fun _ => fun
  | [d1, d2] => { results := [.lit (.bool true)], args := [d1, d2] }
  | _ => none }
def registryJoinsRow : OpenClaim := { program := "ytkocpihfdpahpaa", sum := "3df26724e32dc3e0ec8a7707273fb2fa8ae0d159d77a0d0f78dbdbd2fba16733", func := "landmark/landmarklaw11.RegistryJoins", spec := "registryJoins", inPlace := ["internal/bytealg.Count", "internal/bytealg.IndexByte", "internal/bytealg.Index", "internal/bytealg.MakeNoZero"], unfollowed := true, recurses := true, named := ["internal/bytealg.MaxLen"], plainKeys := false, apart := false }
def RegistryJoinsSaid : Prop := registryJoinsRow.holds Try.pinned (OpenSpec.ofChange registryJoinsSpec)

/-- ITS FALSE NEIGHBOUR: 'it returns false'. Refute it at one input. -/
def registryJoinsWrong : ChangeSpec := { name := "registryJoins", fn := fun _ => fun
  | [d1, d2] => { results := [.lit (.bool false)], args := [d1, d2] }
  | _ => none }
def RegistryJoinsWrongFalsely : Prop := registryJoinsRow.holds Try.pinned (OpenSpec.ofChange registryJoinsWrong)

/-- 'landmarklaw10.ChainPlays': WHATEVER THE INPUT: true; the input reads as it did. -/
def chainPlaysSpec : ChangeSpec := { name := "chainPlays", fn := fun _ => fun
  | [d1, d2] => { results := [.lit (.bool true)], args := [d1, d2] }
  | _ => none }
def chainPlaysRow : OpenClaim := { program := "ytkocpihfdpahpaa", sum := "3df26724e32dc3e0ec8a7707273fb2fa8ae0d159d77a0d0f78dbdbd2fba16733", func := "landmark/landmarklaw10.ChainPlays", spec := "chainPlays", inPlace := ["internal/bytealg.Count", "internal/bytealg.IndexByte", "internal/bytealg.Index", "internal/bytealg.MakeNoZero"], unfollowed := true, recurses := true, named := ["internal/bytealg.MaxLen"], plainKeys := false, apart := false }
def ChainPlaysSaid : Prop := chainPlaysRow.holds Try.pinned (OpenSpec.ofChange chainPlaysSpec)

/-- ITS FALSE NEIGHBOUR: 'it returns false'. Refute it at one input. -/
def chainPlaysWrong : ChangeSpec := { name := "chainPlays", fn := fun _ => fun
  | [d1, d2] => { results := [.lit (.bool false)], args := [d1, d2] }
  | _ => none }
def ChainPlaysWrongFalsely : Prop := chainPlaysRow.holds Try.pinned (OpenSpec.ofChange chainPlaysWrong)

/-- 'landmarklaw10.ChainNil': WHATEVER THE INPUT: true; the input reads as it did. -/
def chainNilSpec : ChangeSpec := { name := "chainNil", fn := fun _ => fun
  | [] => { results := [.lit (.bool true)], args := [] }
  | _ => none }
def chainNilRow : OpenClaim := { program := "ytkocpihfdpahpaa", sum := "3df26724e32dc3e0ec8a7707273fb2fa8ae0d159d77a0d0f78dbdbd2fba16733", func := "landmark/landmarklaw10.ChainNil", spec := "chainNil", inPlace := ["internal/bytealg.Count", "internal/bytealg.IndexByte", "internal/bytealg.Index", "internal/bytealg.MakeNoZero", "maps.clone"], unfollowed := true, recurses := true, named := ["internal/bytealg.MaxLen"], plainKeys := false, apart := false }
def ChainNilSaid : Prop := chainNilRow.holds Try.pinned (OpenSpec.ofChange chainNilSpec)

/-- ITS FALSE NEIGHBOUR: 'it returns false'. Refute it at one input. -/
def chainNilWrong : ChangeSpec := { name := "chainNil", fn := fun _ => fun
  | [] => { results := [.lit (.bool false)], args := [] }
  | _ => none }
def ChainNilWrongFalsely : Prop := chainNilRow.holds Try.pinned (OpenSpec.ofChange chainNilWrong)

/-- 'landmarklaw11.RegistryTells': WHATEVER THE INPUT: true; the input reads as it did. -/
def registryTellsSpec : ChangeSpec := { name := "registryTells", fn := fun _ => fun
  | [d1, d2, d3, d4] => { results := [.lit (.bool true)], args := [d1, d2, d3, d4] }
  | _ => none }
def registryTellsRow : OpenClaim := { program := "ytkocpihfdpahpaa", sum := "3df26724e32dc3e0ec8a7707273fb2fa8ae0d159d77a0d0f78dbdbd2fba16733", func := "landmark/landmarklaw11.RegistryTells", spec := "registryTells", inPlace := ["internal/bytealg.Count", "internal/bytealg.IndexByte", "internal/bytealg.Index", "internal/bytealg.MakeNoZero"], unfollowed := true, recurses := true, named := ["internal/bytealg.MaxLen"], plainKeys := false, apart := false }
def RegistryTellsSaid : Prop := registryTellsRow.holds Try.pinned (OpenSpec.ofChange registryTellsSpec)

/-- ITS FALSE NEIGHBOUR: 'it returns false'. Refute it at one input. -/
def registryTellsWrong : ChangeSpec := { name := "registryTells", fn := fun _ => fun
  | [d1, d2, d3, d4] => { results := [.lit (.bool false)], args := [d1, d2, d3, d4] }
  | _ => none }
def RegistryTellsWrongFalsely : Prop := registryTellsRow.holds Try.pinned (OpenSpec.ofChange registryTellsWrong)

/- THE SECOND FORM. 'bulk': how many values and letters a reading holds, each counted each time it is reached (what is shared counts as often as it is met; a slice's spare places count too). A statement '..UptoSaid' is the law's where the arguments, and the package variables that the reading takes, are together of bulk at most 1048576: NARROWER than '..Said'. Prove '..Said' where nothing that the law and all that it calls make is longer than what came in: it says more and counts as full. Else prove '..UptoSaid'. A law counts once. -/
mutual
def uptoBulk {H : Type} : DataW H → Nat
  | .lit (.string bytes) => bytes.length + 1
  | .lit _ => 1
  | .nil => 1
  | .ptr d => uptoBulk d + 1
  | .slice elems spare => uptoBulkAll elems + uptoBulkAll spare + 1
  | .agg parts => uptoBulkAll parts + 1
  | .iface _ d => uptoBulk d + 1
  | .map entries => uptoBulkEntries entries + 1
  | .held _ => 1
def uptoBulkAll {H : Type} : List (DataW H) → Nat
  | [] => 0
  | d :: r => uptoBulk d + uptoBulkAll r
def uptoBulkEntries {H : Type} : List (Lit × DataW H) → Nat
  | [] => 0
  | x :: r => uptoBulkEntry x + uptoBulkEntries r
def uptoBulkEntry {H : Type} : Lit × DataW H → Nat
  | (.string bytes, d) => bytes.length + uptoBulk d + 1
  | (_, d) => uptoBulk d + 1
 end
def uptoSmall : (H : Type) → List (DataW H) → Bool := fun _ ds => decide (uptoBulkAll ds ≤ 1048576)
def OpenSpec.upto (s : _root_.Go.ChangeSpec) : _root_.Go.OpenSpec := { _root_.Go.OpenSpec.ofChange s with cond := some uptoSmall }

/-- 'landmarklaw15.CertBytes', WHERE WHAT IT READS IS OF BULK AT MOST 1048576: true; the input reads as it did. -/
def certBytesUptoRow : OpenClaim := { program := "ytkocpihfdpahpaa", sum := "3df26724e32dc3e0ec8a7707273fb2fa8ae0d159d77a0d0f78dbdbd2fba16733", func := "landmark/landmarklaw15.CertBytes", spec := "certBytes", inPlace := ["internal/bytealg.Count", "internal/bytealg.IndexByte", "internal/bytealg.Index", "internal/bytealg.MakeNoZero"], unfollowed := true, recurses := true, named := ["internal/bytealg.MaxLen"], plainKeys := false, apart := false, narrowed := true }
def CertBytesUptoSaid : Prop := certBytesUptoRow.holds Try.pinned (OpenSpec.upto certBytesSpec)

/-- 'landmarklaw09.CodecNames', WHERE WHAT IT READS IS OF BULK AT MOST 1048576: true; the input reads as it did. -/
def codecNamesUptoRow : OpenClaim := { program := "ytkocpihfdpahpaa", sum := "3df26724e32dc3e0ec8a7707273fb2fa8ae0d159d77a0d0f78dbdbd2fba16733", func := "landmark/landmarklaw09.CodecNames", spec := "codecNames", inPlace := ["internal/bytealg.Count", "internal/bytealg.IndexByte", "internal/bytealg.Index", "internal/bytealg.MakeNoZero"], unfollowed := true, recurses := true, named := ["internal/bytealg.MaxLen"], plainKeys := false, apart := false, narrowed := true }
def CodecNamesUptoSaid : Prop := codecNamesUptoRow.holds Try.pinned (OpenSpec.upto codecNamesSpec)

/-- 'landmarklaw10.ChainOrder', WHERE WHAT IT READS IS OF BULK AT MOST 1048576: true; the input reads as it did. -/
def chainOrderUptoRow : OpenClaim := { program := "ytkocpihfdpahpaa", sum := "3df26724e32dc3e0ec8a7707273fb2fa8ae0d159d77a0d0f78dbdbd2fba16733", func := "landmark/landmarklaw10.ChainOrder", spec := "chainOrder", inPlace := ["internal/bytealg.Count", "internal/bytealg.IndexByte", "internal/bytealg.Index", "internal/bytealg.MakeNoZero"], unfollowed := true, recurses := true, named := ["internal/bytealg.MaxLen"], plainKeys := false, apart := false, narrowed := true }
def ChainOrderUptoSaid : Prop := chainOrderUptoRow.holds Try.pinned (OpenSpec.upto chainOrderSpec)

/-- 'landmarklaw10.ChainApart', WHERE WHAT IT READS IS OF BULK AT MOST 1048576: true; the input reads as it did. -/
def chainApartUptoRow : OpenClaim := { program := "ytkocpihfdpahpaa", sum := "3df26724e32dc3e0ec8a7707273fb2fa8ae0d159d77a0d0f78dbdbd2fba16733", func := "landmark/landmarklaw10.ChainApart", spec := "chainApart", inPlace := ["internal/bytealg.Count", "internal/bytealg.IndexByte", "internal/bytealg.Index", "internal/bytealg.MakeNoZero", "maps.clone"], unfollowed := true, recurses := true, named := ["internal/bytealg.MaxLen"], plainKeys := false, apart := false, narrowed := true }
def ChainApartUptoSaid : Prop := chainApartUptoRow.holds Try.pinned (OpenSpec.upto chainApartSpec)

/-- 'landmarklaw10.ChainUnder', WHERE WHAT IT READS IS OF BULK AT MOST 1048576: true; the input reads as it did. -/
def chainUnderUptoRow : OpenClaim := { program := "ytkocpihfdpahpaa", sum := "3df26724e32dc3e0ec8a7707273fb2fa8ae0d159d77a0d0f78dbdbd2fba16733", func := "landmark/landmarklaw10.ChainUnder", spec := "chainUnder", inPlace := ["internal/bytealg.Count", "internal/bytealg.IndexByte", "internal/bytealg.Index", "internal/bytealg.MakeNoZero"], unfollowed := true, recurses := true, named := ["internal/bytealg.MaxLen"], plainKeys := false, apart := false, narrowed := true }
def ChainUnderUptoSaid : Prop := chainUnderUptoRow.holds Try.pinned (OpenSpec.upto chainUnderSpec)

/-- 'landmarklaw11.RegistryNext', WHERE WHAT IT READS IS OF BULK AT MOST 1048576: true; the input reads as it did. -/
def registryNextUptoRow : OpenClaim := { program := "ytkocpihfdpahpaa", sum := "3df26724e32dc3e0ec8a7707273fb2fa8ae0d159d77a0d0f78dbdbd2fba16733", func := "landmark/landmarklaw11.RegistryNext", spec := "registryNext", inPlace := ["internal/bytealg.Count", "internal/bytealg.IndexByte", "internal/bytealg.Index", "internal/bytealg.MakeNoZero"], unfollowed := true, recurses := true, named := ["internal/bytealg.MaxLen"], plainKeys := false, apart := false, narrowed := true }
def RegistryNextUptoSaid : Prop := registryNextUptoRow.holds Try.pinned (OpenSpec.upto registryNextSpec)

/-- 'landmarklaw11.RegistryPlays', WHERE WHAT IT READS IS OF BULK AT MOST 1048576: true; the input reads as it did. -/
def registryPlaysUptoRow : OpenClaim := { program := "ytkocpihfdpahpaa", sum := "3df26724e32dc3e0ec8a7707273fb2fa8ae0d159d77a0d0f78dbdbd2fba16733", func := "landmark/landmarklaw11.RegistryPlays", spec := "registryPlays", inPlace := ["internal/bytealg.Count", "internal/bytealg.IndexByte", "internal/bytealg.Index", "internal/bytealg.MakeNoZero"], unfollowed := true, recurses := true, named := ["internal/bytealg.MaxLen"], plainKeys := false, apart := false, narrowed := true }
def RegistryPlaysUptoSaid : Prop := registryPlaysUptoRow.holds Try.pinned (OpenSpec.upto registryPlaysSpec)

/-- 'landmarklaw11.RegistryChurns', WHERE WHAT IT READS IS OF BULK AT MOST 1048576: true; the input reads as it did. -/
def registryChurnsUptoRow : OpenClaim := { program := "ytkocpihfdpahpaa", sum := "3df26724e32dc3e0ec8a7707273fb2fa8ae0d159d77a0d0f78dbdbd2fba16733", func := "landmark/landmarklaw11.RegistryChurns", spec := "registryChurns", inPlace := ["internal/bytealg.Count", "internal/bytealg.IndexByte", "internal/bytealg.Index", "internal/bytealg.MakeNoZero"], unfollowed := true, recurses := true, named := ["internal/bytealg.MaxLen"], plainKeys := false, apart := false, narrowed := true }
def RegistryChurnsUptoSaid : Prop := registryChurnsUptoRow.holds Try.pinned (OpenSpec.upto registryChurnsSpec)

/-- 'landmarklaw11.RegistryStays', WHERE WHAT IT READS IS OF BULK AT MOST 1048576: true; the input reads as it did. -/
def registryStaysUptoRow : OpenClaim := { program := "ytkocpihfdpahpaa", sum := "3df26724e32dc3e0ec8a7707273fb2fa8ae0d159d77a0d0f78dbdbd2fba16733", func := "landmark/landmarklaw11.RegistryStays", spec := "registryStays", inPlace := ["internal/bytealg.Count", "internal/bytealg.IndexByte", "internal/bytealg.Index", "internal/bytealg.MakeNoZero"], unfollowed := true, recurses := true, named := ["internal/bytealg.MaxLen"], plainKeys := false, apart := false, narrowed := true }
def RegistryStaysUptoSaid : Prop := registryStaysUptoRow.holds Try.pinned (OpenSpec.upto registryStaysSpec)

/-- 'landmarklaw11.RegistryJoins', WHERE WHAT IT READS IS OF BULK AT MOST 1048576: true; the input reads as it did. -/
def registryJoinsUptoRow : OpenClaim := { program := "ytkocpihfdpahpaa", sum := "3df26724e32dc3e0ec8a7707273fb2fa8ae0d159d77a0d0f78dbdbd2fba16733", func := "landmark/landmarklaw11.RegistryJoins", spec := "registryJoins", inPlace := ["internal/bytealg.Count", "internal/bytealg.IndexByte", "internal/bytealg.Index", "internal/bytealg.MakeNoZero"], unfollowed := true, recurses := true, named := ["internal/bytealg.MaxLen"], plainKeys := false, apart := false, narrowed := true }
def RegistryJoinsUptoSaid : Prop := registryJoinsUptoRow.holds Try.pinned (OpenSpec.upto registryJoinsSpec)

/-- 'landmarklaw10.ChainPlays', WHERE WHAT IT READS IS OF BULK AT MOST 1048576: true; the input reads as it did. -/
def chainPlaysUptoRow : OpenClaim := { program := "ytkocpihfdpahpaa", sum := "3df26724e32dc3e0ec8a7707273fb2fa8ae0d159d77a0d0f78dbdbd2fba16733", func := "landmark/landmarklaw10.ChainPlays", spec := "chainPlays", inPlace := ["internal/bytealg.Count", "internal/bytealg.IndexByte", "internal/bytealg.Index", "internal/bytealg.MakeNoZero"], unfollowed := true, recurses := true, named := ["internal/bytealg.MaxLen"], plainKeys := false, apart := false, narrowed := true }
def ChainPlaysUptoSaid : Prop := chainPlaysUptoRow.holds Try.pinned (OpenSpec.upto chainPlaysSpec)

/-- 'landmarklaw10.ChainNil', WHERE WHAT IT READS IS OF BULK AT MOST 1048576: true; the input reads as it did. -/
def chainNilUptoRow : OpenClaim := { program := "ytkocpihfdpahpaa", sum := "3df26724e32dc3e0ec8a7707273fb2fa8ae0d159d77a0d0f78dbdbd2fba16733", func := "landmark/landmarklaw10.ChainNil", spec := "chainNil", inPlace := ["internal/bytealg.Count", "internal/bytealg.IndexByte", "internal/bytealg.Index", "internal/bytealg.MakeNoZero", "maps.clone"], unfollowed := true, recurses := true, named := ["internal/bytealg.MaxLen"], plainKeys := false, apart := false, narrowed := true }
def ChainNilUptoSaid : Prop := chainNilUptoRow.holds Try.pinned (OpenSpec.upto chainNilSpec)

/-- 'landmarklaw11.RegistryTells', WHERE WHAT IT READS IS OF BULK AT MOST 1048576: true; the input reads as it did. -/
def registryTellsUptoRow : OpenClaim := { program := "ytkocpihfdpahpaa", sum := "3df26724e32dc3e0ec8a7707273fb2fa8ae0d159d77a0d0f78dbdbd2fba16733", func := "landmark/landmarklaw11.RegistryTells", spec := "registryTells", inPlace := ["internal/bytealg.Count", "internal/bytealg.IndexByte", "internal/bytealg.Index", "internal/bytealg.MakeNoZero"], unfollowed := true, recurses := true, named := ["internal/bytealg.MaxLen"], plainKeys := false, apart := false, narrowed := true }
def RegistryTellsUptoSaid : Prop := registryTellsUptoRow.holds Try.pinned (OpenSpec.upto registryTellsSpec)

end Rows
end Go.Proofs.Ytkocpihfdpahpaa
