/-
  No cell of these rows narrows 'for every input' (looked for: loops, veiled, ifaces, maps, wideKeys, modest, calm, conditions, laid).
  DERIVED. THE GIVEN ROWS OF THIS SEAT. 8 by the template 'for every input the law returns true; each argument reads behind the call as it read before'; 0 by the template 'total and deterministic' (their statements: YtbpbnnonialelaaTotals.lean).
  GIVEN WITH THE SEED: the statements are not yours to turn. If you find one false, say at which input.
  Laid BY PROGRAM, IN A SANDBOX (cutbox-rows.mjs): the forced cells as the released guide's own fill.sh prints them over the translation 0cea3e61c26fc54a… (all of the seat's roots in one cut). By AI agents, Wed Nov 11 2026. No macro, syntax, notation, axiom, sorry.
-/
import Derived.Test.YtbpbnnonialelaaChecked
import GoSem.Claim
import GoSem.ClaimJoined
import GoSem.ClaimMapViews
import Derived.JoinedTies
import Derived.KernelRfl
namespace Go.Proofs.Ytbpbnnonialelaa
/- THE CELL 'sum', in the pinned program and in every row, IS THE sha256 OF THE DUMP (.gsa) THAT YtbpbnnonialelaaProg.lean LOADS. Nothing in Lean hashes anything: it is a label: what it is worth is what the hold of that sum in a sandbox is worth. -/
noncomputable def Try.pinned : Pinned := { name := "ytbpbnnonialelaa", sum := "0cea3e61c26fc54a23d15818cb2c19e0af61e8009be5b6be0adace690847d9f5", checked := Try.checked }
namespace Rows
def none {H : Type} : Left H := { results := [], args := [] }

/-- 'landmarklaw15.CertQuorums': WHATEVER THE INPUT: true; the input reads as it did. -/
def certQuorumsSpec : ChangeSpec := { name := "certQuorums", fn := fun _ => fun
  | [d1, d2] => { results := [.lit (.bool true)], args := [d1, d2] }
  | _ => none }
def certQuorumsRow : OpenClaim := { program := "ytbpbnnonialelaa", sum := "0cea3e61c26fc54a23d15818cb2c19e0af61e8009be5b6be0adace690847d9f5", func := "landmark/landmarklaw15.CertQuorums", spec := "certQuorums", apart := false }
def CertQuorumsSaid : Prop := certQuorumsRow.holds Try.pinned (OpenSpec.ofChange certQuorumsSpec)

/-- ITS FALSE NEIGHBOUR: 'it returns false'. Refute it at one input. -/
def certQuorumsWrong : ChangeSpec := { name := "certQuorums", fn := fun _ => fun
  | [d1, d2] => { results := [.lit (.bool false)], args := [d1, d2] }
  | _ => none }
def CertQuorumsWrongFalsely : Prop := certQuorumsRow.holds Try.pinned (OpenSpec.ofChange certQuorumsWrong)

/-- 'landmarklaw15.CertBytes': WHATEVER THE INPUT: true; the input reads as it did. -/
def certBytesSpec : ChangeSpec := { name := "certBytes", fn := fun _ => fun
  | [d1, d2, d3] => { results := [.lit (.bool true)], args := [d1, d2, d3] }
  | _ => none }
def certBytesRow : OpenClaim := { program := "ytbpbnnonialelaa", sum := "0cea3e61c26fc54a23d15818cb2c19e0af61e8009be5b6be0adace690847d9f5", func := "landmark/landmarklaw15.CertBytes", spec := "certBytes", inPlace := ["internal/bytealg.Count", "internal/bytealg.IndexByte", "internal/bytealg.Index", "internal/bytealg.MakeNoZero"], unfollowed := true, recurses := true, named := ["internal/bytealg.MaxLen"], apart := false }
def CertBytesSaid : Prop := certBytesRow.holds Try.pinned (OpenSpec.ofChange certBytesSpec)

/-- ITS FALSE NEIGHBOUR: 'it returns false'. Refute it at one input. -/
def certBytesWrong : ChangeSpec := { name := "certBytes", fn := fun _ => fun
  | [d1, d2, d3] => { results := [.lit (.bool false)], args := [d1, d2, d3] }
  | _ => none }
def CertBytesWrongFalsely : Prop := certBytesRow.holds Try.pinned (OpenSpec.ofChange certBytesWrong)

/-- 'landmarklaw09.CodecOps': WHATEVER THE INPUT: true; the input reads as it did. -/
def codecOpsSpec : ChangeSpec := { name := "codecOps", fn := fun _ => fun
  | [d1, d2] => { results := [.lit (.bool true)], args := [d1, d2] }
  | _ => none }
def codecOpsRow : OpenClaim := { program := "ytbpbnnonialelaa", sum := "0cea3e61c26fc54a23d15818cb2c19e0af61e8009be5b6be0adace690847d9f5", func := "landmark/landmarklaw09.CodecOps", spec := "codecOps", inPlace := ["internal/bytealg.Count", "internal/bytealg.IndexByte", "internal/bytealg.Index", "internal/bytealg.MakeNoZero"], unfollowed := true, recurses := true, named := ["internal/bytealg.MaxLen"], apart := false }
def CodecOpsSaid : Prop := codecOpsRow.holds Try.pinned (OpenSpec.ofChange codecOpsSpec)

/-- ITS FALSE NEIGHBOUR: 'it returns false'. Refute it at one input. -/
def codecOpsWrong : ChangeSpec := { name := "codecOps", fn := fun _ => fun
  | [d1, d2] => { results := [.lit (.bool false)], args := [d1, d2] }
  | _ => none }
def CodecOpsWrongFalsely : Prop := codecOpsRow.holds Try.pinned (OpenSpec.ofChange codecOpsWrong)

/-- 'landmarklaw09.CodecTexts': WHATEVER THE INPUT: true; the input reads as it did. -/
def codecTextsSpec : ChangeSpec := { name := "codecTexts", fn := fun _ => fun
  | [d1, d2, d3] => { results := [.lit (.bool true)], args := [d1, d2, d3] }
  | _ => none }
def codecTextsRow : OpenClaim := { program := "ytbpbnnonialelaa", sum := "0cea3e61c26fc54a23d15818cb2c19e0af61e8009be5b6be0adace690847d9f5", func := "landmark/landmarklaw09.CodecTexts", spec := "codecTexts", inPlace := ["internal/bytealg.Count", "internal/bytealg.IndexByte", "internal/bytealg.Index", "internal/bytealg.MakeNoZero"], unfollowed := true, recurses := true, named := ["internal/bytealg.MaxLen"], apart := false }
def CodecTextsSaid : Prop := codecTextsRow.holds Try.pinned (OpenSpec.ofChange codecTextsSpec)

/-- ITS FALSE NEIGHBOUR: 'it returns false'. Refute it at one input. -/
def codecTextsWrong : ChangeSpec := { name := "codecTexts", fn := fun _ => fun
  | [d1, d2, d3] => { results := [.lit (.bool false)], args := [d1, d2, d3] }
  | _ => none }
def CodecTextsWrongFalsely : Prop := codecTextsRow.holds Try.pinned (OpenSpec.ofChange codecTextsWrong)

/-- 'landmarklaw09.CodecVotes': WHATEVER THE INPUT: true; the input reads as it did. -/
def codecVotesSpec : ChangeSpec := { name := "codecVotes", fn := fun _ => fun
  | [d1, d2, d3] => { results := [.lit (.bool true)], args := [d1, d2, d3] }
  | _ => none }
def codecVotesRow : OpenClaim := { program := "ytbpbnnonialelaa", sum := "0cea3e61c26fc54a23d15818cb2c19e0af61e8009be5b6be0adace690847d9f5", func := "landmark/landmarklaw09.CodecVotes", spec := "codecVotes", inPlace := ["internal/bytealg.Count", "internal/bytealg.IndexByte", "internal/bytealg.Index", "internal/bytealg.MakeNoZero"], unfollowed := true, recurses := true, named := ["internal/bytealg.MaxLen"], apart := false }
def CodecVotesSaid : Prop := codecVotesRow.holds Try.pinned (OpenSpec.ofChange codecVotesSpec)

/-- ITS FALSE NEIGHBOUR: 'it returns false'. Refute it at one input. -/
def codecVotesWrong : ChangeSpec := { name := "codecVotes", fn := fun _ => fun
  | [d1, d2, d3] => { results := [.lit (.bool false)], args := [d1, d2, d3] }
  | _ => none }
def CodecVotesWrongFalsely : Prop := codecVotesRow.holds Try.pinned (OpenSpec.ofChange codecVotesWrong)

/-- 'landmarklaw09.CodecOrder': WHATEVER THE INPUT: true; the input reads as it did. -/
def codecOrderSpec : ChangeSpec := { name := "codecOrder", fn := fun _ => fun
  | [d1, d2, d3] => { results := [.lit (.bool true)], args := [d1, d2, d3] }
  | _ => none }
def codecOrderRow : OpenClaim := { program := "ytbpbnnonialelaa", sum := "0cea3e61c26fc54a23d15818cb2c19e0af61e8009be5b6be0adace690847d9f5", func := "landmark/landmarklaw09.CodecOrder", spec := "codecOrder", inPlace := ["internal/bytealg.Count", "internal/bytealg.IndexByte", "internal/bytealg.Index", "internal/bytealg.MakeNoZero"], unfollowed := true, recurses := true, named := ["internal/bytealg.MaxLen"], apart := false }
def CodecOrderSaid : Prop := codecOrderRow.holds Try.pinned (OpenSpec.ofChange codecOrderSpec)

/-- ITS FALSE NEIGHBOUR: 'it returns false'. Refute it at one input. -/
def codecOrderWrong : ChangeSpec := { name := "codecOrder", fn := fun _ => fun
  | [d1, d2, d3] => { results := [.lit (.bool false)], args := [d1, d2, d3] }
  | _ => none }
def CodecOrderWrongFalsely : Prop := codecOrderRow.holds Try.pinned (OpenSpec.ofChange codecOrderWrong)

/-- 'landmarklaw09.CodecPoints': WHATEVER THE INPUT: true; the input reads as it did. -/
def codecPointsSpec : ChangeSpec := { name := "codecPoints", fn := fun _ => fun
  | [d1, d2, d3] => { results := [.lit (.bool true)], args := [d1, d2, d3] }
  | _ => none }
def codecPointsRow : OpenClaim := { program := "ytbpbnnonialelaa", sum := "0cea3e61c26fc54a23d15818cb2c19e0af61e8009be5b6be0adace690847d9f5", func := "landmark/landmarklaw09.CodecPoints", spec := "codecPoints", inPlace := ["internal/bytealg.Count", "internal/bytealg.IndexByte", "internal/bytealg.Index", "internal/bytealg.MakeNoZero"], unfollowed := true, recurses := true, named := ["internal/bytealg.MaxLen"], apart := false }
def CodecPointsSaid : Prop := codecPointsRow.holds Try.pinned (OpenSpec.ofChange codecPointsSpec)

/-- ITS FALSE NEIGHBOUR: 'it returns false'. Refute it at one input. -/
def codecPointsWrong : ChangeSpec := { name := "codecPoints", fn := fun _ => fun
  | [d1, d2, d3] => { results := [.lit (.bool false)], args := [d1, d2, d3] }
  | _ => none }
def CodecPointsWrongFalsely : Prop := codecPointsRow.holds Try.pinned (OpenSpec.ofChange codecPointsWrong)

/-- 'landmarklaw09.CodecNames': WHATEVER THE INPUT: true; the input reads as it did. -/
def codecNamesSpec : ChangeSpec := { name := "codecNames", fn := fun _ => fun
  | [d1, d2] => { results := [.lit (.bool true)], args := [d1, d2] }
  | _ => none }
def codecNamesRow : OpenClaim := { program := "ytbpbnnonialelaa", sum := "0cea3e61c26fc54a23d15818cb2c19e0af61e8009be5b6be0adace690847d9f5", func := "landmark/landmarklaw09.CodecNames", spec := "codecNames", inPlace := ["internal/bytealg.Count", "internal/bytealg.IndexByte", "internal/bytealg.Index", "internal/bytealg.MakeNoZero"], unfollowed := true, recurses := true, named := ["internal/bytealg.MaxLen"], apart := false }
def CodecNamesSaid : Prop := codecNamesRow.holds Try.pinned (OpenSpec.ofChange codecNamesSpec)

/-- ITS FALSE NEIGHBOUR: 'it returns false'. Refute it at one input. -/
def codecNamesWrong : ChangeSpec := { name := "codecNames", fn := fun _ => fun
  | [d1, d2] => { results := [.lit (.bool false)], args := [d1, d2] }
  | _ => none }
def CodecNamesWrongFalsely : Prop := codecNamesRow.holds Try.pinned (OpenSpec.ofChange codecNamesWrong)

/- THE SECOND FORM. 'bulk': how many values and letters a reading holds, each counted each time it is reached (what is shared counts as often as it is met; a slice's spare places count too). A statement '..UptoSaid' is the law's where the arguments, and the package variables that the reading takes, are together of bulk at most 1048576: NARROWER than '..Said'. Prove '..Said' where nothing that the law and all that it calls make is longer than what came in: it says more and counts as full. Else prove '..UptoSaid'. A law counts once. -/
mutual
def uptoBulk {H : Type} : DataW H → Nat
  | .lit (.string bytes) => bytes.length + 1
  | .lit _ => 1
  | .nil => 1
  | .ptr d => uptoBulk d + 1
  | .slice elems spare => uptoBulkAll elems + uptoBulkAll spare + 1
  | .agg parts => uptoBulkAll parts + 1
  | .iface _ d => uptoBulk d + 1
  | .map entries => uptoBulkEntries entries + 1
  | .held _ => 1
def uptoBulkAll {H : Type} : List (DataW H) → Nat
  | [] => 0
  | d :: r => uptoBulk d + uptoBulkAll r
def uptoBulkEntries {H : Type} : List (Lit × DataW H) → Nat
  | [] => 0
  | x :: r => uptoBulkEntry x + uptoBulkEntries r
def uptoBulkEntry {H : Type} : Lit × DataW H → Nat
  | (.string bytes, d) => bytes.length + uptoBulk d + 1
  | (_, d) => uptoBulk d + 1
 end
def uptoSmall : (H : Type) → List (DataW H) → Bool := fun _ ds => decide (uptoBulkAll ds ≤ 1048576)
def OpenSpec.upto (s : _root_.Go.ChangeSpec) : _root_.Go.OpenSpec := { _root_.Go.OpenSpec.ofChange s with cond := some uptoSmall }

/-- 'landmarklaw15.CertQuorums', WHERE WHAT IT READS IS OF BULK AT MOST 1048576: true; the input reads as it did. -/
def certQuorumsUptoRow : OpenClaim := { program := "ytbpbnnonialelaa", sum := "0cea3e61c26fc54a23d15818cb2c19e0af61e8009be5b6be0adace690847d9f5", func := "landmark/landmarklaw15.CertQuorums", spec := "certQuorums", apart := false, narrowed := true }
def CertQuorumsUptoSaid : Prop := certQuorumsUptoRow.holds Try.pinned (OpenSpec.upto certQuorumsSpec)

/-- 'landmarklaw15.CertBytes', WHERE WHAT IT READS IS OF BULK AT MOST 1048576: true; the input reads as it did. -/
def certBytesUptoRow : OpenClaim := { program := "ytbpbnnonialelaa", sum := "0cea3e61c26fc54a23d15818cb2c19e0af61e8009be5b6be0adace690847d9f5", func := "landmark/landmarklaw15.CertBytes", spec := "certBytes", inPlace := ["internal/bytealg.Count", "internal/bytealg.IndexByte", "internal/bytealg.Index", "internal/bytealg.MakeNoZero"], unfollowed := true, recurses := true, named := ["internal/bytealg.MaxLen"], apart := false, narrowed := true }
def CertBytesUptoSaid : Prop := certBytesUptoRow.holds Try.pinned (OpenSpec.upto certBytesSpec)

/-- 'landmarklaw09.CodecOps', WHERE WHAT IT READS IS OF BULK AT MOST 1048576: true; the input reads as it did. -/
def codecOpsUptoRow : OpenClaim := { program := "ytbpbnnonialelaa", sum := "0cea3e61c26fc54a23d15818cb2c19e0af61e8009be5b6be0adace690847d9f5", func := "landmark/landmarklaw09.CodecOps", spec := "codecOps", inPlace := ["internal/bytealg.Count", "internal/bytealg.IndexByte", "internal/bytealg.Index", "internal/bytealg.MakeNoZero"], unfollowed := true, recurses := true, named := ["internal/bytealg.MaxLen"], apart := false, narrowed := true }
def CodecOpsUptoSaid : Prop := codecOpsUptoRow.holds Try.pinned (OpenSpec.upto codecOpsSpec)

/-- 'landmarklaw09.CodecTexts', WHERE WHAT IT READS IS OF BULK AT MOST 1048576: true; the input reads as it did. -/
def codecTextsUptoRow : OpenClaim := { program := "ytbpbnnonialelaa", sum := "0cea3e61c26fc54a23d15818cb2c19e0af61e8009be5b6be0adace690847d9f5", func := "landmark/landmarklaw09.CodecTexts", spec := "codecTexts", inPlace := ["internal/bytealg.Count", "internal/bytealg.IndexByte", "internal/bytealg.Index", "internal/bytealg.MakeNoZero"], unfollowed := true, recurses := true, named := ["internal/bytealg.MaxLen"], apart := false, narrowed := true }
def CodecTextsUptoSaid : Prop := codecTextsUptoRow.holds Try.pinned (OpenSpec.upto codecTextsSpec)

/-- 'landmarklaw09.CodecVotes', WHERE WHAT IT READS IS OF BULK AT MOST 1048576: true; the input reads as it did. -/
def codecVotesUptoRow : OpenClaim := { program := "ytbpbnnonialelaa", sum := "0cea3e61c26fc54a23d15818cb2c19e0af61e8009be5b6be0adace690847d9f5", func := "landmark/landmarklaw09.CodecVotes", spec := "codecVotes", inPlace := ["internal/bytealg.Count", "internal/bytealg.IndexByte", "internal/bytealg.Index", "internal/bytealg.MakeNoZero"], unfollowed := true, recurses := true, named := ["internal/bytealg.MaxLen"], apart := false, narrowed := true }
def CodecVotesUptoSaid : Prop := codecVotesUptoRow.holds Try.pinned (OpenSpec.upto codecVotesSpec)

/-- 'landmarklaw09.CodecOrder', WHERE WHAT IT READS IS OF BULK AT MOST 1048576: true; the input reads as it did. -/
def codecOrderUptoRow : OpenClaim := { program := "ytbpbnnonialelaa", sum := "0cea3e61c26fc54a23d15818cb2c19e0af61e8009be5b6be0adace690847d9f5", func := "landmark/landmarklaw09.CodecOrder", spec := "codecOrder", inPlace := ["internal/bytealg.Count", "internal/bytealg.IndexByte", "internal/bytealg.Index", "internal/bytealg.MakeNoZero"], unfollowed := true, recurses := true, named := ["internal/bytealg.MaxLen"], apart := false, narrowed := true }
def CodecOrderUptoSaid : Prop := codecOrderUptoRow.holds Try.pinned (OpenSpec.upto codecOrderSpec)

/-- 'landmarklaw09.CodecPoints', WHERE WHAT IT READS IS OF BULK AT MOST 1048576: true; the input reads as it did. -/
def codecPointsUptoRow : OpenClaim := { program := "ytbpbnnonialelaa", sum := "0cea3e61c26fc54a23d15818cb2c19e0af61e8009be5b6be0adace690847d9f5", func := "landmark/landmarklaw09.CodecPoints", spec := "codecPoints", inPlace := ["internal/bytealg.Count", "internal/bytealg.IndexByte", "internal/bytealg.Index", "internal/bytealg.MakeNoZero"], unfollowed := true, recurses := true, named := ["internal/bytealg.MaxLen"], apart := false, narrowed := true }
def CodecPointsUptoSaid : Prop := codecPointsUptoRow.holds Try.pinned (OpenSpec.upto codecPointsSpec)

/-- 'landmarklaw09.CodecNames', WHERE WHAT IT READS IS OF BULK AT MOST 1048576: true; the input reads as it did. -/
def codecNamesUptoRow : OpenClaim := { program := "ytbpbnnonialelaa", sum := "0cea3e61c26fc54a23d15818cb2c19e0af61e8009be5b6be0adace690847d9f5", func := "landmark/landmarklaw09.CodecNames", spec := "codecNames", inPlace := ["internal/bytealg.Count", "internal/bytealg.IndexByte", "internal/bytealg.Index", "internal/bytealg.MakeNoZero"], unfollowed := true, recurses := true, named := ["internal/bytealg.MaxLen"], apart := false, narrowed := true }
def CodecNamesUptoSaid : Prop := codecNamesUptoRow.holds Try.pinned (OpenSpec.upto codecNamesSpec)

end Rows
end Go.Proofs.Ytbpbnnonialelaa
