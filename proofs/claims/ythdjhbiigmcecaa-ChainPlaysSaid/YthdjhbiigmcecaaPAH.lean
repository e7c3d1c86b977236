/- Texts of this proof, one behind the other: ReadVote, ReadPoint, Known09, Order, RefJoin. -/
import Derived.Test.YthdjhbiigmcecaaPAG
import Derived.Test.YthdjhbiigmcecaaPAE
import Derived.Test.YthdjhbiigmcecaaPAF
import Derived.Laws.IdiomStrings
import Derived.Lib.BufferRead
import Derived.Lib.ConvBytes
set_option linter.unusedVariables false
set_option linter.unusedSimpArgs false
/- Contracts: codec.readVote, read, PointOf, VoteOf. -/
namespace Go.Proofs.Ythdjhbiigmcecaa
open Go.RowKit

end Go.Proofs.Ythdjhbiigmcecaa

/- Contracts: codec.read at points; PointOf, VoteOf, VoteBytes, HeaderBytes. -/
namespace Go.Proofs.Ythdjhbiigmcecaa
open Go.RowKit

theorem hdrMay_out {h : Hdr} (hm : hdrMay h = true) : h.ops.length ≤ 16 ∧ h.ops.all opMay = true := by
 simp only [hdrMay, Bool.and_eq_true, decide_eq_true_eq] at hm
 exact ⟨hm.1.2, hm.2⟩
end Go.Proofs.Ythdjhbiigmcecaa

/- Contract: landmarklaw09.known. -/
namespace Go.Proofs.Ythdjhbiigmcecaa
open Go.RowKit

end Go.Proofs.Ythdjhbiigmcecaa

/- The walk of landmarklaw09.CodecOrder. -/
namespace Go.Proofs.Ythdjhbiigmcecaa
open Go.RowKit

end Go.Proofs.Ythdjhbiigmcecaa

/- Contracts: landmarkref01.Join, Blob, Reader.Blob. -/
namespace Go.Proofs.Ythdjhbiigmcecaa
open Go.RowKit

end Go.Proofs.Ythdjhbiigmcecaa
