/- Texts of this proof, one behind the other: ReadPoint, Known09, Order, RefJoin, RefPoint. -/
import Derived.Test.YthdjhbiigmcecaaGreatCAJ
import Derived.Test.YthdjhbiigmcecaaGreatCAH
import Derived.Test.YthdjhbiigmcecaaGreatCAI
import Derived.Test.YthdjhbiigmcecaaGreatCAG
import Derived.Laws.IdiomStrings
import Derived.Lib.BufferRead
import Derived.Lib.ConvBytes
set_option linter.unusedVariables false
set_option linter.unusedSimpArgs false
/- Contracts: codec.read at points; PointOf, VoteOf, VoteBytes, HeaderBytes. -/
namespace Go.Proofs.YthdjhbiigmcecaaGreat
open Go.RowKit

theorem hdrMay_out {h : Hdr} (hm : hdrMay h = true) : h.ops.length ≤ 16 ∧ h.ops.all opMay = true := by
 simp only [hdrMay, Bool.and_eq_true, decide_eq_true_eq] at hm
 exact ⟨hm.1.2, hm.2⟩
end Go.Proofs.YthdjhbiigmcecaaGreat

/- Contract: landmarklaw09.known. -/
namespace Go.Proofs.YthdjhbiigmcecaaGreat
open Go.RowKit

end Go.Proofs.YthdjhbiigmcecaaGreat

/- The walk of landmarklaw09.CodecOrder. -/
namespace Go.Proofs.YthdjhbiigmcecaaGreat
open Go.RowKit

end Go.Proofs.YthdjhbiigmcecaaGreat

/- Contracts: landmarkref01.Join, Blob, Reader.Blob. -/
namespace Go.Proofs.YthdjhbiigmcecaaGreat
open Go.RowKit

end Go.Proofs.YthdjhbiigmcecaaGreat

/- Contracts: ref09.point, MayPoint, Point, PointLess. -/
namespace Go.Proofs.YthdjhbiigmcecaaGreat
open Go.RowKit

end Go.Proofs.YthdjhbiigmcecaaGreat
