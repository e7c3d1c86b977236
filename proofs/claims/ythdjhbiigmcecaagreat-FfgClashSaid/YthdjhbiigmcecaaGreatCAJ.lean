/- Texts of this proof, one behind the other: Told, ReadVote. -/
import Derived.Test.YthdjhbiigmcecaaGreatCAG
import Derived.Test.YthdjhbiigmcecaaGreatCAI
import Derived.Test.YthdjhbiigmcecaaGreatCAF
import Derived.Test.YthdjhbiigmcecaaGreatCAH
set_option linter.unusedVariables false
set_option linter.unusedSimpArgs false
/- Contracts: codec.PointBytes, VoteBytes. -/
namespace Go.Proofs.YthdjhbiigmcecaaGreat
open Go.RowKit

/-- told's error, its bytes -/
def noErr (may : Bool) : Int := if may then 0 else 2
/-! told, of a vote -/
end Go.Proofs.YthdjhbiigmcecaaGreat

/- Contracts: codec.readVote, read, PointOf, VoteOf. -/
namespace Go.Proofs.YthdjhbiigmcecaaGreat
open Go.RowKit

end Go.Proofs.YthdjhbiigmcecaaGreat
