/- Texts of this proof, one behind the other: ShaR6. -/
import Derived.Test.YthdjhbiigmcecaaKE
import Derived.Test.YthdjhbiigmcecaaQC
import Derived.StillTailTactics
set_option linter.unusedVariables false
set_option linter.unusedSimpArgs false
/- Contracts of the document's SHA-256: Begun.Sum. -/
namespace Go.Proofs.Ythdjhbiigmcecaa
open Go.RowKit

attribute [local go_sem ↓] load_a8_s store_a8_s
attribute [local go_sem] load_a8 store_a8
end Go.Proofs.Ythdjhbiigmcecaa
