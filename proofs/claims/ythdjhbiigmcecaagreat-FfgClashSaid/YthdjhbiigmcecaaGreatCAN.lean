/- Texts of this proof, one behind the other: RegD, RegE, RegN, RegO, RegR. -/
import Derived.Test.YthdjhbiigmcecaaGreatCAM
import Derived.Test.YthdjhbiigmcecaaGreatCAI
import Derived.Test.YthdjhbiigmcecaaGreatCAH
import Derived.Deep.QuietTactic
import Derived.BigQuiet
set_option linter.unusedVariables false
set_option linter.unusedSimpArgs false
/- Contracts: registry's May, turn. -/
namespace Go.Proofs.YthdjhbiigmcecaaGreat
open Go.RowKit

end Go.Proofs.YthdjhbiigmcecaaGreat

/- Contracts: registry's turn, Active, Stake, Total. -/
namespace Go.Proofs.YthdjhbiigmcecaaGreat
open Go.RowKit

/-! who is active, and what weighs how much -/
end Go.Proofs.YthdjhbiigmcecaaGreat

/- A register that is being made: four cells, its members and its two lines in blocks of their own. -/
namespace Go.Proofs.YthdjhbiigmcecaaGreat
open Go.RowKit

section
variable {W W' : World} {B X gm : Nat} {s0 s1 s2 : Sl} {g1 g2 : Option Nat} {r : Reg}
end

def bsI (n : Nat) (parts : Array (Nat × Value)) : Sem Value := Instr.buildSlice 28 n parts
theorem fold_bsI (n : Nat) (parts : Array (Nat × Value)) : Instr.buildSlice 28 n parts = bsI n parts := rfl
def appI (args : Array Value) : Sem Value := Builtin.append_ #[28, 28] 28 args
theorem fold_appI (args : Array Value) : Builtin.append_ #[28, 28] 28 args = appI args := rfl
section
variable {W : World} {B X gm : Nat} {s0 s1 s2 : Sl} {g1 g2 : Option Nat} {r : Reg}
end
end Go.Proofs.YthdjhbiigmcecaaGreat

/- Contracts: registry's leave. -/
namespace Go.Proofs.YthdjhbiigmcecaaGreat
open Go.RowKit
attribute [local go_sem ↓] fold_bsI fold_appI

end Go.Proofs.YthdjhbiigmcecaaGreat

/- Contracts: registry's do: an operation. -/
namespace Go.Proofs.YthdjhbiigmcecaaGreat
open Go.RowKit

theorem fold0_splice (A B : Array Value) (n : Nat) (hn : B.size = n) (h : n ≤ A.size) : Array.foldl (fun cs (x : Value × Nat) => cs.setIfInBounds x.2 x.1) A B.zipIdx 0 n = splice A 0 B := by
 have := fold_splice A B 0 n hn (by omega)
 simpa using this
theorem splice_zero_head (A B : Array Value) (n : Nat) (hn : B.size = n) (h : n ≤ A.size) : splice A 0 B = B ++ A.extract n A.size := by
 simp [splice, hn]
section
variable {W : World} {B X gm : Nat} {s0 s1 s2 : Sl} {g1 g2 : Option Nat} {r : Reg}
end
end Go.Proofs.YthdjhbiigmcecaaGreat
