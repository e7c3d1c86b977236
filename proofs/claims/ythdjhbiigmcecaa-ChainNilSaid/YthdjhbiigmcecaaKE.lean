/- Texts of this proof, one behind the other: ShaC, ShaR2, ShaR3, ShaR4, ShaR5. -/
import Derived.Test.YthdjhbiigmcecaaQS
import Derived.Test.YthdjhbiigmcecaaQA
import Derived.Test.YthdjhbiigmcecaaQB
import Derived.Deep.RegionHeld3
import Derived.Deep.CutRange
import Derived.Test.YthdjhbiigmcecaaQT
import Derived.Test.YthdjhbiigmcecaaQC
import Derived.Lib.AppendZerosOnto
set_option linter.unusedVariables false
set_option linter.unusedSimpArgs false
/- The document's constants of SHA-256, plainly: primes, and roots by digits of 16 bits. -/
namespace Go.Proofs.Ythdjhbiigmcecaa

/-! primes -/
/-! numbers by digits of 16 bits, the lowest first -/
def Wide (d : List Nat) : Prop := d.length = 12 ∧ ∀ x ∈ d, x < 65536
end Go.Proofs.Ythdjhbiigmcecaa

/- Contracts of the document's numbers by digits: times, above, digits, fraction. -/
namespace Go.Proofs.Ythdjhbiigmcecaa
open Go.RowKit

def wideA (d : List Nat) : Array Value := (d.map fun (x : Nat) => Value.int .u64 (x : Int)).toArray
def zeros12 : List Nat := List.replicate 12 0
theorem Wide.set {d : List Nat} (h : Wide d) (i x : Nat) (hx : x < 65536) : Wide (d.set i x) :=
  ⟨by rw [List.length_set]; exact h.1, fun y hy => by
    rcases List.mem_or_eq_of_mem_set hy with hy | rfl
    · exact h.2 y hy
    · exact hx⟩
theorem Wide.at {d : List Nat} (h : Wide d) (i : Nat) (hi : i < 12) : d[i]'(by rw [h.1]; exact hi) < 65536 := h.2 _ (List.getElem_mem _)
theorem zero_wide : #[.int .u64 0, .int .u64 0, .int .u64 0, .int .u64 0, .int .u64 0, .int .u64 0, .int .u64 0, .int .u64 0, .int .u64 0, .int .u64 0, .int .u64 0, .int .u64 0] = wideA zeros12 := rfl
theorem load_w12_s (x : Value) : Instr.loadAt 267 x = loadAgg 267 x := rfl
theorem load_w12 (w : World) (b off : Nat) (h : (row? w b off 12).isSome = true) : (loadAgg 267 (.pointer (some ⟨b, off, none⟩))).run Try.prog w = .ok (.agg ((row? w b off 12).getD #[])) w := run_loadAgg Try.isAgg267 Try.sizeOf267 w b off h
theorem store_w12_s (x v : Value) : Instr.storeAt 267 x v = storeAgg 267 x v := rfl
theorem info_w12 : (Try.prog.info? 267).map (·.size) = some 12 := by kernel_rfl
theorem store_w12 (w : World) (b off : Nat) (xs : Array Value) (hn : xs.size = 12) (h1 : oneCells xs) (ht : there w b off 12) : (storeAgg 267 (.pointer (some ⟨b, off, none⟩)) (.agg xs)).run Try.prog w = .ok () (putRow w b off xs) := run_storeAgg info_w12 w b off xs hn h1 ht
attribute [go_sem ↓] load_w12_s store_w12_s
attribute [go_sem] load_w12 store_w12 zero_wide
end Go.Proofs.Ythdjhbiigmcecaa

/- Contracts of the document's SHA-256: primes, Begin, rot, followed. -/
namespace Go.Proofs.Ythdjhbiigmcecaa
open Go.RowKit

def bs64 (n : Nat) (parts : Array (Nat × Value)) : Sem Value := Instr.buildSlice 241 n parts
theorem fold_bs64 (n : Nat) (parts : Array (Nat × Value)) : Instr.buildSlice 241 n parts = bs64 n parts := rfl
def app64 (args : Array Value) : Sem Value := Builtin.append_ #[241, 241] 241 args
theorem fold_app64 (args : Array Value) : Builtin.append_ #[241, 241] 241 args = app64 args := rfl
attribute [local go_sem ↓] fold_bs64 fold_app64

end Go.Proofs.Ythdjhbiigmcecaa

/- Contracts of the document's SHA-256: Begin. -/
namespace Go.Proofs.Ythdjhbiigmcecaa
open Go.RowKit

/-- the words found up to the i-th -/
def begL (i : Nat) : List UInt32 := shaH.list.take i ++ List.replicate (8 - i) 0 ++ shaK.take i ++ List.replicate (64 - i) 0
def begA (l : List UInt32) : Array Value := (l.map u32V).toArray
theorem load_bg_s (x : Value) : Instr.loadAt 160 x = loadAgg 160 x := rfl
theorem load_bg (w : World) (b off : Nat) (h : (row? w b off 72).isSome = true) : (loadAgg 160 (.pointer (some ⟨b, off, none⟩))).run Try.prog w = .ok (.agg ((row? w b off 72).getD #[])) w := run_loadAgg Try.isAgg160 Try.sizeOf160 w b off h
theorem store_bg_s (x v : Value) : Instr.storeAt 160 x v = storeAgg 160 x v := rfl
theorem info_bg : (Try.prog.info? 160).map (·.size) = some 72 := by kernel_rfl
theorem store_bg (w : World) (b off : Nat) (xs : Array Value) (hn : xs.size = 72) (h1 : oneCells xs) (ht : there w b off 72) : (storeAgg 160 (.pointer (some ⟨b, off, none⟩)) (.agg xs)).run Try.prog w = .ok () (putRow w b off xs) := run_storeAgg info_bg w b off xs hn h1 ht
def begZ : Array Value := begA (begL 0)
theorem zero_bg : Try.zeroCells160 = begZ := by kernel_rfl
attribute [local go_sem] load_bg store_bg
attribute [local go_sem ↓] load_bg_s store_bg_s zero_bg
end Go.Proofs.Ythdjhbiigmcecaa

/- Contracts of the document's SHA-256: rot, followed. -/
namespace Go.Proofs.Ythdjhbiigmcecaa
open Go.RowKit

/-! append(o, make([]byte, n)...) -/
section
variable {P : Program} (w : World)
end

end Go.Proofs.Ythdjhbiigmcecaa
