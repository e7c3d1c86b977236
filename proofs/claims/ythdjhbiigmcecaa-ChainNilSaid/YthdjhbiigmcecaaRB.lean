/- Texts of this proof, one behind the other: RegN, RegO, RegR, RegT. -/
import Derived.Test.YthdjhbiigmcecaaRA
import Derived.Test.YthdjhbiigmcecaaQA
import Derived.Test.YthdjhbiigmcecaaQB
import Derived.Deep.QuietTactic
import Derived.BigQuiet
set_option linter.unusedVariables false
set_option linter.unusedSimpArgs false
/- A register that is being made: four cells, its members and its two lines in blocks of their own. -/
namespace Go.Proofs.Ythdjhbiigmcecaa
open Go.RowKit

theorem OwnC.keepB {w w' : World} {base k n : Nat} {v : Value} {xs : List Value} (h : OwnC w base k v n xs) (hs : w.heap.size ≤ w'.heap.size) (hb : ∀ g, v.ownBlock = some g → g < w.heap.size → w'.heap[g]? = w.heap[g]?) : OwnC w' base k v n xs := by
  refine ⟨h.1, ?_⟩
  rcases h.2 with h2 | ⟨g, cap, rfl, h1, hlt, hn, hm, hc, hf, hx⟩
  · exact .inl h2
  · have hg := hb g rfl hlt
    have e1 := fun j => World.cell?_of_block (a := ⟨g, j, none⟩) hg
    have e2 := fun j => World.frozen?_of_block (a := ⟨g, j, none⟩) hg
    exact .inr ⟨g, cap, rfl, h1, by omega, hn, hm, fun j hj => by rw [e1]; exact hc j hj, fun j hj => by rw [e2]; exact hf j hj, fun j u hu => by rw [e1]; exact hx j u hu⟩

structure NM (W : World) (B X gm : Nat) (s0 s1 s2 : Sl) (g1 g2 : Option Nat) (r : Reg) : Prop where
  c0 : W.cell? ⟨X, 0, none⟩ = some s0.v
  c1 : W.cell? ⟨X, 1, none⟩ = some s1.v
  c2 : W.cell? ⟨X, 2, none⟩ = some s2.v
  c3 : W.cell? ⟨X, 3, none⟩ = some (.int .u64 (r.churn.toNat : Int))
  fz : ∀ j, j < 4 → W.frozen? ⟨X, j, none⟩ = false
  hB : B ≤ X
  hX : X < W.heap.size
  mem : OwnC W B 35 s0.v r.members.length (flatC mbrA r.members)
  gmb : s0.v.ownBlock = some gm
  com : OwnO W B s1.v r.coming g1
  goi : OwnO W B s2.v r.going g2
  dX : gm ≠ X ∧ g1 ≠ some X ∧ g2 ≠ some X
  dm : g1 ≠ some gm ∧ g2 ≠ some gm
  d12 : ∀ g, g1 = some g → g2 ≠ some g
section
variable {W W' : World} {B X gm : Nat} {s0 s1 s2 : Sl} {g1 g2 : Option Nat} {r : Reg}
theorem NM.lt (h : NM W B X gm s0 s1 s2 g1 g2 r) : B ≤ gm ∧ gm < W.heap.size := h.mem.lt gm h.gmb
theorem NM.keep (h : NM W B X gm s0 s1 s2 g1 g2 r) (hb : Below W.heap.size W W') : NM W' B X gm s0 s1 s2 g1 g2 r := by
  have hX := h.hX
  exact ⟨(hb.cell hX).trans h.c0, (hb.cell hX).trans h.c1, (hb.cell hX).trans h.c2, (hb.cell hX).trans h.c3, fun j hj => (hb.frozen (p := ⟨X, j, none⟩) hX).trans (h.fz j hj), h.hB, Nat.lt_of_lt_of_le hX hb.size, h.mem.keep hb, h.gmb, h.com.keep hb, h.goi.keep hb, h.dX, h.dm, h.d12⟩
theorem NM.row (h : NM W B X gm s0 s1 s2 g1 g2 r) : row? W X 0 4 = some (regA ⟨s0, s1, s2, r.churn⟩) := by
  refine row?_of_cells (by rfl) (by omega) (fun j hj => ?_)
  have hj4 : j < 4 := hj
  rw [Nat.zero_add]
  match j, hj4 with
  | 0, _ => exact h.c0
  | 1, _ => exact h.c1
  | 2, _ => exact h.c2
  | 3, _ => exact h.c3
theorem NM.reg (h : NM W B X gm s0 s1 s2 g1 g2 r) : RegR W ⟨s0, s1, s2, r.churn⟩ r :=
  ⟨rows_of_own mbrA mbrA_size (by omega) h.mem, h.com.reads, h.goi.reads, rfl⟩
end

def bsI (n : Nat) (parts : Array (Nat × Value)) : Sem Value := Instr.buildSlice 58 n parts
theorem fold_bsI (n : Nat) (parts : Array (Nat × Value)) : Instr.buildSlice 58 n parts = bsI n parts := rfl
def appI (args : Array Value) : Sem Value := Builtin.append_ #[58, 58] 58 args
theorem fold_appI (args : Array Value) : Builtin.append_ #[58, 58] 58 args = appI args := rfl
section
variable {W : World} {B X gm : Nat} {s0 s1 s2 : Sl} {g1 g2 : Option Nat} {r : Reg}
end
end Go.Proofs.Ythdjhbiigmcecaa

/- Contracts: registry's leave. -/
namespace Go.Proofs.Ythdjhbiigmcecaa
open Go.RowKit
attribute [local go_sem ↓] fold_bsI fold_appI

end Go.Proofs.Ythdjhbiigmcecaa

/- Contracts: registry's do: an operation. -/
namespace Go.Proofs.Ythdjhbiigmcecaa
open Go.RowKit

def bsM (n : Nat) (parts : Array (Nat × Value)) : Sem Value := Instr.buildSlice 78 n parts
theorem fold_bsM (n : Nat) (parts : Array (Nat × Value)) : Instr.buildSlice 78 n parts = bsM n parts := rfl
def appM (args : Array Value) : Sem Value := Builtin.append_ #[78, 78] 78 args
theorem fold_appM (args : Array Value) : Builtin.append_ #[78, 78] 78 args = appM args := rfl
def bldM (parts : Array (Nat × Value)) : Sem Value := Instr.build 183 parts
theorem fold_bldM (parts : Array (Nat × Value)) : Instr.build 183 parts = bldM parts := rfl
theorem fold0_splice (A B : Array Value) (n : Nat) (hn : B.size = n) (h : n ≤ A.size) : Array.foldl (fun cs (x : Value × Nat) => cs.setIfInBounds x.2 x.1) A B.zipIdx 0 n = splice A 0 B := by
  have := fold_splice A B 0 n hn (by omega)
  simpa using this
theorem splice_zero_head (A B : Array Value) (n : Nat) (hn : B.size = n) (h : n ≤ A.size) : splice A 0 B = B ++ A.extract n A.size := by
  simp [splice, hn]
section
variable {W : World} {B X gm : Nat} {s0 s1 s2 : Sl} {g1 g2 : Option Nat} {r : Reg}
end
end Go.Proofs.Ythdjhbiigmcecaa

/- Contract: registry's do: an operation. -/
namespace Go.Proofs.Ythdjhbiigmcecaa
open Go.RowKit
attribute [local go_sem ↓] fold_bsI fold_appI fold_bsM fold_appM fold_bldM

/-- a row's part -/
theorem row_part {w : World} {b off n : Nat} {l : Array Value} (h : row? w b off n = some l) (o k : Nat) (hk : o + k ≤ n) : row? w b (off + o) k = some (l.extract o (o + k)) := by
  obtain ⟨cs, t, fr, hg, hle, rfl⟩ := row?_some h
  unfold row?
  rw [hg]
  simp only [show off + o + k ≤ cs.size by omega, if_true, Option.some.injEq]
  rw [Array.extract_extract]
  congr 1
  omega
end Go.Proofs.Ythdjhbiigmcecaa
