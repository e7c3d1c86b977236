/- Texts of this proof, one behind the other: RegJ, RegK. -/
import Derived.Test.YtkocpihfdpahpaaRA
import Derived.Test.YtkocpihfdpahpaaRC
import Derived.Test.YtkocpihfdpahpaaRD
set_option linter.unusedVariables false
set_option linter.unusedSimpArgs false
/- Plain: a line of deposits, and how it turns; all stake, without going round. -/
namespace Go.Proofs.Ytkocpihfdpahpaa

/-! nobody goes -/
/-! how many turn, one by one -/
end Go.Proofs.Ytkocpihfdpahpaa

/- Lists of registers, and of epochs, in memory. -/
namespace Go.Proofs.Ytkocpihfdpahpaa
open Go.RowKit

/-- a register whose memory does not hang on the blocks of a set -/
def RegM (M : Nat → Prop) (W : World) (g : GReg) (r : Reg) : Prop := ∀ W2 : World, W.heap.size ≤ W2.heap.size → (∀ k, ¬ M k → k < W.heap.size → W2.heap[k]? = W.heap[k]?) → RegR W2 g r
theorem RegM.reg {M : Nat → Prop} {W : World} {g : GReg} {r : Reg} (h : RegM M W g r) : RegR W g r := h W (Nat.le_refl _) fun _ _ _ => rfl
theorem RegM.step {M M' : Nat → Prop} {W W' : World} {g : GReg} {r : Reg} (h : RegM M W g r) (hs : W.heap.size ≤ W'.heap.size) (hb : ∀ k, ¬ M k → k < W.heap.size → W'.heap[k]? = W.heap[k]?) (hM : ∀ k, k < W.heap.size → M' k → M k) : RegM M' W' g r := fun W2 h2 hb2 =>
  h W2 (Nat.le_trans hs h2) fun k hk hl => (hb2 k (fun h => hk (hM k hl h)) (Nat.lt_of_lt_of_le hl hs)).trans (hb k hk hl)
theorem RegM.keep {M : Nat → Prop} {W W' : World} {g : GReg} {r : Reg} (h : RegM M W g r) (hb : Below W.heap.size W W') : RegM M W' g r := h.step hb.size (fun k _ hl => hb.block k hl) fun _ _ h => h
def epA (u : UInt64) : Array Value := #[.int .u64 (u.toNat : Int)]
def OwnRs (w : World) (base : Nat) (v : Value) (gs : List GReg) : Prop := OwnC w base 4 v gs.length (flatC regA gs)
def OwnEs (w : World) (base : Nat) (v : Value) (es : List UInt64) : Prop := OwnC w base 1 v es.length (flatC epA es)
theorem OwnC.far {w w' : World} {base k n : Nat} {v : Value} {xs : List Value} (h : OwnC w base k v n xs) (hs : w.heap.size ≤ w'.heap.size) (hb : ∀ g, v.ownBlock = some g → g < w.heap.size → w'.heap[g]? = w.heap[g]?) : OwnC w' base k v n xs := h.keepB hs hb

abbrev Ent := GReg × Reg × UInt64
/-- a branch's registers and epochs, in memory -/
structure BrM (W : World) (B p : Nat) (sa se : Sl) (xs : List Ent) : Prop where
  all : OwnRs W B sa.v (xs.map (·.1))
  eps : OwnEs W B se.v (xs.map (·.2.2))
  dis : ∀ k, sa.v.ownBlock = some k → se.v.ownBlock ≠ some k
  hp : p < B
  hB : B ≤ W.heap.size
  regs : ∀ x ∈ xs, RegM (fun k => k = p ∨ sa.v.ownBlock = some k ∨ se.v.ownBlock = some k) W x.1 x.2.1
theorem BrM.keep {W W' : World} {B p : Nat} {sa se : Sl} {xs : List Ent} (h : BrM W B p sa se xs) (hb : Below W.heap.size W W') : BrM W' B p sa se xs :=
  ⟨OwnC.keep h.all hb, OwnC.keep h.eps hb, h.dis, h.hp, Nat.le_trans h.hB hb.size, fun x hx => (h.regs x hx).keep hb⟩
/-- the variable turns -/
theorem BrM.put {W : World} {B p : Nat} {sa se : Sl} {xs : List Ent} (h : BrM W B p sa se xs) (off : Nat) (vs : Array Value) : BrM (putRow W p off vs) B p sa se xs := by
  have hs : (putRow W p off vs).heap.size = W.heap.size := size_put _ _ _ _
  have hf : ∀ k, k ≠ p → (putRow W p off vs).heap[k]? = W.heap[k]? := fun k hk => put_far _ _ _ _ k hk
  have hp := h.hp
  refine ⟨OwnC.far h.all (by rw [hs]; exact Nat.le_refl _) fun g hg _ => hf g ?_, OwnC.far h.eps (by rw [hs]; exact Nat.le_refl _) fun g hg _ => hf g ?_, h.dis, h.hp, by rw [hs]; exact h.hB, fun x hx => (h.regs x hx).step (by rw [hs]; exact Nat.le_refl _) (fun k hk _ => hf k fun e => hk (.inl e)) fun _ _ h => h⟩
  · have := (h.all.lt g hg).1; omega
  · have := (h.eps.lt g hg).1; omega
end Go.Proofs.Ytkocpihfdpahpaa
