/- Texts of this proof, one behind the other: Stays. -/
import Derived.Test.YtkocpihfdpahpaaRC
import Derived.Deep.RegionHeld3
set_option linter.unusedVariables false
set_option linter.unusedSimpArgs false
/- The walk of landmarklaw11.RegistryStays. -/
namespace Go.Proofs.Ytkocpihfdpahpaa
open Go.RowKit

/-- a register whose memory does not hang on a block -/
def RegOff (p : Nat) (W : World) (g : GReg) (r : Reg) : Prop := ∀ W2 : World, W.heap.size ≤ W2.heap.size → (∀ k, k ≠ p → k < W.heap.size → W2.heap[k]? = W.heap[k]?) → RegR W2 g r
theorem RegOff.reg {p : Nat} {W : World} {g : GReg} {r : Reg} (h : RegOff p W g r) : RegR W g r := h W (Nat.le_refl _) fun _ _ _ => rfl
theorem RegOff.keep {p : Nat} {W W' : World} {g : GReg} {r : Reg} (h : RegOff p W g r) (hb : Below W.heap.size W W') : RegOff p W' g r := fun W2 h2 hb2 =>
  h W2 (Nat.le_trans hb.size h2) fun k h3 h4 => (hb2 k h3 (Nat.lt_of_lt_of_le h4 hb.size)).trans (hb.block k h4)
theorem RegOff.put {p : Nat} {W : World} {g : GReg} {r : Reg} (h : RegOff p W g r) (off : Nat) (xs : Array Value) : RegOff p (putRow W p off xs) g r := fun W2 h2 hb2 => by
  rw [size_put] at h2 hb2
  exact h W2 h2 fun k h3 h4 => (hb2 k h3 h4).trans (put_far _ _ _ _ k h3)
theorem RegAt.off {B p : Nat} {W : World} {g : GReg} {r : Reg} (h : RegAt B W g r) (hp : p < B) : RegOff p W g r := fun W2 h2 hb2 => h W2 h2 fun k h3 h4 => hb2 k (by omega) h4
/-- the variable that holds a register -/
structure RVar (W : World) (p : Nat) (g : GReg) (r : Reg) : Prop where
  row : row? W p 0 4 = some (regA g)
  thr : there W p 0 4
  off : RegOff p W g r
theorem RVar.lt {W : World} {p : Nat} {g : GReg} {r : Reg} (h : RVar W p g r) : p < W.heap.size := lt_of_row h.row
theorem RVar.keep {W W' : World} {p : Nat} {g : GReg} {r : Reg} (h : RVar W p g r) (hb : Below W.heap.size W W') : RVar W' p g r := ⟨(row?_below _ _ _ hb h.lt).trans h.row, there_below hb h.lt h.thr, h.off.keep hb⟩
theorem RVar.set {W : World} {p : Nat} {g g' : GReg} {r r' : Reg} (h : RVar W p g r) (h' : RegOff p W g' r') : RVar (putRow W p 0 (regA g')) p g' r' :=
  ⟨row?_put_same _ _ _ _ _ (by rfl) (by omega) h.thr, there_put _ _ _ _ _ _ _ h.thr, h'.put _ _⟩
theorem hdr_epoch {w : World} {b off : Nat} {g : GHeader} (h : row? w b off 34 = some (headerA g)) : w.cell? ⟨b, off + 32, none⟩ = some (.int .u64 (g.epoch.toNat : Int)) := by
  have h1 := cell_of_row? h 32 (by omega)
  simp only [headerA_epoch] at h1
  exact h1
theorem stays_bounds {r : Reg} (h : RegP r) : r.members.length ≤ 1000000 ∧ r.coming.length ≤ 1000000 ∧ r.going.length ≤ 1000000 := by
  have h1 := h.len.2
  have h2 := h.coming.length_le
  have h3 := h.going.length_le
  omega
end Go.Proofs.Ytkocpihfdpahpaa
