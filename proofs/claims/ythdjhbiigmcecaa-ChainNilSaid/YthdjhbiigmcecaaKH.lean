/- Texts of this proof, one behind the other: Both, DoP, Do, DoW, ChnN. -/
import Derived.Test.YthdjhbiigmcecaaKG
import Derived.Test.YthdjhbiigmcecaaKC
import Derived.Test.YthdjhbiigmcecaaKB
import Derived.Test.YthdjhbiigmcecaaKA
import Derived.Test.YthdjhbiigmcecaaQA
import Derived.BigQuiet
import Derived.Deep.CutRange
set_option linter.unusedVariables false
set_option linter.unusedSimpArgs false
/- The chain and the document's chain, side by side in memory. -/
namespace Go.Proofs.Ythdjhbiigmcecaa
open Go.RowKit

section
variable {B : Nat} {T : Nat → Nat} {W W' : World} {cb : Nat} {C : List Blk}
theorem ChR.keep (h : ChR B T W cb C) (hb : Below W.heap.size W W') : ChR B T W' cb C := by
  obtain ⟨sA, mb, G, h⟩ := h
  exact ⟨sA, mb, G, h.keep hb⟩
theorem ChR.retag (h : ChR B T W cb C) {T' : Nat → Nat} (hT : ∀ k, k < W.heap.size → T' k = T k) : ChR B T' W cb C := by
  obtain ⟨sA, mb, G, h⟩ := h
  exact ⟨sA, mb, G, h.retag hT⟩
theorem ChR.lt (h : ChR B T W cb C) : cb < W.heap.size := by
  obtain ⟨sA, mb, G, h⟩ := h
  exact h.lt
theorem ChR.tB (h : ChR B T W cb C) : ∀ k, k < W.heap.size → T k ≠ 0 → B ≤ k := by
  obtain ⟨sA, mb, G, h⟩ := h
  exact h.tB
/-- blocks of great tags are changed: none of the chain's own -/
theorem ChR.offBig (h : ChR B T W cb C) (hl : C.length ≤ 100000) {M : Nat → Prop} (hb : Asd M W W') (hM : ∀ k, k < W.heap.size → M k → 1000000 ≤ T k) (hT : ∀ k, W.heap.size ≤ k → T k = 0) : ChR B T W' cb C := by
  obtain ⟨sA, mb, G, h⟩ := h
  have hn : ∀ k, k < W.heap.size → T k < 1000000 → ¬ M k := fun k hk ht hm => by
    have := hM k hk hm
    omega
  have hO : Asd (Mut T) W W' := hb.mono fun k hk hm => by
    have := hM k hk hm
    unfold Mut
    omega
  have hM' : ∀ P : World → Prop, Safe (Mut T) W P → Safe (Mut T) W' P := fun P hs => hs.step hO fun _ _ h => h
  refine ⟨sA, mb, G, hb.row (hn _ h.lt (by rw [h.tcb]; omega)) h.row, hb.there (hn _ h.lt (by rw [h.tcb]; omega)) h.lt h.thr, h.tcb, h.all.off hb fun g hg => hn g (OwnC.lt h.all g hg).2 (by rw [h.tall g hg]; omega), h.tall,
    h.map.of_block (hb.block _ h.map.lt (hn _ h.map.lt (by rw [h.tmap]; omega))), h.tmap, fun k hk ht => ?_, Nat.le_trans h.hB hb.size, h.glen, h.ulen, fun i x b hx hbk => ?_⟩
  · rcases Nat.lt_or_ge k W.heap.size with hlt | hge
    · exact h.tB k hlt ht
    · exact absurd (hT k hge) ht
  · have hk := h.blk i x b hx hbk
    have hi : i < C.length := (List.getElem?_eq_some_iff.1 hbk).1
    have n1 := hn _ hk.lt (by rw [hk.tb]; omega)
    exact ⟨hb.row n1 hk.row, hb.there n1 hk.lt hk.thr, hk.ob.imp fun _ h => h.imp fun _ h => (hb.block _ hk.lt n1).trans h, hk.tb, hM' _ hk.hdr, hM' _ hk.up, hk.ch.off hb fun g hg => hn g (OwnC.lt hk.ch g hg).2 (by rw [hk.tc g hg]; omega), hk.tc⟩
end
/-- both: the document's box has a great tag, its rows have none -/
structure Both (w0 : World) (B : Nat) (T : Nat → Nat) (W : World) (cb cr : Nat) (C D : List Blk) : Prop where
  real : ChR B T W cb C
  tag : T cr = 2000000
  doc : ∃ rb cap G, RefC w0 W cr rb cap G D ∧ T rb = 0
  le : w0.heap.size ≤ B
section
variable {w0 W W' : World} {B : Nat} {T : Nat → Nat} {cb cr : Nat} {C D : List Blk}
theorem Both.keep (h : Both w0 B T W cb cr C D) (hb : Below W.heap.size W W') : Both w0 B T W' cb cr C D := by
  obtain ⟨rb, cap, G, hR, h0⟩ := h.doc
  exact ⟨h.real.keep hb, h.tag, ⟨rb, cap, G, hR.keep hb, h0⟩, h.le⟩
end
end Go.Proofs.Ythdjhbiigmcecaa

/- Acts, plainly: what chain they make. -/
namespace Go.Proofs.Ythdjhbiigmcecaa
open Go.RowKit

end Go.Proofs.Ythdjhbiigmcecaa

/- landmarklaw10.do: what it calls, over both chains. -/
namespace Go.Proofs.Ythdjhbiigmcecaa
open Go.RowKit

section
variable {w0 W : World} {B : Nat} {T : Nat → Nat} {cb cr : Nat} {C D : List Blk}
end
theorem splice_header_parent (o : GHeader) (n : Hash) : splice (headerA o) 0 (hashA n) = headerA { o with parent := n } := by
  have h := splice_mid #[] (hashA o.parent) (hashA n) #[.int .u64 (o.epoch.toNat : Int), o.ops.v] 0 rfl (by simp)
  rw [Array.empty_append, Array.empty_append] at h
  exact h
end Go.Proofs.Ythdjhbiigmcecaa

/- The walk of landmarklaw10.do. -/
namespace Go.Proofs.Ythdjhbiigmcecaa
open Go.RowKit

theorem Both.bel {w0 W : World} {B : Nat} {T : Nat → Nat} {cb cr : Nat} {C D : List Blk} (h : Both w0 B T W cb cr C D) : Below w0.heap.size w0 W := by
  obtain ⟨rb, cap, G, hR, -⟩ := h.doc
  exact hR.bel
/-- a block of that tag is written -/
theorem Both.put {w0 W : World} {B : Nat} {T : Nat → Nat} {cb cr : Nat} {C D : List Blk} (h : Both w0 B T W cb cr C D) (hl : C.length ≤ 100000) {b : Nat} (hb : b < W.heap.size) (ht : T b = 2500000) (off : Nat) (xs : Array Value) :
    ∃ T', Both w0 B T' (putRow W b off xs) cb cr C D ∧ ∀ k, k < W.heap.size → T' k = T k := by
  obtain ⟨rb, cap, G, hR, h0⟩ := h.doc
  have hT : ∀ k, k < W.heap.size → (if k < W.heap.size then T k else 0) = T k := fun k hk => if_pos hk
  refine ⟨fun k => if k < W.heap.size then T k else 0, ⟨(h.real.retag (T' := fun k => if k < W.heap.size then T k else 0) hT).offBig hl (asd_put W b off xs) (fun k hk e => ?_) (fun k hk => if_neg (by omega)), (hT _ hR.cbW).trans h.tag, ⟨rb, cap, G, hR.off (asd_put W b off xs) (fun k e => ?_) (fun e => ?_) (fun e => ?_), (hT _ hR.lt).trans h0⟩, h.le⟩, hT⟩
  · have e' : k = b := e
    show 1000000 ≤ (if k < W.heap.size then T k else 0)
    rw [if_pos hk, e', ht]
    omega
  · have e' : k = b := e
    rw [e']
    exact Nat.le_trans h.le (h.real.tB b hb (by omega))
  · have e' : cr = b := e
    have := h.tag
    rw [e', ht] at this
    omega
  · have e' : rb = b := e
    rw [e', ht] at h0
    omega
theorem Both.retag {w0 W : World} {B : Nat} {T T' : Nat → Nat} {cb cr : Nat} {C D : List Blk} (h : Both w0 B T W cb cr C D) (hT : ∀ k, k < W.heap.size → T' k = T k) : Both w0 B T' W cb cr C D := by
  obtain ⟨rb, cap, G, hR, h0⟩ := h.doc
  exact ⟨h.real.retag hT, (hT _ hR.cbW).trans h.tag, ⟨rb, cap, G, hR, (hT _ hR.lt).trans h0⟩, h.le⟩
/-- what is tagged as another's, or not at all, stays -/
def Fr (T : Nat → Nat) (W : World) (T' : Nat → Nat) (W' : World) : Prop := W.heap.size ≤ W'.heap.size ∧ ∀ k, k < W.heap.size → T' k = T k ∧ (T k = 0 ∨ T k = 3000000 → W'.heap[k]? = W.heap[k]?)
theorem Fr.refl (T : Nat → Nat) (W : World) : Fr T W T W := ⟨Nat.le_refl _, fun _ _ => ⟨rfl, fun _ => rfl⟩⟩
theorem Fr.tag {T T1 T2 : Nat → Nat} {W W1 : World} (h : Fr T W T1 W1) (hT : ∀ k, k < W1.heap.size → T2 k = T1 k) : Fr T W T2 W1 :=
  ⟨h.1, fun k hk => ⟨(hT k (Nat.lt_of_lt_of_le hk h.1)).trans (h.2 k hk).1, (h.2 k hk).2⟩⟩
theorem Fr.below {T T1 : Nat → Nat} {W W1 W2 : World} (h : Fr T W T1 W1) (hb : Below W1.heap.size W1 W2) : Fr T W T1 W2 :=
  ⟨Nat.le_trans h.1 hb.size, fun k hk => ⟨(h.2 k hk).1, fun ht => (hb.block k (Nat.lt_of_lt_of_le hk h.1)).trans ((h.2 k hk).2 ht)⟩⟩
theorem Fr.asd {T T1 T2 : Nat → Nat} {W W1 W2 : World} {M : Nat → Prop} (h : Fr T W T1 W1) (hb : Asd M W1 W2) (hM : ∀ k, k < W1.heap.size → T1 k = 0 ∨ T1 k = 3000000 → ¬ M k) (hT : ∀ k, k < W1.heap.size → T2 k = T1 k) : Fr T W T2 W2 :=
  ⟨Nat.le_trans h.1 hb.size, fun k hk => by
    have hk1 := Nat.lt_of_lt_of_le hk h.1
    obtain ⟨h1, h2⟩ := h.2 k hk
    exact ⟨(hT k hk1).trans h1, fun ht => (hb.block k hk1 (hM k hk1 (by rw [h1]; exact ht))).trans (h2 ht)⟩⟩
end Go.Proofs.Ythdjhbiigmcecaa

/- A chain, asked for a name that it has not: Path, Parent, Header, Children. -/
namespace Go.Proofs.Ythdjhbiigmcecaa
open Go.RowKit

section
variable {W : World} {cb ab ac mb : Nat} {G : List GB} {C : List Blk}
end
section
variable {B : Nat} {T : Nat → Nat} {W : World} {cb : Nat} {C : List Blk} (h : ChR B T W cb C) (hok : ChnOk C)
include h hok
end
end Go.Proofs.Ythdjhbiigmcecaa
