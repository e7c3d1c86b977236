/- Texts of this proof, one behind the other: RefHdr, RefMay. -/
import Derived.Test.YthdjhbiigmcecaaQB
import Derived.Test.YthdjhbiigmcecaaQC
import Derived.Deep.CutRange
set_option linter.unusedVariables false
set_option linter.unusedSimpArgs false
/- Contracts: ref09.Op, Header, NameText. -/
namespace Go.Proofs.Ythdjhbiigmcecaa
open Go.RowKit

theorem hdBytes_length {h : Hdr} (hl : h.ops.length ≤ 16) (hm : h.ops.all opMay = true) : (hdBytes h).length ≤ 200000 := by
  have h1 := ops_len h.ops 16 hm
  rw [List.take_of_length_le hl] at h1
  rw [hdBytes_eq, List.length_append, hdHead_length]
  omega
/-- the text of which a header's name is the hash -/
def nmText (h : Hdr) : List UInt8 := [104, 101, 97, 100, 101, 114] ++ hdBytes h

/-- a literal that is turned into bytes: still a slice of the call's own -/
theorem own_freeze (w : World) (base : Nat) (l : List UInt8) (cs : Array Value) (e : TypeId) (n : Nat) (hcs : cs = (l.map byteV).toArray) (hn : n = l.length) (hb : base ≤ w.heap.size) (hm : l.length ≤ maxLen) :
    Own ((w.alloc (.cells cs e)).freeze ⟨w.heap.size, n, none⟩ 1) base (.slice (some ⟨w.heap.size, 0, none⟩) n n) l := by
  have hk := freeze_kept (w.alloc (.cells cs e)) w.heap.size n 0 (Nat.zero_le _)
  have hf : ∀ j, j < n → ((w.alloc (.cells cs e)).freeze ⟨w.heap.size, n, none⟩ 1).frozen? ⟨w.heap.size, j, none⟩ = false := fun j hj => by
    unfold World.frozen? World.freeze
    rw [if_neg (by decide)]
    simp only [Array.getElem?_modify, if_true, heap_alloc_new]
    simp
    omega
  obtain ⟨hl, h⟩ := Own.lit w base l cs e n hcs hn hb hm
  rcases h with ⟨hv, _⟩ | ⟨g, cap, hv, h1, h2, h3, h4, h5, h6, h7⟩
  · cases hv
  · injection hv with e1 e2 e3
    injection e1 with e1
    injection e1 with e1 _
    subst e1 e3
    refine ⟨hl, .inr ⟨w.heap.size, n, by rw [hn], h1, Nat.lt_of_lt_of_le h2 hk.size, h3, h4, fun j hj => ?_, fun j hj => hf j (by omega), fun j u hu => hk.cell (h7 j u hu)⟩⟩
    obtain ⟨x, hx⟩ := Option.isSome_iff_exists.1 (h5 j hj)
    rw [hk.cell hx]
    rfl

end Go.Proofs.Ythdjhbiigmcecaa

/- Contracts: ref09.MayOp, MayHeader, Much. -/
namespace Go.Proofs.Ythdjhbiigmcecaa
open Go.RowKit

end Go.Proofs.Ythdjhbiigmcecaa
