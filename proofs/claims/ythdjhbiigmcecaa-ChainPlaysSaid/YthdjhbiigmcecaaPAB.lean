/- Texts of this proof, one behind the other: Wire2, There. -/
import Derived.Test.YthdjhbiigmcecaaPAA
set_option linter.unusedVariables false
set_option linter.unusedSimpArgs false
/- Contracts of package wire: the reader. -/
namespace Go.Proofs.Ythdjhbiigmcecaa
open Go.RowKit

theorem grown_below {D : Nat} {w w1 w2 : World} {row : Option Nat} (hg : w.grownBy w1 row) (hb : Below D w1 w2) (hD : w.heap.size ≤ D) : w.grownBy w2 row :=
 ⟨hb.os.trans hg.os, hb.tape.trans hg.tape, hb.output.trans hg.output, Nat.le_trans hg.size hb.size, fun k hk hr => (hb.block k (by omega)).trans (hg.block k hk hr)⟩
theorem drop_reads {w : World} {b off : Nat} {l : List UInt8} (hc : ∀ (i : Nat) (hi : i < l.length), w.cell? ⟨b, off + i, none⟩ = some (byteV l[i])) (k c : Nat) (hk : l.length - k ≤ c) :
  BytesR w ⟨some ⟨b, off + k, none⟩, l.length - k, c⟩ (l.drop k) :=
 ⟨by simp, hk, fun _ => ⟨b, off + k, rfl, fun i hi => by
  have h : k + i < l.length := by simp at hi; omega
  rw [Nat.add_assoc, hc (k + i) h]; simp⟩⟩

theorem grown_set (w : World) (r i : Nat) (v : Value) : w.grownBy (w.setCell ⟨r, i, none⟩ v) (some r) :=
 ⟨rfl, rfl, rfl, by simp, fun k _ hk => Below.heap_setCell w ⟨r, i, none⟩ v k (fun e => hk (by rw [e]))⟩
theorem heap_set (w : World) (r i : Nat) (cs : Array Value) (t : TypeId) (v : Value) (hg : w.heap[r]? = some (.cells cs t (0, 0))) :
  (w.setCell ⟨r, i, none⟩ v).heap[r]? = some (.cells (cs.setIfInBounds i v) t (0, 0)) := heap_setCell_same w r i cs t v hg

end Go.Proofs.Ythdjhbiigmcecaa

/- A block that is known whole may be written. -/
namespace Go.Proofs.Ythdjhbiigmcecaa
open Go.RowKit

theorem there_block {w : World} {b n : Nat} {cs : Array Value} {t : TypeId} (h : w.heap[b]? = some (.cells cs t (0, 0))) (hn : n ≤ cs.size) : there w b 0 n := by
 intro j hj
 refine ⟨?_, frozen_of_row w b _ cs t h⟩
 rw [cell_of_row w b _ cs t _ h, Nat.zero_add, Array.getElem?_eq_getElem (by omega)]
 rfl
theorem grown_undrew {w w' : World} {row : Option Nat} (h : w.drew.grownBy w' row) : w.grownBy w' row := ⟨h.os, h.tape, h.output, h.size, h.block⟩
end Go.Proofs.Ythdjhbiigmcecaa
