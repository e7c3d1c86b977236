/- Texts of this proof, one behind the other: Read, ReadVote, ReadPoint, OrderPlain, Known09, Order, Ref01, RefGet, RefRd, RefNum, RefPoint, RefPof, RefJoin, RefVote. -/
import Derived.Test.YthdjhbiigmcecaaQB
import Derived.Test.YthdjhbiigmcecaaQA
import Derived.Laws.CopyOwn
import Derived.Deep.RegionHeld3
import Derived.Deep.RegionLaw
import Derived.Laws.IdiomStrings
import Derived.Lib.BufferRead
import Derived.Deep.QuietTactic
import Derived.BigQuiet
import Derived.Lib.ConvBytes
set_option linter.unusedVariables false
set_option linter.unusedSimpArgs false
/- Contracts: codec.hash, readPoint. -/
namespace Go.Proofs.Ythdjhbiigmcecaa
open Go.RowKit

end Go.Proofs.Ythdjhbiigmcecaa

/- Contracts: codec.readVote, read, PointOf, VoteOf. -/
namespace Go.Proofs.Ythdjhbiigmcecaa
open Go.RowKit

theorem VoteR.mk {w : World} {k : Int} {p q : Pt} {s : Sl} {l : List UInt8} (h : BytesR w s l) : VoteR w ⟨k, p, q, s⟩ ⟨k, p, q, l⟩ := ⟨rfl, rfl, rfl, h⟩
/-- a vote that lies in memory of the call's own -/
def VoteO (lo D : Nat) (w : World) (g : GVote) (v : Vote) : Prop := g.validator = v.validator ∧ g.source = v.source ∧ g.target = v.target ∧ BytesO w g.sig v.sig ∧ LowSl lo D g.sig v.sig
theorem VoteO.keep {lo D : Nat} {w w' : World} {g : GVote} {v : Vote} (h : VoteO lo D w g v) (hb : Below w.heap.size w w') : VoteO lo D w' g v := ⟨h.1, h.2.1, h.2.2.1, h.2.2.2.1.keep hb, h.2.2.2.2⟩
theorem VoteO.wide {lo D lo' D' : Nat} {w : World} {g : GVote} {v : Vote} (h : VoteO lo D w g v) (h1 : lo' ≤ lo) (h2 : D ≤ D') : VoteO lo' D' w g v := ⟨h.1, h.2.1, h.2.2.1, h.2.2.2.1, fun hne a ha => ⟨Nat.le_trans h1 (h.2.2.2.2 hne a ha).1, Nat.lt_of_lt_of_le (h.2.2.2.2 hne a ha).2 h2⟩⟩
theorem VoteO.zero (lo D : Nat) (w : World) (a : Option Addr) (c : Nat) : VoteO lo D w ⟨0, zeroPt, zeroPt, ⟨a, 0, c⟩⟩ ⟨0, zeroPt, zeroPt, []⟩ := ⟨rfl, rfl, rfl, BytesO.nil _ _ _, LowSl.nil _ _ _⟩
theorem VoteO.mk {lo D : Nat} {w : World} {k : Int} {p q : Pt} {s : Sl} {l : List UInt8} (h : BytesO w s l) (hl : LowSl lo D s l) : VoteO lo D w ⟨k, p, q, s⟩ ⟨k, p, q, l⟩ := ⟨rfl, rfl, rfl, h, hl⟩
end Go.Proofs.Ythdjhbiigmcecaa

/- Contracts: codec.read at points; PointOf, VoteOf, VoteBytes, HeaderBytes. -/
namespace Go.Proofs.Ythdjhbiigmcecaa
open Go.RowKit

theorem hdrMay_out {h : Hdr} (hm : hdrMay h = true) : h.ops.length ≤ 16 ∧ h.ops.all opMay = true := by
  simp only [hdrMay, Bool.and_eq_true, decide_eq_true_eq] at hm
  exact ⟨hm.1.2, hm.2⟩
end Go.Proofs.Ythdjhbiigmcecaa

/- The order of checkpoints is the order of their bytes: plain Lean. -/
namespace Go.Proofs.Ythdjhbiigmcecaa
open Go.RowKit

end Go.Proofs.Ythdjhbiigmcecaa

/- Contract: landmarklaw09.known. -/
namespace Go.Proofs.Ythdjhbiigmcecaa
open Go.RowKit

end Go.Proofs.Ythdjhbiigmcecaa

/- The walk of landmarklaw09.CodecOrder. -/
namespace Go.Proofs.Ythdjhbiigmcecaa
open Go.RowKit

/-- three checkpoints in rows of their own -/
def Rows3 (B : Nat) (W : World) (a b c : Pt) : Prop := row? W B 0 33 = some (pointA a) ∧ row? W (B + 1) 0 33 = some (pointA b) ∧ row? W (B + 1 + 1) 0 33 = some (pointA c) ∧ B + 1 + 1 < W.heap.size
theorem Rows3.keep {B : Nat} {W W' : World} {a b c : Pt} (h : Rows3 B W a b c) (hb : Below W.heap.size W W') : Rows3 B W' a b c := by
  obtain ⟨h1, h2, h3, h4⟩ := h
  have := hb.size
  exact ⟨by rw [row?_below _ _ _ hb (by omega)]; exact h1, by rw [row?_below _ _ _ hb (by omega)]; exact h2, by rw [row?_below _ _ _ hb (by omega)]; exact h3, by omega⟩

end Go.Proofs.Ythdjhbiigmcecaa

/- Contracts of package landmarkref01: numbers. -/
namespace Go.Proofs.Ythdjhbiigmcecaa
open Go.RowKit

end Go.Proofs.Ythdjhbiigmcecaa

/- Contract of landmarkref01.Get. -/
namespace Go.Proofs.Ythdjhbiigmcecaa
open Go.RowKit

end Go.Proofs.Ythdjhbiigmcecaa

/- Contracts of landmarkref01.Reader. -/
namespace Go.Proofs.Ythdjhbiigmcecaa
open Go.RowKit

/-- where the document's reader stands: what is left; none: it has failed -/
def RfR (lo : Nat) (w : World) (r : Nat) : Option (List UInt8) → Prop
  | none => lo ≤ r ∧ ∃ x y, w.heap[r]? = some (.cells #[x, y, .bool true] 146 (0, 0))
  | some l => ∃ (s : Sl) (full : List UInt8) (k : Nat), w.heap[r]? = some (.cells #[s.v, .int .i64 k, .bool false] 146 (0, 0)) ∧
    BytesR w s full ∧ k ≤ full.length ∧ full.length ≤ 140737488355328 ∧ LowSl 0 lo s full ∧ lo ≤ r ∧ l = full.drop k

theorem RfR.lt {lo : Nat} {w : World} {r : Nat} {st : Option (List UInt8)} (h : RfR lo w r st) : r < w.heap.size := by
  obtain ⟨o, hg⟩ : ∃ o, w.heap[r]? = some o := by
    cases st with
    | none => obtain ⟨_, _, _, hg⟩ := h; exact ⟨_, hg⟩
    | some l => obtain ⟨_, _, _, hg, _⟩ := h; exact ⟨_, hg⟩
  rcases Nat.lt_or_ge r w.heap.size with hlt | hge
  · exact hlt
  · rw [Array.getElem?_eq_none hge] at hg; cases hg
theorem RfR.le {lo : Nat} {w : World} {r : Nat} {st : Option (List UInt8)} (h : RfR lo w r st) : lo ≤ r := by
  cases st with
  | none => exact h.1
  | some l => obtain ⟨_, _, _, _, _, _, _, _, h, _⟩ := h; exact h
theorem BytesR.keepLow {lo D : Nat} {w w' : World} {s : Sl} {l : List UInt8} (h : BytesR w s l) (hl : LowSl lo D s l) (hb : ∀ b, b < D → w'.heap[b]? = w.heap[b]?) : BytesR w' s l :=
  ⟨h.1, h.2.1, fun hne => by
    obtain ⟨b, off, ha, hc⟩ := h.2.2 hne
    exact ⟨b, off, ha, fun i hi => (World.cell?_of_block (a := ⟨b, off + i, none⟩) (hb b (hl hne ⟨b, off, none⟩ ha).2)).trans (hc i hi)⟩⟩
theorem LowSl.up {lo D D' : Nat} {s : Sl} {l : List UInt8} (h : LowSl lo D s l) (hD : D ≤ D') : LowSl lo D' s l := fun hne a ha => ⟨(h hne a ha).1, Nat.lt_of_lt_of_le (h hne a ha).2 hD⟩
theorem RfR.keepB {lo D : Nat} {w w' : World} {r : Nat} {st : Option (List UInt8)} (h : RfR lo w r st) (hr : r < D) (hb : Below D w w') : RfR lo w' r st := by
  cases st with
  | none => obtain ⟨hlr, x, y, hg⟩ := h; exact ⟨hlr, x, y, (hb.block r hr).trans hg⟩
  | some l => obtain ⟨s, full, k, hg, hs, h1, h2, hl, hlr, h3⟩ := h; exact ⟨s, full, k, (hb.block r hr).trans hg, hs.keepLow (hl.up (Nat.le_of_lt (Nat.lt_of_le_of_lt hlr hr))) (fun b hlt => hb.block b hlt), h1, h2, hl, hlr, h3⟩
theorem RfR.keep {lo : Nat} {w w' : World} {r : Nat} {st : Option (List UInt8)} (h : RfR lo w r st) (hb : Below w.heap.size w w') : RfR lo w' r st := h.keepB h.lt hb

end Go.Proofs.Ythdjhbiigmcecaa

/- Contracts: Reader.Number, Blob; ref09.hash, point. -/
namespace Go.Proofs.Ythdjhbiigmcecaa
open Go.RowKit

end Go.Proofs.Ythdjhbiigmcecaa

/- Contracts: ref09.point, MayPoint, Point, PointLess. -/
namespace Go.Proofs.Ythdjhbiigmcecaa
open Go.RowKit

end Go.Proofs.Ythdjhbiigmcecaa

/- Contract: ref09.PointOf. -/
namespace Go.Proofs.Ythdjhbiigmcecaa
open Go.RowKit

theorem IsB.keepB {l : List UInt8} {v : Value} {w w' : World} (h : IsB l v w) (hb : Below w.heap.size w w') : IsB l v w' := by
  obtain ⟨s, hv, hs⟩ := h
  exact ⟨s, hv, hs.keep hb⟩
/-- a new reader -/
theorem RfR.new {w : World} {s : Sl} {l : List UInt8} (hs : BytesR w s l) (hl : l.length ≤ 140737488355328) (W : World) (hW : Below w.heap.size w W) (r : Nat) (hr : r = W.heap.size) :
    RfR w.heap.size (W.alloc (.cells #[s.v, .int .i64 0, .bool false] 146)) r (some l) := by
  subst hr
  refine ⟨s, l, 0, heap_alloc_new W _, (hs.keep hW).keep (bel_a _ _), Nat.zero_le _, hl, fun hne a ha => ⟨Nat.zero_le _, ?_⟩, hW.size, rfl⟩
  obtain ⟨b, off, ha', hc⟩ := hs.2.2 hne
  rw [ha] at ha'
  injection ha' with ha'
  subst ha'
  have h0 : 0 < l.length := by cases l <;> simp_all
  exact lt_of_cell (hc 0 h0)

end Go.Proofs.Ythdjhbiigmcecaa

/- Contracts: landmarkref01.Join, Blob, Reader.Blob. -/
namespace Go.Proofs.Ythdjhbiigmcecaa
open Go.RowKit

end Go.Proofs.Ythdjhbiigmcecaa

/- Contracts: ref09.MayVote, Vote, SameVote; Reader.Blob. -/
namespace Go.Proofs.Ythdjhbiigmcecaa
open Go.RowKit

theorem Pieces.keepB {ls : List (List UInt8)} {v : Value} {w w' : World} (h : Pieces ls v w) (hb : Below w.heap.size w w') : Pieces ls v w' := by
  obtain ⟨b, ss, h1, h2, h3, h4⟩ := h
  exact ⟨b, ss, h1, h2, fun i hi => (hb.cell (p := ⟨b, i, none⟩) (lt_of_cell (h3 i hi))).trans (h3 i hi), fun i hi hj => (h4 i hi hj).keep hb⟩

end Go.Proofs.Ythdjhbiigmcecaa
