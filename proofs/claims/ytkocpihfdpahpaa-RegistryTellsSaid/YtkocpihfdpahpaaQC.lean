/- Texts of this proof, one behind the other: Read, ReadVote, ReadPoint, OrderPlain, Known09, Order, Ref01, RefGet, RefRd, RefNum, RefPoint, RefPof, RefJoin, RefVote. -/
import Derived.Test.YtkocpihfdpahpaaQB
import Derived.Test.YtkocpihfdpahpaaQA
import Derived.Laws.CopyOwn
import Derived.Deep.RegionHeld3
import Derived.Deep.RegionLaw
import Derived.Laws.IdiomStrings
import Derived.Lib.BufferRead
import Derived.Deep.QuietTactic
import Derived.BigQuiet
import Derived.Lib.ConvBytes
set_option linter.unusedVariables false
set_option linter.unusedSimpArgs false
/- Contracts: codec.hash, readPoint. -/
namespace Go.Proofs.Ytkocpihfdpahpaa
open Go.RowKit

def toHash (l : List UInt8) : Hash := if h : l.length = 32 then ⟨l, h⟩ else zeroHash
/-- what hash leaves, and hands back -/
def rdHash (st : Option (List UInt8)) : Option (List UInt8) × Hash := ((rdBytes st 32).1, toHash (rdBytes st 32).2)
def rdPoint (st : Option (List UInt8)) : Option (List UInt8) × Pt := ((rdHash (rdNum st 8).1).1, ⟨UInt64.ofNat (rdNum st 8).2, (rdHash (rdNum st 8).1).2⟩)

theorem hash_res : Try.f192.results = #[.cell 2 24] := by kernel_rfl
theorem splice_hash (l : List UInt8) (h : l.length = 32) : Go.splice (hashA zeroHash).toList 0 (l.map byteV) = (l.map byteV) := by
  have := zeroHash.2
  simp [Go.splice, hashA, h, this]

theorem copy_n {W : World} {s : Sl} {l : List UInt8} (hs : BytesR W s l) (hlen : l.length = 0 ∨ l.length = 32) : (l.map byteV).length = Nat.min s.n 32 := by
  rw [List.length_map, hs.1]
  rcases hlen with h | h <;> rw [h] <;> rfl
theorem copy_at {W : World} {s : Sl} {l : List UInt8} (hs : BytesR W s l) (p : Addr) : 0 < (l.map byteV).length → some p = some p ∧ ∃ ad, s.a = some ad ∧ ∀ j v, (l.map byteV)[j]? = some v → W.cell? (ad.add j) = some v := by
  intro h
  obtain ⟨b, off, ha, hc⟩ := hs.2.2 (by intro e; subst e; simp at h)
  refine ⟨rfl, _, ha, fun j v hv => ?_⟩
  have hj : j < l.length := by
    rcases Nat.lt_or_ge j l.length with hj | hj
    · exact hj
    · rw [List.getElem?_eq_none (by simpa using hj)] at hv; cases hv
  have hadd : (⟨b, off, none⟩ : Addr).add j = ⟨b, off + j, none⟩ := by unfold Addr.add; split <;> simp_all
  rw [hadd, hc j hj]
  simpa [hj] using hv
theorem copy_fit {l : List UInt8} (hlen : l.length = 0 ∨ l.length = 32) : 0 + (l.map byteV).length ≤ (hashA zeroHash).toList.length := by
  have := hashA_size zeroHash
  simp
  omega
theorem copy_one (l : List UInt8) : ∀ v ∈ l.map byteV, v.oneCell' = true := by
  intro v hv
  obtain ⟨x, _, rfl⟩ := List.mem_map.1 hv
  rfl

theorem splice_name (l : List UInt8) (hlen : l.length = 0 ∨ l.length = 32) : some (Obj.cells (Go.splice (hashA zeroHash).toList 0 (l.map byteV)).toArray 24 (0, 0)) = some (Obj.cells (hashA (toHash l)) 24 (0, 0)) := by
  rcases hlen with h | h
  · obtain rfl := List.eq_nil_of_length_eq_zero h
    simp [Go.splice, toHash]
  · rw [splice_hash l h]
    simp [toHash, h, hashA]

set_option maxRecDepth 100000 in
set_option maxHeartbeats 800000 in
theorem hash_c (r : Nat) (st : Option (List UInt8)) (w : World) {lo : Nat} (h : RdR lo w r st) :
    Calls Try.prog 192 #[.pointer (some ⟨r, 0, none⟩)] w fun e w' => e = .returned (.agg (hashA (rdHash st).2)) ∧ RdR lo w' r (rdHash st).1 ∧ w.grownBy w' (some r) := by
  have hlt := h.lt
  have HC := fun W (hW : RdR lo W r st) => rbytes_c r st 32 W hW (by omega) (by omega)
  have hlen := rdBytes_len st 32
  unfold rdHash
  generalize rdBytes st 32 = res at *
  have Hh := Lib.hid h
  clear h
  go_enter Try.func192, Try.ntmps192
  go_wp2_with fail
  have hg0 : (w.alloc (.cells (hashA zeroHash) 24)).heap[w.heap.size]? = some (.cells (hashA zeroHash) 24 (0, 0)) := heap_alloc_new w _
  have HC := HC (w.alloc (.cells (hashA zeroHash) 24)).drew (Hh.out.keep (bel_ad _ _))
  have hsz : (w.alloc (.cells (hashA zeroHash) 24)).heap.size = w.heap.size + 1 := by simp
  have hne : w.heap.size ≠ r := by omega
  go_region_held3 (fun _ => True) (trivial)
    (first
      | (go_simp; go_at_call 88; (with_reducible refine HC.mono ?_); rintro e w2 ⟨s, rfl, hs, hlo, hr, hg⟩; have hg1 : w2.heap[w.heap.size]? = some (.cells (hashA zeroHash) 24 (0, 0)) := (hg.block _ (by rw [World.size_drew, hsz]; omega) (fun e => hne (by injection e))).trans hg0)
      | (refine step_copy_splice (by rfl) (.tmp 3) (.tmp 5) 32 32 (by rfl) 5 Try.underlying32 (by kernel_rfl) (some ⟨w.heap.size, 0, none⟩) s.a 32 32 s.n s.c (by rfl) (by rfl) w.heap.size 0 (hashA zeroHash).toList 24 hg1 (res.2.map byteV) (copy_n hs.1 hlen) (copy_at hs.1 _) (copy_fit hlen) (copy_one _) w.heap.size w2 (Below.refl _ _) (Nat.le_refl _) ?_; intro w3 hg3 hb3))
  have hblk := (hg3.out).trans (by rw [splice_name res.2 hlen] : _ = some (Obj.cells (hashA (toHash res.2)) 24 (0, 0)))
  have hrow : row? w3 w.heap.size 0 32 = some (hashA (toHash res.2)) := by
    unfold row?
    rw [hblk]
    simp
  have hth : there w3 w.heap.size 0 32 := there_block hblk (by simp)
  have hR := Lib.hid (hr.keepB hlt hb3)
  have hG : w.grownBy w3 (some r) := grown_below ((World.grownBy_alloc w _ _).trans (grown_undrew hg)) hb3 (Nat.le_refl _)
  have HG := Lib.hid hG
  clear hg hg0 hg1 hg3 hblk hr hs hlo hG HC hlen
  go_wp2_with (with_reducible refine ret_row Try.isAgg24 Try.sizeOf24 hash_res (x := .pointer (some ⟨w.heap.size, 0, none⟩)) (w.heap.size) 0 ?rrhx (Eq.refl _) ?rrh ?rrhd ?rrhR; (case rrhx => simp only [Array.getD_eq_getD_getElem?, List.getElem?_toArray, List.getElem?_cons_succ, List.getElem?_cons_zero, Option.getD_some]); (case rrhd => exact rfl); (case rrh => go_simp); (case rrhR => ((refine ⟨?_, hR.out.keepB hlt ?_, grown_below HG.out ?_ (Nat.le_refl _)⟩; (case refine_1 => (go_simp; done)); (case refine_2 => ((repeat' (first | (with_reducible exact Below.refl _ _) | (with_reducible assumption) | (with_reducible refine bel_trans (by assumption) ?_ ?_) | (with_reducible refine bel_grown (by assumption) ?_ ?_ ?_) | (with_reducible refine Below.alloc ?_ ?_ _) | (with_reducible refine Below.drew ?_) | (with_reducible refine below_drewN ?_ _) | (with_reducible refine Below.setCell ?_ ?_ _) | (with_reducible refine below_put ?_ ?_ _ _) | (with_reducible exact Nat.le_refl _) | omega | (with_reducible refine Nat.le_trans ?_ (Below.size (by assumption))) | (with_reducible refine Nat.le_trans ?_ (World.grownBy.size (by assumption))) | (simp only [World.size_alloc, World.size_setCell, World.size_drew, size_drewN]; omega) | (simp only [World.size_alloc, World.size_setCell, World.size_drew, size_drewN, size_put]; omega) | (intro k hk; simp [Value.ownBlock] at hk; done) | (intro k hk; simp [Value.ownBlock] at hk; omega) | (simp [size_drewN] at *; omega))))); (case refine_3 => ((repeat' (first | (with_reducible exact Below.refl _ _) | (with_reducible assumption) | (with_reducible refine bel_trans (by assumption) ?_ ?_) | (with_reducible refine bel_grown (by assumption) ?_ ?_ ?_) | (with_reducible refine Below.alloc ?_ ?_ _) | (with_reducible refine Below.drew ?_) | (with_reducible refine below_drewN ?_ _) | (with_reducible refine Below.setCell ?_ ?_ _) | (with_reducible refine below_put ?_ ?_ _ _) | (with_reducible exact Nat.le_refl _) | omega | (with_reducible refine Nat.le_trans ?_ (Below.size (by assumption))) | (with_reducible refine Nat.le_trans ?_ (World.grownBy.size (by assumption))) | (simp only [World.size_alloc, World.size_setCell, World.size_drew, size_drewN]; omega) | (simp only [World.size_alloc, World.size_setCell, World.size_drew, size_drewN, size_put]; omega) | (intro k hk; simp [Value.ownBlock] at hk; done) | (intro k hk; simp [Value.ownBlock] at hk; omega) | (simp [size_drewN] at *; omega)))))))))

theorem rpoint_res : Try.f151.results = #[.cell 2 26] := by kernel_rfl
set_option maxRecDepth 100000 in
set_option maxHeartbeats 800000 in
theorem readPoint_c (r : Nat) (st : Option (List UInt8)) (w : World) {lo : Nat} (h : RdR lo w r st) :
    Calls Try.prog 151 #[.pointer (some ⟨r, 0, none⟩)] w fun e w' => e = .returned (.agg (pointA (rdPoint st).2)) ∧ RdR lo w' r (rdPoint st).1 ∧ w.grownBy w' (some r) := by
  have hlt := h.lt
  have HC := fun W (hW : RdR lo W r st) => rnum_c r st 8 W hW (by omega)
  have hn := rdNum_lt st 8
  have HH := fun W (hW : RdR lo W r (rdNum st 8).1) => hash_c r (rdNum st 8).1 W hW
  unfold rdPoint
  generalize rdNum st 8 = res at *
  generalize rdHash res.1 = res2 at *
  obtain ⟨s1, n1⟩ := res
  obtain ⟨u, rfl⟩ : ∃ u : UInt64, n1 = u.toNat := ⟨UInt64.ofNat n1, by simp only at hn; simp; omega⟩
  simp only [UInt64.ofNat_toNat]
  have Hh := Lib.hid h
  clear h hn
  go_enter Try.func151, Try.ntmps151
  go_wp2_with fail
  refine (HC _ (Hh.out.keep (bel_a _ _))).mono ?_
  clear HC
  rintro e w1 ⟨rfl, hr1, hg1⟩
  go_wp2_with fail
  refine (HH _ hr1).mono ?_
  clear HH
  rintro e w2 ⟨rfl, hr2, hg2⟩
  have hg := hg1.trans hg2
  have hblk : w2.heap[w.heap.size]? = some (.cells (pointA zeroPt) 26 (0, 0)) := (hg.block _ (by simp) (by intro e; injection e; omega)).trans (heap_alloc_new w _)
  have hrow : row? w2 w.heap.size 0 33 = some (pointA zeroPt) := by
    unfold row?
    rw [hblk]
    simp
  have hth : there w2 w.heap.size 0 33 := there_block hblk (by simp)
  have hR := Lib.hid hr2
  have HG := Lib.hid ((World.grownBy_alloc w (.cells (pointA zeroPt) 26) _).trans hg)
  clear hg hg1 hg2 hblk hr1 hr2
  go_wp2_with (with_reducible refine ret_row Try.isAgg26 Try.sizeOf26 rpoint_res (x := .pointer (some ⟨w.heap.size, 0, none⟩)) (w.heap.size) 0 ?rrhx (Eq.refl _) ?rrh ?rrhd ?rrhR; (case rrhx => simp only [Array.getD_eq_getD_getElem?, List.getElem?_toArray, List.getElem?_cons_succ, List.getElem?_cons_zero, Option.getD_some]); (case rrhd => exact rfl); (case rrh => go_simp); (case rrhR => ((refine ⟨?_, hR.out.keepB hlt ?_, grown_below HG.out ?_ (Nat.le_refl _)⟩; (case refine_1 => (go_simp; done)); (case refine_2 => ((repeat' (first | (with_reducible exact Below.refl _ _) | (with_reducible assumption) | (with_reducible refine bel_trans (by assumption) ?_ ?_) | (with_reducible refine bel_grown (by assumption) ?_ ?_ ?_) | (with_reducible refine Below.alloc ?_ ?_ _) | (with_reducible refine Below.drew ?_) | (with_reducible refine below_drewN ?_ _) | (with_reducible refine Below.setCell ?_ ?_ _) | (with_reducible refine below_put ?_ ?_ _ _) | (with_reducible exact Nat.le_refl _) | omega | (with_reducible refine Nat.le_trans ?_ (Below.size (by assumption))) | (with_reducible refine Nat.le_trans ?_ (World.grownBy.size (by assumption))) | (simp only [World.size_alloc, World.size_setCell, World.size_drew, size_drewN]; omega) | (simp only [World.size_alloc, World.size_setCell, World.size_drew, size_drewN, size_put]; omega) | (intro k hk; simp [Value.ownBlock] at hk; done) | (intro k hk; simp [Value.ownBlock] at hk; omega) | (simp [size_drewN] at *; omega))))); (case refine_3 => ((repeat' (first | (with_reducible exact Below.refl _ _) | (with_reducible assumption) | (with_reducible refine bel_trans (by assumption) ?_ ?_) | (with_reducible refine bel_grown (by assumption) ?_ ?_ ?_) | (with_reducible refine Below.alloc ?_ ?_ _) | (with_reducible refine Below.drew ?_) | (with_reducible refine below_drewN ?_ _) | (with_reducible refine Below.setCell ?_ ?_ _) | (with_reducible refine below_put ?_ ?_ _ _) | (with_reducible exact Nat.le_refl _) | omega | (with_reducible refine Nat.le_trans ?_ (Below.size (by assumption))) | (with_reducible refine Nat.le_trans ?_ (World.grownBy.size (by assumption))) | (simp only [World.size_alloc, World.size_setCell, World.size_drew, size_drewN]; omega) | (simp only [World.size_alloc, World.size_setCell, World.size_drew, size_drewN, size_put]; omega) | (intro k hk; simp [Value.ownBlock] at hk; done) | (intro k hk; simp [Value.ownBlock] at hk; omega) | (simp [size_drewN] at *; omega)))))))))
end Go.Proofs.Ytkocpihfdpahpaa

/- Contracts: codec.readVote, read, PointOf, VoteOf. -/
namespace Go.Proofs.Ytkocpihfdpahpaa
open Go.RowKit

theorem VoteR.mk {w : World} {k : Int} {p q : Pt} {s : Sl} {l : List UInt8} (h : BytesR w s l) : VoteR w ⟨k, p, q, s⟩ ⟨k, p, q, l⟩ := ⟨rfl, rfl, rfl, h⟩
/-- a vote that lies in memory of the call's own -/
def VoteO (lo D : Nat) (w : World) (g : GVote) (v : Vote) : Prop := g.validator = v.validator ∧ g.source = v.source ∧ g.target = v.target ∧ BytesO w g.sig v.sig ∧ LowSl lo D g.sig v.sig
theorem VoteO.r {lo D : Nat} {w : World} {g : GVote} {v : Vote} (h : VoteO lo D w g v) : VoteR w g v := ⟨h.1, h.2.1, h.2.2.1, h.2.2.2.1.1⟩
theorem VoteO.keep {lo D : Nat} {w w' : World} {g : GVote} {v : Vote} (h : VoteO lo D w g v) (hb : Below w.heap.size w w') : VoteO lo D w' g v := ⟨h.1, h.2.1, h.2.2.1, h.2.2.2.1.keep hb, h.2.2.2.2⟩
theorem VoteO.keepNe {lo D b : Nat} {w w' : World} {g : GVote} {v : Vote} (h : VoteO lo D w g v) (hg : b < lo ∨ D ≤ b) (hk : ∀ k, k < w.heap.size → k ≠ b → w'.heap[k]? = w.heap[k]?) : VoteO lo D w' g v := ⟨h.1, h.2.1, h.2.2.1, h.2.2.2.1.keepNe h.2.2.2.2 hg hk, h.2.2.2.2⟩
theorem VoteO.wide {lo D lo' D' : Nat} {w : World} {g : GVote} {v : Vote} (h : VoteO lo D w g v) (h1 : lo' ≤ lo) (h2 : D ≤ D') : VoteO lo' D' w g v := ⟨h.1, h.2.1, h.2.2.1, h.2.2.2.1, fun hne a ha => ⟨Nat.le_trans h1 (h.2.2.2.2 hne a ha).1, Nat.lt_of_lt_of_le (h.2.2.2.2 hne a ha).2 h2⟩⟩
theorem VoteO.zero (lo D : Nat) (w : World) (a : Option Addr) (c : Nat) : VoteO lo D w ⟨0, zeroPt, zeroPt, ⟨a, 0, c⟩⟩ ⟨0, zeroPt, zeroPt, []⟩ := ⟨rfl, rfl, rfl, BytesO.nil _ _ _, LowSl.nil _ _ _⟩
theorem VoteO.mk {lo D : Nat} {w : World} {k : Int} {p q : Pt} {s : Sl} {l : List UInt8} (h : BytesO w s l) (hl : LowSl lo D s l) : VoteO lo D w ⟨k, p, q, s⟩ ⟨k, p, q, l⟩ := ⟨rfl, rfl, rfl, h, hl⟩
theorem put_block (w : World) (b off : Nat) (xs : Array Value) (k : Nat) (h : k ≠ b) : (putRow w b off xs).heap[k]? = w.heap[k]? := setCells_far _ _ _ _ _ h
/-- what readVote leaves, and hands back -/
def rdVote (st : Option (List UInt8)) : Option (List UInt8) × Vote :=
  let a := rdNum st 1
  let b := rdPoint a.1
  let c := rdPoint b.1
  let d := rdBlob c.1
  (d.1, ⟨a.2, b.2, c.2, d.2⟩)
theorem rvote_res : Try.f156.results = #[.cell 2 85] := by kernel_rfl
theorem zc_vote : Try.zeroCells85 = voteA ⟨0, zeroPt, zeroPt, ⟨none, 0, 0⟩⟩ := by
  unfold Try.zeroCells85
  exact zero_vote 0

set_option maxRecDepth 100000 in
set_option maxHeartbeats 800000 in
theorem readVote_c (r : Nat) (st : Option (List UInt8)) (w : World) {lo : Nat} (h : RdR lo w r st) :
    Calls Try.prog 156 #[.pointer (some ⟨r, 0, none⟩)] w fun e w' => ∃ g, e = .returned (.agg (voteA g)) ∧ VoteO lo r w' g (rdVote st).2 ∧ RdR lo w' r (rdVote st).1 ∧ w.grownBy w' (some r) := by
  have hlt := h.lt
  have HC := fun W (hW : RdR lo W r st) => rnum_c r st 1 W hW (by omega)
  have hn := rdNum_lt st 1
  have hzc := zc_vote
  unfold rdVote
  generalize rdNum st 1 = a at *
  obtain ⟨a1, a2⟩ := a
  simp only at hn HC ⊢
  have HP := fun W (hW : RdR lo W r a1) => readPoint_c r a1 W hW
  generalize rdPoint a1 = b at *
  obtain ⟨b1, b2⟩ := b
  have HQ := fun W (hW : RdR lo W r b1) => readPoint_c r b1 W hW
  simp only at HP HQ ⊢
  generalize rdPoint b1 = c at *
  obtain ⟨c1, c2⟩ := c
  have HB := fun W (hW : RdR lo W r c1) => rblob_c r c1 W hW
  simp only at HQ HB ⊢
  generalize rdBlob c1 = d at *
  obtain ⟨d1, d2⟩ := d
  simp only at HB ⊢
  have hw : IntKind.i64.wrap (a2 : Int) = a2 := IntWalk.i64_in _ (by omega)
  have Hh := Lib.hid h
  clear h hn
  go_enter Try.func156, Try.ntmps156
  go_wp2_with fail
  refine (HC _ (Hh.out.keep (bel_a _ _))).mono ?_
  clear HC
  rintro e w1 ⟨rfl, hr1, hg1⟩
  go_wp2_with fail
  refine (HP _ hr1).mono ?_
  clear HP
  rintro e w2 ⟨rfl, hr2, hg2⟩
  go_wp2_with fail
  refine (HQ _ hr2).mono ?_
  clear HQ
  rintro e w3 ⟨rfl, hr3, hg3⟩
  go_wp2_with fail
  refine (HB _ hr3).mono ?_
  clear HB
  rintro e w4 ⟨s, rfl, hs, hlo, hr4, hg4⟩
  have hg := ((hg1.trans hg2).trans hg3).trans hg4
  have hblk : w4.heap[w.heap.size]? = some (.cells (voteA ⟨0, zeroPt, zeroPt, ⟨none, 0, 0⟩⟩) 85 (0, 0)) := (hg.block _ (by simp) (by intro e; injection e; omega)).trans (heap_alloc_new w _)
  have hrow : row? w4 w.heap.size 0 68 = some (voteA ⟨0, zeroPt, zeroPt, ⟨none, 0, 0⟩⟩) := by
    unfold row?
    rw [hblk]
    simp
  have hth : there w4 w.heap.size 0 68 := there_block hblk (by simp)
  have hR := Lib.hid hr4
  have HG := Lib.hid ((World.grownBy_alloc w (.cells (voteA ⟨0, zeroPt, zeroPt, ⟨none, 0, 0⟩⟩) 85) _).trans hg)
  have Hs := Lib.hid hs
  have Hlo := Lib.hid hlo
  obtain ⟨sa, sn, sc⟩ := s
  dsimp only [Sl.v]
  clear hg hg1 hg2 hg3 hg4 hblk hr1 hr2 hr3 hr4 hs hlo
  go_wp2_with (with_reducible refine ret_row Try.isAgg85 Try.sizeOf85 rvote_res (x := .pointer (some ⟨w.heap.size, 0, none⟩)) (w.heap.size) 0 ?rrhx (Eq.refl _) ?rrh ?rrhd ?rrhR; (case rrhx => simp only [Array.getD_eq_getD_getElem?, List.getElem?_toArray, List.getElem?_cons_succ, List.getElem?_cons_zero, Option.getD_some]); (case rrhd => exact rfl); (case rrh => go_simp); (case rrhR => ((refine ⟨⟨a2, b2, c2, ⟨sa, sn, sc⟩⟩, ?_, VoteO.mk (Hs.out.keepNe Hlo.out (.inr (Nat.le_of_lt hlt)) (fun k _ hk => put_block _ _ _ _ _ hk)) Hlo.out, hR.out.keepB hlt ?_, grown_below HG.out ?_ (Nat.le_refl _)⟩; (case refine_1 => (go_simp; done)); (case refine_2 => ((repeat' (first | (with_reducible exact Below.refl _ _) | (with_reducible assumption) | (with_reducible refine bel_trans (by assumption) ?_ ?_) | (with_reducible refine bel_grown (by assumption) ?_ ?_ ?_) | (with_reducible refine Below.alloc ?_ ?_ _) | (with_reducible refine Below.drew ?_) | (with_reducible refine below_drewN ?_ _) | (with_reducible refine Below.setCell ?_ ?_ _) | (with_reducible refine below_put ?_ ?_ _ _) | (with_reducible exact Nat.le_refl _) | omega | (with_reducible refine Nat.le_trans ?_ (Below.size (by assumption))) | (with_reducible refine Nat.le_trans ?_ (World.grownBy.size (by assumption))) | (simp only [World.size_alloc, World.size_setCell, World.size_drew, size_drewN]; omega) | (simp only [World.size_alloc, World.size_setCell, World.size_drew, size_drewN, size_put]; omega) | (intro k hk; simp [Value.ownBlock] at hk; done) | (intro k hk; simp [Value.ownBlock] at hk; omega) | (simp [size_drewN] at *; omega))))); (case refine_3 => ((repeat' (first | (with_reducible exact Below.refl _ _) | (with_reducible assumption) | (with_reducible refine bel_trans (by assumption) ?_ ?_) | (with_reducible refine bel_grown (by assumption) ?_ ?_ ?_) | (with_reducible refine Below.alloc ?_ ?_ _) | (with_reducible refine Below.drew ?_) | (with_reducible refine below_drewN ?_ _) | (with_reducible refine Below.setCell ?_ ?_ _) | (with_reducible refine below_put ?_ ?_ _ _) | (with_reducible exact Nat.le_refl _) | omega | (with_reducible refine Nat.le_trans ?_ (Below.size (by assumption))) | (with_reducible refine Nat.le_trans ?_ (World.grownBy.size (by assumption))) | (simp only [World.size_alloc, World.size_setCell, World.size_drew, size_drewN]; omega) | (simp only [World.size_alloc, World.size_setCell, World.size_drew, size_drewN, size_put]; omega) | (intro k hk; simp [Value.ownBlock] at hk; done) | (intro k hk; simp [Value.ownBlock] at hk; omega) | (simp [size_drewN] at *; omega)))))))))

/-- the vote of bytes, and the error -/
def voteOf (l : List UInt8) : Vote × Int := if (rdVote (some l)).1 = some [] ∧ voteMay (rdVote (some l)).2 = true ∧ vtBytes (rdVote (some l)).2 = l then ((rdVote (some l)).2, 0) else (⟨0, zeroPt, zeroPt, []⟩, 4)
theorem readv_res : Try.f155.results = #[.cell 8 85, .tmp 9] := by kernel_rfl
theorem rdEnd_ne (st : Option (List UInt8)) (h : st ≠ some []) : ((rdEnd st : Int) != 0) = true := by simp [rdEnd, h]
theorem rdEnd_eq : ((rdEnd (some []) : Int) != 0) = false := by simp [rdEnd]

set_option maxRecDepth 100000 in
set_option maxHeartbeats 800000 in
theorem readVotes_c (s : Sl) (l : List UInt8) (w : World) (hs : BytesR w s l) (hl : l.length ≤ 140737488355328) :
    Calls Try.prog 155 #[s.v, .func (.func 156) #[] #[], .func (.func 157) #[] #[], .func (.func 158) #[] #[]] w
      fun e w' => ∃ g, e = .returned (.tuple #[.agg (voteA g), .int .i64 (voteOf l).2]) ∧ VoteO w.heap.size w'.heap.size w' g (voteOf l).1 ∧ Below w.heap.size w w' := by
  have hzc := zc_vote
  have HR := fun r lo W (h : RdR lo W r (some l)) => readVote_c r (some l) W h
  unfold voteOf
  generalize rdVote (some l) = res at *
  obtain ⟨st, v⟩ := res
  simp only at HR ⊢
  have Hs := Lib.hid hs
  clear hs
  generalize hX : (if st = some [] ∧ voteMay v = true ∧ vtBytes v = l then (v, (0 : Int)) else (⟨0, zeroPt, zeroPt, []⟩, 4)) = X
  have HX := Lib.hid hX
  clear hX
  go_enter Try.func155, Try.ntmps155
  go_wp2_with fail
  refine (read_c s l _ (Hs.out.keep (bel_a _ _)) hl).mono ?_
  rintro e w1 ⟨r, rfl, hlr, hr1, hb1⟩
  simp only [World.size_alloc] at hlr
  have hz1 : w.heap.size < w1.heap.size := by have := hb1.size; simp at this; omega
  go_wp2_with fail
  refine (HR r _ w1 hr1).mono ?_
  clear HR
  rintro e w2 ⟨g, rfl, hv, hr2, hg2⟩
  have hB2 : Below w.heap.size w w2 := bel_grown hg2 (by (repeat' (first | (with_reducible exact Below.refl _ _) | (with_reducible assumption) | (with_reducible refine bel_trans (by assumption) ?_ ?_) | (with_reducible refine bel_grown (by assumption) ?_ ?_ ?_) | (with_reducible refine Below.alloc ?_ ?_ _) | (with_reducible refine Below.drew ?_) | (with_reducible refine below_drewN ?_ _) | (with_reducible refine Below.setCell ?_ ?_ _) | (with_reducible refine below_put ?_ ?_ _ _) | (with_reducible exact Nat.le_refl _) | omega | (with_reducible refine Nat.le_trans ?_ (Below.size (by assumption))) | (with_reducible refine Nat.le_trans ?_ (World.grownBy.size (by assumption))) | (simp only [World.size_alloc, World.size_setCell, World.size_drew, size_drewN]; omega) | (simp only [World.size_alloc, World.size_setCell, World.size_drew, size_drewN, size_put]; omega) | (intro k hk; simp [Value.ownBlock] at hk; done) | (intro k hk; simp [Value.ownBlock] at hk; omega) | (simp [size_drewN] at *; omega)))) (by omega) (by intro k hk; injection hk; omega)
  have hblk : w2.heap[w.heap.size]? = some (.cells (voteA ⟨0, zeroPt, zeroPt, ⟨none, 0, 0⟩⟩) 85 (0, 0)) := (hg2.block _ hz1 (by intro e; injection e; omega)).trans ((hb1.block _ (by simp)).trans (heap_alloc_new w _))
  have hrow : row? w2 w.heap.size 0 68 = some (voteA ⟨0, zeroPt, zeroPt, ⟨none, 0, 0⟩⟩) := by
    unfold row?
    rw [hblk]
    simp
  have hth : there w2 w.heap.size 0 68 := there_block hblk (by simp)
  have hz2 : w.heap.size < w2.heap.size := by have := hg2.size; omega
  have hne2 : w.heap.size ≠ w2.heap.size := by omega
  have hz2' : w.heap.size < w2.heap.size + 1 := by omega
  have HB2 := Lib.hid hB2
  have Hv := Lib.hid hv
  have Hr2 := Lib.hid hr2
  clear hg2 hb1 hblk hr1 hB2 hv hr2
  go_wp2_with fail
  refine (rend_c r st _ (Hr2.out.keep (by (repeat' (first | (with_reducible exact Below.refl _ _) | (with_reducible assumption) | (with_reducible refine bel_trans (by assumption) ?_ ?_) | (with_reducible refine bel_grown (by assumption) ?_ ?_ ?_) | (with_reducible refine Below.alloc ?_ ?_ _) | (with_reducible refine Below.drew ?_) | (with_reducible refine below_drewN ?_ _) | (with_reducible refine Below.setCell ?_ ?_ _) | (with_reducible refine below_put ?_ ?_ _ _) | (with_reducible exact Nat.le_refl _) | omega | (with_reducible refine Nat.le_trans ?_ (Below.size (by assumption))) | (with_reducible refine Nat.le_trans ?_ (World.grownBy.size (by assumption))) | (simp only [World.size_alloc, World.size_setCell, World.size_drew, size_drewN]; omega) | (simp only [World.size_alloc, World.size_setCell, World.size_drew, size_drewN, size_put]; omega) | (intro k hk; simp [Value.ownBlock] at hk; done) | (intro k hk; simp [Value.ownBlock] at hk; omega) | (simp [size_drewN] at *; omega)))))).mono ?_
  rintro e w3 ⟨rfl, rfl⟩
  have hB2 := HB2.out
  by_cases hst : st = some []
  case neg =>
    have hb := rdEnd_ne st hst
    have hX : X = (⟨0, zeroPt, zeroPt, []⟩, 4) := by rw [← HX.out, if_neg (fun h => hst h.1)]
    subst hX
    clear hst
    go_wp2_with (with_reducible refine ret_row2 Try.isAgg85 Try.sizeOf85 readv_res (x := .pointer (some ⟨w.heap.size, 0, none⟩)) (y := .int .i64 4) (w.heap.size) 0 ?rrhx (Eq.refl _) ?rrhy ?rrh ?rrhd ?rrhR; (case rrhx => simp only [Array.getD_eq_getD_getElem?, List.getElem?_toArray, List.getElem?_cons_succ, List.getElem?_cons_zero, Option.getD_some]); (case rrhy => simp only [Array.getD_eq_getD_getElem?, List.getElem?_toArray, List.getElem?_cons_succ, List.getElem?_cons_zero, Option.getD_some]); (case rrhd => exact rfl); (case rrh => go_simp); (case rrhR => ((refine ⟨⟨0, zeroPt, zeroPt, ⟨none, 0, 0⟩⟩, ?_, VoteO.zero _ _ _ _ _, ?_⟩; (case refine_1 => (go_simp; done)); (case refine_2 => ((repeat' (first | (with_reducible exact Below.refl _ _) | (with_reducible assumption) | (with_reducible refine bel_trans (by assumption) ?_ ?_) | (with_reducible refine bel_grown (by assumption) ?_ ?_ ?_) | (with_reducible refine Below.alloc ?_ ?_ _) | (with_reducible refine Below.drew ?_) | (with_reducible refine below_drewN ?_ _) | (with_reducible refine Below.setCell ?_ ?_ _) | (with_reducible refine below_put ?_ ?_ _ _) | (with_reducible exact Nat.le_refl _) | omega | (with_reducible refine Nat.le_trans ?_ (Below.size (by assumption))) | (with_reducible refine Nat.le_trans ?_ (World.grownBy.size (by assumption))) | (simp only [World.size_alloc, World.size_setCell, World.size_drew, size_drewN]; omega) | (simp only [World.size_alloc, World.size_setCell, World.size_drew, size_drewN, size_put]; omega) | (intro k hk; simp [Value.ownBlock] at hk; done) | (intro k hk; simp [Value.ownBlock] at hk; omega) | (simp [size_drewN] at *; omega)))))))))
  subst hst
  have hb := rdEnd_eq
  have HM := fun W => mayVote_c g W
  rw [Hv.out.r.may] at HM
  go_wp2_with fail
  refine (HM _).mono ?_
  clear HM
  rintro e w3 ⟨rfl, hb3⟩
  obtain ⟨k1, k2, k3⟩ := kept hb3
  have hB3 : Below w.heap.size w w3 := by (repeat' (first | (with_reducible exact Below.refl _ _) | (with_reducible assumption) | (with_reducible refine bel_trans (by assumption) ?_ ?_) | (with_reducible refine bel_grown (by assumption) ?_ ?_ ?_) | (with_reducible refine Below.alloc ?_ ?_ _) | (with_reducible refine Below.drew ?_) | (with_reducible refine below_drewN ?_ _) | (with_reducible refine Below.setCell ?_ ?_ _) | (with_reducible refine below_put ?_ ?_ _ _) | (with_reducible exact Nat.le_refl _) | omega | (with_reducible refine Nat.le_trans ?_ (Below.size (by assumption))) | (with_reducible refine Nat.le_trans ?_ (World.grownBy.size (by assumption))) | (simp only [World.size_alloc, World.size_setCell, World.size_drew, size_drewN]; omega) | (simp only [World.size_alloc, World.size_setCell, World.size_drew, size_drewN, size_put]; omega) | (intro k hk; simp [Value.ownBlock] at hk; done) | (intro k hk; simp [Value.ownBlock] at hk; omega) | (simp [size_drewN] at *; omega)))
  have hth3 : there w3 w.heap.size 0 68 := there_below hb3 (by simp [size_put]; omega) (by go_simp)
  have hrow3 : row? w3 w.heap.size 0 68 = some (voteA ⟨0, zeroPt, zeroPt, ⟨none, 0, 0⟩⟩) := by
    rw [k3 _ _ _ (by simp [size_put]; omega)]
    go_simp
  have hrowx : row? w3 w2.heap.size 0 68 = some (voteA g) := by
    rw [k3 _ _ _ (by simp [size_put])]
    go_simp
  have hz3 : w2.heap.size < w3.heap.size := by have := hb3.size; simp [size_put] at this; omega
  have hBx : Below w2.heap.size w2 w3 := bel_trans hb3 (by (repeat' (first | (with_reducible exact Below.refl _ _) | (with_reducible assumption) | (with_reducible refine bel_trans (by assumption) ?_ ?_) | (with_reducible refine bel_grown (by assumption) ?_ ?_ ?_) | (with_reducible refine Below.alloc ?_ ?_ _) | (with_reducible refine Below.drew ?_) | (with_reducible refine below_drewN ?_ _) | (with_reducible refine Below.setCell ?_ ?_ _) | (with_reducible refine below_put ?_ ?_ _ _) | (with_reducible exact Nat.le_refl _) | omega | (with_reducible refine Nat.le_trans ?_ (Below.size (by assumption))) | (with_reducible refine Nat.le_trans ?_ (World.grownBy.size (by assumption))) | (simp only [World.size_alloc, World.size_setCell, World.size_drew, size_drewN]; omega) | (simp only [World.size_alloc, World.size_setCell, World.size_drew, size_drewN, size_put]; omega) | (intro k hk; simp [Value.ownBlock] at hk; done) | (intro k hk; simp [Value.ownBlock] at hk; omega) | (simp [size_drewN] at *; omega)))) (by simp [size_put])
  have HBx := Lib.hid hBx
  have hne3 : w.heap.size ≠ w3.heap.size := by omega
  have hzz3 : w.heap.size < w3.heap.size := by omega
  clear k1 k2 k3 hb3 hth hrow hB2 hBx
  cases hm : voteMay v
  · have hX : X = (⟨0, zeroPt, zeroPt, []⟩, 4) := by rw [← HX.out]; simp [hm]
    subst hX
    clear hm
    go_wp2_with (with_reducible refine ret_row2 Try.isAgg85 Try.sizeOf85 readv_res (x := .pointer (some ⟨w.heap.size, 0, none⟩)) (y := .int .i64 4) (w.heap.size) 0 ?rrhx (Eq.refl _) ?rrhy ?rrh ?rrhd ?rrhR; (case rrhx => simp only [Array.getD_eq_getD_getElem?, List.getElem?_toArray, List.getElem?_cons_succ, List.getElem?_cons_zero, Option.getD_some]); (case rrhy => simp only [Array.getD_eq_getD_getElem?, List.getElem?_toArray, List.getElem?_cons_succ, List.getElem?_cons_zero, Option.getD_some]); (case rrhd => exact rfl); (case rrh => go_simp); (case rrhR => ((refine ⟨⟨0, zeroPt, zeroPt, ⟨none, 0, 0⟩⟩, ?_, VoteO.zero _ _ _ _ _, ?_⟩; (case refine_1 => (go_simp; done)); (case refine_2 => ((repeat' (first | (with_reducible exact Below.refl _ _) | (with_reducible assumption) | (with_reducible refine bel_trans (by assumption) ?_ ?_) | (with_reducible refine bel_grown (by assumption) ?_ ?_ ?_) | (with_reducible refine Below.alloc ?_ ?_ _) | (with_reducible refine Below.drew ?_) | (with_reducible refine below_drewN ?_ _) | (with_reducible refine Below.setCell ?_ ?_ _) | (with_reducible refine below_put ?_ ?_ _ _) | (with_reducible exact Nat.le_refl _) | omega | (with_reducible refine Nat.le_trans ?_ (Below.size (by assumption))) | (with_reducible refine Nat.le_trans ?_ (World.grownBy.size (by assumption))) | (simp only [World.size_alloc, World.size_setCell, World.size_drew, size_drewN]; omega) | (simp only [World.size_alloc, World.size_setCell, World.size_drew, size_drewN, size_put]; omega) | (intro k hk; simp [Value.ownBlock] at hk; done) | (intro k hk; simp [Value.ownBlock] at hk; omega) | (simp [size_drewN] at *; omega)))))))))
  obtain ⟨m1, m2, m3, m4, m5⟩ := voteMay_out hm
  have Hm := Lib.hid hm
  clear hm m4 m5
  go_wp2_with fail
  (with_reducible refine (vote_c g v w3 (Hv.out.r.keep' HBx.out) m1 m2 m3).mono ?_)
  rintro e w4 ⟨x, rfl, ho, hb4⟩
  obtain ⟨s2, rfl⟩ := ho.slice
  obtain ⟨k1, k2, k3⟩ := kept hb4
  have hB4 : Below w.heap.size w w4 := by (repeat' (first | (with_reducible exact Below.refl _ _) | (with_reducible assumption) | (with_reducible refine bel_trans (by assumption) ?_ ?_) | (with_reducible refine bel_grown (by assumption) ?_ ?_ ?_) | (with_reducible refine Below.alloc ?_ ?_ _) | (with_reducible refine Below.drew ?_) | (with_reducible refine below_drewN ?_ _) | (with_reducible refine Below.setCell ?_ ?_ _) | (with_reducible refine below_put ?_ ?_ _ _) | (with_reducible exact Nat.le_refl _) | omega | (with_reducible refine Nat.le_trans ?_ (Below.size (by assumption))) | (with_reducible refine Nat.le_trans ?_ (World.grownBy.size (by assumption))) | (simp only [World.size_alloc, World.size_setCell, World.size_drew, size_drewN]; omega) | (simp only [World.size_alloc, World.size_setCell, World.size_drew, size_drewN, size_put]; omega) | (intro k hk; simp [Value.ownBlock] at hk; done) | (intro k hk; simp [Value.ownBlock] at hk; omega) | (simp [size_drewN] at *; omega)))
  have hz4 : w2.heap.size < w4.heap.size := by have := hb4.size; omega
  have hth4 : there w4 w.heap.size 0 68 := there_below hb4 (by omega) hth3
  have hrow4 : row? w4 w.heap.size 0 68 = some (voteA ⟨0, zeroPt, zeroPt, ⟨none, 0, 0⟩⟩) := by rw [k3 _ _ _ (by omega)]; exact hrow3
  have hrowy : row? w4 w2.heap.size 0 68 = some (voteA g) := by rw [k3 _ _ _ hz3]; exact hrowx
  have hvl := vtBytes_length v
  have Hv4 := Lib.hid ((Hv.out.keep HBx.out).keep hb4)
  have HB4 := Lib.hid hB4
  clear k1 k2 k3 hb4 hth3 hrow3 hrowx hB3 hB4
  go_wp2_with fail
  (with_reducible refine (sequal_c s2 s (vtBytes v) l w4 ho.reads (Hs.out.keep HB4.out) (by omega)).mono ?_)
  rintro e w5 ⟨rfl, n, hw5⟩
  have hb5 : Below w4.heap.size w4 w5 := by rw [hw5]; exact below_drewN (Below.refl _ _) n
  clear hw5
  obtain ⟨k1, k2, k3⟩ := kept hb5
  have hth5 : there w5 w.heap.size 0 68 := there_below hb5 (by omega) hth4
  have hrow5 : row? w5 w.heap.size 0 68 = some (voteA ⟨0, zeroPt, zeroPt, ⟨none, 0, 0⟩⟩) := by rw [k3 _ _ _ (by omega)]; exact hrow4
  have hrowz : row? w5 w2.heap.size 0 68 = some (voteA g) := by rw [k3 _ _ _ hz4]; exact hrowy
  have hz5 := hb5.size
  have hne5 : w.heap.size ≠ w5.heap.size := by omega
  have hzz5 : w.heap.size < w5.heap.size := by omega
  have Hv5 := Lib.hid (Hv4.out.keep hb5)
  have HB5 := Lib.hid hb5
  have hzr : r ≤ w5.heap.size := by have := Hr2.out.lt; omega
  clear k1 k2 k3 hb5 hth4 hrow4 hrowy
  have hB5 : Below w.heap.size w w5 := HB4.out.trans (HB5.out.mono (by omega))
  by_cases he : vtBytes v = l
  · have hX : X = (v, 0) := by rw [← HX.out]; simp [Hm.out, he]
    subst hX
    have hd := dec_true he
    clear he hvl
    go_wp2_with (with_reducible refine ret_row2 Try.isAgg85 Try.sizeOf85 readv_res (x := .pointer (some ⟨w.heap.size, 0, none⟩)) (y := .int .i64 0) (w.heap.size) 0 ?rrhx (Eq.refl _) ?rrhy ?rrh ?rrhd ?rrhR; (case rrhx => simp only [Array.getD_eq_getD_getElem?, List.getElem?_toArray, List.getElem?_cons_succ, List.getElem?_cons_zero, Option.getD_some]); (case rrhy => simp only [Array.getD_eq_getD_getElem?, List.getElem?_toArray, List.getElem?_cons_succ, List.getElem?_cons_zero, Option.getD_some]); (case rrhd => exact rfl); (case rrh => go_simp); (case rrhR => ((refine ⟨g, ?_, (Hv5.out.keepNe (b := w.heap.size) (.inl ?_) (fun k _ hk => put_block _ _ _ _ _ hk)).wide ?_ ?_, ?_⟩; (case refine_1 => (go_simp; done)); (case refine_2 => (simp; done)); (case refine_3 => (simp; done)); (case refine_4 => (rw [size_put]; exact hzr)); (case refine_5 => ((repeat' (first | (with_reducible exact Below.refl _ _) | (with_reducible assumption) | (with_reducible refine bel_trans (by assumption) ?_ ?_) | (with_reducible refine bel_grown (by assumption) ?_ ?_ ?_) | (with_reducible refine Below.alloc ?_ ?_ _) | (with_reducible refine Below.drew ?_) | (with_reducible refine below_drewN ?_ _) | (with_reducible refine Below.setCell ?_ ?_ _) | (with_reducible refine below_put ?_ ?_ _ _) | (with_reducible exact Nat.le_refl _) | omega | (with_reducible refine Nat.le_trans ?_ (Below.size (by assumption))) | (with_reducible refine Nat.le_trans ?_ (World.grownBy.size (by assumption))) | (simp only [World.size_alloc, World.size_setCell, World.size_drew, size_drewN]; omega) | (simp only [World.size_alloc, World.size_setCell, World.size_drew, size_drewN, size_put]; omega) | (intro k hk; simp [Value.ownBlock] at hk; done) | (intro k hk; simp [Value.ownBlock] at hk; omega) | (simp [size_drewN] at *; omega)))))))))
  · have hX : X = (⟨0, zeroPt, zeroPt, []⟩, 4) := by rw [← HX.out]; simp [he]
    subst hX
    have hd := dec_false he
    clear he hvl
    go_wp2_with (with_reducible refine ret_row2 Try.isAgg85 Try.sizeOf85 readv_res (x := .pointer (some ⟨w.heap.size, 0, none⟩)) (y := .int .i64 4) (w.heap.size) 0 ?rrhx (Eq.refl _) ?rrhy ?rrh ?rrhd ?rrhR; (case rrhx => simp only [Array.getD_eq_getD_getElem?, List.getElem?_toArray, List.getElem?_cons_succ, List.getElem?_cons_zero, Option.getD_some]); (case rrhy => simp only [Array.getD_eq_getD_getElem?, List.getElem?_toArray, List.getElem?_cons_succ, List.getElem?_cons_zero, Option.getD_some]); (case rrhd => exact rfl); (case rrh => go_simp); (case rrhR => ((refine ⟨⟨0, zeroPt, zeroPt, ⟨none, 0, 0⟩⟩, ?_, VoteO.zero _ _ _ _ _, ?_⟩; (case refine_1 => (go_simp; done)); (case refine_2 => ((repeat' (first | (with_reducible exact Below.refl _ _) | (with_reducible assumption) | (with_reducible refine bel_trans (by assumption) ?_ ?_) | (with_reducible refine bel_grown (by assumption) ?_ ?_ ?_) | (with_reducible refine Below.alloc ?_ ?_ _) | (with_reducible refine Below.drew ?_) | (with_reducible refine below_drewN ?_ _) | (with_reducible refine Below.setCell ?_ ?_ _) | (with_reducible refine below_put ?_ ?_ _ _) | (with_reducible exact Nat.le_refl _) | omega | (with_reducible refine Nat.le_trans ?_ (Below.size (by assumption))) | (with_reducible refine Nat.le_trans ?_ (World.grownBy.size (by assumption))) | (simp only [World.size_alloc, World.size_setCell, World.size_drew, size_drewN]; omega) | (simp only [World.size_alloc, World.size_setCell, World.size_drew, size_drewN, size_put]; omega) | (intro k hk; simp [Value.ownBlock] at hk; done) | (intro k hk; simp [Value.ownBlock] at hk; omega) | (simp [size_drewN] at *; omega)))))))))
end Go.Proofs.Ytkocpihfdpahpaa

/- Contracts: codec.read at points; PointOf, VoteOf, VoteBytes, HeaderBytes. -/
namespace Go.Proofs.Ytkocpihfdpahpaa
open Go.RowKit

/-- the checkpoint of bytes, and the error -/
def pointOf (l : List UInt8) : Pt × Int := if (rdPoint (some l)).1 = some [] ∧ mayPt (rdPoint (some l)).2 = true ∧ ptBytes (rdPoint (some l)).2 = l then ((rdPoint (some l)).2, 0) else (zeroPt, 4)
theorem readp_res : Try.f150.results = #[.cell 8 26, .tmp 9] := by kernel_rfl

set_option maxRecDepth 100000 in
set_option maxHeartbeats 800000 in
theorem readPoints_c (s : Sl) (l : List UInt8) (w : World) (hs : BytesR w s l) (hl : l.length ≤ 140737488355328) :
    Calls Try.prog 150 #[s.v, .func (.func 151) #[] #[], .func (.func 143) #[] #[], .func (.func 152) #[] #[]] w
      fun e w' => e = .returned (.tuple #[.agg (pointA (pointOf l).1), .int .i64 (pointOf l).2]) ∧ Below w.heap.size w w' := by
  have HR := fun r lo W (h : RdR lo W r (some l)) => readPoint_c r (some l) W h
  unfold pointOf
  generalize rdPoint (some l) = res at *
  obtain ⟨st, v⟩ := res
  simp only at HR ⊢
  have Hs := Lib.hid hs
  clear hs
  generalize hX : (if st = some [] ∧ mayPt v = true ∧ ptBytes v = l then (v, (0 : Int)) else (zeroPt, 4)) = X
  have HX := Lib.hid hX
  clear hX
  go_enter Try.func150, Try.ntmps150
  go_wp2_with fail
  refine (read_c s l _ (Hs.out.keep (bel_a _ _)) hl).mono ?_
  rintro e w1 ⟨r, rfl, hlr, hr1, hb1⟩
  simp only [World.size_alloc] at hlr
  have hz1 : w.heap.size < w1.heap.size := by have := hb1.size; simp at this; omega
  go_wp2_with fail
  refine (HR r _ w1 hr1).mono ?_
  clear HR
  rintro e w2 ⟨rfl, hr2, hg2⟩
  have hB2 : Below w.heap.size w w2 := bel_grown hg2 (by (repeat' (first | (with_reducible exact Below.refl _ _) | (with_reducible assumption) | (with_reducible refine bel_trans (by assumption) ?_ ?_) | (with_reducible refine bel_grown (by assumption) ?_ ?_ ?_) | (with_reducible refine Below.alloc ?_ ?_ _) | (with_reducible refine Below.drew ?_) | (with_reducible refine below_drewN ?_ _) | (with_reducible refine Below.setCell ?_ ?_ _) | (with_reducible refine below_put ?_ ?_ _ _) | (with_reducible exact Nat.le_refl _) | omega | (with_reducible refine Nat.le_trans ?_ (Below.size (by assumption))) | (with_reducible refine Nat.le_trans ?_ (World.grownBy.size (by assumption))) | (simp only [World.size_alloc, World.size_setCell, World.size_drew, size_drewN]; omega) | (simp only [World.size_alloc, World.size_setCell, World.size_drew, size_drewN, size_put]; omega) | (intro k hk; simp [Value.ownBlock] at hk; done) | (intro k hk; simp [Value.ownBlock] at hk; omega) | (simp [size_drewN] at *; omega)))) (by omega) (by intro k hk; injection hk; omega)
  have hblk : w2.heap[w.heap.size]? = some (.cells (pointA zeroPt) 26 (0, 0)) := (hg2.block _ hz1 (by intro e; injection e; omega)).trans ((hb1.block _ (by simp)).trans (heap_alloc_new w _))
  have hrow : row? w2 w.heap.size 0 33 = some (pointA zeroPt) := by
    unfold row?
    rw [hblk]
    simp
  have hth : there w2 w.heap.size 0 33 := there_block hblk (by simp)
  have hz2 : w.heap.size < w2.heap.size := by have := hg2.size; omega
  have hne2 : w.heap.size ≠ w2.heap.size := by omega
  have hz2' : w.heap.size < w2.heap.size + 1 := by omega
  have HB2 := Lib.hid hB2
  have Hr2 := Lib.hid hr2
  clear hg2 hb1 hblk hr1 hB2 hr2
  go_wp2_with fail
  refine (rend_c r st _ (Hr2.out.keep (by (repeat' (first | (with_reducible exact Below.refl _ _) | (with_reducible assumption) | (with_reducible refine bel_trans (by assumption) ?_ ?_) | (with_reducible refine bel_grown (by assumption) ?_ ?_ ?_) | (with_reducible refine Below.alloc ?_ ?_ _) | (with_reducible refine Below.drew ?_) | (with_reducible refine below_drewN ?_ _) | (with_reducible refine Below.setCell ?_ ?_ _) | (with_reducible refine below_put ?_ ?_ _ _) | (with_reducible exact Nat.le_refl _) | omega | (with_reducible refine Nat.le_trans ?_ (Below.size (by assumption))) | (with_reducible refine Nat.le_trans ?_ (World.grownBy.size (by assumption))) | (simp only [World.size_alloc, World.size_setCell, World.size_drew, size_drewN]; omega) | (simp only [World.size_alloc, World.size_setCell, World.size_drew, size_drewN, size_put]; omega) | (intro k hk; simp [Value.ownBlock] at hk; done) | (intro k hk; simp [Value.ownBlock] at hk; omega) | (simp [size_drewN] at *; omega)))))).mono ?_
  rintro e w3 ⟨rfl, rfl⟩
  have hB2 := HB2.out
  by_cases hst : st = some []
  case neg =>
    have hb := rdEnd_ne st hst
    have hX : X = (zeroPt, 4) := by rw [← HX.out, if_neg (fun h => hst h.1)]
    subst hX
    clear hst
    go_wp2_with (with_reducible refine ret_row2 Try.isAgg26 Try.sizeOf26 readp_res (x := .pointer (some ⟨w.heap.size, 0, none⟩)) (y := .int .i64 4) (w.heap.size) 0 ?rrhx (Eq.refl _) ?rrhy ?rrh ?rrhd ?rrhR; (case rrhx => simp only [Array.getD_eq_getD_getElem?, List.getElem?_toArray, List.getElem?_cons_succ, List.getElem?_cons_zero, Option.getD_some]); (case rrhy => simp only [Array.getD_eq_getD_getElem?, List.getElem?_toArray, List.getElem?_cons_succ, List.getElem?_cons_zero, Option.getD_some]); (case rrhd => exact rfl); (case rrh => go_simp); (case rrhR => ((refine ⟨?_, ?_⟩; (case refine_1 => (go_simp; done)); (case refine_2 => ((repeat' (first | (with_reducible exact Below.refl _ _) | (with_reducible assumption) | (with_reducible refine bel_trans (by assumption) ?_ ?_) | (with_reducible refine bel_grown (by assumption) ?_ ?_ ?_) | (with_reducible refine Below.alloc ?_ ?_ _) | (with_reducible refine Below.drew ?_) | (with_reducible refine below_drewN ?_ _) | (with_reducible refine Below.setCell ?_ ?_ _) | (with_reducible refine below_put ?_ ?_ _ _) | (with_reducible exact Nat.le_refl _) | omega | (with_reducible refine Nat.le_trans ?_ (Below.size (by assumption))) | (with_reducible refine Nat.le_trans ?_ (World.grownBy.size (by assumption))) | (simp only [World.size_alloc, World.size_setCell, World.size_drew, size_drewN]; omega) | (simp only [World.size_alloc, World.size_setCell, World.size_drew, size_drewN, size_put]; omega) | (intro k hk; simp [Value.ownBlock] at hk; done) | (intro k hk; simp [Value.ownBlock] at hk; omega) | (simp [size_drewN] at *; omega)))))))))
  subst hst
  have hb := rdEnd_eq
  have HM := fun W => mayPoint_c v W
  go_wp2_with fail
  refine (HM _).mono ?_
  clear HM
  rintro e w3 ⟨rfl, hb3⟩
  obtain ⟨k1, k2, k3⟩ := kept hb3
  have hB3 : Below w.heap.size w w3 := by (repeat' (first | (with_reducible exact Below.refl _ _) | (with_reducible assumption) | (with_reducible refine bel_trans (by assumption) ?_ ?_) | (with_reducible refine bel_grown (by assumption) ?_ ?_ ?_) | (with_reducible refine Below.alloc ?_ ?_ _) | (with_reducible refine Below.drew ?_) | (with_reducible refine below_drewN ?_ _) | (with_reducible refine Below.setCell ?_ ?_ _) | (with_reducible refine below_put ?_ ?_ _ _) | (with_reducible exact Nat.le_refl _) | omega | (with_reducible refine Nat.le_trans ?_ (Below.size (by assumption))) | (with_reducible refine Nat.le_trans ?_ (World.grownBy.size (by assumption))) | (simp only [World.size_alloc, World.size_setCell, World.size_drew, size_drewN]; omega) | (simp only [World.size_alloc, World.size_setCell, World.size_drew, size_drewN, size_put]; omega) | (intro k hk; simp [Value.ownBlock] at hk; done) | (intro k hk; simp [Value.ownBlock] at hk; omega) | (simp [size_drewN] at *; omega)))
  have hth3 : there w3 w.heap.size 0 33 := there_below hb3 (by simp [size_put]; omega) (by go_simp)
  have hrow3 : row? w3 w.heap.size 0 33 = some (pointA zeroPt) := by
    rw [k3 _ _ _ (by simp [size_put]; omega)]
    go_simp
  have hrowx : row? w3 w2.heap.size 0 33 = some (pointA v) := by
    rw [k3 _ _ _ (by simp [size_put])]
    go_simp
  have hz3 : w2.heap.size < w3.heap.size := by have := hb3.size; simp [size_put] at this; omega
  have hBx : Below w2.heap.size w2 w3 := bel_trans hb3 (by (repeat' (first | (with_reducible exact Below.refl _ _) | (with_reducible assumption) | (with_reducible refine bel_trans (by assumption) ?_ ?_) | (with_reducible refine bel_grown (by assumption) ?_ ?_ ?_) | (with_reducible refine Below.alloc ?_ ?_ _) | (with_reducible refine Below.drew ?_) | (with_reducible refine below_drewN ?_ _) | (with_reducible refine Below.setCell ?_ ?_ _) | (with_reducible refine below_put ?_ ?_ _ _) | (with_reducible exact Nat.le_refl _) | omega | (with_reducible refine Nat.le_trans ?_ (Below.size (by assumption))) | (with_reducible refine Nat.le_trans ?_ (World.grownBy.size (by assumption))) | (simp only [World.size_alloc, World.size_setCell, World.size_drew, size_drewN]; omega) | (simp only [World.size_alloc, World.size_setCell, World.size_drew, size_drewN, size_put]; omega) | (intro k hk; simp [Value.ownBlock] at hk; done) | (intro k hk; simp [Value.ownBlock] at hk; omega) | (simp [size_drewN] at *; omega)))) (by simp [size_put])
  have HBx := Lib.hid hBx
  have hne3 : w.heap.size ≠ w3.heap.size := by omega
  have hzz3 : w.heap.size < w3.heap.size := by omega
  clear k1 k2 k3 hb3 hth hrow hB2 hBx
  cases hm : mayPt v
  · have hX : X = (zeroPt, 4) := by rw [← HX.out]; simp [hm]
    subst hX
    clear hm
    go_wp2_with (with_reducible refine ret_row2 Try.isAgg26 Try.sizeOf26 readp_res (x := .pointer (some ⟨w.heap.size, 0, none⟩)) (y := .int .i64 4) (w.heap.size) 0 ?rrhx (Eq.refl _) ?rrhy ?rrh ?rrhd ?rrhR; (case rrhx => simp only [Array.getD_eq_getD_getElem?, List.getElem?_toArray, List.getElem?_cons_succ, List.getElem?_cons_zero, Option.getD_some]); (case rrhy => simp only [Array.getD_eq_getD_getElem?, List.getElem?_toArray, List.getElem?_cons_succ, List.getElem?_cons_zero, Option.getD_some]); (case rrhd => exact rfl); (case rrh => go_simp); (case rrhR => ((refine ⟨?_, ?_⟩; (case refine_1 => (go_simp; done)); (case refine_2 => ((repeat' (first | (with_reducible exact Below.refl _ _) | (with_reducible assumption) | (with_reducible refine bel_trans (by assumption) ?_ ?_) | (with_reducible refine bel_grown (by assumption) ?_ ?_ ?_) | (with_reducible refine Below.alloc ?_ ?_ _) | (with_reducible refine Below.drew ?_) | (with_reducible refine below_drewN ?_ _) | (with_reducible refine Below.setCell ?_ ?_ _) | (with_reducible refine below_put ?_ ?_ _ _) | (with_reducible exact Nat.le_refl _) | omega | (with_reducible refine Nat.le_trans ?_ (Below.size (by assumption))) | (with_reducible refine Nat.le_trans ?_ (World.grownBy.size (by assumption))) | (simp only [World.size_alloc, World.size_setCell, World.size_drew, size_drewN]; omega) | (simp only [World.size_alloc, World.size_setCell, World.size_drew, size_drewN, size_put]; omega) | (intro k hk; simp [Value.ownBlock] at hk; done) | (intro k hk; simp [Value.ownBlock] at hk; omega) | (simp [size_drewN] at *; omega)))))))))
  have Hm := Lib.hid hm
  clear hm
  go_wp2_with fail
  (with_reducible refine (point_c v w3).mono ?_)
  rintro e w4 ⟨x, rfl, ho, hb4⟩
  obtain ⟨s2, rfl⟩ := ho.slice
  obtain ⟨k1, k2, k3⟩ := kept hb4
  have hB4 : Below w.heap.size w w4 := by (repeat' (first | (with_reducible exact Below.refl _ _) | (with_reducible assumption) | (with_reducible refine bel_trans (by assumption) ?_ ?_) | (with_reducible refine bel_grown (by assumption) ?_ ?_ ?_) | (with_reducible refine Below.alloc ?_ ?_ _) | (with_reducible refine Below.drew ?_) | (with_reducible refine below_drewN ?_ _) | (with_reducible refine Below.setCell ?_ ?_ _) | (with_reducible refine below_put ?_ ?_ _ _) | (with_reducible exact Nat.le_refl _) | omega | (with_reducible refine Nat.le_trans ?_ (Below.size (by assumption))) | (with_reducible refine Nat.le_trans ?_ (World.grownBy.size (by assumption))) | (simp only [World.size_alloc, World.size_setCell, World.size_drew, size_drewN]; omega) | (simp only [World.size_alloc, World.size_setCell, World.size_drew, size_drewN, size_put]; omega) | (intro k hk; simp [Value.ownBlock] at hk; done) | (intro k hk; simp [Value.ownBlock] at hk; omega) | (simp [size_drewN] at *; omega)))
  have hz4 : w2.heap.size < w4.heap.size := by have := hb4.size; omega
  have hth4 : there w4 w.heap.size 0 33 := there_below hb4 (by omega) hth3
  have hrow4 : row? w4 w.heap.size 0 33 = some (pointA zeroPt) := by rw [k3 _ _ _ (by omega)]; exact hrow3
  have hrowy : row? w4 w2.heap.size 0 33 = some (pointA v) := by rw [k3 _ _ _ hz3]; exact hrowx
  have hvl := ptBytes_length v
  have HB4 := Lib.hid hB4
  clear k1 k2 k3 hb4 hth3 hrow3 hrowx hB3 hB4
  go_wp2_with fail
  (with_reducible refine (sequal_c s2 s (ptBytes v) l w4 ho.reads (Hs.out.keep HB4.out) (by omega)).mono ?_)
  rintro e w5 ⟨rfl, n, hw5⟩
  have hb5 : Below w4.heap.size w4 w5 := by rw [hw5]; exact below_drewN (Below.refl _ _) n
  clear hw5
  obtain ⟨k1, k2, k3⟩ := kept hb5
  have hth5 : there w5 w.heap.size 0 33 := there_below hb5 (by omega) hth4
  have hrow5 : row? w5 w.heap.size 0 33 = some (pointA zeroPt) := by rw [k3 _ _ _ (by omega)]; exact hrow4
  have hrowz : row? w5 w2.heap.size 0 33 = some (pointA v) := by rw [k3 _ _ _ hz4]; exact hrowy
  have hz5 := hb5.size
  have hne5 : w.heap.size ≠ w5.heap.size := by omega
  have hzz5 : w.heap.size < w5.heap.size := by omega
  have HB5 := Lib.hid hb5
  clear k1 k2 k3 hb5 hth4 hrow4 hrowy
  have hB5 : Below w.heap.size w w5 := HB4.out.trans (HB5.out.mono (by omega))
  by_cases he : ptBytes v = l
  · have hX : X = (v, 0) := by rw [← HX.out]; simp [Hm.out, he]
    subst hX
    have hd := dec_true he
    clear he hvl
    go_wp2_with (with_reducible refine ret_row2 Try.isAgg26 Try.sizeOf26 readp_res (x := .pointer (some ⟨w.heap.size, 0, none⟩)) (y := .int .i64 0) (w.heap.size) 0 ?rrhx (Eq.refl _) ?rrhy ?rrh ?rrhd ?rrhR; (case rrhx => simp only [Array.getD_eq_getD_getElem?, List.getElem?_toArray, List.getElem?_cons_succ, List.getElem?_cons_zero, Option.getD_some]); (case rrhy => simp only [Array.getD_eq_getD_getElem?, List.getElem?_toArray, List.getElem?_cons_succ, List.getElem?_cons_zero, Option.getD_some]); (case rrhd => exact rfl); (case rrh => go_simp); (case rrhR => ((refine ⟨?_, ?_⟩; (case refine_1 => (go_simp; done)); (case refine_2 => ((repeat' (first | (with_reducible exact Below.refl _ _) | (with_reducible assumption) | (with_reducible refine bel_trans (by assumption) ?_ ?_) | (with_reducible refine bel_grown (by assumption) ?_ ?_ ?_) | (with_reducible refine Below.alloc ?_ ?_ _) | (with_reducible refine Below.drew ?_) | (with_reducible refine below_drewN ?_ _) | (with_reducible refine Below.setCell ?_ ?_ _) | (with_reducible refine below_put ?_ ?_ _ _) | (with_reducible exact Nat.le_refl _) | omega | (with_reducible refine Nat.le_trans ?_ (Below.size (by assumption))) | (with_reducible refine Nat.le_trans ?_ (World.grownBy.size (by assumption))) | (simp only [World.size_alloc, World.size_setCell, World.size_drew, size_drewN]; omega) | (simp only [World.size_alloc, World.size_setCell, World.size_drew, size_drewN, size_put]; omega) | (intro k hk; simp [Value.ownBlock] at hk; done) | (intro k hk; simp [Value.ownBlock] at hk; omega) | (simp [size_drewN] at *; omega)))))))))
  · have hX : X = (zeroPt, 4) := by rw [← HX.out]; simp [he]
    subst hX
    have hd := dec_false he
    clear he hvl
    go_wp2_with (with_reducible refine ret_row2 Try.isAgg26 Try.sizeOf26 readp_res (x := .pointer (some ⟨w.heap.size, 0, none⟩)) (y := .int .i64 4) (w.heap.size) 0 ?rrhx (Eq.refl _) ?rrhy ?rrh ?rrhd ?rrhR; (case rrhx => simp only [Array.getD_eq_getD_getElem?, List.getElem?_toArray, List.getElem?_cons_succ, List.getElem?_cons_zero, Option.getD_some]); (case rrhy => simp only [Array.getD_eq_getD_getElem?, List.getElem?_toArray, List.getElem?_cons_succ, List.getElem?_cons_zero, Option.getD_some]); (case rrhd => exact rfl); (case rrh => go_simp); (case rrhR => ((refine ⟨?_, ?_⟩; (case refine_1 => (go_simp; done)); (case refine_2 => ((repeat' (first | (with_reducible exact Below.refl _ _) | (with_reducible assumption) | (with_reducible refine bel_trans (by assumption) ?_ ?_) | (with_reducible refine bel_grown (by assumption) ?_ ?_ ?_) | (with_reducible refine Below.alloc ?_ ?_ _) | (with_reducible refine Below.drew ?_) | (with_reducible refine below_drewN ?_ _) | (with_reducible refine Below.setCell ?_ ?_ _) | (with_reducible refine below_put ?_ ?_ _ _) | (with_reducible exact Nat.le_refl _) | omega | (with_reducible refine Nat.le_trans ?_ (Below.size (by assumption))) | (with_reducible refine Nat.le_trans ?_ (World.grownBy.size (by assumption))) | (simp only [World.size_alloc, World.size_setCell, World.size_drew, size_drewN]; omega) | (simp only [World.size_alloc, World.size_setCell, World.size_drew, size_drewN, size_put]; omega) | (intro k hk; simp [Value.ownBlock] at hk; done) | (intro k hk; simp [Value.ownBlock] at hk; omega) | (simp [size_drewN] at *; omega)))))))))

theorem ptof_res : Try.f87.results = #[.cell 2 26, .tmp 3] := by kernel_rfl
theorem vtof_res : Try.f90.results = #[.cell 2 85, .tmp 3] := by kernel_rfl

set_option maxRecDepth 100000 in
set_option maxHeartbeats 800000 in
theorem pointOf_c (s : Sl) (l : List UInt8) (w : World) (hs : BytesR w s l) (hl : l.length ≤ 140737488355328) :
    Calls Try.prog 87 #[s.v] w fun e w' => e = .returned (.tuple #[.agg (pointA (pointOf l).1), .int .i64 (pointOf l).2]) ∧ Below w.heap.size w w' := by
  have Hs := Lib.hid hs
  clear hs
  have HC := fun W h => readPoints_c s l W h hl
  generalize pointOf l = X at *
  go_enter Try.func87, Try.ntmps87
  go_wp2_with fail
  refine (HC _ (Hs.out.keep (bel_a _ _))).mono ?_
  clear HC
  rintro e w1 ⟨rfl, hb1⟩
  have hrow : row? w1 w.heap.size 0 33 = some (pointA zeroPt) := row_kept (by simpa using hb1) (by simp)
  have hth : there w1 w.heap.size 0 33 := there_below hb1 (by simp) (there_new w _ _ _ _ (by simp))
  have hB1 : Below w.heap.size w w1 := by (repeat' (first | (with_reducible exact Below.refl _ _) | (with_reducible assumption) | (with_reducible refine bel_trans (by assumption) ?_ ?_) | (with_reducible refine bel_grown (by assumption) ?_ ?_ ?_) | (with_reducible refine Below.alloc ?_ ?_ _) | (with_reducible refine Below.drew ?_) | (with_reducible refine below_drewN ?_ _) | (with_reducible refine Below.setCell ?_ ?_ _) | (with_reducible refine below_put ?_ ?_ _ _) | (with_reducible exact Nat.le_refl _) | omega | (with_reducible refine Nat.le_trans ?_ (Below.size (by assumption))) | (with_reducible refine Nat.le_trans ?_ (World.grownBy.size (by assumption))) | (simp only [World.size_alloc, World.size_setCell, World.size_drew, size_drewN]; omega) | (simp only [World.size_alloc, World.size_setCell, World.size_drew, size_drewN, size_put]; omega) | (intro k hk; simp [Value.ownBlock] at hk; done) | (intro k hk; simp [Value.ownBlock] at hk; omega) | (simp [size_drewN] at *; omega)))
  clear hb1
  go_wp2_with (with_reducible refine ret_row2 Try.isAgg26 Try.sizeOf26 ptof_res (x := .pointer (some ⟨w.heap.size, 0, none⟩)) (y := .int .i64 X.2) (w.heap.size) 0 ?rrhx (Eq.refl _) ?rrhy ?rrh ?rrhd ?rrhR; (case rrhx => simp only [Array.getD_eq_getD_getElem?, List.getElem?_toArray, List.getElem?_cons_succ, List.getElem?_cons_zero, Option.getD_some]); (case rrhy => simp only [Array.getD_eq_getD_getElem?, List.getElem?_toArray, List.getElem?_cons_succ, List.getElem?_cons_zero, Option.getD_some]); (case rrhd => exact rfl); (case rrh => go_simp); (case rrhR => ((refine ⟨?_, ?_⟩; (case refine_1 => (go_simp; done)); (case refine_2 => ((repeat' (first | (with_reducible exact Below.refl _ _) | (with_reducible assumption) | (with_reducible refine bel_trans (by assumption) ?_ ?_) | (with_reducible refine bel_grown (by assumption) ?_ ?_ ?_) | (with_reducible refine Below.alloc ?_ ?_ _) | (with_reducible refine Below.drew ?_) | (with_reducible refine below_drewN ?_ _) | (with_reducible refine Below.setCell ?_ ?_ _) | (with_reducible refine below_put ?_ ?_ _ _) | (with_reducible exact Nat.le_refl _) | omega | (with_reducible refine Nat.le_trans ?_ (Below.size (by assumption))) | (with_reducible refine Nat.le_trans ?_ (World.grownBy.size (by assumption))) | (simp only [World.size_alloc, World.size_setCell, World.size_drew, size_drewN]; omega) | (simp only [World.size_alloc, World.size_setCell, World.size_drew, size_drewN, size_put]; omega) | (intro k hk; simp [Value.ownBlock] at hk; done) | (intro k hk; simp [Value.ownBlock] at hk; omega) | (simp [size_drewN] at *; omega)))))))))

set_option maxRecDepth 100000 in
set_option maxHeartbeats 800000 in
theorem voteOf_c (s : Sl) (l : List UInt8) (w : World) (hs : BytesR w s l) (hl : l.length ≤ 140737488355328) :
    Calls Try.prog 90 #[s.v] w fun e w' => ∃ g, e = .returned (.tuple #[.agg (voteA g), .int .i64 (voteOf l).2]) ∧ VoteO w.heap.size w'.heap.size w' g (voteOf l).1 ∧ Below w.heap.size w w' := by
  have Hs := Lib.hid hs
  clear hs
  have HC := fun W h => readVotes_c s l W h hl
  have hzc := zc_vote
  generalize voteOf l = X at *
  go_enter Try.func90, Try.ntmps90
  go_wp2_with fail
  refine (HC _ (Hs.out.keep (bel_a _ _))).mono ?_
  clear HC
  rintro e w1 ⟨g, rfl, hv, hb1⟩
  have hrow : row? w1 w.heap.size 0 68 = some (voteA ⟨0, zeroPt, zeroPt, ⟨none, 0, 0⟩⟩) := row_kept (by simpa using hb1) (by simp)
  have hth : there w1 w.heap.size 0 68 := there_below hb1 (by simp) (there_new w _ _ _ _ (by simp))
  have hB1 : Below w.heap.size w w1 := by (repeat' (first | (with_reducible exact Below.refl _ _) | (with_reducible assumption) | (with_reducible refine bel_trans (by assumption) ?_ ?_) | (with_reducible refine bel_grown (by assumption) ?_ ?_ ?_) | (with_reducible refine Below.alloc ?_ ?_ _) | (with_reducible refine Below.drew ?_) | (with_reducible refine below_drewN ?_ _) | (with_reducible refine Below.setCell ?_ ?_ _) | (with_reducible refine below_put ?_ ?_ _ _) | (with_reducible exact Nat.le_refl _) | omega | (with_reducible refine Nat.le_trans ?_ (Below.size (by assumption))) | (with_reducible refine Nat.le_trans ?_ (World.grownBy.size (by assumption))) | (simp only [World.size_alloc, World.size_setCell, World.size_drew, size_drewN]; omega) | (simp only [World.size_alloc, World.size_setCell, World.size_drew, size_drewN, size_put]; omega) | (intro k hk; simp [Value.ownBlock] at hk; done) | (intro k hk; simp [Value.ownBlock] at hk; omega) | (simp [size_drewN] at *; omega)))
  have Hv := Lib.hid hv
  clear hb1 hv
  go_wp2_with (with_reducible refine ret_row2 Try.isAgg85 Try.sizeOf85 vtof_res (x := .pointer (some ⟨w.heap.size, 0, none⟩)) (y := .int .i64 X.2) (w.heap.size) 0 ?rrhx (Eq.refl _) ?rrhy ?rrh ?rrhd ?rrhR; (case rrhx => simp only [Array.getD_eq_getD_getElem?, List.getElem?_toArray, List.getElem?_cons_succ, List.getElem?_cons_zero, Option.getD_some]); (case rrhy => simp only [Array.getD_eq_getD_getElem?, List.getElem?_toArray, List.getElem?_cons_succ, List.getElem?_cons_zero, Option.getD_some]); (case rrhd => exact rfl); (case rrh => go_simp); (case rrhR => ((refine ⟨g, ?_, (Hv.out.keepNe (b := w.heap.size) (.inl ?_) (fun k _ hk => put_block _ _ _ _ _ hk)).wide ?_ ?_, ?_⟩; (case refine_1 => (go_simp; done)); (case refine_2 => (simp; done)); (case refine_3 => (simp; done)); (case refine_4 => (rw [size_put]; exact Nat.le_refl _)); (case refine_5 => ((repeat' (first | (with_reducible exact Below.refl _ _) | (with_reducible assumption) | (with_reducible refine bel_trans (by assumption) ?_ ?_) | (with_reducible refine bel_grown (by assumption) ?_ ?_ ?_) | (with_reducible refine Below.alloc ?_ ?_ _) | (with_reducible refine Below.drew ?_) | (with_reducible refine below_drewN ?_ _) | (with_reducible refine Below.setCell ?_ ?_ _) | (with_reducible refine below_put ?_ ?_ _ _) | (with_reducible exact Nat.le_refl _) | omega | (with_reducible refine Nat.le_trans ?_ (Below.size (by assumption))) | (with_reducible refine Nat.le_trans ?_ (World.grownBy.size (by assumption))) | (simp only [World.size_alloc, World.size_setCell, World.size_drew, size_drewN]; omega) | (simp only [World.size_alloc, World.size_setCell, World.size_drew, size_drewN, size_put]; omega) | (intro k hk; simp [Value.ownBlock] at hk; done) | (intro k hk; simp [Value.ownBlock] at hk; omega) | (simp [size_drewN] at *; omega)))))))))

theorem voteBytes_c (g : GVote) (v : Vote) (w : World) (hv : VoteR w g v) :
    Calls Try.prog 146 #[.agg (voteA g)] w fun e w' => ∃ s : Sl, e = toldV s (voteMay v) ∧ BytesR w' s (orNo (voteMay v) (vtBytes v)) ∧ Below w.heap.size w w' := by
  have Hv := Lib.hid hv
  have hm := hv.may
  clear hv
  cases h : voteMay v
  · rw [h] at hm
    have HC := fun W => toldVote_no g W hm
    clear hm h
    go_enter Try.func146, Try.ntmps146
    go_wp2_with fail
    refine (HC _).mono ?_
    rintro e w1 ⟨rfl, hb⟩
    go_wp2_with fail
    go_ret2
    exact ⟨⟨none, 0, 0⟩, rfl, BytesR.nil _ _ _, by (repeat' (first | (with_reducible exact Below.refl _ _) | (with_reducible assumption) | (with_reducible refine bel_trans (by assumption) ?_ ?_) | (with_reducible refine bel_grown (by assumption) ?_ ?_ ?_) | (with_reducible refine Below.alloc ?_ ?_ _) | (with_reducible refine Below.drew ?_) | (with_reducible refine below_drewN ?_ _) | (with_reducible refine Below.setCell ?_ ?_ _) | (with_reducible refine below_put ?_ ?_ _ _) | (with_reducible exact Nat.le_refl _) | omega | (with_reducible refine Nat.le_trans ?_ (Below.size (by assumption))) | (with_reducible refine Nat.le_trans ?_ (World.grownBy.size (by assumption))) | (simp only [World.size_alloc, World.size_setCell, World.size_drew, size_drewN]; omega) | (simp only [World.size_alloc, World.size_setCell, World.size_drew, size_drewN, size_put]; omega) | (intro k hk; simp [Value.ownBlock] at hk; done) | (intro k hk; simp [Value.ownBlock] at hk; omega) | (simp [size_drewN] at *; omega)))⟩
  · rw [h] at hm
    obtain ⟨m1, m2, m3, m4, m5⟩ := voteMay_out h
    have HC := fun W hW => toldVote_yes g v W hm hW m1 m2 m3
    clear hm h m4 m5
    go_enter Try.func146, Try.ntmps146
    go_wp2_with fail
    refine (HC _ (Hv.out.keep' (bel_a _ _))).mono ?_
    rintro e w1 ⟨x, rfl, ho, hb⟩
    obtain ⟨s, rfl⟩ := ho.slice
    go_wp2_with fail
    go_ret2
    exact ⟨s, rfl, ho.reads, by (repeat' (first | (with_reducible exact Below.refl _ _) | (with_reducible assumption) | (with_reducible refine bel_trans (by assumption) ?_ ?_) | (with_reducible refine bel_grown (by assumption) ?_ ?_ ?_) | (with_reducible refine Below.alloc ?_ ?_ _) | (with_reducible refine Below.drew ?_) | (with_reducible refine below_drewN ?_ _) | (with_reducible refine Below.setCell ?_ ?_ _) | (with_reducible refine below_put ?_ ?_ _ _) | (with_reducible exact Nat.le_refl _) | omega | (with_reducible refine Nat.le_trans ?_ (Below.size (by assumption))) | (with_reducible refine Nat.le_trans ?_ (World.grownBy.size (by assumption))) | (simp only [World.size_alloc, World.size_setCell, World.size_drew, size_drewN]; omega) | (simp only [World.size_alloc, World.size_setCell, World.size_drew, size_drewN, size_put]; omega) | (intro k hk; simp [Value.ownBlock] at hk; done) | (intro k hk; simp [Value.ownBlock] at hk; omega) | (simp [size_drewN] at *; omega)))⟩

theorem hdrMay_out {h : Hdr} (hm : hdrMay h = true) : h.ops.length ≤ 16 ∧ h.ops.all opMay = true := by
  simp only [hdrMay, Bool.and_eq_true, decide_eq_true_eq] at hm
  exact ⟨hm.1.2, hm.2⟩
theorem toldHdr_c (g : GHeader) (h : Hdr) (w : World) (hr : HdrR w g h) (hl : HdrFits h) :
    Calls Try.prog 164 #[.agg (headerA g), .func (.func 105) #[] #[], .func (.func 108) #[] #[]] w fun e w' => ∃ s : Sl, e = toldV s (hdrMay h) ∧ BytesR w' s (orNo (hdrMay h) (hdBytes h)) ∧ Below w.heap.size w w' := by
  have Hr := Lib.hid hr
  have HM := fun W hW => mayHeader_c g h W hW hl
  clear hr
  cases hm : hdrMay h
  · simp only [hm] at HM
    clear hm
    go_enter Try.func164, Try.ntmps164
    go_wp2_with fail
    refine (HM _ (HdrR.keep' Hr.out (by (repeat' (first | (with_reducible exact Below.refl _ _) | (with_reducible assumption) | (with_reducible refine bel_trans (by assumption) ?_ ?_) | (with_reducible refine bel_grown (by assumption) ?_ ?_ ?_) | (with_reducible refine Below.alloc ?_ ?_ _) | (with_reducible refine Below.drew ?_) | (with_reducible refine below_drewN ?_ _) | (with_reducible refine Below.setCell ?_ ?_ _) | (with_reducible refine below_put ?_ ?_ _ _) | (with_reducible exact Nat.le_refl _) | omega | (with_reducible refine Nat.le_trans ?_ (Below.size (by assumption))) | (with_reducible refine Nat.le_trans ?_ (World.grownBy.size (by assumption))) | (simp only [World.size_alloc, World.size_setCell, World.size_drew, size_drewN]; omega) | (simp only [World.size_alloc, World.size_setCell, World.size_drew, size_drewN, size_put]; omega) | (intro k hk; simp [Value.ownBlock] at hk; done) | (intro k hk; simp [Value.ownBlock] at hk; omega) | (simp [size_drewN] at *; omega)))))).mono ?_
    clear HM
    rintro e w1 ⟨rfl, hb⟩
    go_wp2_with fail
    go_ret2
    exact ⟨⟨none, 0, 0⟩, rfl, BytesR.nil _ _ _, by (repeat' (first | (with_reducible exact Below.refl _ _) | (with_reducible assumption) | (with_reducible refine bel_trans (by assumption) ?_ ?_) | (with_reducible refine bel_grown (by assumption) ?_ ?_ ?_) | (with_reducible refine Below.alloc ?_ ?_ _) | (with_reducible refine Below.drew ?_) | (with_reducible refine below_drewN ?_ _) | (with_reducible refine Below.setCell ?_ ?_ _) | (with_reducible refine below_put ?_ ?_ _ _) | (with_reducible exact Nat.le_refl _) | omega | (with_reducible refine Nat.le_trans ?_ (Below.size (by assumption))) | (with_reducible refine Nat.le_trans ?_ (World.grownBy.size (by assumption))) | (simp only [World.size_alloc, World.size_setCell, World.size_drew, size_drewN]; omega) | (simp only [World.size_alloc, World.size_setCell, World.size_drew, size_drewN, size_put]; omega) | (intro k hk; simp [Value.ownBlock] at hk; done) | (intro k hk; simp [Value.ownBlock] at hk; omega) | (simp [size_drewN] at *; omega)))⟩
  · simp only [hm] at HM
    obtain ⟨m1, m2⟩ := hdrMay_out hm
    have M2 := Lib.hid m2
    clear hm m2
    go_enter Try.func164, Try.ntmps164
    go_wp2_with fail
    refine (HM _ (HdrR.keep' Hr.out (by (repeat' (first | (with_reducible exact Below.refl _ _) | (with_reducible assumption) | (with_reducible refine bel_trans (by assumption) ?_ ?_) | (with_reducible refine bel_grown (by assumption) ?_ ?_ ?_) | (with_reducible refine Below.alloc ?_ ?_ _) | (with_reducible refine Below.drew ?_) | (with_reducible refine below_drewN ?_ _) | (with_reducible refine Below.setCell ?_ ?_ _) | (with_reducible refine below_put ?_ ?_ _ _) | (with_reducible exact Nat.le_refl _) | omega | (with_reducible refine Nat.le_trans ?_ (Below.size (by assumption))) | (with_reducible refine Nat.le_trans ?_ (World.grownBy.size (by assumption))) | (simp only [World.size_alloc, World.size_setCell, World.size_drew, size_drewN]; omega) | (simp only [World.size_alloc, World.size_setCell, World.size_drew, size_drewN, size_put]; omega) | (intro k hk; simp [Value.ownBlock] at hk; done) | (intro k hk; simp [Value.ownBlock] at hk; omega) | (simp [size_drewN] at *; omega)))))).mono ?_
    clear HM
    rintro e w1 ⟨rfl, hb⟩
    obtain ⟨k1, k2, k3⟩ := kept hb
    have hz : w.heap.size < w1.heap.size := by (have := hb.size; (try simp at this); omega)
    go_wp2_with fail
    refine (header_c g h _ (HdrR.keep' Hr.out (by (repeat' (first | (with_reducible exact Below.refl _ _) | (with_reducible assumption) | (with_reducible refine bel_trans (by assumption) ?_ ?_) | (with_reducible refine bel_grown (by assumption) ?_ ?_ ?_) | (with_reducible refine Below.alloc ?_ ?_ _) | (with_reducible refine Below.drew ?_) | (with_reducible refine below_drewN ?_ _) | (with_reducible refine Below.setCell ?_ ?_ _) | (with_reducible refine below_put ?_ ?_ _ _) | (with_reducible exact Nat.le_refl _) | omega | (with_reducible refine Nat.le_trans ?_ (Below.size (by assumption))) | (with_reducible refine Nat.le_trans ?_ (World.grownBy.size (by assumption))) | (simp only [World.size_alloc, World.size_setCell, World.size_drew, size_drewN]; omega) | (simp only [World.size_alloc, World.size_setCell, World.size_drew, size_drewN, size_put]; omega) | (intro k hk; simp [Value.ownBlock] at hk; done) | (intro k hk; simp [Value.ownBlock] at hk; omega) | (simp [size_drewN] at *; omega))))) m1 M2.out).mono ?_
    rintro e w2 ⟨x, rfl, ho, hb2⟩
    obtain ⟨s, rfl⟩ := ho.slice
    go_wp2_with fail
    go_ret2
    exact ⟨s, rfl, ho.reads, by (repeat' (first | (with_reducible exact Below.refl _ _) | (with_reducible assumption) | (with_reducible refine bel_trans (by assumption) ?_ ?_) | (with_reducible refine bel_grown (by assumption) ?_ ?_ ?_) | (with_reducible refine Below.alloc ?_ ?_ _) | (with_reducible refine Below.drew ?_) | (with_reducible refine below_drewN ?_ _) | (with_reducible refine Below.setCell ?_ ?_ _) | (with_reducible refine below_put ?_ ?_ _ _) | (with_reducible exact Nat.le_refl _) | omega | (with_reducible refine Nat.le_trans ?_ (Below.size (by assumption))) | (with_reducible refine Nat.le_trans ?_ (World.grownBy.size (by assumption))) | (simp only [World.size_alloc, World.size_setCell, World.size_drew, size_drewN]; omega) | (simp only [World.size_alloc, World.size_setCell, World.size_drew, size_drewN, size_put]; omega) | (intro k hk; simp [Value.ownBlock] at hk; done) | (intro k hk; simp [Value.ownBlock] at hk; omega) | (simp [size_drewN] at *; omega)))⟩
theorem headerBytes_c (g : GHeader) (h : Hdr) (w : World) (hr : HdrR w g h) (hl : HdrFits h) :
    Calls Try.prog 104 #[.agg (headerA g)] w fun e w' => ∃ s : Sl, e = toldV s (hdrMay h) ∧ BytesR w' s (orNo (hdrMay h) (hdBytes h)) ∧ Below w.heap.size w w' := by
  have Hr := Lib.hid hr
  have HC := fun W hW => toldHdr_c g h W hW hl
  clear hr
  go_enter Try.func104, Try.ntmps104
  go_wp2_with fail
  refine (HC _ (HdrR.keep' Hr.out (by (repeat' (first | (with_reducible exact Below.refl _ _) | (with_reducible assumption) | (with_reducible refine bel_trans (by assumption) ?_ ?_) | (with_reducible refine bel_grown (by assumption) ?_ ?_ ?_) | (with_reducible refine Below.alloc ?_ ?_ _) | (with_reducible refine Below.drew ?_) | (with_reducible refine below_drewN ?_ _) | (with_reducible refine Below.setCell ?_ ?_ _) | (with_reducible refine below_put ?_ ?_ _ _) | (with_reducible exact Nat.le_refl _) | omega | (with_reducible refine Nat.le_trans ?_ (Below.size (by assumption))) | (with_reducible refine Nat.le_trans ?_ (World.grownBy.size (by assumption))) | (simp only [World.size_alloc, World.size_setCell, World.size_drew, size_drewN]; omega) | (simp only [World.size_alloc, World.size_setCell, World.size_drew, size_drewN, size_put]; omega) | (intro k hk; simp [Value.ownBlock] at hk; done) | (intro k hk; simp [Value.ownBlock] at hk; omega) | (simp [size_drewN] at *; omega)))))).mono ?_
  clear HC
  rintro e w1 ⟨s, rfl, ho, hb⟩
  go_wp2_with fail
  go_ret2
  exact ⟨s, rfl, ho, by (repeat' (first | (with_reducible exact Below.refl _ _) | (with_reducible assumption) | (with_reducible refine bel_trans (by assumption) ?_ ?_) | (with_reducible refine bel_grown (by assumption) ?_ ?_ ?_) | (with_reducible refine Below.alloc ?_ ?_ _) | (with_reducible refine Below.drew ?_) | (with_reducible refine below_drewN ?_ _) | (with_reducible refine Below.setCell ?_ ?_ _) | (with_reducible refine below_put ?_ ?_ _ _) | (with_reducible exact Nat.le_refl _) | omega | (with_reducible refine Nat.le_trans ?_ (Below.size (by assumption))) | (with_reducible refine Nat.le_trans ?_ (World.grownBy.size (by assumption))) | (simp only [World.size_alloc, World.size_setCell, World.size_drew, size_drewN]; omega) | (simp only [World.size_alloc, World.size_setCell, World.size_drew, size_drewN, size_put]; omega) | (intro k hk; simp [Value.ownBlock] at hk; done) | (intro k hk; simp [Value.ownBlock] at hk; omega) | (simp [size_drewN] at *; omega)))⟩
end Go.Proofs.Ytkocpihfdpahpaa

/- The order of checkpoints is the order of their bytes: plain Lean. -/
namespace Go.Proofs.Ytkocpihfdpahpaa
open Go.RowKit

theorem bytesLess_dec : ∀ (x y : List UInt8), Op.bytesLess x y = decide (x < y)
  | _, [] => by simp [Op.bytesLess]
  | [], _ :: _ => by simp [Op.bytesLess]
  | a :: x, b :: y => by
    rw [Op.bytesLess, bytesLess_dec x y, Bool.eq_iff_iff]
    simp only [Bool.or_eq_true, Bool.and_eq_true, decide_eq_true_eq, beq_iff_eq, List.cons_lt_cons_iff]
theorem lexC_cmp : ∀ (x y : List UInt8), (lexC x y < 0 ↔ x < y) ∧ (lexC x y = 0 ↔ x = y)
  | [], [] => by simp [lexC]
  | [], _ :: _ => by simp [lexC]
  | _ :: _, [] => by simp [lexC]
  | a :: x, b :: y => by
    have ih := lexC_cmp x y
    rw [lexC]
    rcases Nat.lt_trichotomy a.toNat b.toNat with h | h | h
    · have hc : cmpI (a.toNat : Int) b.toNat = -1 := by unfold cmpI; rw [if_pos (by omega)]
      have hab : a < b := UInt8.lt_iff_toNat_lt.2 h
      rw [hc]
      simp [List.cons_lt_cons_iff, hab]
      intro e
      subst e
      omega
    · have hc : cmpI (a.toNat : Int) b.toNat = 0 := by unfold cmpI; rw [if_neg (by omega), if_neg (by omega)]
      have hab : a = b := UInt8.toNat_inj.1 h
      subst hab
      rw [hc]
      simp [List.cons_lt_cons_iff, ih]
    · have hc : cmpI (a.toNat : Int) b.toNat = 1 := by unfold cmpI; rw [if_neg (by omega), if_pos (by omega)]
      have hab : ¬ a < b := fun h' => by have := UInt8.lt_iff_toNat_lt.1 h'; omega
      have hne : a ≠ b := fun e => by subst e; omega
      rw [hc]
      simp [List.cons_lt_cons_iff, hab, hne]
theorem append_lt {a b x y : List UInt8} (h : a.length = b.length) : a ++ x < b ++ y ↔ a < b ∨ (a = b ∧ x < y) := by
  induction a generalizing b with
  | nil =>
    have : b = [] := List.eq_nil_of_length_eq_zero (by simpa using h.symm)
    subst this
    simp
  | cons c a ih =>
    cases b with
    | nil => simp at h
    | cons d b =>
      have := ih (b := b) (by simpa using h)
      simp only [List.cons_append, List.cons_lt_cons_iff, this, List.cons.injEq]
      constructor
      · rintro (g | ⟨e, g | ⟨h1, h2⟩⟩)
        · exact .inl (.inl g)
        · exact .inl (.inr ⟨e, g⟩)
        · exact .inr ⟨⟨e, h1⟩, h2⟩
      · rintro ((g | ⟨e, g⟩) | ⟨⟨e, h1⟩, h2⟩)
        · exact .inl g
        · exact .inr ⟨e, .inl g⟩
        · exact .inr ⟨e, .inr ⟨h1, h2⟩⟩
theorem ofNat_lt (n m : Nat) : UInt8.ofNat n < UInt8.ofNat m ↔ n % 256 < m % 256 := by
  rw [UInt8.lt_iff_toNat_lt]
  simp
theorem ofNat_eq (n m : Nat) : UInt8.ofNat n = UInt8.ofNat m ↔ n % 256 = m % 256 := by
  rw [← UInt8.toNat_inj]
  simp
theorem be_eq : ∀ (k n m : Nat), n < 256 ^ k → m < 256 ^ k → (be k n = be k m ↔ n = m)
  | 0, n, m, hn, hm => by simp [be]; simp at hn hm; omega
  | k + 1, n, m, hn, hm => by
    have hn' : n / 256 < 256 ^ k := by rw [Nat.pow_succ] at hn; omega
    have hm' : m / 256 < 256 ^ k := by rw [Nat.pow_succ] at hm; omega
    have ih := be_eq k (n / 256) (m / 256) hn' hm'
    rw [be, be]
    constructor
    · intro h
      obtain ⟨h1, h2⟩ := List.append_inj h (by simp [be_length])
      have h3 := ih.1 h1
      have h4 := (ofNat_eq n m).1 (by simpa using h2)
      omega
    · rintro rfl
      rfl
theorem be_lt : ∀ (k n m : Nat), n < 256 ^ k → m < 256 ^ k → (be k n < be k m ↔ n < m)
  | 0, n, m, hn, hm => by simp [be]; simp at hn hm; omega
  | k + 1, n, m, hn, hm => by
    have hn' : n / 256 < 256 ^ k := by rw [Nat.pow_succ] at hn; omega
    have hm' : m / 256 < 256 ^ k := by rw [Nat.pow_succ] at hm; omega
    have ih := be_lt k (n / 256) (m / 256) hn' hm'
    have ihe := be_eq k (n / 256) (m / 256) hn' hm'
    rw [be, be, append_lt (by simp [be_length]), ih, ihe]
    have : [UInt8.ofNat n] < [UInt8.ofNat m] ↔ n % 256 < m % 256 := by
      rw [← ofNat_lt]
      simp [List.cons_lt_cons_iff]
    rw [this]
    omega
theorem epoch_lt (p : Pt) : p.epoch.toNat < 256 ^ 8 := by have := p.epoch.toNat_lt; omega
theorem ptBytes_inj {p q : Pt} : ptBytes p = ptBytes q ↔ p = q := by
  constructor
  · intro h
    obtain ⟨h1, h2⟩ := List.append_inj h (by simp [be_length])
    have h3 := (be_eq 8 _ _ (epoch_lt p) (epoch_lt q)).1 h1
    cases p; cases q
    simp only [Pt.mk.injEq]
    exact ⟨UInt64.toNat_inj.1 h3, Subtype.ext h2⟩
  · rintro rfl
    rfl
/-- is a checkpoint ahead of another one? -/
def ptLt (p q : Pt) : Bool := decide (ptCmp p q < 0)
theorem ptCmp_lt (p q : Pt) : ptCmp p q < 0 ↔ ptBytes p < ptBytes q := by
  unfold ptBytes
  rw [append_lt (by simp [be_length]), be_lt 8 _ _ (epoch_lt p) (epoch_lt q), be_eq 8 _ _ (epoch_lt p) (epoch_lt q), ← (lexC_cmp p.name.1 q.name.1).1]
  unfold ptCmp orI cmpI
  rcases Nat.lt_trichotomy p.epoch.toNat q.epoch.toNat with h | h | h
  · rw [if_pos (show (p.epoch.toNat : Int) < q.epoch.toNat by omega)]
    simp [h]
  · rw [if_neg (show ¬ (p.epoch.toNat : Int) < q.epoch.toNat by omega), if_neg (show ¬ (q.epoch.toNat : Int) < p.epoch.toNat by omega)]
    simp [h]
  · rw [if_neg (show ¬ (p.epoch.toNat : Int) < q.epoch.toNat by omega), if_pos (show (q.epoch.toNat : Int) < p.epoch.toNat by omega)]
    simp
    omega
theorem ptLt_bytes (p q : Pt) : Op.bytesLess (ptBytes p) (ptBytes q) = ptLt p q := by
  rw [bytesLess_dec]
  unfold ptLt
  rw [Bool.eq_iff_iff, decide_eq_true_eq, decide_eq_true_eq, ptCmp_lt]
theorem ptLt_iff (p q : Pt) : ptLt p q = true ↔ ptBytes p < ptBytes q := by
  unfold ptLt
  rw [decide_eq_true_eq, ptCmp_lt]
theorem ptLt_asymm (p q : Pt) (h : ptLt p q = true) : ptLt q p = false := by
  rw [Bool.eq_false_iff]
  intro h2
  rw [ptLt_iff] at h h2
  exact List.lt_asymm h h2
theorem ptLt_irrefl (p : Pt) : ptLt p p = false := by
  rw [Bool.eq_false_iff]
  intro h2
  rw [ptLt_iff] at h2
  exact List.lt_irrefl _ h2
theorem ptLt_tri (p q : Pt) (h1 : ptLt p q = false) (h2 : ptLt q p = false) : p = q := by
  rw [Bool.eq_false_iff, ne_eq, ptLt_iff] at h1 h2
  exact ptBytes_inj.1 (List.le_antisymm (List.not_lt.1 h2) (List.not_lt.1 h1))
theorem ptLt_trans (p q r : Pt) (h1 : ptLt p q = true) (h2 : ptLt q r = true) : ptLt p r = true := by
  rw [ptLt_iff] at *
  exact List.lt_trans h1 h2
end Go.Proofs.Ytkocpihfdpahpaa

/- Contract: landmarklaw09.known. -/
namespace Go.Proofs.Ytkocpihfdpahpaa
open Go.RowKit

theorem headerA_set_epoch (h : GHeader) (e : UInt64) : (headerA h).setIfInBounds 32 (.int .u64 (e.toNat : Int)) = headerA { h with epoch := e } := by
  rw [set_splice _ _ _ (by simp)]
  unfold headerA
  exact splice_tail _ _ _ 0 32 _ (by simp) (by simp) (by simp)

theorem known_point (w : World) : Calls Try.prog 103 #[.agg (pointA ⟨7, zeroHash⟩)] w fun e w' => ∃ b off c, e = .returned (.tuple #[.slice (some ⟨b, off, none⟩) 40 c, .int .i64 0]) ∧ b < w'.heap.size ∧ w'.cell? ⟨b, off + 7, none⟩ = some (.int .u8 7) ∧ Below w.heap.size w w' := by
  refine (pointBytes_c ⟨7, zeroHash⟩ w).mono ?_
  rintro e w1 ⟨s, he, ho, hb⟩
  have hm : mayPt ⟨7, zeroHash⟩ = true := by decide
  rw [hm] at he ho
  have hl : (orNo true (ptBytes ⟨7, zeroHash⟩)).length = 40 := ptBytes_length _
  obtain ⟨b, off, hs, hlt, hc⟩ := ho.at (by omega)
  refine ⟨b, off, s.c, ?_, hlt, ?_, hb⟩
  · rw [he, hs, hl]; rfl
  · rw [hc 7 (by omega)]; rfl
theorem known_header (w : World) : Calls Try.prog 104 #[.agg (headerA ⟨zeroHash, 1, ⟨none, 0, 0⟩⟩)] w fun e w' => ∃ a c, e = .returned (.tuple #[.slice a 41 c, .int .i64 0]) ∧ Below w.heap.size w w' := by
  refine (headerBytes_c ⟨zeroHash, 1, ⟨none, 0, 0⟩⟩ ⟨zeroHash, 1, []⟩ w ⟨rfl, rfl, SlR.nil _ _ _ _ _⟩ ⟨by simp, fun o ho => by cases ho⟩).mono ?_
  rintro e w1 ⟨s, he, ho, hb⟩
  have hm : hdrMay ⟨zeroHash, 1, []⟩ = true := by decide
  rw [hm] at he ho
  have hl : (orNo true (hdBytes ⟨zeroHash, 1, []⟩)).length = 41 := by decide
  refine ⟨s.a, s.c, ?_, hb⟩
  rw [he, toldV, ← hl, ← ho.1]
  rfl
theorem known_vote (w : World) : Calls Try.prog 90 #[.slice none 0 0] w fun e w' => ∃ g, e = .returned (.tuple #[.agg (voteA g), .int .i64 4]) ∧ Below w.heap.size w w' := by
  refine (voteOf_c ⟨none, 0, 0⟩ [] w (BytesR.nil _ _ _) (by simp)).mono ?_
  rintro e w1 ⟨g, he, _, hb⟩
  have : (voteOf []).2 = 4 := by decide
  rw [this] at he
  exact ⟨g, he, hb⟩
theorem known_may (w : World) : Calls Try.prog 105 #[.agg (headerA ⟨zeroHash, 0, ⟨none, 0, 0⟩⟩)] w fun e w' => e = .returned (.bool false) ∧ Below w.heap.size w w' := by
  refine (mayHeader_c ⟨zeroHash, 0, ⟨none, 0, 0⟩⟩ ⟨zeroHash, 0, []⟩ w ⟨rfl, rfl, SlR.nil _ _ _ _ _⟩ ⟨by simp, fun o ho => by cases ho⟩).mono ?_
  rintro e w1 ⟨he, hb⟩
  have : hdrMay ⟨zeroHash, 0, []⟩ = false := by decide
  rw [this] at he
  exact ⟨he, hb⟩
theorem known_op (w : World) : Calls Try.prog 106 #[.agg (opA ⟨1, zeroHash, 0, 0, ⟨none, 0, 0⟩⟩)] w fun e w' => e = .returned (.bool false) ∧ Below w.heap.size w w' := by
  refine (mayOp_c ⟨1, zeroHash, 0, 0, ⟨none, 0, 0⟩⟩ ⟨1, zeroHash, 0, 0, []⟩ w ⟨rfl, rfl, rfl, rfl, SlR.nil _ _ _ _ _⟩ ⟨by simp, fun o ho => by cases ho⟩).mono ?_
  rintro e w1 ⟨he, hb⟩
  have : opMay ⟨1, zeroHash, 0, 0, []⟩ = false := by decide
  rw [this] at he
  exact ⟨he, hb⟩
theorem num09_c (n : Int) (w : World) : Calls Try.prog 29 #[.int .i64 n] w fun e w' => e = .returned (.int .i64 n) ∧ w = w' := by
  go_enter Try.func29, Try.ntmps29
  go_wp2_with fail
  go_ret
  exact ⟨rfl, rfl⟩

set_option maxRecDepth 100000 in
set_option maxHeartbeats 800000 in
theorem known09_c (w : World) : Calls Try.prog 27 #[] w fun e w' => e = .returned (.bool true) ∧ Below w.heap.size w w' := by
  have hp := pointA_set_epoch zeroPt 7
  have hh := headerA_set_epoch ⟨zeroHash, 0, ⟨none, 0, 0⟩⟩ 1
  have hzc := zc_vote
  simp only [show ((7 : UInt64).toNat : Int) = 7 from rfl, show ((1 : UInt64).toNat : Int) = 1 from rfl] at hp hh
  go_enter Try.func27, Try.ntmps27
  go_wp2_with fail
  refine (known_point _).mono ?_
  rintro e w1 ⟨b, off, c, rfl, hlt, hc, hb1⟩
  go_wp2_with fail
  refine (known_header _).mono ?_
  rintro e w2 ⟨ha, hcp, rfl, hb2⟩
  have hc2 := (hb2.cell (p := ⟨b, off + 7, none⟩) hlt).trans hc
  have hlt2 : b < w2.heap.size := Nat.lt_of_lt_of_le hlt hb2.size
  clear hc
  go_wp2_with fail
  refine (known_vote _).mono ?_
  rintro e w3 ⟨g, rfl, hb3⟩
  have hc3 := (hb3.cell (p := ⟨b, off + 7, none⟩) hlt2).trans hc2
  have hlt3 : b < w3.heap.size := Nat.lt_of_lt_of_le hlt2 hb3.size
  have hne3 : b ≠ w3.heap.size := by omega
  have hB3 : Below w.heap.size w w3 := hb1.trans ((hb2.mono hb1.size).trans (hb3.mono (Nat.le_trans hb1.size hb2.size)))
  have hz3 := hB3.size
  clear hc2 hb1 hb2 hb3
  go_wp2_with (first
    | (go_at_call 29; (with_reducible refine (num09_c _ _).mono ?_); rintro e w' ⟨rfl, rfl⟩)
    | (go_at_call 105; (with_reducible refine (known_may _).mono ?_); rintro e w4 ⟨rfl, hb4⟩)
    | (go_at_call 106; (with_reducible refine (known_op _).mono ?_); rintro e w5 ⟨rfl, hb5⟩))
  go_ret
  exact ⟨rfl, by (repeat' (first | (with_reducible exact Below.refl _ _) | (with_reducible assumption) | (with_reducible refine bel_trans (by assumption) ?_ ?_) | (with_reducible refine bel_grown (by assumption) ?_ ?_ ?_) | (with_reducible refine Below.alloc ?_ ?_ _) | (with_reducible refine Below.drew ?_) | (with_reducible refine below_drewN ?_ _) | (with_reducible refine Below.setCell ?_ ?_ _) | (with_reducible refine below_put ?_ ?_ _ _) | (with_reducible exact Nat.le_refl _) | omega | (with_reducible refine Nat.le_trans ?_ (Below.size (by assumption))) | (with_reducible refine Nat.le_trans ?_ (World.grownBy.size (by assumption))) | (simp only [World.size_alloc, World.size_setCell, World.size_drew, size_drewN]; omega) | (simp only [World.size_alloc, World.size_setCell, World.size_drew, size_drewN, size_put]; omega) | (intro k hk; simp [Value.ownBlock] at hk; done) | (intro k hk; simp [Value.ownBlock] at hk; omega) | (simp [size_drewN] at *; omega)))⟩
end Go.Proofs.Ytkocpihfdpahpaa

/- The walk of landmarklaw09.CodecOrder. -/
namespace Go.Proofs.Ytkocpihfdpahpaa
open Go.RowKit

theorem str_run {w : World} {s : Sl} {l : List UInt8} (h : BytesR w s l) : (convert 32 9 s.v).run Try.prog w = .ok (.string ⟨l.toArray⟩) w := by
  obtain ⟨sa, sn, sc⟩ := s
  obtain rfl : sn = l.length := h.1
  by_cases hl : l = []
  · subst hl
    cases sa with
    | none => exact Lib.run_convert_nil_bytes w _ _ 5 sc Try.underlying32 Try.underlying5 Try.underlying9
    | some a => exact run_convert_bytes_back w _ _ 5 a sc [] Try.underlying32 Try.underlying5 Try.underlying9 (fun j hj => by simp at hj)
  · obtain ⟨b, off, ha, hc⟩ := h.2.2 hl
    simp only at ha
    subst ha
    refine run_convert_bytes_back w _ _ 5 ⟨b, off, none⟩ sc l Try.underlying32 Try.underlying5 Try.underlying9 (fun j hj => ?_)
    have hadd : (⟨b, off, none⟩ : Addr).add j = ⟨b, off + j, none⟩ := by unfold Addr.add; split <;> simp_all
    rw [hadd, hc j hj]
    rfl

/-- three checkpoints in rows of their own -/
def Rows3 (B : Nat) (W : World) (a b c : Pt) : Prop := row? W B 0 33 = some (pointA a) ∧ row? W (B + 1) 0 33 = some (pointA b) ∧ row? W (B + 1 + 1) 0 33 = some (pointA c) ∧ B + 1 + 1 < W.heap.size
theorem Rows3.keep {B : Nat} {W W' : World} {a b c : Pt} (h : Rows3 B W a b c) (hb : Below W.heap.size W W') : Rows3 B W' a b c := by
  obtain ⟨h1, h2, h3, h4⟩ := h
  have := hb.size
  exact ⟨by rw [row?_below _ _ _ hb (by omega)]; exact h1, by rw [row?_below _ _ _ hb (by omega)]; exact h2, by rw [row?_below _ _ _ hb (by omega)]; exact h3, by omega⟩

theorem pbytes_yes (p : Pt) (h : mayPt p = true) (w : World) : Calls Try.prog 103 #[.agg (pointA p)] w fun e w' => ∃ s : Sl, e = .returned (.tuple #[s.v, .int .i64 0]) ∧ BytesR w' s (ptBytes p) ∧ Below w.heap.size w w' := by
  refine (pointBytes_c p w).mono ?_
  rintro e w1 ⟨s, he, ho, hb⟩
  rw [h] at he ho
  exact ⟨s, he, ho, hb⟩
theorem pbytes_no (p : Pt) (h : mayPt p = false) (w : World) : Calls Try.prog 103 #[.agg (pointA p)] w fun e w' => ∃ s : Sl, e = .returned (.tuple #[s.v, .int .i64 2]) ∧ Below w.heap.size w w' := by
  refine (pointBytes_c p w).mono ?_
  rintro e w1 ⟨s, he, ho, hb⟩
  rw [h] at he
  exact ⟨s, he, hb⟩

end Go.Proofs.Ytkocpihfdpahpaa

/- Contracts of package landmarkref01: numbers. -/
namespace Go.Proofs.Ytkocpihfdpahpaa
open Go.RowKit

theorem pow_le7 (j : Nat) (h : j ≤ 7) : 256 ^ j ≤ 72057594037927936 := by
  have := Nat.pow_le_pow_right (show 0 < 256 by omega) h
  omega
theorem power_c (k : Nat) (w : World) (hk : k ≤ 7) : Calls Try.prog 193 #[.int .i64 k] w fun e w' => e = .returned (.int .u64 ((256 ^ k : Nat) : Int)) ∧ w' = w := by
  go_enter Try.func193, Try.ntmps193
  go_wp2_with fail
  go_loop [3, 4] (fun p i => ∃ j : Nat, j ≤ k ∧ p = .int .u64 ((256 ^ j : Nat) : Int) ∧ i = .int .i64 j) (fun _ i => k - (intOf i).toNat)
  case atStart => exact ⟨0, Nat.zero_le _, rfl, rfl⟩
  case round =>
    obtain ⟨j, hj, rfl, rfl⟩ := hrel
    have hle := pow_le7 j (by omega)
    have hs : 256 ^ (j + 1) = 256 ^ j * 256 := Nat.pow_succ ..
    have Hk := Lib.hid (show j = k → (256 ^ j : Nat) = 256 ^ k from fun h => by rw [h])
    by_cases hlt : j < k
    · have hle2 : 256 ^ j * 256 ≤ 72057594037927936 := by rw [← hs]; exact pow_le7 (j + 1) (by omega)
      generalize 256 ^ j = p at *
      have Hs := Lib.hid hs
      clear hs
      go_wp2_with fail
      go_round
      case rel => exact ⟨j + 1, by omega, by rw [Hs.out]; go_num, by go_num⟩
      case measure => simp [intOf]; omega
    · clear hs
      go_wp2_with fail
      go_ret
      obtain rfl : j = k := by omega
      exact ⟨by simp, rfl⟩
theorem power_i (i : Int) (w : World) (h0 : 0 ≤ i) (h7 : i ≤ 7) : Calls Try.prog 193 #[.int .i64 i] w fun e w' => e = .returned (.int .u64 ((256 ^ i.toNat : Nat) : Int)) ∧ w' = w := by
  obtain ⟨k, rfl⟩ := Int.eq_ofNat_of_zero_le h0
  exact power_c k w (by omega)

set_option maxRecDepth 100000 in
set_option maxHeartbeats 800000 in
theorem rput_c (size n : Nat) (w : World) (hs0 : 1 ≤ size) (hs : size ≤ 8) (hn : n < 18446744073709551616) :
    Calls Try.prog 159 #[.int .u64 n, .int .i64 size] w fun e w' => ∃ v, e = .returned v ∧ Own w' w.heap.size v (be size n) ∧ Below w.heap.size w w' := by
  obtain ⟨i0, hi, hy0, hy1, hy2⟩ := info_parts info_u8
  have hlen := be_length size n
  go_enter Try.func159, Try.ntmps159
  go_wp2_with fail
  go_loopw [5, 6] (fun u i w' => ∃ j : Nat, j ≤ size ∧ Own w' w.heap.size u ((be size n).take j) ∧ i = .int .i64 ((size : Int) - 1 - j) ∧ Below w.heap.size w w') (fun _ i _ => (intOf i + 1).toNat)
  case atStart => exact ⟨0, Nat.zero_le _, Own.nil _ _, by simp, Below.refl _ _⟩
  case round =>
    obtain ⟨j, hj, hown, rfl, hB⟩ := hrel
    have hz := hB.size
    by_cases hlt : j < size
    · have hts := be_take_succ size n j hlt
      have hp7 := pow_le7 (size - 1 - j) (by omega)
      have hp0 : 0 < 256 ^ (size - 1 - j) := Nat.pow_pos (by omega)
      have hbv := byteV_div n (256 ^ (size - 1 - j))
      have HC := fun W => power_i ((size : Int) - 1 - j) W (by omega) (by omega)
      rw [show ((size : Int) - 1 - j).toNat = size - 1 - j by omega] at HC
      have htl : ((be size n).take j).length + 1 ≤ 140737488355328 := by simp; omega
      generalize 256 ^ (size - 1 - j) = p at *
      have hd0 : (0 : Int) ≤ (n : Int) / (p : Int) := Int.ediv_nonneg (by omega) (by omega)
      have hd1 : (n : Int) / (p : Int) ≤ n := Int.ediv_le_self _ (by omega)
      have hpp : (0 : Int) < (p : Int) := by omega
      have Hts := Lib.hid hts
      have Hbv := Lib.hid hbv
      have Hown := Lib.hid hown
      clear hts hbv hown
      go_wp2_with (first
        | (go_at_call 193; (with_reducible refine (HC _).mono ?_); rintro e w1 ⟨rfl, rfl⟩)
        | (at_builtin; refine wpList_append_bytes _ rfl (.tmp 13) (.tmp 20) _ (by rfl) w.heap.size 5 i0 _ Try.underlying32 hi hy0 hy1 hy2 rfl _ _ (by rfl) (Hown.out.keep (bel_a _ _)) ⟨some ⟨_, 0, none⟩, 1, 1⟩ [UInt8.ofNat (n / p)] (by rfl) (BytesR.one _ _ _ _ _ rfl Hbv.out) htl (by simp; omega) ?_; intro v' w2 hown2 hg2 _))
      have hB2 : Below w.heap.size w w2 := bel_grown hg2 (hB.trans ((bel_a _ _).mono hz)) (by simp; omega) (fun k hk => (Hown.out.lt k hk).1)
      go_roundw
      case rel => exact ⟨j + 1, by omega, by rw [Hts.out]; exact hown2, by go_num, hB2⟩
      case measure => simp [intOf]; omega
    · have hfl : (be size n).take j = be size n := by rw [List.take_of_length_le (by omega)]
      rw [hfl] at hown
      clear hfl
      go_wp2_with fail
      go_ret
      exact ⟨_, rfl, hown, hB⟩
end Go.Proofs.Ytkocpihfdpahpaa

/- Contract of landmarkref01.Get. -/
namespace Go.Proofs.Ytkocpihfdpahpaa
open Go.RowKit

theorem numOf_snoc (l : List UInt8) (x : UInt8) : numOf (l ++ [x]) = numOf l * 256 + x.toNat := by
  simp [numOf, List.foldl_append]
theorem numOf_take_succ (l : List UInt8) (j : Nat) (h : j < l.length) : numOf (l.take (j + 1)) = numOf (l.take j) * 256 + l[j].toNat := by
  rw [List.take_succ_eq_append_getElem h, numOf_snoc]
theorem get_step (l : List UInt8) (j : Nat) (h : j < l.length) : numOf (l.take (j + 1)) * 256 ^ (l.length - (j + 1)) = numOf (l.take j) * 256 ^ (l.length - j) + l[j].toNat * 256 ^ (l.length - 1 - j) := by
  rw [numOf_take_succ l j h, show l.length - j = l.length - (j + 1) + 1 by omega, Nat.pow_succ, show l.length - 1 - j = l.length - (j + 1) by omega, Nat.add_mul]
  congr 1
  rw [Nat.mul_assoc, Nat.mul_comm 256]
theorem get_lt (l : List UInt8) (j : Nat) (h : j ≤ l.length) (h8 : l.length ≤ 8) : numOf (l.take j) * 256 ^ (l.length - j) < 18446744073709551616 := by
  have h1 := numOf_lt (l.take j)
  rw [List.length_take, Nat.min_eq_left h] at h1
  have h2 : 0 < 256 ^ (l.length - j) := Nat.pow_pos (by omega)
  have h3 := Nat.mul_lt_mul_of_pos_right h1 h2
  rw [← Nat.pow_add, show j + (l.length - j) = l.length by omega] at h3
  have h4 := Nat.pow_le_pow_right (show 0 < 256 by omega) h8
  omega

set_option maxRecDepth 100000 in
set_option maxHeartbeats 800000 in
theorem rget_c (s : Sl) (l : List UInt8) (w : World) (hs : BytesR w s l) (h8 : l.length ≤ 8) :
    Calls Try.prog 161 #[s.v] w fun e w' => e = .returned (.int .u64 (numOf l)) ∧ ∃ m, w' = w.drewN m := by
  obtain ⟨sa, sn, sc⟩ := s
  obtain rfl : sn = l.length := hs.1
  have Hs := Lib.hid hs
  clear hs
  show Calls Try.prog 161 #[.slice sa l.length sc] w _
  go_enter Try.func161, Try.ntmps161
  go_wp2_with fail
  go_loopw [3, 4] (fun p i w' => ∃ j : Nat, j ≤ l.length ∧ p = .int .u64 ((numOf (l.take j) * 256 ^ (l.length - j) : Nat) : Int) ∧ i = .int .i64 j ∧ ∃ m, w' = w.drewN m) (fun _ i _ => l.length - (intOf i).toNat)
  case atStart => exact ⟨0, Nat.zero_le _, by simp [numOf], rfl, 0, rfl⟩
  case round =>
    obtain ⟨j, hj, rfl, rfl, m, rfl⟩ := hrel
    by_cases hlt : j < l.length
    · obtain ⟨b, off, ha, hc⟩ := Hs.out.2.2 (by intro e; subst e; simp at hlt)
      simp only at ha
      subst ha
      obtain ⟨W, hW⟩ : ∃ W, W = w.drewN m := ⟨_, rfl⟩
      have hcj : ∀ n, (W.drewN n).cell? ⟨b, off + j, none⟩ = some (.int .u8 (l[j].toNat : Int)) := fun n => by rw [hW]; exact hc j hlt
      rw [← hW]
      have HW := Lib.hid hW
      clear hW
      have hst := get_step l j hlt
      have hg0 := get_lt l j (by omega) h8
      have hg1 := get_lt l (j + 1) hlt h8
      have hp7 := pow_le7 (l.length - 1 - j) (by omega)
      have hp0 : 0 < 256 ^ (l.length - 1 - j) := Nat.pow_pos (by omega)
      have hx := l[j].toNat_lt
      have HC := fun W => power_i ((l.length : Int) - 1 - j) W (by omega) (by omega)
      rw [show ((l.length : Int) - 1 - j).toNat = l.length - 1 - j by omega] at HC
      have hi0 : (0 : Int) ≤ (j : Int) := by omega
      have hi1 : (j : Int) < (l.length : Int) := by omega
      generalize hy : l[j].toNat = y at *
      generalize hn1 : numOf (l.take (j + 1)) * 256 ^ (l.length - (j + 1)) = n1 at *
      generalize hn0 : numOf (l.take j) * 256 ^ (l.length - j) = n0 at *
      generalize 256 ^ (l.length - 1 - j) = p at *
      have hyp : y * p < 18446744073709551616 := by omega
      have Hn := Lib.hid hn1
      clear hn1 hn0 hy hc
      go_wp2_with fail
      go_quiet ((go_at_call 193; exact Calls.quiet_of_same (HC _)))
      go_wp2_with fail
      go_roundw
      case rel => exact ⟨j + 1, by omega, by rw [Hn.out]; go_num, by go_num, _, by rw [HW.out, World.drewN_drewN]⟩
      case measure => simp [intOf]; omega
    · obtain rfl : j = l.length := by omega
      go_wp2_with fail
      go_ret
      exact ⟨by simp, m, rfl⟩
end Go.Proofs.Ytkocpihfdpahpaa

/- Contracts of landmarkref01.Reader. -/
namespace Go.Proofs.Ytkocpihfdpahpaa
open Go.RowKit

/-- where the document's reader stands: what is left; none: it has failed -/
def RfR (lo : Nat) (w : World) (r : Nat) : Option (List UInt8) → Prop
  | none => lo ≤ r ∧ ∃ x y, w.heap[r]? = some (.cells #[x, y, .bool true] 164 (0, 0))
  | some l => ∃ (s : Sl) (full : List UInt8) (k : Nat), w.heap[r]? = some (.cells #[s.v, .int .i64 k, .bool false] 164 (0, 0)) ∧
    BytesR w s full ∧ k ≤ full.length ∧ full.length ≤ 140737488355328 ∧ LowSl 0 lo s full ∧ lo ≤ r ∧ l = full.drop k

theorem RfR.lt {lo : Nat} {w : World} {r : Nat} {st : Option (List UInt8)} (h : RfR lo w r st) : r < w.heap.size := by
  obtain ⟨o, hg⟩ : ∃ o, w.heap[r]? = some o := by
    cases st with
    | none => obtain ⟨_, _, _, hg⟩ := h; exact ⟨_, hg⟩
    | some l => obtain ⟨_, _, _, hg, _⟩ := h; exact ⟨_, hg⟩
  rcases Nat.lt_or_ge r w.heap.size with hlt | hge
  · exact hlt
  · rw [Array.getElem?_eq_none hge] at hg; cases hg
theorem RfR.le {lo : Nat} {w : World} {r : Nat} {st : Option (List UInt8)} (h : RfR lo w r st) : lo ≤ r := by
  cases st with
  | none => exact h.1
  | some l => obtain ⟨_, _, _, _, _, _, _, _, h, _⟩ := h; exact h
theorem BytesR.keepLow {lo D : Nat} {w w' : World} {s : Sl} {l : List UInt8} (h : BytesR w s l) (hl : LowSl lo D s l) (hb : ∀ b, b < D → w'.heap[b]? = w.heap[b]?) : BytesR w' s l :=
  ⟨h.1, h.2.1, fun hne => by
    obtain ⟨b, off, ha, hc⟩ := h.2.2 hne
    exact ⟨b, off, ha, fun i hi => (World.cell?_of_block (a := ⟨b, off + i, none⟩) (hb b (hl hne ⟨b, off, none⟩ ha).2)).trans (hc i hi)⟩⟩
theorem LowSl.up {lo D D' : Nat} {s : Sl} {l : List UInt8} (h : LowSl lo D s l) (hD : D ≤ D') : LowSl lo D' s l := fun hne a ha => ⟨(h hne a ha).1, Nat.lt_of_lt_of_le (h hne a ha).2 hD⟩
theorem RfR.keepB {lo D : Nat} {w w' : World} {r : Nat} {st : Option (List UInt8)} (h : RfR lo w r st) (hr : r < D) (hb : Below D w w') : RfR lo w' r st := by
  cases st with
  | none => obtain ⟨hlr, x, y, hg⟩ := h; exact ⟨hlr, x, y, (hb.block r hr).trans hg⟩
  | some l => obtain ⟨s, full, k, hg, hs, h1, h2, hl, hlr, h3⟩ := h; exact ⟨s, full, k, (hb.block r hr).trans hg, hs.keepLow (hl.up (Nat.le_of_lt (Nat.lt_of_le_of_lt hlr hr))) (fun b hlt => hb.block b hlt), h1, h2, hl, hlr, h3⟩
theorem RfR.keep {lo : Nat} {w w' : World} {r : Nat} {st : Option (List UInt8)} (h : RfR lo w r st) (hb : Below w.heap.size w w') : RfR lo w' r st := h.keepB h.lt hb

theorem mid_reads {w : World} {b off : Nat} {l : List UInt8} (hc : ∀ (i : Nat) (hi : i < l.length), w.cell? ⟨b, off + i, none⟩ = some (byteV l[i])) (k j n c : Nat) (hj : k + j ≤ l.length) (hn : n = j) (hjc : j ≤ c) :
    BytesR w ⟨some ⟨b, off + k, none⟩, n, c⟩ ((l.drop k).take j) := by
  subst hn
  exact take_reads (fun i hi => by
    have h : k + i < l.length := by simp at hi; omega
    rw [Nat.add_assoc, hc (k + i) h]; simp) n c (by simp; omega) hjc
/-- the reader's own cells anew -/
theorem RfR.fin {lo : Nat} {w w' : World} {r : Nat} {s : Sl} {full : List UInt8} (k : Nat) (hs : BytesR w s full) (hlow : LowSl 0 lo s full) (hlr : lo ≤ r) (hle : full.length ≤ 140737488355328) (hk : k ≤ full.length)
    (h1 : w'.heap[r]? = some (.cells #[s.v, .int .i64 k, .bool false] 164 (0, 0))) (h2 : ∀ b, b ≠ r → w'.heap[b]? = w.heap[b]?) : RfR lo w' r (some (full.drop k)) :=
  ⟨s, full, k, h1, hs.keepLow hlow (fun b hb => h2 b (Nat.ne_of_lt (Nat.lt_of_lt_of_le hb hlr))), hk, hle, hlow, hlr, rfl⟩
theorem grown_drew {w w' : World} {row : Option Nat} (h : w.grownBy w' row) : w.grownBy w'.drew row := ⟨h.os, h.tape, h.output, h.size, h.block⟩
set_option maxRecDepth 100000 in
set_option maxHeartbeats 1600000 in
theorem fbytes_c {lo : Nat} (r : Nat) (st : Option (List UInt8)) (n : Int) (w : World) (h : RfR lo w r st) (hn : -9223372036854775808 ≤ n) (hn' : n ≤ 9223372036854775807) :
    Calls Try.prog 99 #[.pointer (some ⟨r, 0, none⟩), .int .i64 n] w fun e w' => ∃ s : Sl, e = .returned s.v ∧ BytesR w' s (rdBytes st n).2 ∧ LowSl 0 lo s (rdBytes st n).2 ∧ RfR lo w' r (rdBytes st n).1 ∧ w.grownBy w' (some r) := by
  have hlt := h.lt
  cases st with
  | none =>
    obtain ⟨hlr, x, y, hg⟩ := h
    have c2 : w.cell? ⟨r, 2, none⟩ = some (.bool true) := by rw [cell_of_row w r 2 _ _ _ hg]; rfl
    have f2 := frozen_of_row w r 2 _ _ hg
    have Hg := Lib.hid hg
    clear hg
    go_enter Try.func99, Try.ntmps99
    go_wp2_with fail
    go_region
    go_wp2_with fail
    go_ret
    exact ⟨⟨none, 0, 0⟩, rfl, BytesR.nil _ _ _, LowSl.nil _ _ _, ⟨hlr, x, y, heap_set _ _ _ _ _ _ Hg.out⟩, grown_drew (grown_set _ _ _ _)⟩
  | some l =>
    obtain ⟨s, full, k, hg, hs, hk, hle, hlow, hlr, rfl⟩ := id h
    obtain ⟨sa, sn, sc⟩ := s
    obtain rfl : sn = full.length := hs.1
    have hlec : full.length ≤ sc := hs.2.1
    have c0 : w.cell? ⟨r, 0, none⟩ = some (.slice sa full.length sc) := by rw [cell_of_row w r 0 _ _ _ hg]; rfl
    have c1 : w.cell? ⟨r, 1, none⟩ = some (.int .i64 k) := by rw [cell_of_row w r 1 _ _ _ hg]; rfl
    have c2 : w.cell? ⟨r, 2, none⟩ = some (.bool false) := by rw [cell_of_row w r 2 _ _ _ hg]; rfl
    have f1 := frozen_of_row w r 1 _ _ hg
    have f2 := frozen_of_row w r 2 _ _ hg
    have Hg := Lib.hid hg
    have Hs := Lib.hid hs
    clear hg hs h
    by_cases hok : 0 ≤ n ∧ k + n ≤ full.length
    · have d1 : decide (n < 0) = false := decide_eq_false (by omega)
      have d2 : decide ((full.length : Int) < n) = false := decide_eq_false (by omega)
      have d3 : decide ((full.length : Int) - n < k) = false := decide_eq_false (by omega)
      obtain ⟨res, hres⟩ : ∃ res, res = rdBytes (some (full.drop k)) n := ⟨_, rfl⟩
      rw [← hres]
      have hres := Lib.hid hres
      go_enter Try.func99, Try.ntmps99
      go_wp2_with fail
      go_region
      obtain ⟨j, rfl⟩ := Int.eq_ofNat_of_zero_le hok.1
      have hj : k + j ≤ full.length := by omega
      have Hres : Hid (res = (some (full.drop (k + j)), (full.drop k).take j)) := Lib.hid (by rw [hres.out]; simp [rdBytes]; omega)
      clear hres d1 d2 d3
      have H2 : ∀ (v1 v2 : Value) b, b ≠ r → ((w.setCell ⟨r, 2, none⟩ v1).setCell ⟨r, 1, none⟩ v2).heap[b]? = w.heap[b]? := fun v1 v2 b hb => (Below.heap_setCell _ _ _ b hb).trans (Below.heap_setCell _ _ _ b hb)
      have HG : ∀ (v1 v2 : Value), w.grownBy ((w.setCell ⟨r, 2, none⟩ v1).setCell ⟨r, 1, none⟩ v2) (some r) := fun v1 v2 => (grown_set _ _ _ _).trans (grown_set _ _ _ _)
      have H1 : ((w.setCell ⟨r, 2, none⟩ (.bool false)).setCell ⟨r, 1, none⟩ (.int .i64 (k + j : Int))).heap[r]? = some (.cells #[.slice sa full.length sc, .int .i64 ((k + j : Nat) : Int), .bool false] 164 (0, 0)) :=
        heap_set _ _ _ _ _ _ (heap_set _ _ _ _ _ _ Hg.out)
      have H2 := Lib.hid H2
      have HG := Lib.hid HG
      have H1 := Lib.hid H1
      have fin : ∀ (s : Sl), BytesR ((w.setCell ⟨r, 2, none⟩ (.bool false)).setCell ⟨r, 1, none⟩ (.int .i64 (k + j : Int))) s ((full.drop k).take j) → LowSl 0 lo s ((full.drop k).take j) →
          ∃ s' : Sl, Ending.returned s.v = Ending.returned s'.v ∧ BytesR ((w.setCell ⟨r, 2, none⟩ (.bool false)).setCell ⟨r, 1, none⟩ (.int .i64 (k + j : Int))).drew.drew s' res.2 ∧ LowSl 0 lo s' res.2 ∧
            RfR lo ((w.setCell ⟨r, 2, none⟩ (.bool false)).setCell ⟨r, 1, none⟩ (.int .i64 (k + j : Int))).drew.drew r res.1 ∧ w.grownBy ((w.setCell ⟨r, 2, none⟩ (.bool false)).setCell ⟨r, 1, none⟩ (.int .i64 (k + j : Int))).drew.drew (some r) := by
        intro s hb hl
        rw [Hres.out]
        exact ⟨s, rfl, hb, hl, RfR.fin (k + j) Hs.out hlow hlr hle hj H1.out (H2.out _ _), grown_drew (grown_drew (HG.out _ _))⟩
      have Fin := Lib.hid fin
      clear fin
      by_cases hf : full = []
      · subst hf
        obtain rfl : k = 0 := by simpa using hk
        obtain rfl : j = 0 := by simpa using hj
        cases sa with
        | none =>
          go_wp2_with fail
          go_region
          go_wp2_with fail
          go_ret
          exact Fin.out ⟨none, 0, sc⟩ (BytesR.nil _ _ _) (LowSl.nil _ _ _)
        | some ad =>
          by_cases hsc : sc = 0
          all_goals
            go_wp2_with fail
            go_region
            go_wp2_with fail
            go_ret
            exact Fin.out ⟨some ad, 0, _⟩ (BytesR.nil _ _ _) (LowSl.nil _ _ _)
      · obtain ⟨b, off, rfl, hc⟩ := Hs.out.2.2 hf
        have hlb := hlow hf _ rfl
        simp only at hlb
        have hbw : b < w.heap.size := by omega
        have Hc := Lib.hid (show ∀ (i : Nat) (hi : i < full.length), ((w.setCell ⟨r, 2, none⟩ (.bool false)).setCell ⟨r, 1, none⟩ (.int .i64 (k + j : Int))).cell? ⟨b, off + i, none⟩ = some (byteV full[i]) from
          fun i hi => (World.cell?_of_block (a := ⟨b, off + i, none⟩) (H2.out _ _ b (by omega))).trans (hc i hi))
        clear hc
        by_cases hck : sc = k
        · go_wp2_with fail
          go_region
          go_wp2_with fail
          go_ret
          obtain rfl : j = 0 := by omega
          exact Fin.out ⟨some ⟨b, off, none⟩, k + 0 - k, 0⟩ (by rw [show k + 0 - k = 0 by omega]; exact BytesR.nil _ _ _) (LowSl.nil _ _ _)
        · go_wp2_with fail
          go_region
          go_wp2_with fail
          go_ret
          exact Fin.out ⟨some ⟨b, off + k, none⟩, k + j - k, sc - k⟩ (mid_reads Hc.out k j _ _ hj (by omega) (by omega)) (LowSl.at hlb.1 hlb.2 rfl)
    · have e1 : rdBytes (some (full.drop k)) n = (none, []) := by simp [rdBytes]; omega
      rw [e1]
      clear e1
      by_cases n1 : n < 0
      · have d1 : decide (n < 0) = true := decide_eq_true n1
        go_enter Try.func99, Try.ntmps99
        go_wp2_with fail
        go_region
        go_wp2_with fail
        go_ret
        exact ⟨⟨none, 0, 0⟩, rfl, BytesR.nil _ _ _, LowSl.nil _ _ _, ⟨hlr, _, _, heap_set _ _ _ _ _ _ Hg.out⟩, grown_drew (grown_set _ _ _ _)⟩
      · have d1 : decide (n < 0) = false := decide_eq_false n1
        by_cases n2 : (full.length : Int) < n
        · have d2 : decide ((full.length : Int) < n) = true := decide_eq_true n2
          go_enter Try.func99, Try.ntmps99
          go_wp2_with fail
          go_region
          go_wp2_with fail
          go_ret
          exact ⟨⟨none, 0, 0⟩, rfl, BytesR.nil _ _ _, LowSl.nil _ _ _, ⟨hlr, _, _, heap_set _ _ _ _ _ _ Hg.out⟩, grown_drew (grown_set _ _ _ _)⟩
        · have n3 : (full.length : Int) - n < k := by omega
          have d2 : decide ((full.length : Int) < n) = false := decide_eq_false n2
          have d3 : decide ((full.length : Int) - n < k) = true := decide_eq_true n3
          go_enter Try.func99, Try.ntmps99
          go_wp2_with fail
          go_region
          go_wp2_with fail
          go_ret
          exact ⟨⟨none, 0, 0⟩, rfl, BytesR.nil _ _ _, LowSl.nil _ _ _, ⟨hlr, _, _, heap_set _ _ _ _ _ _ Hg.out⟩, grown_drew (grown_set _ _ _ _)⟩
end Go.Proofs.Ytkocpihfdpahpaa

/- Contracts: Reader.Number, Blob; ref09.hash, point. -/
namespace Go.Proofs.Ytkocpihfdpahpaa
open Go.RowKit

theorem RfR.keepN {lo : Nat} {w : World} {r : Nat} {st : Option (List UInt8)} (h : RfR lo w r st) (m : Nat) : RfR lo (w.drewN m) r st := by
  cases st with
  | none => exact h
  | some l => exact h
theorem grown_drewN {w w' : World} {row : Option Nat} (h : w.grownBy w' row) (m : Nat) : w.grownBy (w'.drewN m) row := ⟨h.os, h.tape, h.output, h.size, h.block⟩

theorem fnum_c {lo : Nat} (r : Nat) (st : Option (List UInt8)) (k : Nat) (w : World) (h : RfR lo w r st) (hk : k = 1 ∨ k = 2 ∨ k = 8) :
    Calls Try.prog 100 #[.pointer (some ⟨r, 0, none⟩), .int .i64 k] w fun e w' => e = .returned (.int .u64 (rdNum st k).2) ∧ RfR lo w' r (rdNum st k).1 ∧ w.grownBy w' (some r) := by
  have hlen := rdBytes_len st k
  unfold rdNum
  have b1 : ¬ ((k : Int) < 1) := by omega
  have b2 : ¬ ((8 : Int) < k) := by omega
  have Hk := Lib.hid hk
  have HC := fbytes_c r st k w h (by omega) (by omega)
  clear hk
  generalize rdBytes st (k : Int) = res at *
  go_enter Try.func100, Try.ntmps100
  go_wp2_with fail
  refine HC.mono ?_
  clear HC
  rintro e w1 ⟨s, rfl, hs, _, hr, hg⟩
  go_wp2_with fail
  refine (rget_c s res.2 w1 hs (by have := Hk.out; omega)).mono ?_
  rintro e w2 ⟨rfl, m, rfl⟩
  go_wp2_with fail
  go_ret
  exact ⟨rfl, hr.keepN m, grown_drewN hg m⟩

theorem fillA_all (l : List UInt8) (h : l.length = 32) : fillA l 32 = hashA (toHash l) := by
  simp [fillA, hashA, toHash, h, List.take_of_length_le]
theorem fhash_res : Try.f194.results = #[.cell 2 24] := by kernel_rfl
set_option maxRecDepth 100000 in
set_option maxHeartbeats 1600000 in
theorem fhash_c (r : Nat) (st : Option (List UInt8)) (w : World) {lo : Nat} (h : RfR lo w r st) :
    Calls Try.prog 194 #[.pointer (some ⟨r, 0, none⟩)] w fun e w' => e = .returned (.agg (hashA (rdHash st).2)) ∧ RfR lo w' r (rdHash st).1 ∧ w.grownBy w' (some r) := by
  have hlt := h.lt
  have hle := h.le
  have HC := fun W (hW : RfR lo W r st) => fbytes_c r st 32 W hW (by omega) (by omega)
  have hlen := rdBytes_len st 32
  unfold rdHash
  generalize rdBytes st 32 = res at *
  obtain ⟨st1, l⟩ := res
  have Hh := Lib.hid h
  clear h
  go_enter Try.func194, Try.ntmps194
  go_wp2_with fail
  refine (HC _ ((Hh.out.keep (bel_a _ _)).keep (bel_a _ _))).mono ?_
  clear HC
  rintro e w1 ⟨s, rfl, hs, hlow, hr, hg⟩
  obtain ⟨sa, sn, sc⟩ := s
  obtain rfl : sn = l.length := hs.1
  have hz1 : w.heap.size + 2 ≤ w1.heap.size := by have := hg.size; simpa using this
  have hg0 : w1.heap[w.heap.size]? = some (.cells (hashA zeroHash) 24 (0, 0)) := (hg.block _ (by simp; omega) (by intro e; injection e; omega)).trans ((Below.heap_alloc _ _ _ (by simp)).trans (heap_alloc_new w _))
  have hg1 : w1.heap[w.heap.size + 1]? = some (.cells (fillA l 0) 24 (0, 0)) := (hg.block _ (by simp) (by intro e; injection e; omega)).trans (by rw [fillA_zero]; have := heap_alloc_new (w.alloc (.cells (hashA zeroHash) 24)) (.cells (hashA zeroHash) 24); simpa using this)
  have hGG : w.grownBy w1 (some r) := ((World.grownBy_alloc w _ _).trans (World.grownBy_alloc _ _ _)).trans hg
  have Hs := Lib.hid hs
  have Hr := Lib.hid hr
  have HG := Lib.hid hGG
  have Hg0 := Lib.hid hg0
  have Hg1 := Lib.hid hg1
  have Hlow := Lib.hid hlow
  clear hs hr hg hGG hg0 hg1 hlow
  have hl32 : l.length ≤ 32 := by omega
  have Hlen := Lib.hid hlen
  clear hlen
  dsimp only [Sl.v]
  go_wp2_with fail
  go_loopw [5] (fun i w' => ∃ j : Nat, j ≤ l.length ∧ i = .int .i64 j ∧ w'.heap[w.heap.size + 1]? = some (.cells (fillA l j) 24 (0, 0)) ∧ w1.grownBy w' (some (w.heap.size + 1))) (fun i _ => l.length - (intOf i).toNat)
  case atStart => exact ⟨0, Nat.zero_le _, rfl, Hg1.out, World.grownBy.refl _ _⟩
  case round =>
    obtain ⟨j, hj, rfl, hcs, hgr⟩ := hrel
    have hzz := hgr.size
    have hlw : w.heap.size + 1 < wr.heap.size := by omega
    have Hcs := Lib.hid hcs
    have Hgr := Lib.hid hgr
    clear hcs hgr
    by_cases hlt2 : j < l.length
    · obtain ⟨b, off, ha, hc⟩ := Hs.out.2.2 (by intro e; subst e; simp at hlt2)
      simp only at ha
      subst ha
      have hlb := Hlow.out (by intro e; subst e; simp at hlt2) _ rfl
      simp only at hlb
      have hbw : b < w1.heap.size := lt_of_cell (hc j hlt2)
      have hcj : wr.cell? ⟨b, off + j, none⟩ = some (.int .u8 (l[j].toNat : Int)) := (World.cell?_of_block (a := ⟨b, off + j, none⟩) (Hgr.out.block b hbw (by intro e; injection e; omega))).trans (hc j hlt2)
      obtain ⟨x0, hci⟩ : ∃ x, wr.cell? ⟨w.heap.size + 1, j, none⟩ = some x := by
        rw [cell_of_row wr (w.heap.size + 1) j _ _ _ Hcs.out, Array.getElem?_eq_getElem (by rw [fillA_size l j hj hl32]; omega)]
        exact ⟨_, rfl⟩
      have hfi := frozen_of_row wr (w.heap.size + 1) j _ _ Hcs.out
      have hst := Lib.hid (fillA_step l j hlt2 hl32)
      have hi0 : (0 : Int) ≤ (j : Int) := by omega
      have hi1 : (j : Int) < (l.length : Int) := by omega
      have hi2 : (j : Int) < 32 := by omega
      have hv := Lib.hid (show byteV l[j] = .int .u8 (l[j].toNat : Int) from rfl)
      generalize hy : (l[j].toNat : Int) = y at *
      clear hc
      go_wp2_with fail
      go_roundw
      case rel => exact ⟨j + 1, by omega, by go_num, by rw [← hst.out, hv.out]; exact heap_set _ _ _ _ _ _ Hcs.out, Hgr.out.trans (grown_set _ _ _ _)⟩
      case measure => simp [intOf]; omega
    · obtain rfl : j = l.length := by omega
      have hfa : fillA l l.length = hashA (toHash l) := by
        rcases Hlen.out with h0 | h0
        · obtain rfl := List.eq_nil_of_length_eq_zero h0
          rw [show ([] : List UInt8).length = 0 from rfl, fillA_zero]
          simp [toHash]
        · rw [h0, fillA_all l h0]
      have hrow1 : row? wr (w.heap.size + 1) 0 32 = some (hashA (toHash l)) := by
        unfold row?
        rw [Hcs.out, hfa]
        simp
      have hblk : wr.heap[w.heap.size]? = some (.cells (hashA zeroHash) 24 (0, 0)) := (Hgr.out.block _ (by omega) (by intro e; injection e; omega)).trans Hg0.out
      have hrow : row? wr w.heap.size 0 32 = some (hashA zeroHash) := by
        unfold row?
        rw [hblk]
        simp
      have hth : there wr w.heap.size 0 32 := there_block hblk (by simp)
      clear hblk hfa
      have hd : ¬ ((l.length : Int) < (l.length : Int)) := by omega
      have hR : RfR lo wr r st1 := Hr.out.keepB (D := w.heap.size + 1) (by omega) ⟨Hgr.out.os, Hgr.out.tape, Hgr.out.output, Hgr.out.size, fun b hb => Hgr.out.block b (by omega) (by intro e; injection e; omega)⟩
      have hG : w.grownBy wr (some r) := grown_below HG.out (D := w.heap.size + 1) ⟨Hgr.out.os, Hgr.out.tape, Hgr.out.output, Hgr.out.size, fun b hb => Hgr.out.block b (by omega) (by intro e; injection e; omega)⟩ (by omega)
      have hR := Lib.hid hR
      have HG := Lib.hid hG
      clear hG
      go_wp2_with (with_reducible refine ret_row Try.isAgg24 Try.sizeOf24 fhash_res (x := .pointer (some ⟨w.heap.size, 0, none⟩)) (w.heap.size) 0 ?rrhx (Eq.refl _) ?rrh ?rrhd ?rrhR; (case rrhx => simp only [Array.getD_eq_getD_getElem?, List.getElem?_toArray, List.getElem?_cons_succ, List.getElem?_cons_zero, Option.getD_some]); (case rrhd => exact rfl); (case rrh => go_simp); (case rrhR => ((refine ⟨?_, hR.out.keepB hlt ?_, grown_below HG.out ?_ (Nat.le_refl _)⟩; (case refine_1 => (go_simp; done)); (case refine_2 => ((repeat' (first | (with_reducible exact Below.refl _ _) | (with_reducible assumption) | (with_reducible refine bel_trans (by assumption) ?_ ?_) | (with_reducible refine bel_grown (by assumption) ?_ ?_ ?_) | (with_reducible refine Below.alloc ?_ ?_ _) | (with_reducible refine Below.drew ?_) | (with_reducible refine below_drewN ?_ _) | (with_reducible refine Below.setCell ?_ ?_ _) | (with_reducible refine below_put ?_ ?_ _ _) | (with_reducible exact Nat.le_refl _) | omega | (with_reducible refine Nat.le_trans ?_ (Below.size (by assumption))) | (with_reducible refine Nat.le_trans ?_ (World.grownBy.size (by assumption))) | (simp only [World.size_alloc, World.size_setCell, World.size_drew, size_drewN]; omega) | (simp only [World.size_alloc, World.size_setCell, World.size_drew, size_drewN, size_put]; omega) | (intro k hk; simp [Value.ownBlock] at hk; done) | (intro k hk; simp [Value.ownBlock] at hk; omega) | (simp [size_drewN] at *; omega))))); (case refine_3 => ((repeat' (first | (with_reducible exact Below.refl _ _) | (with_reducible assumption) | (with_reducible refine bel_trans (by assumption) ?_ ?_) | (with_reducible refine bel_grown (by assumption) ?_ ?_ ?_) | (with_reducible refine Below.alloc ?_ ?_ _) | (with_reducible refine Below.drew ?_) | (with_reducible refine below_drewN ?_ _) | (with_reducible refine Below.setCell ?_ ?_ _) | (with_reducible refine below_put ?_ ?_ _ _) | (with_reducible exact Nat.le_refl _) | omega | (with_reducible refine Nat.le_trans ?_ (Below.size (by assumption))) | (with_reducible refine Nat.le_trans ?_ (World.grownBy.size (by assumption))) | (simp only [World.size_alloc, World.size_setCell, World.size_drew, size_drewN]; omega) | (simp only [World.size_alloc, World.size_setCell, World.size_drew, size_drewN, size_put]; omega) | (intro k hk; simp [Value.ownBlock] at hk; done) | (intro k hk; simp [Value.ownBlock] at hk; omega) | (simp [size_drewN] at *; omega)))))))))
end Go.Proofs.Ytkocpihfdpahpaa

/- Contracts: ref09.point, MayPoint, Point, PointLess. -/
namespace Go.Proofs.Ytkocpihfdpahpaa
open Go.RowKit

theorem fpoint_res : Try.f160.results = #[.cell 2 26] := by kernel_rfl
set_option maxRecDepth 100000 in
set_option maxHeartbeats 800000 in
theorem fpoint_c (r : Nat) (st : Option (List UInt8)) (w : World) {lo : Nat} (h : RfR lo w r st) :
    Calls Try.prog 160 #[.pointer (some ⟨r, 0, none⟩)] w fun e w' => e = .returned (.agg (pointA (rdPoint st).2)) ∧ RfR lo w' r (rdPoint st).1 ∧ w.grownBy w' (some r) := by
  have hlt := h.lt
  have HC := fun W (hW : RfR lo W r st) => fnum_c r st 8 W hW (by omega)
  have hn := rdNum_lt st 8
  have HH := fun W (hW : RfR lo W r (rdNum st 8).1) => fhash_c r (rdNum st 8).1 W hW
  unfold rdPoint
  generalize rdNum st 8 = res at *
  generalize rdHash res.1 = res2 at *
  obtain ⟨s1, n1⟩ := res
  obtain ⟨u, rfl⟩ : ∃ u : UInt64, n1 = u.toNat := ⟨UInt64.ofNat n1, by simp only at hn; simp; omega⟩
  simp only [UInt64.ofNat_toNat]
  have Hh := Lib.hid h
  clear h hn
  go_enter Try.func160, Try.ntmps160
  go_wp2_with fail
  refine (HC _ (Hh.out.keep (bel_a _ _))).mono ?_
  clear HC
  rintro e w1 ⟨rfl, hr1, hg1⟩
  go_wp2_with fail
  refine (HH _ hr1).mono ?_
  clear HH
  rintro e w2 ⟨rfl, hr2, hg2⟩
  have hg := hg1.trans hg2
  have hblk : w2.heap[w.heap.size]? = some (.cells (pointA zeroPt) 26 (0, 0)) := (hg.block _ (by simp) (by intro e; injection e; omega)).trans (heap_alloc_new w _)
  have hrow : row? w2 w.heap.size 0 33 = some (pointA zeroPt) := by
    unfold row?
    rw [hblk]
    simp
  have hth : there w2 w.heap.size 0 33 := there_block hblk (by simp)
  have hR := Lib.hid hr2
  have HG := Lib.hid ((World.grownBy_alloc w (.cells (pointA zeroPt) 26) _).trans hg)
  clear hg hg1 hg2 hblk hr1 hr2
  go_wp2_with (with_reducible refine ret_row Try.isAgg26 Try.sizeOf26 fpoint_res (x := .pointer (some ⟨w.heap.size, 0, none⟩)) (w.heap.size) 0 ?rrhx (Eq.refl _) ?rrh ?rrhd ?rrhR; (case rrhx => simp only [Array.getD_eq_getD_getElem?, List.getElem?_toArray, List.getElem?_cons_succ, List.getElem?_cons_zero, Option.getD_some]); (case rrhd => exact rfl); (case rrh => go_simp); (case rrhR => ((refine ⟨?_, hR.out.keepB hlt ?_, grown_below HG.out ?_ (Nat.le_refl _)⟩; (case refine_1 => (go_simp; done)); (case refine_2 => ((repeat' (first | (with_reducible exact Below.refl _ _) | (with_reducible assumption) | (with_reducible refine bel_trans (by assumption) ?_ ?_) | (with_reducible refine bel_grown (by assumption) ?_ ?_ ?_) | (with_reducible refine Below.alloc ?_ ?_ _) | (with_reducible refine Below.drew ?_) | (with_reducible refine below_drewN ?_ _) | (with_reducible refine Below.setCell ?_ ?_ _) | (with_reducible refine below_put ?_ ?_ _ _) | (with_reducible exact Nat.le_refl _) | omega | (with_reducible refine Nat.le_trans ?_ (Below.size (by assumption))) | (with_reducible refine Nat.le_trans ?_ (World.grownBy.size (by assumption))) | (simp only [World.size_alloc, World.size_setCell, World.size_drew, size_drewN]; omega) | (simp only [World.size_alloc, World.size_setCell, World.size_drew, size_drewN, size_put]; omega) | (intro k hk; simp [Value.ownBlock] at hk; done) | (intro k hk; simp [Value.ownBlock] at hk; omega) | (simp [size_drewN] at *; omega))))); (case refine_3 => ((repeat' (first | (with_reducible exact Below.refl _ _) | (with_reducible assumption) | (with_reducible refine bel_trans (by assumption) ?_ ?_) | (with_reducible refine bel_grown (by assumption) ?_ ?_ ?_) | (with_reducible refine Below.alloc ?_ ?_ _) | (with_reducible refine Below.drew ?_) | (with_reducible refine below_drewN ?_ _) | (with_reducible refine Below.setCell ?_ ?_ _) | (with_reducible refine below_put ?_ ?_ _ _) | (with_reducible exact Nat.le_refl _) | omega | (with_reducible refine Nat.le_trans ?_ (Below.size (by assumption))) | (with_reducible refine Nat.le_trans ?_ (World.grownBy.size (by assumption))) | (simp only [World.size_alloc, World.size_setCell, World.size_drew, size_drewN]; omega) | (simp only [World.size_alloc, World.size_setCell, World.size_drew, size_drewN, size_put]; omega) | (intro k hk; simp [Value.ownBlock] at hk; done) | (intro k hk; simp [Value.ownBlock] at hk; omega) | (simp [size_drewN] at *; omega)))))))))

theorem fmayPoint_c (p : Pt) (w : World) : Calls Try.prog 84 #[.agg (pointA p)] w fun e w' => e = .returned (.bool (mayPt p)) ∧ Below w.heap.size w w' := by
  go_enter Try.func84, Try.ntmps84
  go_wp2_with fail
  go_ret
  exact ⟨ret_bool (by simp [mayPt]; omega), by (repeat' (first | (with_reducible exact Below.refl _ _) | (with_reducible assumption) | (with_reducible refine bel_trans (by assumption) ?_ ?_) | (with_reducible refine bel_grown (by assumption) ?_ ?_ ?_) | (with_reducible refine Below.alloc ?_ ?_ _) | (with_reducible refine Below.drew ?_) | (with_reducible refine below_drewN ?_ _) | (with_reducible refine Below.setCell ?_ ?_ _) | (with_reducible refine below_put ?_ ?_ _ _) | (with_reducible exact Nat.le_refl _) | omega | (with_reducible refine Nat.le_trans ?_ (Below.size (by assumption))) | (with_reducible refine Nat.le_trans ?_ (World.grownBy.size (by assumption))) | (simp only [World.size_alloc, World.size_setCell, World.size_drew, size_drewN]; omega) | (simp only [World.size_alloc, World.size_setCell, World.size_drew, size_drewN, size_put]; omega) | (intro k hk; simp [Value.ownBlock] at hk; done) | (intro k hk; simp [Value.ownBlock] at hk; omega) | (simp [size_drewN] at *; omega)))⟩

set_option maxRecDepth 100000 in
set_option maxHeartbeats 800000 in
theorem fPoint_c (p : Pt) (w : World) : Calls Try.prog 95 #[.agg (pointA p)] w fun e w' => ∃ v, e = .returned v ∧ Own w' w.heap.size v (ptBytes p) ∧ Below w.heap.size w w' := by
  obtain ⟨i0, hi, hz0, hz1, hz2⟩ := info_parts info_u8
  have hn := p.epoch.toNat_lt
  have HC := fun W => rput_c 8 p.epoch.toNat W (by omega) (by omega) (by omega)
  clear hn
  go_enter Try.func95, Try.ntmps95
  go_wp2_with fail
  go_region_held3 (fun w' => w'.cell? ⟨w.heap.size, 0, none⟩ = some (.int .u64 (p.epoch.toNat : Int)))
    (first | go_keep | (rw [k1 _ _ (by simp)]; simp) | (rw [hb2.cell (p := ⟨w.heap.size, 0, none⟩) (by simp)]; simp))
    (first
      | (go_simp; go_at_call 159; refine (HC _).mono ?_; clear HC; rintro e w1 ⟨v, rfl, ho, hb⟩; obtain ⟨k1, k2, k3⟩ := kept hb)
      | (refine step_append_bytes _ (by rfl) (.tmp 5) (.tmp 7) _ (by rfl) w.heap.size 5 i0 _ Try.underlying32 hi hz0 hz1 hz2 rfl v (be 8 p.epoch.toNat) (by rfl) (ho.more (by simp)) ⟨some ⟨w.heap.size, 1, none⟩, 32, 32⟩ p.name.1 (by rfl) (name_reads (off := 0) (by rw [k3 _ _ _ (by simp)]; simp [row?_drew, row?_new, ext_self]) 32 (Nat.le_refl _)) (by simp [be_length, p.name.2]) (by have := hb.size; simp at this; omega) ?_; intro v' w2 hown hg _; have hb2 := bel_grown hg hb hb.size (fun k hk => (ho.lt k hk).1)))
  go_wp2_with fail
  go_ret
  exact ⟨v', rfl, hown, by (repeat' (first | (with_reducible exact Below.refl _ _) | (with_reducible assumption) | (with_reducible refine bel_trans (by assumption) ?_ ?_) | (with_reducible refine bel_grown (by assumption) ?_ ?_ ?_) | (with_reducible refine Below.alloc ?_ ?_ _) | (with_reducible refine Below.drew ?_) | (with_reducible refine below_drewN ?_ _) | (with_reducible refine Below.setCell ?_ ?_ _) | (with_reducible refine below_put ?_ ?_ _ _) | (with_reducible exact Nat.le_refl _) | omega | (with_reducible refine Nat.le_trans ?_ (Below.size (by assumption))) | (with_reducible refine Nat.le_trans ?_ (World.grownBy.size (by assumption))) | (simp only [World.size_alloc, World.size_setCell, World.size_drew, size_drewN]; omega) | (simp only [World.size_alloc, World.size_setCell, World.size_drew, size_drewN, size_put]; omega) | (intro k hk; simp [Value.ownBlock] at hk; done) | (intro k hk; simp [Value.ownBlock] at hk; omega) | (simp [size_drewN] at *; omega)))⟩

theorem ptLt_parts (p q : Pt) : ptLt p q = true ↔ p.epoch.toNat < q.epoch.toNat ∨ (p.epoch.toNat = q.epoch.toNat ∧ p.name.1 < q.name.1) := by
  rw [ptLt_iff]
  unfold ptBytes
  rw [append_lt (by simp [be_length]), be_lt 8 _ _ (epoch_lt p) (epoch_lt q), be_eq 8 _ _ (epoch_lt p) (epoch_lt q)]
theorem ptLt_yes (p q : Pt) (h : p.epoch.toNat < q.epoch.toNat) : ptLt p q = true := (ptLt_parts p q).2 (.inl h)
theorem ptLt_no (p q : Pt) (h : q.epoch.toNat < p.epoch.toNat) : ptLt p q = false := by
  rw [Bool.eq_false_iff, ne_eq, ptLt_parts]
  omega
theorem ptLt_mid (p q : Pt) (h : p.epoch.toNat = q.epoch.toNat) : ptLt p q = Op.bytesLess p.name.1 q.name.1 := by
  rw [bytesLess_dec, Bool.eq_iff_iff, ptLt_parts, decide_eq_true_eq]
  simp [h]

end Go.Proofs.Ytkocpihfdpahpaa

/- Contract: ref09.PointOf. -/
namespace Go.Proofs.Ytkocpihfdpahpaa
open Go.RowKit

theorem rdBytes_all {l : List UInt8} {k : Nat} (h : k ≤ l.length) : rdBytes (some l) k = (some (l.drop k), l.take k) := by simp [rdBytes, h]
theorem rdPoint_len (l : List UInt8) (h : l.length = 40) : (rdPoint (some l)).1 = some [] := by
  unfold rdPoint rdHash rdNum
  have h1 := rdBytes_all (l := l) (k := 8) (by omega)
  have h2 := rdBytes_all (l := l.drop 8) (k := 32) (by simp; omega)
  simp only [show ((8 : Nat) : Int) = 8 from rfl, show ((32 : Nat) : Int) = 32 from rfl] at h1 h2 ⊢
  rw [h1]
  dsimp only
  rw [h2]
  simp [h]
theorem pointOf_eq (l : List UInt8) : pointOf l = if mayPt (rdPoint (some l)).2 = true ∧ ptBytes (rdPoint (some l)).2 = l then ((rdPoint (some l)).2, 0) else (zeroPt, 4) := by
  unfold pointOf
  by_cases h : ptBytes (rdPoint (some l)).2 = l
  · have hl : l.length = 40 := by rw [← h, ptBytes_length]
    simp [rdPoint_len l hl]
  · simp [h]
theorem IsB.keepB {l : List UInt8} {v : Value} {w w' : World} (h : IsB l v w) (hb : Below w.heap.size w w') : IsB l v w' := by
  obtain ⟨s, hv, hs⟩ := h
  exact ⟨s, hv, hs.keep hb⟩
/-- a new reader -/
theorem RfR.new {w : World} {s : Sl} {l : List UInt8} (hs : BytesR w s l) (hl : l.length ≤ 140737488355328) (W : World) (hW : Below w.heap.size w W) (r : Nat) (hr : r = W.heap.size) :
    RfR w.heap.size (W.alloc (.cells #[s.v, .int .i64 0, .bool false] 164)) r (some l) := by
  subst hr
  refine ⟨s, l, 0, heap_alloc_new W _, (hs.keep hW).keep (bel_a _ _), Nat.zero_le _, hl, fun hne a ha => ⟨Nat.zero_le _, ?_⟩, hW.size, rfl⟩
  obtain ⟨b, off, ha', hc⟩ := hs.2.2 hne
  rw [ha] at ha'
  injection ha' with ha'
  subst ha'
  have h0 : 0 < l.length := by cases l <;> simp_all
  exact lt_of_cell (hc 0 h0)

theorem fpof_res : Try.f98.results = #[.cell 2 26, .tmp 3] := by kernel_rfl
set_option maxRecDepth 100000 in
set_option maxHeartbeats 800000 in
theorem fpointOf_c (s : Sl) (l : List UInt8) (w : World) (hs : BytesR w s l) (hl : l.length ≤ 140737488355328) :
    Calls Try.prog 98 #[s.v] w fun e w' => e = .returned (.tuple #[.agg (pointA (pointOf l).1), .bool (decide ((pointOf l).2 = 0))]) ∧ Below w.heap.size w w' := by
  have HR := fun r W (h : RfR w.heap.size W r (some l)) => fpoint_c r (some l) W h
  rw [pointOf_eq]
  generalize rdPoint (some l) = res at *
  obtain ⟨st, v⟩ := res
  simp only at HR ⊢
  have Hs := Lib.hid hs
  clear hs
  generalize hX : (if mayPt v = true ∧ ptBytes v = l then (v, (0 : Int)) else (zeroPt, 4)) = X
  have HX := Lib.hid hX
  clear hX
  go_enter Try.func98, Try.ntmps98
  go_wp2_with fail
  refine (HR _ _ (RfR.new Hs.out hl (w.alloc (.cells (pointA zeroPt) 26)) (bel_a _ _) _ (by simp))).mono ?_
  clear HR
  rintro e w2 ⟨rfl, _, hg2⟩
  have hB2 : Below w.heap.size w w2 := bel_grown hg2 (by (repeat' (first | (with_reducible exact Below.refl _ _) | (with_reducible assumption) | (with_reducible refine bel_trans (by assumption) ?_ ?_) | (with_reducible refine bel_grown (by assumption) ?_ ?_ ?_) | (with_reducible refine Below.alloc ?_ ?_ _) | (with_reducible refine Below.drew ?_) | (with_reducible refine below_drewN ?_ _) | (with_reducible refine Below.setCell ?_ ?_ _) | (with_reducible refine below_put ?_ ?_ _ _) | (with_reducible exact Nat.le_refl _) | omega | (with_reducible refine Nat.le_trans ?_ (Below.size (by assumption))) | (with_reducible refine Nat.le_trans ?_ (World.grownBy.size (by assumption))) | (simp only [World.size_alloc, World.size_setCell, World.size_drew, size_drewN]; omega) | (simp only [World.size_alloc, World.size_setCell, World.size_drew, size_drewN, size_put]; omega) | (intro k hk; simp [Value.ownBlock] at hk; done) | (intro k hk; simp [Value.ownBlock] at hk; omega) | (simp [size_drewN] at *; omega)))) (by simp; omega) (by intro k hk; injection hk; omega)
  have hz2 : w.heap.size + 2 ≤ w2.heap.size := by have := hg2.size; simpa using this
  have hblk : w2.heap[w.heap.size]? = some (.cells (pointA zeroPt) 26 (0, 0)) := (hg2.block _ (by simp; omega) (by intro e; injection e; omega)).trans ((Below.heap_alloc _ _ _ (by simp)).trans (heap_alloc_new w _))
  have hrow : row? w2 w.heap.size 0 33 = some (pointA zeroPt) := by
    unfold row?
    rw [hblk]
    simp
  have hth : there w2 w.heap.size 0 33 := there_block hblk (by simp)
  have HB2 := Lib.hid hB2
  clear hg2 hblk hB2
  go_wp2_with fail
  have hz4 : w2.heap.size < (putRow (w2.alloc (Obj.cells (pointA zeroPt) 26)) w2.heap.size 0 (pointA v)).heap.size := by simp [size_put]
  have hrowx : row? (putRow (w2.alloc (Obj.cells (pointA zeroPt) 26)) w2.heap.size 0 (pointA v)) w2.heap.size 0 33 = some (pointA v) := by go_simp
  have hne : w.heap.size ≠ w2.heap.size := by omega
  have hlt2 : w.heap.size < w2.heap.size := by omega
  have hrow4 : row? (putRow (w2.alloc (Obj.cells (pointA zeroPt) 26)) w2.heap.size 0 (pointA v)) w.heap.size 0 33 = some (pointA zeroPt) := by go_simp
  have hB4 : Below w2.heap.size w2 (putRow (w2.alloc (Obj.cells (pointA zeroPt) 26)) w2.heap.size 0 (pointA v)) := by (repeat' (first | (with_reducible exact Below.refl _ _) | (with_reducible assumption) | (with_reducible refine bel_trans (by assumption) ?_ ?_) | (with_reducible refine bel_grown (by assumption) ?_ ?_ ?_) | (with_reducible refine Below.alloc ?_ ?_ _) | (with_reducible refine Below.drew ?_) | (with_reducible refine below_drewN ?_ _) | (with_reducible refine Below.setCell ?_ ?_ _) | (with_reducible refine below_put ?_ ?_ _ _) | (with_reducible exact Nat.le_refl _) | omega | (with_reducible refine Nat.le_trans ?_ (Below.size (by assumption))) | (with_reducible refine Nat.le_trans ?_ (World.grownBy.size (by assumption))) | (simp only [World.size_alloc, World.size_setCell, World.size_drew, size_drewN]; omega) | (simp only [World.size_alloc, World.size_setCell, World.size_drew, size_drewN, size_put]; omega) | (intro k hk; simp [Value.ownBlock] at hk; done) | (intro k hk; simp [Value.ownBlock] at hk; omega) | (simp [size_drewN] at *; omega)))
  have hth4 : there (putRow (w2.alloc (Obj.cells (pointA zeroPt) 26)) w2.heap.size 0 (pointA v)) w.heap.size 0 33 := there_below hB4 hlt2 hth
  generalize putRow (w2.alloc (Obj.cells (pointA zeroPt) 26)) w2.heap.size 0 (pointA v) = w4 at *
  have HB4 := Lib.hid (HB2.out.trans (hB4.mono (by omega)))
  have Hs4 := Lib.hid (Hs.out.keep HB4.out)
  have HM := fun W => fmayPoint_c v W
  clear hB4 hth hrow
  cases hm : mayPt v
  · rw [hm] at HM
    have hX : X = (zeroPt, 4) := by rw [← HX.out]; simp [hm]
    subst hX
    clear hm
    refine wp_region_freeG_l (fun W W' => Below W.heap.size W W') (by kernel_rfl) [9, 10, 11, 12, 13, 14, 15, 16, 17, 18, 19]
      [Is (.agg (pointA v)), Is (.bool false), Is (.bool true), Is (.bool true), Is (undef), Is (undef), Is (undef), Is (undef), Is (undef), Is (undef), Is (.bool true)]
      (by kernel_rfl) (fun W W' h hb => hb.trans (h.mono hb.size)) ?_ ?_ ?_
    · intro f hf
      simp only [List.mem_cons, List.not_mem_nil, or_false] at hf
      rcases hf with rfl | rfl | rfl | rfl | rfl | rfl | rfl | rfl | rfl | rfl | rfl <;> intro x W W' h hr <;> first | exact h
    · refine ⟨?_, ?_, ?_, ?_, ?_, ?_, ?_, ?_, ?_, ?_, ?_, trivial⟩
      · intro L ax W hf hd
        try simp [Region.binds] at hd
        have e4 : ax.tmps[4]?.getD undef = .pointer (some ⟨w2.heap.size, 0, none⟩) := hf.out 4 (by decide) rfl
        refine ⟨fun _ => ?_, fun h => absurd trivial h⟩
        have r1 : row? W w2.heap.size 0 33 = some (pointA v) := (row?_below _ _ _ hf.below hz4).trans hrowx
        refine free_run (v := .agg (pointA v)) (W' := W) rfl ?_ rfl (Below.refl _ _)
        go_simp
      · intro L ax W hf hd
        simp [Region.binds] at hd
        have e9 : ax.tmps[9]?.getD undef = .agg (pointA v) := slv (hf.got 0 (by decide) (by simp [hd]))
        refine ⟨fun _ => ?_, fun h => absurd trivial h⟩
        refine free_call (f := 84) (args := #[.agg (pointA v)]) rfl (by go_simp) ?_
        refine (HM W).mono ?_
        rintro e w' ⟨rfl, hb⟩
        exact ⟨_, rfl, rfl, hb⟩
      · intro L ax W hf hd
        simp [Region.binds] at hd
        have e10 : ax.tmps[10]?.getD undef = .bool false := slv (hf.got 1 (by decide) (by simp [hd]))
        refine ⟨fun _ => ?_, fun h => absurd trivial h⟩
        refine free_run (v := .bool true) (W' := W) rfl ?_ rfl (Below.refl _ _)
        go_simp
      · intro L ax W hf hd
        simp [Region.binds] at hd
        have e11 : ax.tmps[11]?.getD undef = .bool true := slv (hf.got 2 (by decide) (by simp [hd]))
        refine ⟨fun _ => ?_, fun h => absurd trivial h⟩
        refine free_run (v := .bool true) (W' := W) rfl ?_ rfl (Below.refl _ _)
        go_simp
      · intro L ax W hf hd
        simp [Region.binds] at hd
        have e4 : ax.tmps[4]?.getD undef = .pointer (some ⟨w2.heap.size, 0, none⟩) := hf.out 4 (by decide) rfl
        have g0 : sl ax 12 = .bool true := hf.got 3 (by decide) (by simp [hd])
        refine ⟨fun hh => ?_, fun hh => ?_⟩
        · first
            | (exfalso; revert hh; simp [Held, g0, *]; done)
            | (refine free_run (v := undef) (W' := W) rfl ?_ rfl (Below.refl _ _); go_simp)
        · first
            | (exfalso; revert hh; simp [Held, g0, *]; done)
            | (show undef = _; first | rfl | (simp [*]; done))
      · intro L ax W hf hd
        simp [Region.binds] at hd
        have e13 : ax.tmps[13]?.getD undef = undef := slv (hf.got 4 (by decide) (by simp [hd]))
        have g0 : sl ax 12 = .bool true := hf.got 3 (by decide) (by simp [hd])
        refine ⟨fun hh => ?_, fun hh => ?_⟩
        · first
            | (exfalso; revert hh; simp [Held, g0, *]; done)
            | (refine free_run (v := undef) (W' := W) rfl ?_ rfl (Below.refl _ _); go_simp)
        · first
            | (exfalso; revert hh; simp [Held, g0, *]; done)
            | (show undef = _; first | rfl | (simp [*]; done))
      · intro L ax W hf hd
        simp [Region.binds] at hd
        have e14 : ax.tmps[14]?.getD undef = undef := slv (hf.got 5 (by decide) (by simp [hd]))
        have g0 : sl ax 12 = .bool true := hf.got 3 (by decide) (by simp [hd])
        refine ⟨fun hh => ?_, fun hh => ?_⟩
        · first
            | (exfalso; revert hh; simp [Held, g0, *]; done)
            | (refine free_run (v := undef) (W' := W) rfl ?_ rfl (Below.refl _ _); go_simp)
        · first
            | (exfalso; revert hh; simp [Held, g0, *]; done)
            | (show undef = _; first | rfl | (simp [*]; done))
      · intro L ax W hf hd
        simp [Region.binds] at hd
        have e0 : ax.tmps[0]?.getD undef = s.v := hf.out 0 (by decide) rfl
        have g0 : sl ax 12 = .bool true := hf.got 3 (by decide) (by simp [hd])
        refine ⟨fun hh => ?_, fun hh => ?_⟩
        · first
            | (exfalso; revert hh; simp [Held, g0, *]; done)
            | (refine free_run (v := undef) (W' := W) rfl ?_ rfl (Below.refl _ _); go_simp)
        · first
            | (exfalso; revert hh; simp [Held, g0, *]; done)
            | (show undef = _; first | rfl | (simp [*]; done))
      · intro L ax W hf hd
        simp [Region.binds] at hd
        have e16 : ax.tmps[16]?.getD undef = undef := slv (hf.got 7 (by decide) (by simp [hd]))
        have g0 : sl ax 12 = .bool true := hf.got 3 (by decide) (by simp [hd])
        refine ⟨fun hh => ?_, fun hh => ?_⟩
        · first
            | (exfalso; revert hh; simp [Held, g0, *]; done)
            | (refine free_run (v := undef) (W' := W) rfl ?_ rfl (Below.refl _ _); go_simp)
        · first
            | (exfalso; revert hh; simp [Held, g0, *]; done)
            | (show undef = _; first | rfl | (simp [*]; done))
      · intro L ax W hf hd
        simp [Region.binds] at hd
        have e15 : ax.tmps[15]?.getD undef = undef := slv (hf.got 6 (by decide) (by simp [hd]))
        have e17 : ax.tmps[17]?.getD undef = undef := slv (hf.got 8 (by decide) (by simp [hd]))
        have g0 : sl ax 12 = .bool true := hf.got 3 (by decide) (by simp [hd])
        refine ⟨fun hh => ?_, fun hh => ?_⟩
        · first
            | (exfalso; revert hh; simp [Held, g0, *]; done)
            | (refine free_run (v := undef) (W' := W) rfl ?_ rfl (Below.refl _ _); go_simp)
        · first
            | (exfalso; revert hh; simp [Held, g0, *]; done)
            | (show undef = _; first | rfl | (simp [*]; done))
      · intro L ax W hf hd
        simp [Region.binds] at hd
        have e12 : ax.tmps[12]?.getD undef = .bool true := slv (hf.got 3 (by decide) (by simp [hd]))
        have e18 : ax.tmps[18]?.getD undef = undef := slv (hf.got 9 (by decide) (by simp [hd]))
        refine ⟨fun _ => ?_, fun h => absurd trivial h⟩
        refine free_run (v := .bool true) (W' := W) rfl ?_ rfl (Below.refl _ _)
        go_simp
    · intro vs W' hl' hF hb
      obtain ⟨g', hg1, hg2⟩ := vs_lit vs hl' hF
      have e10 : g' 10 = .bool true := hg2 10 (by decide)
      rw [hg1]
      clear hF hg1 hg2 hl'
      have hBW : Below w.heap.size w W' := HB4.out.trans (hb.mono (by omega))
      have hthW : there W' w.heap.size 0 33 := there_below hb (by omega) hth4
      have hrowW : row? W' w.heap.size 0 33 = some (pointA zeroPt) := (row?_below _ _ _ hb (by omega)).trans hrow4
      have hrowV : row? W' w2.heap.size 0 33 = some (pointA v) := (row?_below _ _ _ hb hz4).trans hrowx
      have hzW := hb.size
      clear hth4 hrow4 hrowx hb HM
      simp only [List.length_cons, List.length_nil, Nat.reduceAdd, show List.range 11 = [0, 1, 2, 3, 4, 5, 6, 7, 8, 9, 10] from rfl, List.map_cons, List.map_nil, putL, List.zip_cons_cons, List.zip_nil_right, List.setIfInBounds_toArray, List.set_cons_succ, List.set_cons_zero, e10]
      go_wp2_with (with_reducible refine ret_row2 Try.isAgg26 Try.sizeOf26 fpof_res (x := .pointer (some ⟨w.heap.size, 0, none⟩)) (y := .bool false) (w.heap.size) 0 ?rrhx (Eq.refl _) ?rrhy ?rrh ?rrhd ?rrhR; (case rrhx => simp only [Array.getD_eq_getD_getElem?, List.getElem?_toArray, List.getElem?_cons_succ, List.getElem?_cons_zero, Option.getD_some]); (case rrhy => simp only [Array.getD_eq_getD_getElem?, List.getElem?_toArray, List.getElem?_cons_succ, List.getElem?_cons_zero, Option.getD_some]); (case rrhd => exact rfl); (case rrh => go_simp); (case rrhR => ((refine ⟨?_, ?_⟩; (case refine_1 => (go_simp; done)); (case refine_2 => ((repeat' (first | (with_reducible exact Below.refl _ _) | (with_reducible assumption) | (with_reducible refine bel_trans (by assumption) ?_ ?_) | (with_reducible refine bel_grown (by assumption) ?_ ?_ ?_) | (with_reducible refine Below.alloc ?_ ?_ _) | (with_reducible refine Below.drew ?_) | (with_reducible refine below_drewN ?_ _) | (with_reducible refine Below.setCell ?_ ?_ _) | (with_reducible refine below_put ?_ ?_ _ _) | (with_reducible exact Nat.le_refl _) | omega | (with_reducible refine Nat.le_trans ?_ (Below.size (by assumption))) | (with_reducible refine Nat.le_trans ?_ (World.grownBy.size (by assumption))) | (simp only [World.size_alloc, World.size_setCell, World.size_drew, size_drewN]; omega) | (simp only [World.size_alloc, World.size_setCell, World.size_drew, size_drewN, size_put]; omega) | (intro k hk; simp [Value.ownBlock] at hk; done) | (intro k hk; simp [Value.ownBlock] at hk; omega) | (simp [size_drewN] at *; omega)))))))))
  · rw [hm] at HM
    have Hm := Lib.hid hm
    clear hm
    refine wp_region_freeG_l (fun W W' => Below W.heap.size W W') (by kernel_rfl) [9, 10, 11, 12, 13, 14, 15, 16, 17, 18, 19]
      [Is (.agg (pointA v)), Is (.bool true), Is (.bool false), Is (.bool false), Is (.agg (pointA v)), IsB (ptBytes v), Is (.string ⟨(ptBytes v).toArray⟩), Is (s.v), Is (.string ⟨l.toArray⟩), Is (.bool (!decide (ptBytes v = l))), Is (.bool (!decide (ptBytes v = l)))]
      (by kernel_rfl) (fun W W' h hb => hb.trans (h.mono hb.size)) ?_ ?_ ?_
    · intro f hf
      simp only [List.mem_cons, List.not_mem_nil, or_false] at hf
      rcases hf with rfl | rfl | rfl | rfl | rfl | rfl | rfl | rfl | rfl | rfl | rfl <;> intro x W W' h hr <;> first | exact h | exact IsB.keepB h hr
    · refine ⟨?_, ?_, ?_, ?_, ?_, ?_, ?_, ?_, ?_, ?_, ?_, trivial⟩
      · intro L ax W hf hd
        try simp [Region.binds] at hd
        have e4 : ax.tmps[4]?.getD undef = .pointer (some ⟨w2.heap.size, 0, none⟩) := hf.out 4 (by decide) rfl
        refine ⟨fun _ => ?_, fun h => absurd trivial h⟩
        have r1 : row? W w2.heap.size 0 33 = some (pointA v) := (row?_below _ _ _ hf.below hz4).trans hrowx
        refine free_run (v := .agg (pointA v)) (W' := W) rfl ?_ rfl (Below.refl _ _)
        go_simp
      · intro L ax W hf hd
        simp [Region.binds] at hd
        have e9 : ax.tmps[9]?.getD undef = .agg (pointA v) := slv (hf.got 0 (by decide) (by simp [hd]))
        refine ⟨fun _ => ?_, fun h => absurd trivial h⟩
        refine free_call (f := 84) (args := #[.agg (pointA v)]) rfl (by go_simp) ?_
        refine (HM W).mono ?_
        rintro e w' ⟨rfl, hb⟩
        exact ⟨_, rfl, rfl, hb⟩
      · intro L ax W hf hd
        simp [Region.binds] at hd
        have e10 : ax.tmps[10]?.getD undef = .bool true := slv (hf.got 1 (by decide) (by simp [hd]))
        refine ⟨fun _ => ?_, fun h => absurd trivial h⟩
        refine free_run (v := .bool false) (W' := W) rfl ?_ rfl (Below.refl _ _)
        go_simp
      · intro L ax W hf hd
        simp [Region.binds] at hd
        have e11 : ax.tmps[11]?.getD undef = .bool false := slv (hf.got 2 (by decide) (by simp [hd]))
        refine ⟨fun _ => ?_, fun h => absurd trivial h⟩
        refine free_run (v := .bool false) (W' := W) rfl ?_ rfl (Below.refl _ _)
        go_simp
      · intro L ax W hf hd
        simp [Region.binds] at hd
        have e4 : ax.tmps[4]?.getD undef = .pointer (some ⟨w2.heap.size, 0, none⟩) := hf.out 4 (by decide) rfl
        have g0 : sl ax 12 = .bool false := hf.got 3 (by decide) (by simp [hd])
        refine ⟨fun hh => ?_, fun hh => ?_⟩
        · first
            | (exfalso; revert hh; simp [Held, g0, *]; done)
            | ((have r1 : row? W w2.heap.size 0 33 = some (pointA v) := (row?_below _ _ _ hf.below hz4).trans hrowx); refine free_run (v := .agg (pointA v)) (W' := W) rfl ?_ rfl (Below.refl _ _); go_simp)
        · first
            | (exfalso; revert hh; simp [Held, g0, *]; done)
            | (show undef = _; first | rfl | (simp [*]; done))
      · intro L ax W hf hd
        simp [Region.binds] at hd
        have e13 : ax.tmps[13]?.getD undef = .agg (pointA v) := slv (hf.got 4 (by decide) (by simp [hd]))
        have g0 : sl ax 12 = .bool false := hf.got 3 (by decide) (by simp [hd])
        refine ⟨fun hh => ?_, fun hh => ?_⟩
        · first
            | (exfalso; revert hh; simp [Held, g0, *]; done)
            | (refine free_call (f := 95) (args := #[.agg (pointA v)]) rfl (by go_simp) ?_; refine (fPoint_c v W).mono ?_; rintro e w' ⟨x, rfl, ho, hb⟩; obtain ⟨s2, rfl⟩ := ho.slice; exact ⟨_, rfl, ⟨s2, rfl, ho.reads⟩, hb⟩)
        · first
            | (exfalso; revert hh; simp [Held, g0, *]; done)
            | (show undef = _; first | rfl | (simp [*]; done))
      · intro L ax W hf hd
        simp [Region.binds] at hd
        have f14 : IsB (ptBytes v) (sl ax 14) W := hf.got 5 (by decide) (by simp [hd])
        have g0 : sl ax 12 = .bool false := hf.got 3 (by decide) (by simp [hd])
        refine ⟨fun hh => ?_, fun hh => ?_⟩
        · first
            | (exfalso; revert hh; simp [Held, g0, *]; done)
            | (obtain ⟨s2, e14, h14⟩ := f14; have e14 := slv e14; have hcv := str_run h14; refine free_run (v := .string ⟨(ptBytes v).toArray⟩) (W' := W) rfl ?_ rfl (Below.refl _ _); go_simp)
        · first
            | (exfalso; revert hh; simp [Held, g0, *]; done)
            | (show undef = _; first | rfl | (simp [*]; done))
      · intro L ax W hf hd
        simp [Region.binds] at hd
        have e0 : ax.tmps[0]?.getD undef = s.v := hf.out 0 (by decide) rfl
        have g0 : sl ax 12 = .bool false := hf.got 3 (by decide) (by simp [hd])
        refine ⟨fun hh => ?_, fun hh => ?_⟩
        · first
            | (exfalso; revert hh; simp [Held, g0, *]; done)
            | (refine free_run (v := s.v) (W' := W) rfl ?_ rfl (Below.refl _ _); go_simp)
        · first
            | (exfalso; revert hh; simp [Held, g0, *]; done)
            | (show undef = _; first | rfl | (simp [*]; done))
      · intro L ax W hf hd
        simp [Region.binds] at hd
        have e16 : ax.tmps[16]?.getD undef = s.v := slv (hf.got 7 (by decide) (by simp [hd]))
        have g0 : sl ax 12 = .bool false := hf.got 3 (by decide) (by simp [hd])
        refine ⟨fun hh => ?_, fun hh => ?_⟩
        · first
            | (exfalso; revert hh; simp [Held, g0, *]; done)
            | ((have hcv := str_run (Hs4.out.keep hf.below)); refine free_run (v := .string ⟨l.toArray⟩) (W' := W) rfl ?_ rfl (Below.refl _ _); go_simp)
        · first
            | (exfalso; revert hh; simp [Held, g0, *]; done)
            | (show undef = _; first | rfl | (simp [*]; done))
      · intro L ax W hf hd
        simp [Region.binds] at hd
        have e15 : ax.tmps[15]?.getD undef = .string ⟨(ptBytes v).toArray⟩ := slv (hf.got 6 (by decide) (by simp [hd]))
        have e17 : ax.tmps[17]?.getD undef = .string ⟨l.toArray⟩ := slv (hf.got 8 (by decide) (by simp [hd]))
        have g0 : sl ax 12 = .bool false := hf.got 3 (by decide) (by simp [hd])
        refine ⟨fun hh => ?_, fun hh => ?_⟩
        · first
            | (exfalso; revert hh; simp [Held, g0, *]; done)
            | ((have hbe : (ptBytes v == l) = decide (ptBytes v = l) := by (rw [Bool.eq_iff_iff]; simp)); refine free_run (v := .bool (!decide (ptBytes v = l))) (W' := W) rfl ?_ rfl (Below.refl _ _); go_simp)
        · first
            | (exfalso; revert hh; simp [Held, g0, *]; done)
            | (show undef = _; first | rfl | (simp [*]; done))
      · intro L ax W hf hd
        simp [Region.binds] at hd
        have e12 : ax.tmps[12]?.getD undef = .bool false := slv (hf.got 3 (by decide) (by simp [hd]))
        have e18 : ax.tmps[18]?.getD undef = .bool (!decide (ptBytes v = l)) := slv (hf.got 9 (by decide) (by simp [hd]))
        refine ⟨fun _ => ?_, fun h => absurd trivial h⟩
        refine free_run (v := .bool (!decide (ptBytes v = l))) (W' := W) rfl ?_ rfl (Below.refl _ _)
        go_simp
    · intro vs W' hl' hF hb
      obtain ⟨g', hg1, hg2⟩ := vs_lit vs hl' hF
      have e10 : g' 10 = .bool (!decide (ptBytes v = l)) := hg2 10 (by decide)
      rw [hg1]
      clear hF hg1 hg2 hl'
      have hBW : Below w.heap.size w W' := HB4.out.trans (hb.mono (by omega))
      have hthW : there W' w.heap.size 0 33 := there_below hb (by omega) hth4
      have hrowW : row? W' w.heap.size 0 33 = some (pointA zeroPt) := (row?_below _ _ _ hb (by omega)).trans hrow4
      have hrowV : row? W' w2.heap.size 0 33 = some (pointA v) := (row?_below _ _ _ hb hz4).trans hrowx
      have hzW := hb.size
      clear hth4 hrow4 hrowx hb HM
      by_cases he : ptBytes v = l
      · have hX : X = (v, 0) := by rw [← HX.out]; simp [Hm.out, he]
        subst hX
        rw [show (!decide (ptBytes v = l)) = false by simp [he]] at e10
        clear he
        simp only [List.length_cons, List.length_nil, Nat.reduceAdd, show List.range 11 = [0, 1, 2, 3, 4, 5, 6, 7, 8, 9, 10] from rfl, List.map_cons, List.map_nil, putL, List.zip_cons_cons, List.zip_nil_right, List.setIfInBounds_toArray, List.set_cons_succ, List.set_cons_zero, e10]
        go_wp2_with (with_reducible refine ret_row2 Try.isAgg26 Try.sizeOf26 fpof_res (x := .pointer (some ⟨w.heap.size, 0, none⟩)) (y := .bool true) (w.heap.size) 0 ?rrhx (Eq.refl _) ?rrhy ?rrh ?rrhd ?rrhR; (case rrhx => simp only [Array.getD_eq_getD_getElem?, List.getElem?_toArray, List.getElem?_cons_succ, List.getElem?_cons_zero, Option.getD_some]); (case rrhy => simp only [Array.getD_eq_getD_getElem?, List.getElem?_toArray, List.getElem?_cons_succ, List.getElem?_cons_zero, Option.getD_some]); (case rrhd => exact rfl); (case rrh => go_simp); (case rrhR => ((refine ⟨?_, ?_⟩; (case refine_1 => (go_simp; done)); (case refine_2 => ((repeat' (first | (with_reducible exact Below.refl _ _) | (with_reducible assumption) | (with_reducible refine bel_trans (by assumption) ?_ ?_) | (with_reducible refine bel_grown (by assumption) ?_ ?_ ?_) | (with_reducible refine Below.alloc ?_ ?_ _) | (with_reducible refine Below.drew ?_) | (with_reducible refine below_drewN ?_ _) | (with_reducible refine Below.setCell ?_ ?_ _) | (with_reducible refine below_put ?_ ?_ _ _) | (with_reducible exact Nat.le_refl _) | omega | (with_reducible refine Nat.le_trans ?_ (Below.size (by assumption))) | (with_reducible refine Nat.le_trans ?_ (World.grownBy.size (by assumption))) | (simp only [World.size_alloc, World.size_setCell, World.size_drew, size_drewN]; omega) | (simp only [World.size_alloc, World.size_setCell, World.size_drew, size_drewN, size_put]; omega) | (intro k hk; simp [Value.ownBlock] at hk; done) | (intro k hk; simp [Value.ownBlock] at hk; omega) | (simp [size_drewN] at *; omega)))))))))
      · have hX : X = (zeroPt, 4) := by rw [← HX.out]; simp [he]
        subst hX
        rw [show (!decide (ptBytes v = l)) = true by simp [he]] at e10
        clear he
        simp only [List.length_cons, List.length_nil, Nat.reduceAdd, show List.range 11 = [0, 1, 2, 3, 4, 5, 6, 7, 8, 9, 10] from rfl, List.map_cons, List.map_nil, putL, List.zip_cons_cons, List.zip_nil_right, List.setIfInBounds_toArray, List.set_cons_succ, List.set_cons_zero, e10]
        go_wp2_with (with_reducible refine ret_row2 Try.isAgg26 Try.sizeOf26 fpof_res (x := .pointer (some ⟨w.heap.size, 0, none⟩)) (y := .bool false) (w.heap.size) 0 ?rrhx (Eq.refl _) ?rrhy ?rrh ?rrhd ?rrhR; (case rrhx => simp only [Array.getD_eq_getD_getElem?, List.getElem?_toArray, List.getElem?_cons_succ, List.getElem?_cons_zero, Option.getD_some]); (case rrhy => simp only [Array.getD_eq_getD_getElem?, List.getElem?_toArray, List.getElem?_cons_succ, List.getElem?_cons_zero, Option.getD_some]); (case rrhd => exact rfl); (case rrh => go_simp); (case rrhR => ((refine ⟨?_, ?_⟩; (case refine_1 => (go_simp; done)); (case refine_2 => ((repeat' (first | (with_reducible exact Below.refl _ _) | (with_reducible assumption) | (with_reducible refine bel_trans (by assumption) ?_ ?_) | (with_reducible refine bel_grown (by assumption) ?_ ?_ ?_) | (with_reducible refine Below.alloc ?_ ?_ _) | (with_reducible refine Below.drew ?_) | (with_reducible refine below_drewN ?_ _) | (with_reducible refine Below.setCell ?_ ?_ _) | (with_reducible refine below_put ?_ ?_ _ _) | (with_reducible exact Nat.le_refl _) | omega | (with_reducible refine Nat.le_trans ?_ (Below.size (by assumption))) | (with_reducible refine Nat.le_trans ?_ (World.grownBy.size (by assumption))) | (simp only [World.size_alloc, World.size_setCell, World.size_drew, size_drewN]; omega) | (simp only [World.size_alloc, World.size_setCell, World.size_drew, size_drewN, size_put]; omega) | (intro k hk; simp [Value.ownBlock] at hk; done) | (intro k hk; simp [Value.ownBlock] at hk; omega) | (simp [size_drewN] at *; omega)))))))))
end Go.Proofs.Ytkocpihfdpahpaa

/- Contracts: landmarkref01.Join, Blob, Reader.Blob. -/
namespace Go.Proofs.Ytkocpihfdpahpaa
open Go.RowKit

theorem own_bytes (w : World) (base : Nat) (l : List UInt8) (e : TypeId) (hb : base ≤ w.heap.size) (hm : l.length ≤ maxLen) :
    Own (Lib.bytesWorld w e ⟨l.toArray⟩) base (.slice (some ⟨w.heap.size, 0, none⟩) l.length (grownCap w l.length 0 e)) l := by
  have hge := grownCap_ge w l.length 0 e
  have hle : grownCap w l.length 0 e ≤ maxLen := grownCap_le_maxLen w l.length 0 e hm
  have hn := Lib.bytesWorld_at_new w e ⟨l.toArray⟩
  have hsz : (Lib.bytesCells w e ⟨l.toArray⟩).size = grownCap w l.length 0 e := by
    simp [Lib.bytesCells, ByteArray.size]
    omega
  refine ⟨by simp, .inr ⟨w.heap.size, _, rfl, hb, by rw [Lib.bytesWorld_size]; omega, hge, hle, fun j hj => ?_, fun j hj => ?_, fun j u hu => ?_⟩⟩
  · rw [cell_of_row _ w.heap.size j _ _ _ hn, Array.getElem?_eq_getElem (by omega)]
    rfl
  · unfold World.frozen?
    rw [hn]
    simp [hsz]
    omega
  · have hj : j < l.length := by
      rcases Nat.lt_or_ge j l.length with h | h
      · exact h
      · rw [List.getElem?_eq_none (by simpa using h)] at hu; cases hu
    rw [cell_of_row _ w.heap.size j _ _ _ hn]
    simp only [Lib.bytesCells]
    rw [Array.getElem?_append_left (by simpa using hj)]
    simpa [hj, byteV] using hu
theorem below_bytesWorld {B : Nat} {a w : World} (e : TypeId) (s : ByteArray) (h : Below B a w) (hB : B ≤ w.heap.size) : Below B a (Lib.bytesWorld w e s) :=
  ⟨h.os, h.tape, h.output, by rw [Lib.bytesWorld_size]; have := h.size; omega, fun b hb => (Lib.bytesWorld_at_old w e s b (by omega)).trans (h.block b hb)⟩

theorem string_run (W : World) (l : List UInt8) : (convert 9 32 (.string ⟨l.toArray⟩)).run Try.prog W = .ok (.slice (some ⟨W.heap.size, 0, none⟩) l.length (grownCap W l.length 0 5)) (Lib.bytesWorld W 5 ⟨l.toArray⟩) :=
  Lib.run_convert_string_bytes W _ _ 5 ⟨l.toArray⟩ Try.underlying9 Try.underlying32 Try.underlying5

theorem str_app (a b : List UInt8) : (⟨a.toArray⟩ : ByteArray) ++ ⟨b.toArray⟩ = ⟨(a ++ b).toArray⟩ := by
  apply ByteArray.ext
  simp

set_option maxRecDepth 100000 in
set_option maxHeartbeats 800000 in
theorem rjoin_c (b c : Nat) (ss : List Sl) (ls : List (List UInt8)) (w : World) (hp : PiecesAt w b ss ls) (hn : ls.length ≤ 1000) (hs : ls.flatten.length ≤ 140737488355328) :
    Calls Try.prog 94 #[.slice (some ⟨b, 0, none⟩) ls.length c] w fun e w' => ∃ v, e = .returned v ∧ Own w' w.heap.size v ls.flatten ∧ Below w.heap.size w w' := by
  obtain ⟨hl, hc, hr⟩ := hp
  have Hl := Lib.hid hl
  have Hc := Lib.hid hc
  have Hr := Lib.hid hr
  clear hl hc hr
  go_enter Try.func94, Try.ntmps94
  go_wp2_with fail
  go_loop [3, 4] (fun u i => ∃ k : Nat, k ≤ ls.length ∧ u = .string ⟨((ls.take k).flatten).toArray⟩ ∧ i = .int .i64 k) (fun _ i => ls.length - (intOf i).toNat)
  case atStart => exact ⟨0, Nat.zero_le _, rfl, rfl⟩
  case round =>
    obtain ⟨k, hk, rfl, rfl⟩ := hrel
    have i0' : (0 : Int) ≤ (k : Int) := by omega
    by_cases hkx : k < ls.length
    · have hks : k < ss.length := by have := Hl.out; omega
      have hcell := Hc.out k hks
      have hcv := str_run (Hr.out k hks hkx)
      have hfl : (ls.take (k + 1)).flatten = (ls.take k).flatten ++ ls[k] := by
        rw [List.take_succ_eq_append_getElem hkx, List.flatten_append]
        simp only [List.flatten_cons, List.flatten_nil, List.append_nil]
      have i1 : (k : Int) < (ls.length : Int) := by omega
      have hsum : (ls.take (k + 1)).flatten.length ≤ ls.flatten.length := by
        have := congrArg (fun l => l.flatten.length) (List.take_append_drop (k + 1) ls)
        simp only [List.flatten_append, List.length_append] at this
        omega
      rw [hfl, List.length_append] at hsum
      have hsum : (ls.take k).flatten.length + ls[k].length ≤ 140737488355328 := by omega
      generalize ls[k] = lk at *
      generalize ss[k] = sk at *
      have Hfl := Lib.hid hfl
      clear hfl
      obtain ⟨sa, sn, sc⟩ := sk
      dsimp only [Sl.v] at hcell hcv
      generalize (ls.take k).flatten = done at *
      go_wp2_with fail
      go_round
      case rel => exact ⟨k + 1, by omega, by rw [Hfl.out, str_app], by go_num⟩
      case measure => simp [intOf]; omega
    · obtain ⟨fl, hF⟩ : ∃ fl, fl = ls.flatten := ⟨_, rfl⟩
      have hfl : (ls.take k).flatten = fl := by rw [hF, List.take_of_length_le (by omega)]
      rw [hfl]
      rw [← hF] at hs
      have HF := Lib.hid hF
      clear hfl hF
      have hst := fun W => string_run W fl
      go_wp2_with fail
      go_ret
      refine ⟨.slice (some ⟨w.heap.size, 0, none⟩) fl.length (grownCap w fl.length 0 5), rfl, ?_, ?_⟩
      · rw [← HF.out]; exact own_bytes w _ fl _ (Nat.le_refl _) (by simp only [maxLen]; omega)
      · exact below_bytesWorld _ _ (Below.refl _ _) (Nat.le_refl _)

theorem be2_blob (n : Nat) : be 2 n = [UInt8.ofNat (n / 256), UInt8.ofNat n] := rfl
theorem byteV_mod (n : Nat) : byteV (UInt8.ofNat n) = .int .u8 ((n : Int) % 256) := by
  simp [byteV]

set_option maxHeartbeats 800000 in
theorem rblobf_c (s : Sl) (l : List UInt8) (w : World) (hs : BytesR w s l) (hl : l.length ≤ 65535) :
    Calls Try.prog 96 #[s.v] w fun e w' => ∃ v, e = .returned v ∧ Own w' w.heap.size v (be 2 l.length ++ l) ∧ Below w.heap.size w w' := by
  obtain ⟨i0, hi, hy0, hy1, hy2⟩ := info_parts info_u8
  obtain ⟨sa, sn, sc⟩ := s
  obtain rfl : sn = l.length := hs.1
  have Hs := Lib.hid hs
  clear hs
  show Calls Try.prog 96 #[.slice sa l.length sc] w _
  go_enter Try.func96, Try.ntmps96
  have hlit := fun e => Own.lit w w.heap.size (be 2 l.length) #[.int .u8 ((l.length : Int) / 256), .int .u8 ((l.length : Int) % 256)] e 2 (by
    simp [be, byteV]
    omega) rfl (Nat.le_refl _) (by simp [be, maxLen])
  have Hlit := Lib.hid hlit
  clear hlit
  go_wp2_with (at_builtin; refine wpList_append_bytes _ rfl (.tmp 13) (.tmp 14) _ (by rfl) w.heap.size 5 i0 _ Try.underlying32 hi hy0 hy1 hy2 rfl _ (be 2 l.length) (by rfl) (Hlit.out _) ⟨sa, l.length, sc⟩ l (by rfl) (Hs.out.keep (bel_a _ _)) (by simp [be_length]; omega) (by simp) ?_; intro v' w2 hown2 hg2 _)
  go_ret
  exact ⟨_, rfl, hown2, bel_grown hg2 (bel_a _ _) (by simp) (fun k hk => by simp [Value.ownBlock] at hk; omega)⟩
end Go.Proofs.Ytkocpihfdpahpaa

/- Contracts: ref09.MayVote, Vote, SameVote; Reader.Blob. -/
namespace Go.Proofs.Ytkocpihfdpahpaa
open Go.RowKit

theorem fblob_c {lo : Nat} (r : Nat) (st : Option (List UInt8)) (w : World) (h : RfR lo w r st) :
    Calls Try.prog 102 #[.pointer (some ⟨r, 0, none⟩)] w fun e w' => ∃ s : Sl, e = .returned s.v ∧ BytesR w' s (rdBlob st).2 ∧ LowSl 0 lo s (rdBlob st).2 ∧ RfR lo w' r (rdBlob st).1 ∧ w.grownBy w' (some r) := by
  have hlt := rdNum_lt st 2
  unfold rdBlob
  have HC := fnum_c r st 2 w h (by omega)
  generalize rdNum st 2 = res at *
  have hb : (res.2 : Int) < 65536 := by omega
  clear hlt
  go_enter Try.func102, Try.ntmps102
  go_wp2_with fail
  refine HC.mono ?_
  clear HC
  rintro e w1 ⟨rfl, hr, hg⟩
  go_wp2_with fail
  refine (fbytes_c r res.1 res.2 w1 hr (by omega) (by omega)).mono ?_
  rintro e w2 ⟨s, rfl, hs, hlo, hr2, hg2⟩
  go_wp2_with fail
  go_ret
  exact ⟨s, rfl, hs, hlo, hr2, hg.trans hg2⟩

set_option maxRecDepth 100000 in
theorem fmayVote_c (v : GVote) (w : World) : Calls Try.prog 148 #[.agg (voteA v)] w fun e w' => e = .returned (.bool (mayV v)) ∧ Below w.heap.size w w' := by
  go_enter Try.func148, Try.ntmps148
  go_wp2_with (go_at_call 84; refine (fmayPoint_c _ _).mono ?_; rintro e w1 ⟨rfl, hb⟩; obtain ⟨k1, k2, k3⟩ := kept hb; have hz : w.heap.size < w1.heap.size := by (have := hb.size; (try simp at this); omega))
  all_goals go_ret
  all_goals exact ⟨ret_bool (by simp_all [mayV, mayMem] <;> omega), by (repeat' (first | (with_reducible exact Below.refl _ _) | (with_reducible assumption) | (with_reducible refine bel_trans (by assumption) ?_ ?_) | (with_reducible refine bel_grown (by assumption) ?_ ?_ ?_) | (with_reducible refine Below.alloc ?_ ?_ _) | (with_reducible refine Below.drew ?_) | (with_reducible refine below_drewN ?_ _) | (with_reducible refine Below.setCell ?_ ?_ _) | (with_reducible refine below_put ?_ ?_ _ _) | (with_reducible exact Nat.le_refl _) | omega | (with_reducible refine Nat.le_trans ?_ (Below.size (by assumption))) | (with_reducible refine Nat.le_trans ?_ (World.grownBy.size (by assumption))) | (simp only [World.size_alloc, World.size_setCell, World.size_drew, size_drewN]; omega) | (simp only [World.size_alloc, World.size_setCell, World.size_drew, size_drewN, size_put]; omega) | (intro k hk; simp [Value.ownBlock] at hk; done) | (intro k hk; simp [Value.ownBlock] at hk; omega) | (simp [size_drewN] at *; omega)))⟩

theorem Pieces.keepB {ls : List (List UInt8)} {v : Value} {w w' : World} (h : Pieces ls v w) (hb : Below w.heap.size w w') : Pieces ls v w' := by
  obtain ⟨b, ss, h1, h2, h3, h4⟩ := h
  exact ⟨b, ss, h1, h2, fun i hi => (hb.cell (p := ⟨b, i, none⟩) (lt_of_cell (h3 i hi))).trans (h3 i hi), fun i hi hj => (h4 i hi hj).keep hb⟩

set_option maxRecDepth 100000 in
set_option maxHeartbeats 800000 in
theorem fVote_c (g : GVote) (v : Vote) (w : World) (hv : VoteR w g v) (h1 : 1 ≤ v.validator) (h64 : v.validator ≤ 64) (hs : v.sig.length ≤ 4096) :
    Calls Try.prog 97 #[.agg (voteA g)] w fun e w' => ∃ s : Sl, e = .returned s.v ∧ BytesR w' s (vtBytes v) ∧ Below w.heap.size w w' := by
  obtain ⟨e1, e2, e3, hsig⟩ := hv
  have g1 : 1 ≤ g.validator := by omega
  have g2 : g.validator ≤ 64 := by omega
  have hsl : v.sig.length ≤ 65535 := by omega
  have hw : IntKind.u8.wrap g.validator = g.validator := by simp [IntKind.wrap, IntKind.min, IntKind.max, IntKind.signed, IntKind.bits]; omega
  have hnb : byteV (UInt8.ofNat g.validator.toNat) = .int .u8 g.validator := by simp [byteV]; omega
  have Hnb := Lib.hid hnb
  have E1 := Lib.hid e1
  have E2 := Lib.hid e2
  have E3 := Lib.hid e3
  have c0 : (w.alloc (.cells (voteA g) 85)).cell? ⟨w.heap.size, 0, none⟩ = some (.int .i64 g.validator) := by simp
  have c1 : row? (w.alloc (.cells (voteA g) 85)) w.heap.size 1 33 = some (pointA g.source) := by rw [row?_new]; simp
  have c34 : row? (w.alloc (.cells (voteA g) 85)) w.heap.size 34 33 = some (pointA g.target) := by rw [row?_new]; simp
  have c67 : (w.alloc (.cells (voteA g) 85)).cell? ⟨w.heap.size, 67, none⟩ = some g.sig.v := by simp
  have hz0 : w.heap.size < (w.alloc (.cells (voteA g) 85)).heap.size := by simp
  have hB0 : Below w.heap.size w (w.alloc (.cells (voteA g) 85)) := bel_a _ _
  have Hs := Lib.hid (hsig.keep hB0)
  clear e1 e2 e3 hsig h1 h64 hnb
  go_enter Try.func97, Try.ntmps97
  go_wp2_with fail
  generalize w.alloc (.cells (voteA g) 85) = w1 at *
  have HB0 := Lib.hid hB0
  clear hB0
  refine wp_region_freeG_l (fun W W' => Below W.heap.size W W') (by kernel_rfl) [3, 4, 5, 6, 7, 8, 9, 10, 11, 12, 13, 14, 15, 16, 17, 2]
    [Is (.pointer (some ⟨w.heap.size, 0, none⟩)), Is (.int .i64 g.validator), Is (.int .u8 g.validator), IsB (be 1 g.validator.toNat), Is (.pointer (some ⟨w.heap.size, 1, none⟩)), Is (.agg (pointA g.source)), IsB (ptBytes g.source), Is (.pointer (some ⟨w.heap.size, 34, none⟩)), Is (.agg (pointA g.target)), IsB (ptBytes g.target), Is (.pointer (some ⟨w.heap.size, 67, none⟩)), Is (g.sig.v), IsB (be 2 v.sig.length ++ v.sig), Pieces [be 1 g.validator.toNat, ptBytes g.source, ptBytes g.target, be 2 v.sig.length ++ v.sig], IsB (vtBytes v), IsB (vtBytes v)]
    (by kernel_rfl) (fun W W' h hb => hb.trans (h.mono hb.size)) ?_ ?_ ?_
  · intro f hf
    simp only [List.mem_cons, List.not_mem_nil, or_false] at hf
    rcases hf with rfl | rfl | rfl | rfl | rfl | rfl | rfl | rfl | rfl | rfl | rfl | rfl | rfl | rfl | rfl | rfl <;> intro x W W' h hr <;> first | exact h | exact IsB.keepB h hr | exact Pieces.keepB h hr
  · refine ⟨?_, ?_, ?_, ?_, ?_, ?_, ?_, ?_, ?_, ?_, ?_, ?_, ?_, ?_, ?_, ?_, trivial⟩
    · intro L ax W hf hd
      try simp [Region.binds] at hd
      have e1 : ax.tmps[1]?.getD undef = .pointer (some ⟨w.heap.size, 0, none⟩) := hf.out 1 (by decide) rfl
      refine ⟨fun _ => ?_, fun h => absurd trivial h⟩
      refine free_run (v := .pointer (some ⟨w.heap.size, 0, none⟩)) (W' := W) rfl ?_ rfl (Below.refl _ _)
      go_simp
    · intro L ax W hf hd
      simp [Region.binds] at hd
      have e3 : ax.tmps[3]?.getD undef = .pointer (some ⟨w.heap.size, 0, none⟩) := slv (hf.got 0 (by decide) (by simp [hd]))
      refine ⟨fun _ => ?_, fun h => absurd trivial h⟩
      have h1 : W.cell? ⟨w.heap.size, 0, none⟩ = some (.int .i64 g.validator) := (hf.below.cell (p := ⟨w.heap.size, 0, none⟩) hz0).trans c0
      refine free_run (v := .int .i64 g.validator) (W' := W) rfl ?_ rfl (Below.refl _ _)
      go_simp
    · intro L ax W hf hd
      simp [Region.binds] at hd
      have e4 : ax.tmps[4]?.getD undef = .int .i64 g.validator := slv (hf.got 1 (by decide) (by simp [hd]))
      refine ⟨fun _ => ?_, fun h => absurd trivial h⟩
      refine free_run (v := .int .u8 g.validator) (W' := W) rfl ?_ rfl (Below.refl _ _)
      go_simp
    · intro L ax W hf hd
      simp [Region.binds] at hd
      have e5 : ax.tmps[5]?.getD undef = .int .u8 g.validator := slv (hf.got 2 (by decide) (by simp [hd]))
      refine ⟨fun _ => ?_, fun h => absurd trivial h⟩
      refine free_run (v := .slice (some ⟨W.heap.size, 0, none⟩) 1 1) (W' := W.alloc (.cells #[.int .u8 g.validator] 5)) rfl ?_ ⟨⟨some ⟨W.heap.size, 0, none⟩, 1, 1⟩, rfl, BytesR.one _ _ _ _ _ rfl Hnb.out⟩ (bel_a _ _)
      go_simp
    · intro L ax W hf hd
      try simp [Region.binds] at hd
      have e1 : ax.tmps[1]?.getD undef = .pointer (some ⟨w.heap.size, 0, none⟩) := hf.out 1 (by decide) rfl
      refine ⟨fun _ => ?_, fun h => absurd trivial h⟩
      refine free_run (v := .pointer (some ⟨w.heap.size, 1, none⟩)) (W' := W) rfl ?_ rfl (Below.refl _ _)
      go_simp
    · intro L ax W hf hd
      simp [Region.binds] at hd
      have e7 : ax.tmps[7]?.getD undef = .pointer (some ⟨w.heap.size, 1, none⟩) := slv (hf.got 4 (by decide) (by simp [hd]))
      refine ⟨fun _ => ?_, fun h => absurd trivial h⟩
      have h1 : row? W w.heap.size 1 33 = some (pointA g.source) := (row?_below _ _ _ hf.below hz0).trans c1
      refine free_run (v := .agg (pointA g.source)) (W' := W) rfl ?_ rfl (Below.refl _ _)
      go_simp
    · intro L ax W hf hd
      simp [Region.binds] at hd
      have e8 : ax.tmps[8]?.getD undef = .agg (pointA g.source) := slv (hf.got 5 (by decide) (by simp [hd]))
      refine ⟨fun _ => ?_, fun h => absurd trivial h⟩
      refine free_call (f := 95) (args := #[.agg (pointA g.source)]) rfl (by go_simp) ?_
      refine (fPoint_c g.source W).mono ?_
      rintro e w' ⟨x, rfl, ho, hb⟩
      obtain ⟨s2, rfl⟩ := ho.slice
      exact ⟨_, rfl, ⟨s2, rfl, ho.reads⟩, hb⟩
    · intro L ax W hf hd
      try simp [Region.binds] at hd
      have e1 : ax.tmps[1]?.getD undef = .pointer (some ⟨w.heap.size, 0, none⟩) := hf.out 1 (by decide) rfl
      refine ⟨fun _ => ?_, fun h => absurd trivial h⟩
      refine free_run (v := .pointer (some ⟨w.heap.size, 34, none⟩)) (W' := W) rfl ?_ rfl (Below.refl _ _)
      go_simp
    · intro L ax W hf hd
      simp [Region.binds] at hd
      have e10 : ax.tmps[10]?.getD undef = .pointer (some ⟨w.heap.size, 34, none⟩) := slv (hf.got 7 (by decide) (by simp [hd]))
      refine ⟨fun _ => ?_, fun h => absurd trivial h⟩
      have h1 : row? W w.heap.size 34 33 = some (pointA g.target) := (row?_below _ _ _ hf.below hz0).trans c34
      refine free_run (v := .agg (pointA g.target)) (W' := W) rfl ?_ rfl (Below.refl _ _)
      go_simp
    · intro L ax W hf hd
      simp [Region.binds] at hd
      have e11 : ax.tmps[11]?.getD undef = .agg (pointA g.target) := slv (hf.got 8 (by decide) (by simp [hd]))
      refine ⟨fun _ => ?_, fun h => absurd trivial h⟩
      refine free_call (f := 95) (args := #[.agg (pointA g.target)]) rfl (by go_simp) ?_
      refine (fPoint_c g.target W).mono ?_
      rintro e w' ⟨x, rfl, ho, hb⟩
      obtain ⟨s2, rfl⟩ := ho.slice
      exact ⟨_, rfl, ⟨s2, rfl, ho.reads⟩, hb⟩
    · intro L ax W hf hd
      try simp [Region.binds] at hd
      have e1 : ax.tmps[1]?.getD undef = .pointer (some ⟨w.heap.size, 0, none⟩) := hf.out 1 (by decide) rfl
      refine ⟨fun _ => ?_, fun h => absurd trivial h⟩
      refine free_run (v := .pointer (some ⟨w.heap.size, 67, none⟩)) (W' := W) rfl ?_ rfl (Below.refl _ _)
      go_simp
    · intro L ax W hf hd
      simp [Region.binds] at hd
      have e13 : ax.tmps[13]?.getD undef = .pointer (some ⟨w.heap.size, 67, none⟩) := slv (hf.got 10 (by decide) (by simp [hd]))
      refine ⟨fun _ => ?_, fun h => absurd trivial h⟩
      have h1 : W.cell? ⟨w.heap.size, 67, none⟩ = some (g.sig.v) := (hf.below.cell (p := ⟨w.heap.size, 67, none⟩) hz0).trans c67
      refine free_run (v := g.sig.v) (W' := W) rfl ?_ rfl (Below.refl _ _)
      go_simp
    · intro L ax W hf hd
      simp [Region.binds] at hd
      have e14 : ax.tmps[14]?.getD undef = g.sig.v := slv (hf.got 11 (by decide) (by simp [hd]))
      refine ⟨fun _ => ?_, fun h => absurd trivial h⟩
      refine free_call (f := 96) (args := #[g.sig.v]) rfl (by go_simp) ?_
      refine (rblobf_c g.sig v.sig W (Hs.out.keep hf.below) hsl).mono ?_
      rintro e w' ⟨x, rfl, ho, hb⟩
      obtain ⟨s2, rfl⟩ := ho.slice
      exact ⟨_, rfl, ⟨s2, rfl, ho.reads⟩, hb⟩
    · intro L ax W hf hd
      simp [Region.binds] at hd
      have f6 : IsB (be 1 g.validator.toNat) (sl ax 6) W := hf.got 3 (by decide) (by simp [hd])
      have f9 : IsB (ptBytes g.source) (sl ax 9) W := hf.got 6 (by decide) (by simp [hd])
      have f12 : IsB (ptBytes g.target) (sl ax 12) W := hf.got 9 (by decide) (by simp [hd])
      have f15 : IsB (be 2 v.sig.length ++ v.sig) (sl ax 15) W := hf.got 12 (by decide) (by simp [hd])
      refine ⟨fun _ => ?_, fun h => absurd trivial h⟩
      obtain ⟨s0, e0, r0⟩ := f6
      obtain ⟨s1, e1, r1⟩ := f9
      obtain ⟨s2, e2, r2⟩ := f12
      obtain ⟨s3, e3, r3⟩ := f15
      have e0 := slv e0
      have e1 := slv e1
      have e2 := slv e2
      have e3 := slv e3
      have hb := bel_a W (.cells #[s0.v, s1.v, s2.v, s3.v] 32)
      refine free_run (v := .slice (some ⟨W.heap.size, 0, none⟩) 4 4) (W' := W.alloc (.cells #[s0.v, s1.v, s2.v, s3.v] 32)) rfl ?_ ⟨W.heap.size, [s0, s1, s2, s3], rfl, rfl, ?_, ?_⟩ hb
      · clear hb
        go_simp
      · intro i h
        have hi4 : i = 0 ∨ i = 1 ∨ i = 2 ∨ i = 3 := by simp at h; omega
        rcases hi4 with rfl | rfl | rfl | rfl <;> simp
      · intro i h h'
        have hi4 : i = 0 ∨ i = 1 ∨ i = 2 ∨ i = 3 := by simp at h; omega
        rcases hi4 with rfl | rfl | rfl | rfl
        · exact r0.keep hb
        · exact r1.keep hb
        · exact r2.keep hb
        · exact r3.keep hb
    · intro L ax W hf hd
      simp [Region.binds] at hd
      have f16 : Pieces [be 1 g.validator.toNat, ptBytes g.source, ptBytes g.target, be 2 v.sig.length ++ v.sig] (sl ax 16) W := hf.got 13 (by decide) (by simp [hd])
      refine ⟨fun _ => ?_, fun h => absurd trivial h⟩
      obtain ⟨b, ss, e0, hl, hc, hr⟩ := f16
      have e0 := slv e0
      refine free_call (f := 94) (args := #[.slice (some ⟨b, 0, none⟩) 4 4]) rfl (by simp [execOp, Act.eval, e0, resolve, invoke, Deferred.ofValue]; try go_simp) ?_
      refine (rjoin_c b 4 ss [be 1 g.validator.toNat, ptBytes g.source, ptBytes g.target, be 2 v.sig.length ++ v.sig] W ⟨hl, hc, hr⟩ (by simp) (by simp [be_length, ptBytes_length] <;> omega)).mono ?_
      rintro e w' ⟨x, rfl, ho, hb⟩
      obtain ⟨s, rfl⟩ := ho.slice
      refine ⟨_, rfl, ⟨s, rfl, ?_⟩, hb⟩
      have := ho.reads
      rw [vtBytes, ← E1.out, ← E2.out, ← E3.out]
      simpa using this
    · intro L ax W hf hd
      simp [Region.binds] at hd
      have f17 : IsB (vtBytes v) (sl ax 17) W := hf.got 14 (by decide) (by simp [hd])
      refine ⟨fun _ => ?_, fun h => absurd trivial h⟩
      obtain ⟨s, e0, r0⟩ := f17
      have e0 := slv e0
      refine free_run (v := s.v) (W' := W) rfl ?_ ⟨s, rfl, r0⟩ (Below.refl _ _)
      go_simp
  · intro vs W' hl' hF hb
    obtain ⟨g', hg1, hg2⟩ := vs_lit vs hl' hF
    obtain ⟨s, e15, r15⟩ : IsB (vtBytes v) (g' 15) W' := hg2 15 (by decide)
    rw [hg1]
    clear hF hg1 hg2 hl'
    have Hr := Lib.hid r15
    clear r15
    simp only [List.length_cons, List.length_nil, Nat.reduceAdd, show List.range 16 = [0, 1, 2, 3, 4, 5, 6, 7, 8, 9, 10, 11, 12, 13, 14, 15] from rfl, List.map_cons, List.map_nil, putL, List.zip_cons_cons, List.zip_nil_right, List.setIfInBounds_toArray, List.set_cons_succ, List.set_cons_zero, e15]
    go_wp2_with fail
    go_ret
    exact ⟨s, rfl, Hr.out, HB0.out.trans (hb.mono (Nat.le_of_lt hz0))⟩
end Go.Proofs.Ytkocpihfdpahpaa
