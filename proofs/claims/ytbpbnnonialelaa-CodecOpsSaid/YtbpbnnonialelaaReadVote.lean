/- Contracts: codec.readVote, read, PointOf, VoteOf. -/
import Derived.Test.YtbpbnnonialelaaRead
import Derived.Test.YtbpbnnonialelaaTold
import Derived.Test.YtbpbnnonialelaaData
import Derived.Test.YtbpbnnonialelaaSlices
import Derived.Test.YtbpbnnonialelaaOpBytes
namespace Go.Proofs.Ytbpbnnonialelaa
open Go.RowKit

theorem VoteR.mk {w : World} {k : Int} {p q : Pt} {s : Sl} {l : List UInt8} (h : BytesR w s l) : VoteR w ⟨k, p, q, s⟩ ⟨k, p, q, l⟩ := ⟨rfl, rfl, rfl, h⟩
/-- a vote that lies in memory of the call's own -/
def VoteO (lo D : Nat) (w : World) (g : GVote) (v : Vote) : Prop := g.validator = v.validator ∧ g.source = v.source ∧ g.target = v.target ∧ BytesO w g.sig v.sig ∧ LowSl lo D g.sig v.sig
theorem VoteO.r {lo D : Nat} {w : World} {g : GVote} {v : Vote} (h : VoteO lo D w g v) : VoteR w g v := ⟨h.1, h.2.1, h.2.2.1, h.2.2.2.1.1⟩
theorem VoteO.keep {lo D : Nat} {w w' : World} {g : GVote} {v : Vote} (h : VoteO lo D w g v) (hb : Below w.heap.size w w') : VoteO lo D w' g v := ⟨h.1, h.2.1, h.2.2.1, h.2.2.2.1.keep hb, h.2.2.2.2⟩
theorem VoteO.keepNe {lo D b : Nat} {w w' : World} {g : GVote} {v : Vote} (h : VoteO lo D w g v) (hg : b < lo ∨ D ≤ b) (hk : ∀ k, k < w.heap.size → k ≠ b → w'.heap[k]? = w.heap[k]?) : VoteO lo D w' g v := ⟨h.1, h.2.1, h.2.2.1, h.2.2.2.1.keepNe h.2.2.2.2 hg hk, h.2.2.2.2⟩
theorem VoteO.wide {lo D lo' D' : Nat} {w : World} {g : GVote} {v : Vote} (h : VoteO lo D w g v) (h1 : lo' ≤ lo) (h2 : D ≤ D') : VoteO lo' D' w g v := ⟨h.1, h.2.1, h.2.2.1, h.2.2.2.1, fun hne a ha => ⟨Nat.le_trans h1 (h.2.2.2.2 hne a ha).1, Nat.lt_of_lt_of_le (h.2.2.2.2 hne a ha).2 h2⟩⟩
theorem VoteO.zero (lo D : Nat) (w : World) (a : Option Addr) (c : Nat) : VoteO lo D w ⟨0, zeroPt, zeroPt, ⟨a, 0, c⟩⟩ ⟨0, zeroPt, zeroPt, []⟩ := ⟨rfl, rfl, rfl, BytesO.nil _ _ _, LowSl.nil _ _ _⟩
theorem VoteO.mk {lo D : Nat} {w : World} {k : Int} {p q : Pt} {s : Sl} {l : List UInt8} (h : BytesO w s l) (hl : LowSl lo D s l) : VoteO lo D w ⟨k, p, q, s⟩ ⟨k, p, q, l⟩ := ⟨rfl, rfl, rfl, h, hl⟩
theorem put_block (w : World) (b off : Nat) (xs : Array Value) (k : Nat) (h : k ≠ b) : (putRow w b off xs).heap[k]? = w.heap[k]? := setCells_far _ _ _ _ _ h
/-- what readVote leaves, and hands back -/
def rdVote (st : Option (List UInt8)) : Option (List UInt8) × Vote :=
  let a := rdNum st 1
  let b := rdPoint a.1
  let c := rdPoint b.1
  let d := rdBlob c.1
  (d.1, ⟨a.2, b.2, c.2, d.2⟩)
theorem rvote_res : Try.f82.results = #[.cell 2 61] := by kernel_rfl
theorem zc_vote : Try.zeroCells61 = voteA ⟨0, zeroPt, zeroPt, ⟨none, 0, 0⟩⟩ := by
  unfold Try.zeroCells61
  exact zero_vote 0

set_option maxRecDepth 100000 in
set_option maxHeartbeats 800000 in
theorem readVote_c (r : Nat) (st : Option (List UInt8)) (w : World) {lo : Nat} (h : RdR lo w r st) :
    Calls Try.prog 82 #[.pointer (some ⟨r, 0, none⟩)] w fun e w' => ∃ g, e = .returned (.agg (voteA g)) ∧ VoteO lo r w' g (rdVote st).2 ∧ RdR lo w' r (rdVote st).1 ∧ w.grownBy w' (some r) := by
  have hlt := h.lt
  have HC := fun W (hW : RdR lo W r st) => rnum_c r st 1 W hW (by omega)
  have hn := rdNum_lt st 1
  have hzc := zc_vote
  unfold rdVote
  generalize rdNum st 1 = a at *
  obtain ⟨a1, a2⟩ := a
  simp only at hn HC ⊢
  have HP := fun W (hW : RdR lo W r a1) => readPoint_c r a1 W hW
  generalize rdPoint a1 = b at *
  obtain ⟨b1, b2⟩ := b
  have HQ := fun W (hW : RdR lo W r b1) => readPoint_c r b1 W hW
  simp only at HP HQ ⊢
  generalize rdPoint b1 = c at *
  obtain ⟨c1, c2⟩ := c
  have HB := fun W (hW : RdR lo W r c1) => rblob_c r c1 W hW
  simp only at HQ HB ⊢
  generalize rdBlob c1 = d at *
  obtain ⟨d1, d2⟩ := d
  simp only at HB ⊢
  have hw : IntKind.i64.wrap (a2 : Int) = a2 := IntWalk.i64_in _ (by omega)
  have Hh := Lib.hid h
  clear h hn
  go_enter Try.func82, Try.ntmps82
  go_wp2_with fail
  refine (HC _ (Hh.out.keep (bel_a _ _))).mono ?_
  clear HC
  rintro e w1 ⟨rfl, hr1, hg1⟩
  go_wp2_with fail
  refine (HP _ hr1).mono ?_
  clear HP
  rintro e w2 ⟨rfl, hr2, hg2⟩
  go_wp2_with fail
  refine (HQ _ hr2).mono ?_
  clear HQ
  rintro e w3 ⟨rfl, hr3, hg3⟩
  go_wp2_with fail
  refine (HB _ hr3).mono ?_
  clear HB
  rintro e w4 ⟨s, rfl, hs, hlo, hr4, hg4⟩
  have hg := ((hg1.trans hg2).trans hg3).trans hg4
  have hblk : w4.heap[w.heap.size]? = some (.cells (voteA ⟨0, zeroPt, zeroPt, ⟨none, 0, 0⟩⟩) 61 (0, 0)) := (hg.block _ (by simp) (by intro e; injection e; omega)).trans (heap_alloc_new w _)
  have hrow : row? w4 w.heap.size 0 68 = some (voteA ⟨0, zeroPt, zeroPt, ⟨none, 0, 0⟩⟩) := by
    unfold row?
    rw [hblk]
    simp
  have hth : there w4 w.heap.size 0 68 := there_block hblk (by simp)
  have hR := Lib.hid hr4
  have HG := Lib.hid ((World.grownBy_alloc w (.cells (voteA ⟨0, zeroPt, zeroPt, ⟨none, 0, 0⟩⟩) 61) _).trans hg)
  have Hs := Lib.hid hs
  have Hlo := Lib.hid hlo
  obtain ⟨sa, sn, sc⟩ := s
  dsimp only [Sl.v]
  clear hg hg1 hg2 hg3 hg4 hblk hr1 hr2 hr3 hr4 hs hlo
  go_wp2_with (with_reducible refine ret_row Try.isAgg61 Try.sizeOf61 rvote_res (x := .pointer (some ⟨w.heap.size, 0, none⟩)) (w.heap.size) 0 ?rrhx (Eq.refl _) ?rrh ?rrhd ?rrhR; (case rrhx => simp only [Array.getD_eq_getD_getElem?, List.getElem?_toArray, List.getElem?_cons_succ, List.getElem?_cons_zero, Option.getD_some]); (case rrhd => exact rfl); (case rrh => go_simp); (case rrhR => ((refine ⟨⟨a2, b2, c2, ⟨sa, sn, sc⟩⟩, ?_, VoteO.mk (Hs.out.keepNe Hlo.out (.inr (Nat.le_of_lt hlt)) (fun k _ hk => put_block _ _ _ _ _ hk)) Hlo.out, hR.out.keepB hlt ?_, grown_below HG.out ?_ (Nat.le_refl _)⟩; (case refine_1 => (go_simp; done)); (case refine_2 => ((repeat' (first | (with_reducible exact Below.refl _ _) | (with_reducible assumption) | (with_reducible refine bel_trans (by assumption) ?_ ?_) | (with_reducible refine bel_grown (by assumption) ?_ ?_ ?_) | (with_reducible refine Below.alloc ?_ ?_ _) | (with_reducible refine Below.drew ?_) | (with_reducible refine below_drewN ?_ _) | (with_reducible refine Below.setCell ?_ ?_ _) | (with_reducible refine below_put ?_ ?_ _ _) | (with_reducible exact Nat.le_refl _) | omega | (with_reducible refine Nat.le_trans ?_ (Below.size (by assumption))) | (with_reducible refine Nat.le_trans ?_ (World.grownBy.size (by assumption))) | (simp only [World.size_alloc, World.size_setCell, World.size_drew, size_drewN]; omega) | (simp only [World.size_alloc, World.size_setCell, World.size_drew, size_drewN, size_put]; omega) | (intro k hk; simp [Value.ownBlock] at hk; done) | (intro k hk; simp [Value.ownBlock] at hk; omega) | (simp [size_drewN] at *; omega))))); (case refine_3 => ((repeat' (first | (with_reducible exact Below.refl _ _) | (with_reducible assumption) | (with_reducible refine bel_trans (by assumption) ?_ ?_) | (with_reducible refine bel_grown (by assumption) ?_ ?_ ?_) | (with_reducible refine Below.alloc ?_ ?_ _) | (with_reducible refine Below.drew ?_) | (with_reducible refine below_drewN ?_ _) | (with_reducible refine Below.setCell ?_ ?_ _) | (with_reducible refine below_put ?_ ?_ _ _) | (with_reducible exact Nat.le_refl _) | omega | (with_reducible refine Nat.le_trans ?_ (Below.size (by assumption))) | (with_reducible refine Nat.le_trans ?_ (World.grownBy.size (by assumption))) | (simp only [World.size_alloc, World.size_setCell, World.size_drew, size_drewN]; omega) | (simp only [World.size_alloc, World.size_setCell, World.size_drew, size_drewN, size_put]; omega) | (intro k hk; simp [Value.ownBlock] at hk; done) | (intro k hk; simp [Value.ownBlock] at hk; omega) | (simp [size_drewN] at *; omega)))))))))

/-- the vote of bytes, and the error -/
def voteOf (l : List UInt8) : Vote × Int := if (rdVote (some l)).1 = some [] ∧ voteMay (rdVote (some l)).2 = true ∧ vtBytes (rdVote (some l)).2 = l then ((rdVote (some l)).2, 0) else (⟨0, zeroPt, zeroPt, []⟩, 4)
theorem readv_res : Try.f81.results = #[.cell 8 61, .tmp 9] := by kernel_rfl
theorem rdEnd_ne (st : Option (List UInt8)) (h : st ≠ some []) : ((rdEnd st : Int) != 0) = true := by simp [rdEnd, h]
theorem rdEnd_eq : ((rdEnd (some []) : Int) != 0) = false := by simp [rdEnd]

set_option maxRecDepth 100000 in
set_option maxHeartbeats 800000 in
theorem readVotes_c (s : Sl) (l : List UInt8) (w : World) (hs : BytesR w s l) (hl : l.length ≤ 140737488355328) :
    Calls Try.prog 81 #[s.v, .func (.func 82) #[] #[], .func (.func 37) #[] #[], .func (.func 79) #[] #[]] w
      fun e w' => ∃ g, e = .returned (.tuple #[.agg (voteA g), .int .i64 (voteOf l).2]) ∧ VoteO w.heap.size w'.heap.size w' g (voteOf l).1 ∧ Below w.heap.size w w' := by
  have hzc := zc_vote
  have HR := fun r lo W (h : RdR lo W r (some l)) => readVote_c r (some l) W h
  unfold voteOf
  generalize rdVote (some l) = res at *
  obtain ⟨st, v⟩ := res
  simp only at HR ⊢
  have Hs := Lib.hid hs
  clear hs
  generalize hX : (if st = some [] ∧ voteMay v = true ∧ vtBytes v = l then (v, (0 : Int)) else (⟨0, zeroPt, zeroPt, []⟩, 4)) = X
  have HX := Lib.hid hX
  clear hX
  go_enter Try.func81, Try.ntmps81
  go_wp2_with fail
  refine (read_c s l _ (Hs.out.keep (bel_a _ _)) hl).mono ?_
  rintro e w1 ⟨r, rfl, hlr, hr1, hb1⟩
  simp only [World.size_alloc] at hlr
  have hz1 : w.heap.size < w1.heap.size := by have := hb1.size; simp at this; omega
  go_wp2_with fail
  refine (HR r _ w1 hr1).mono ?_
  clear HR
  rintro e w2 ⟨g, rfl, hv, hr2, hg2⟩
  have hB2 : Below w.heap.size w w2 := bel_grown hg2 (by (repeat' (first | (with_reducible exact Below.refl _ _) | (with_reducible assumption) | (with_reducible refine bel_trans (by assumption) ?_ ?_) | (with_reducible refine bel_grown (by assumption) ?_ ?_ ?_) | (with_reducible refine Below.alloc ?_ ?_ _) | (with_reducible refine Below.drew ?_) | (with_reducible refine below_drewN ?_ _) | (with_reducible refine Below.setCell ?_ ?_ _) | (with_reducible refine below_put ?_ ?_ _ _) | (with_reducible exact Nat.le_refl _) | omega | (with_reducible refine Nat.le_trans ?_ (Below.size (by assumption))) | (with_reducible refine Nat.le_trans ?_ (World.grownBy.size (by assumption))) | (simp only [World.size_alloc, World.size_setCell, World.size_drew, size_drewN]; omega) | (simp only [World.size_alloc, World.size_setCell, World.size_drew, size_drewN, size_put]; omega) | (intro k hk; simp [Value.ownBlock] at hk; done) | (intro k hk; simp [Value.ownBlock] at hk; omega) | (simp [size_drewN] at *; omega)))) (by omega) (by intro k hk; injection hk; omega)
  have hblk : w2.heap[w.heap.size]? = some (.cells (voteA ⟨0, zeroPt, zeroPt, ⟨none, 0, 0⟩⟩) 61 (0, 0)) := (hg2.block _ hz1 (by intro e; injection e; omega)).trans ((hb1.block _ (by simp)).trans (heap_alloc_new w _))
  have hrow : row? w2 w.heap.size 0 68 = some (voteA ⟨0, zeroPt, zeroPt, ⟨none, 0, 0⟩⟩) := by
    unfold row?
    rw [hblk]
    simp
  have hth : there w2 w.heap.size 0 68 := there_block hblk (by simp)
  have hz2 : w.heap.size < w2.heap.size := by have := hg2.size; omega
  have hne2 : w.heap.size ≠ w2.heap.size := by omega
  have hz2' : w.heap.size < w2.heap.size + 1 := by omega
  have HB2 := Lib.hid hB2
  have Hv := Lib.hid hv
  have Hr2 := Lib.hid hr2
  clear hg2 hb1 hblk hr1 hB2 hv hr2
  go_wp2_with fail
  refine (rend_c r st _ (Hr2.out.keep (by (repeat' (first | (with_reducible exact Below.refl _ _) | (with_reducible assumption) | (with_reducible refine bel_trans (by assumption) ?_ ?_) | (with_reducible refine bel_grown (by assumption) ?_ ?_ ?_) | (with_reducible refine Below.alloc ?_ ?_ _) | (with_reducible refine Below.drew ?_) | (with_reducible refine below_drewN ?_ _) | (with_reducible refine Below.setCell ?_ ?_ _) | (with_reducible refine below_put ?_ ?_ _ _) | (with_reducible exact Nat.le_refl _) | omega | (with_reducible refine Nat.le_trans ?_ (Below.size (by assumption))) | (with_reducible refine Nat.le_trans ?_ (World.grownBy.size (by assumption))) | (simp only [World.size_alloc, World.size_setCell, World.size_drew, size_drewN]; omega) | (simp only [World.size_alloc, World.size_setCell, World.size_drew, size_drewN, size_put]; omega) | (intro k hk; simp [Value.ownBlock] at hk; done) | (intro k hk; simp [Value.ownBlock] at hk; omega) | (simp [size_drewN] at *; omega)))))).mono ?_
  rintro e w3 ⟨rfl, rfl⟩
  have hB2 := HB2.out
  by_cases hst : st = some []
  case neg =>
    have hb := rdEnd_ne st hst
    have hX : X = (⟨0, zeroPt, zeroPt, []⟩, 4) := by rw [← HX.out, if_neg (fun h => hst h.1)]
    subst hX
    clear hst
    go_wp2_with (with_reducible refine ret_row2 Try.isAgg61 Try.sizeOf61 readv_res (x := .pointer (some ⟨w.heap.size, 0, none⟩)) (y := .int .i64 4) (w.heap.size) 0 ?rrhx (Eq.refl _) ?rrhy ?rrh ?rrhd ?rrhR; (case rrhx => simp only [Array.getD_eq_getD_getElem?, List.getElem?_toArray, List.getElem?_cons_succ, List.getElem?_cons_zero, Option.getD_some]); (case rrhy => simp only [Array.getD_eq_getD_getElem?, List.getElem?_toArray, List.getElem?_cons_succ, List.getElem?_cons_zero, Option.getD_some]); (case rrhd => exact rfl); (case rrh => go_simp); (case rrhR => ((refine ⟨⟨0, zeroPt, zeroPt, ⟨none, 0, 0⟩⟩, ?_, VoteO.zero _ _ _ _ _, ?_⟩; (case refine_1 => (go_simp; done)); (case refine_2 => ((repeat' (first | (with_reducible exact Below.refl _ _) | (with_reducible assumption) | (with_reducible refine bel_trans (by assumption) ?_ ?_) | (with_reducible refine bel_grown (by assumption) ?_ ?_ ?_) | (with_reducible refine Below.alloc ?_ ?_ _) | (with_reducible refine Below.drew ?_) | (with_reducible refine below_drewN ?_ _) | (with_reducible refine Below.setCell ?_ ?_ _) | (with_reducible refine below_put ?_ ?_ _ _) | (with_reducible exact Nat.le_refl _) | omega | (with_reducible refine Nat.le_trans ?_ (Below.size (by assumption))) | (with_reducible refine Nat.le_trans ?_ (World.grownBy.size (by assumption))) | (simp only [World.size_alloc, World.size_setCell, World.size_drew, size_drewN]; omega) | (simp only [World.size_alloc, World.size_setCell, World.size_drew, size_drewN, size_put]; omega) | (intro k hk; simp [Value.ownBlock] at hk; done) | (intro k hk; simp [Value.ownBlock] at hk; omega) | (simp [size_drewN] at *; omega)))))))))
  subst hst
  have hb := rdEnd_eq
  have HM := fun W => mayVote_c g W
  rw [Hv.out.r.may] at HM
  go_wp2_with fail
  refine (HM _).mono ?_
  clear HM
  rintro e w3 ⟨rfl, hb3⟩
  obtain ⟨k1, k2, k3⟩ := kept hb3
  have hB3 : Below w.heap.size w w3 := by (repeat' (first | (with_reducible exact Below.refl _ _) | (with_reducible assumption) | (with_reducible refine bel_trans (by assumption) ?_ ?_) | (with_reducible refine bel_grown (by assumption) ?_ ?_ ?_) | (with_reducible refine Below.alloc ?_ ?_ _) | (with_reducible refine Below.drew ?_) | (with_reducible refine below_drewN ?_ _) | (with_reducible refine Below.setCell ?_ ?_ _) | (with_reducible refine below_put ?_ ?_ _ _) | (with_reducible exact Nat.le_refl _) | omega | (with_reducible refine Nat.le_trans ?_ (Below.size (by assumption))) | (with_reducible refine Nat.le_trans ?_ (World.grownBy.size (by assumption))) | (simp only [World.size_alloc, World.size_setCell, World.size_drew, size_drewN]; omega) | (simp only [World.size_alloc, World.size_setCell, World.size_drew, size_drewN, size_put]; omega) | (intro k hk; simp [Value.ownBlock] at hk; done) | (intro k hk; simp [Value.ownBlock] at hk; omega) | (simp [size_drewN] at *; omega)))
  have hth3 : there w3 w.heap.size 0 68 := there_below hb3 (by simp [size_put]; omega) (by go_simp)
  have hrow3 : row? w3 w.heap.size 0 68 = some (voteA ⟨0, zeroPt, zeroPt, ⟨none, 0, 0⟩⟩) := by
    rw [k3 _ _ _ (by simp [size_put]; omega)]
    go_simp
  have hrowx : row? w3 w2.heap.size 0 68 = some (voteA g) := by
    rw [k3 _ _ _ (by simp [size_put])]
    go_simp
  have hz3 : w2.heap.size < w3.heap.size := by have := hb3.size; simp [size_put] at this; omega
  have hBx : Below w2.heap.size w2 w3 := bel_trans hb3 (by (repeat' (first | (with_reducible exact Below.refl _ _) | (with_reducible assumption) | (with_reducible refine bel_trans (by assumption) ?_ ?_) | (with_reducible refine bel_grown (by assumption) ?_ ?_ ?_) | (with_reducible refine Below.alloc ?_ ?_ _) | (with_reducible refine Below.drew ?_) | (with_reducible refine below_drewN ?_ _) | (with_reducible refine Below.setCell ?_ ?_ _) | (with_reducible refine below_put ?_ ?_ _ _) | (with_reducible exact Nat.le_refl _) | omega | (with_reducible refine Nat.le_trans ?_ (Below.size (by assumption))) | (with_reducible refine Nat.le_trans ?_ (World.grownBy.size (by assumption))) | (simp only [World.size_alloc, World.size_setCell, World.size_drew, size_drewN]; omega) | (simp only [World.size_alloc, World.size_setCell, World.size_drew, size_drewN, size_put]; omega) | (intro k hk; simp [Value.ownBlock] at hk; done) | (intro k hk; simp [Value.ownBlock] at hk; omega) | (simp [size_drewN] at *; omega)))) (by simp [size_put])
  have HBx := Lib.hid hBx
  have hne3 : w.heap.size ≠ w3.heap.size := by omega
  have hzz3 : w.heap.size < w3.heap.size := by omega
  clear k1 k2 k3 hb3 hth hrow hB2 hBx
  cases hm : voteMay v
  · have hX : X = (⟨0, zeroPt, zeroPt, []⟩, 4) := by rw [← HX.out]; simp [hm]
    subst hX
    clear hm
    go_wp2_with (with_reducible refine ret_row2 Try.isAgg61 Try.sizeOf61 readv_res (x := .pointer (some ⟨w.heap.size, 0, none⟩)) (y := .int .i64 4) (w.heap.size) 0 ?rrhx (Eq.refl _) ?rrhy ?rrh ?rrhd ?rrhR; (case rrhx => simp only [Array.getD_eq_getD_getElem?, List.getElem?_toArray, List.getElem?_cons_succ, List.getElem?_cons_zero, Option.getD_some]); (case rrhy => simp only [Array.getD_eq_getD_getElem?, List.getElem?_toArray, List.getElem?_cons_succ, List.getElem?_cons_zero, Option.getD_some]); (case rrhd => exact rfl); (case rrh => go_simp); (case rrhR => ((refine ⟨⟨0, zeroPt, zeroPt, ⟨none, 0, 0⟩⟩, ?_, VoteO.zero _ _ _ _ _, ?_⟩; (case refine_1 => (go_simp; done)); (case refine_2 => ((repeat' (first | (with_reducible exact Below.refl _ _) | (with_reducible assumption) | (with_reducible refine bel_trans (by assumption) ?_ ?_) | (with_reducible refine bel_grown (by assumption) ?_ ?_ ?_) | (with_reducible refine Below.alloc ?_ ?_ _) | (with_reducible refine Below.drew ?_) | (with_reducible refine below_drewN ?_ _) | (with_reducible refine Below.setCell ?_ ?_ _) | (with_reducible refine below_put ?_ ?_ _ _) | (with_reducible exact Nat.le_refl _) | omega | (with_reducible refine Nat.le_trans ?_ (Below.size (by assumption))) | (with_reducible refine Nat.le_trans ?_ (World.grownBy.size (by assumption))) | (simp only [World.size_alloc, World.size_setCell, World.size_drew, size_drewN]; omega) | (simp only [World.size_alloc, World.size_setCell, World.size_drew, size_drewN, size_put]; omega) | (intro k hk; simp [Value.ownBlock] at hk; done) | (intro k hk; simp [Value.ownBlock] at hk; omega) | (simp [size_drewN] at *; omega)))))))))
  obtain ⟨m1, m2, m3, m4, m5⟩ := voteMay_out hm
  have Hm := Lib.hid hm
  clear hm m4 m5
  go_wp2_with fail
  (with_reducible refine (vote_c g v w3 (Hv.out.r.keep' HBx.out) m1 m2 m3).mono ?_)
  rintro e w4 ⟨x, rfl, ho, hb4⟩
  obtain ⟨s2, rfl⟩ := ho.slice
  obtain ⟨k1, k2, k3⟩ := kept hb4
  have hB4 : Below w.heap.size w w4 := by (repeat' (first | (with_reducible exact Below.refl _ _) | (with_reducible assumption) | (with_reducible refine bel_trans (by assumption) ?_ ?_) | (with_reducible refine bel_grown (by assumption) ?_ ?_ ?_) | (with_reducible refine Below.alloc ?_ ?_ _) | (with_reducible refine Below.drew ?_) | (with_reducible refine below_drewN ?_ _) | (with_reducible refine Below.setCell ?_ ?_ _) | (with_reducible refine below_put ?_ ?_ _ _) | (with_reducible exact Nat.le_refl _) | omega | (with_reducible refine Nat.le_trans ?_ (Below.size (by assumption))) | (with_reducible refine Nat.le_trans ?_ (World.grownBy.size (by assumption))) | (simp only [World.size_alloc, World.size_setCell, World.size_drew, size_drewN]; omega) | (simp only [World.size_alloc, World.size_setCell, World.size_drew, size_drewN, size_put]; omega) | (intro k hk; simp [Value.ownBlock] at hk; done) | (intro k hk; simp [Value.ownBlock] at hk; omega) | (simp [size_drewN] at *; omega)))
  have hz4 : w2.heap.size < w4.heap.size := by have := hb4.size; omega
  have hth4 : there w4 w.heap.size 0 68 := there_below hb4 (by omega) hth3
  have hrow4 : row? w4 w.heap.size 0 68 = some (voteA ⟨0, zeroPt, zeroPt, ⟨none, 0, 0⟩⟩) := by rw [k3 _ _ _ (by omega)]; exact hrow3
  have hrowy : row? w4 w2.heap.size 0 68 = some (voteA g) := by rw [k3 _ _ _ hz3]; exact hrowx
  have hvl := vtBytes_length v
  have Hv4 := Lib.hid ((Hv.out.keep HBx.out).keep hb4)
  have HB4 := Lib.hid hB4
  clear k1 k2 k3 hb4 hth3 hrow3 hrowx hB3 hB4
  go_wp2_with fail
  (with_reducible refine (sequal_c s2 s (vtBytes v) l w4 ho.reads (Hs.out.keep HB4.out) (by omega)).mono ?_)
  rintro e w5 ⟨rfl, n, hw5⟩
  have hb5 : Below w4.heap.size w4 w5 := by rw [hw5]; exact below_drewN (Below.refl _ _) n
  clear hw5
  obtain ⟨k1, k2, k3⟩ := kept hb5
  have hth5 : there w5 w.heap.size 0 68 := there_below hb5 (by omega) hth4
  have hrow5 : row? w5 w.heap.size 0 68 = some (voteA ⟨0, zeroPt, zeroPt, ⟨none, 0, 0⟩⟩) := by rw [k3 _ _ _ (by omega)]; exact hrow4
  have hrowz : row? w5 w2.heap.size 0 68 = some (voteA g) := by rw [k3 _ _ _ hz4]; exact hrowy
  have hz5 := hb5.size
  have hne5 : w.heap.size ≠ w5.heap.size := by omega
  have hzz5 : w.heap.size < w5.heap.size := by omega
  have Hv5 := Lib.hid (Hv4.out.keep hb5)
  have HB5 := Lib.hid hb5
  have hzr : r ≤ w5.heap.size := by have := Hr2.out.lt; omega
  clear k1 k2 k3 hb5 hth4 hrow4 hrowy
  have hB5 : Below w.heap.size w w5 := HB4.out.trans (HB5.out.mono (by omega))
  by_cases he : vtBytes v = l
  · have hX : X = (v, 0) := by rw [← HX.out]; simp [Hm.out, he]
    subst hX
    have hd := dec_true he
    clear he hvl
    go_wp2_with (with_reducible refine ret_row2 Try.isAgg61 Try.sizeOf61 readv_res (x := .pointer (some ⟨w.heap.size, 0, none⟩)) (y := .int .i64 0) (w.heap.size) 0 ?rrhx (Eq.refl _) ?rrhy ?rrh ?rrhd ?rrhR; (case rrhx => simp only [Array.getD_eq_getD_getElem?, List.getElem?_toArray, List.getElem?_cons_succ, List.getElem?_cons_zero, Option.getD_some]); (case rrhy => simp only [Array.getD_eq_getD_getElem?, List.getElem?_toArray, List.getElem?_cons_succ, List.getElem?_cons_zero, Option.getD_some]); (case rrhd => exact rfl); (case rrh => go_simp); (case rrhR => ((refine ⟨g, ?_, (Hv5.out.keepNe (b := w.heap.size) (.inl ?_) (fun k _ hk => put_block _ _ _ _ _ hk)).wide ?_ ?_, ?_⟩; (case refine_1 => (go_simp; done)); (case refine_2 => (simp; done)); (case refine_3 => (simp; done)); (case refine_4 => (rw [size_put]; exact hzr)); (case refine_5 => ((repeat' (first | (with_reducible exact Below.refl _ _) | (with_reducible assumption) | (with_reducible refine bel_trans (by assumption) ?_ ?_) | (with_reducible refine bel_grown (by assumption) ?_ ?_ ?_) | (with_reducible refine Below.alloc ?_ ?_ _) | (with_reducible refine Below.drew ?_) | (with_reducible refine below_drewN ?_ _) | (with_reducible refine Below.setCell ?_ ?_ _) | (with_reducible refine below_put ?_ ?_ _ _) | (with_reducible exact Nat.le_refl _) | omega | (with_reducible refine Nat.le_trans ?_ (Below.size (by assumption))) | (with_reducible refine Nat.le_trans ?_ (World.grownBy.size (by assumption))) | (simp only [World.size_alloc, World.size_setCell, World.size_drew, size_drewN]; omega) | (simp only [World.size_alloc, World.size_setCell, World.size_drew, size_drewN, size_put]; omega) | (intro k hk; simp [Value.ownBlock] at hk; done) | (intro k hk; simp [Value.ownBlock] at hk; omega) | (simp [size_drewN] at *; omega)))))))))
  · have hX : X = (⟨0, zeroPt, zeroPt, []⟩, 4) := by rw [← HX.out]; simp [he]
    subst hX
    have hd := dec_false he
    clear he hvl
    go_wp2_with (with_reducible refine ret_row2 Try.isAgg61 Try.sizeOf61 readv_res (x := .pointer (some ⟨w.heap.size, 0, none⟩)) (y := .int .i64 4) (w.heap.size) 0 ?rrhx (Eq.refl _) ?rrhy ?rrh ?rrhd ?rrhR; (case rrhx => simp only [Array.getD_eq_getD_getElem?, List.getElem?_toArray, List.getElem?_cons_succ, List.getElem?_cons_zero, Option.getD_some]); (case rrhy => simp only [Array.getD_eq_getD_getElem?, List.getElem?_toArray, List.getElem?_cons_succ, List.getElem?_cons_zero, Option.getD_some]); (case rrhd => exact rfl); (case rrh => go_simp); (case rrhR => ((refine ⟨⟨0, zeroPt, zeroPt, ⟨none, 0, 0⟩⟩, ?_, VoteO.zero _ _ _ _ _, ?_⟩; (case refine_1 => (go_simp; done)); (case refine_2 => ((repeat' (first | (with_reducible exact Below.refl _ _) | (with_reducible assumption) | (with_reducible refine bel_trans (by assumption) ?_ ?_) | (with_reducible refine bel_grown (by assumption) ?_ ?_ ?_) | (with_reducible refine Below.alloc ?_ ?_ _) | (with_reducible refine Below.drew ?_) | (with_reducible refine below_drewN ?_ _) | (with_reducible refine Below.setCell ?_ ?_ _) | (with_reducible refine below_put ?_ ?_ _ _) | (with_reducible exact Nat.le_refl _) | omega | (with_reducible refine Nat.le_trans ?_ (Below.size (by assumption))) | (with_reducible refine Nat.le_trans ?_ (World.grownBy.size (by assumption))) | (simp only [World.size_alloc, World.size_setCell, World.size_drew, size_drewN]; omega) | (simp only [World.size_alloc, World.size_setCell, World.size_drew, size_drewN, size_put]; omega) | (intro k hk; simp [Value.ownBlock] at hk; done) | (intro k hk; simp [Value.ownBlock] at hk; omega) | (simp [size_drewN] at *; omega)))))))))
end Go.Proofs.Ytbpbnnonialelaa
