/- Contracts: ref09.vote, VoteOf. -/
import Derived.Test.YtbpbnnonialelaaRefText
namespace Go.Proofs.Ytbpbnnonialelaa
open Go.RowKit

theorem row_grown {w w' : World} {r b o n : Nat} (hg : w.grownBy w' (some r)) (hb : b < w.heap.size) (hr : b ≠ r) : row? w' b o n = row? w b o n := by
  unfold row?
  rw [hg.block b hb (by intro e; injection e; omega)]
theorem there_grown {w w' : World} {r b o n : Nat} (hg : w.grownBy w' (some r)) (hb : b < w.heap.size) (hr : b ≠ r) (h : there w b o n) : there w' b o n := fun j hj => by
  have hk := hg.block b hb (by intro e; injection e; omega)
  obtain ⟨h1, h2⟩ := h j hj
  exact ⟨by rw [World.cell?_of_block (a := ⟨b, o + j, none⟩) hk]; exact h1, by rw [World.frozen?_of_block (a := ⟨b, o + j, none⟩) hk]; exact h2⟩
/-- a vote of the call's own, in a row of its own -/
def LV (W : World) (b : Nat) (u : GVote) : Prop := row? W b 0 68 = some (voteA u) ∧ there W b 0 68
theorem LV.grown {w w' : World} {r b : Nat} {u : GVote} (h : LV w b u) (hg : w.grownBy w' (some r)) (hb : b < w.heap.size) (hr : b ≠ r) : LV w' b u := ⟨(row_grown hg hb hr).trans h.1, there_grown hg hb hr h.2⟩
theorem LV.below {w w' : World} {B b : Nat} {u : GVote} (h : LV w b u) (hB : Below B w w') (hb : b < B) : LV w' b u := ⟨(row?_below _ _ _ hB hb).trans h.1, there_below hB hb h.2⟩
theorem cell_row {w : World} {b n : Nat} {l : Array Value} (h : row? w b 0 n = some l) (i : Nat) (hi : i < n) : w.cell? ⟨b, i, none⟩ = l[i]? := by
  obtain ⟨cs, t, fr, hg, hle, rfl⟩ := row?_some h
  rw [cell_of_row w b i cs t fr hg, Array.getElem?_extract]
  simp only [Nat.zero_add] at hle ⊢
  rw [if_pos (by omega)]
theorem LV.cell0 {W : World} {b : Nat} {u : GVote} (h : LV W b u) : W.cell? ⟨b, 0, none⟩ = some (.int .i64 u.validator) ∧ W.frozen? ⟨b, 0, none⟩ = false :=
  ⟨(cell_row h.1 0 (by omega)).trans (by simp), by simpa using (h.2 0 (by omega)).2⟩
theorem LV.cell67 {W : World} {b : Nat} {u : GVote} (h : LV W b u) : W.cell? ⟨b, 67, none⟩ = some u.sig.v ∧ W.frozen? ⟨b, 67, none⟩ = false :=
  ⟨(cell_row h.1 67 (by omega)).trans (by simp), by simpa using (h.2 67 (by omega)).2⟩

theorem splice_vote_sig (v : GVote) (a : Option Addr) (n c : Nat) : splice (voteA v) 67 #[.slice a n c] = voteA { v with sig := ⟨a, n, c⟩ } := by
  rw [← set_splice _ _ _ (by simp), voteA_set_sig']
theorem splice_vote_val (v : GVote) (k : Int) : splice (voteA v) 0 #[.int .i64 k] = voteA { v with validator := k } := by
  rw [← set_splice _ _ _ (by simp), voteA_set_validator]
attribute [go_sem] splice_vote_sig splice_vote_val
theorem fvote_res : Try.f83.results = #[.cell 2 61] := by kernel_rfl
set_option maxRecDepth 100000 in
set_option maxHeartbeats 1600000 in
theorem fvote_c (r : Nat) (st : Option (List UInt8)) (w : World) {lo : Nat} (h : RfR lo w r st) :
    Calls Try.prog 83 #[.pointer (some ⟨r, 0, none⟩)] w fun e w' => ∃ g, e = .returned (.agg (voteA g)) ∧ VoteR w' g (rdVote st).2 ∧ LowSl 0 lo g.sig (rdVote st).2.sig ∧ RfR lo w' r (rdVote st).1 ∧ w.grownBy w' (some r) := by
  have hlt := h.lt
  have hle := h.le
  have HC := fun W (hW : RfR lo W r st) => fnum_c r st 1 W hW (by omega)
  have hn := rdNum_lt st 1
  have hzc := zc_vote
  unfold rdVote
  generalize rdNum st 1 = a at *
  obtain ⟨a1, a2⟩ := a
  simp only at hn HC ⊢
  have HP := fun W (hW : RfR lo W r a1) => fpoint_c r a1 W hW
  generalize rdPoint a1 = b at *
  obtain ⟨b1, b2⟩ := b
  have HQ := fun W (hW : RfR lo W r b1) => fpoint_c r b1 W hW
  simp only at HP HQ ⊢
  generalize rdPoint b1 = c at *
  obtain ⟨c1, c2⟩ := c
  have HB := fun W (hW : RfR lo W r c1) => fblob_c r c1 W hW
  simp only at HQ HB ⊢
  generalize rdBlob c1 = d at *
  obtain ⟨d1, d2⟩ := d
  simp only at HB ⊢
  have hw : IntKind.i64.wrap (a2 : Int) = a2 := IntWalk.i64_in _ (by omega)
  have Hh := Lib.hid h
  clear h hn
  have V0 : LV ((w.alloc (.cells (voteA ⟨0, zeroPt, zeroPt, ⟨none, 0, 0⟩⟩) 61)).alloc (.cells (voteA ⟨0, zeroPt, zeroPt, ⟨none, 0, 0⟩⟩) 61)) w.heap.size ⟨0, zeroPt, zeroPt, ⟨none, 0, 0⟩⟩ :=
    ⟨by rw [row?_old _ _ _ _ _ (by simp), row?_new]; simp, there_below (bel_a _ _) (by simp) (there_new w _ _ _ _ (by simp))⟩
  have V1 : LV ((w.alloc (.cells (voteA ⟨0, zeroPt, zeroPt, ⟨none, 0, 0⟩⟩) 61)).alloc (.cells (voteA ⟨0, zeroPt, zeroPt, ⟨none, 0, 0⟩⟩) 61)) (w.heap.size + 1) ⟨0, zeroPt, zeroPt, ⟨none, 0, 0⟩⟩ :=
    ⟨by rw [row?_new_at _ _ _ _ _ _ (by simp)]; simp, there_new_at _ _ _ _ _ _ (by simp) (by simp)⟩
  have hG0 : w.grownBy ((w.alloc (.cells (voteA ⟨0, zeroPt, zeroPt, ⟨none, 0, 0⟩⟩) 61)).alloc (.cells (voteA ⟨0, zeroPt, zeroPt, ⟨none, 0, 0⟩⟩) 61)) (some r) := (World.grownBy_alloc w _ _).trans (World.grownBy_alloc _ _ _)
  have hs0 : ((w.alloc (.cells (voteA ⟨0, zeroPt, zeroPt, ⟨none, 0, 0⟩⟩) 61)).alloc (.cells (voteA ⟨0, zeroPt, zeroPt, ⟨none, 0, 0⟩⟩) 61)).heap.size = w.heap.size + 2 := by simp
  have hR0 := (Hh.out.keep (bel_a w (.cells (voteA ⟨0, zeroPt, zeroPt, ⟨none, 0, 0⟩⟩) 61))).keep (bel_a _ (.cells (voteA ⟨0, zeroPt, zeroPt, ⟨none, 0, 0⟩⟩) 61))
  go_enter Try.func83, Try.ntmps83
  go_wp2_with fail
  generalize (w.alloc (.cells (voteA ⟨0, zeroPt, zeroPt, ⟨none, 0, 0⟩⟩) 61)).alloc (.cells (voteA ⟨0, zeroPt, zeroPt, ⟨none, 0, 0⟩⟩) 61) = W0 at *
  refine (HC _ hR0).mono ?_
  clear HC
  rintro e w1 ⟨rfl, hr1, hg1⟩
  have hz1 := hg1.size
  have V0 := V0.grown hg1 (by omega) (by omega)
  have V1 := V1.grown hg1 (by omega) (by omega)
  have G1 := hG0.trans hg1
  obtain ⟨ca, cb⟩ := V1.cell0
  clear hg1 hR0 hG0
  go_wp2_with fail
  have V1' : LV (w1.setCell ⟨w.heap.size + 1, 0, none⟩ (.int .i64 a2)) (w.heap.size + 1) ⟨a2, zeroPt, zeroPt, ⟨none, 0, 0⟩⟩ := by
    obtain ⟨q1, q2⟩ := V1
    refine ⟨?_, ?_⟩
    · rw [row?_set_in' _ _ _ _ _ (by omega), q1, Option.map_some, ← set_splice _ _ _ (by simp), voteA_set_validator]
    · go_simp
  have B1 : Below (w.heap.size + 1) w1 (w1.setCell ⟨w.heap.size + 1, 0, none⟩ (.int .i64 a2)) := ⟨rfl, rfl, rfl, by simp, fun b hb => Below.heap_setCell w1 ⟨w.heap.size + 1, 0, none⟩ _ b (by simp only; omega)⟩
  have hr1' := hr1.keepB (D := w.heap.size + 1) (by omega) B1
  have V0' := V0.below B1 (by omega)
  have G1' := grown_below G1 B1 (by omega)
  have hz1' : w.heap.size + 2 ≤ (w1.setCell ⟨w.heap.size + 1, 0, none⟩ (.int .i64 a2)).heap.size := by rw [World.size_setCell]; omega
  clear V0 V1 hr1 G1 B1 ca cb hz1
  generalize w1.setCell ⟨w.heap.size + 1, 0, none⟩ (.int .i64 a2) = W1 at *
  refine (HP _ hr1').mono ?_
  clear HP
  rintro e w2 ⟨rfl, hr2, hg2⟩
  have hz2 := hg2.size
  have V0 := V0'.grown hg2 (by omega) (by omega)
  have V1 := V1'.grown hg2 (by omega) (by omega)
  have G2 := G1'.trans hg2
  have th2 : there w2 (w.heap.size + 1) 1 33 := there_part V1.2 (by omega) (by omega)
  clear hg2 hr1' V0' V1' G1'
  go_wp2_with fail
  have V1' : LV (putRow w2 (w.heap.size + 1) 1 (pointA b2)) (w.heap.size + 1) ⟨a2, b2, zeroPt, ⟨none, 0, 0⟩⟩ := by
    obtain ⟨q1, q2⟩ := V1
    refine ⟨?_, ?_⟩ <;> go_simp
  have B1 : Below (w.heap.size + 1) w2 (putRow w2 (w.heap.size + 1) 1 (pointA b2)) := below_put (Below.refl _ _) (Nat.le_refl _) _ _
  have hr1' := hr2.keepB (D := w.heap.size + 1) (by omega) B1
  have V0' := V0.below B1 (by omega)
  have G1' := grown_below G2 B1 (by omega)
  have hz1 : w.heap.size + 2 ≤ (putRow w2 (w.heap.size + 1) 1 (pointA b2)).heap.size := by rw [size_put]; omega
  clear V0 V1 hr2 G2 B1 th2 hz2 hz1'
  generalize putRow w2 (w.heap.size + 1) 1 (pointA b2) = W2 at *
  refine (HQ _ hr1').mono ?_
  clear HQ
  rintro e w3 ⟨rfl, hr3, hg3⟩
  have hz3 := hg3.size
  have V0 := V0'.grown hg3 (by omega) (by omega)
  have V1 := V1'.grown hg3 (by omega) (by omega)
  have G3 := G1'.trans hg3
  have th3 : there w3 (w.heap.size + 1) 34 33 := there_part V1.2 (by omega) (by omega)
  clear hg3 hr1' V0' V1' G1'
  go_wp2_with fail
  have V1' : LV (putRow w3 (w.heap.size + 1) 34 (pointA c2)) (w.heap.size + 1) ⟨a2, b2, c2, ⟨none, 0, 0⟩⟩ := by
    obtain ⟨q1, q2⟩ := V1
    refine ⟨?_, ?_⟩ <;> go_simp
  have B1 : Below (w.heap.size + 1) w3 (putRow w3 (w.heap.size + 1) 34 (pointA c2)) := below_put (Below.refl _ _) (Nat.le_refl _) _ _
  have hr1' := hr3.keepB (D := w.heap.size + 1) (by omega) B1
  have V0' := V0.below B1 (by omega)
  have G1' := grown_below G3 B1 (by omega)
  have hz1' : w.heap.size + 2 ≤ (putRow w3 (w.heap.size + 1) 34 (pointA c2)).heap.size := by rw [size_put]; omega
  clear V0 V1 hr3 G3 B1 th3 hz3 hz1
  generalize putRow w3 (w.heap.size + 1) 34 (pointA c2) = W3 at *
  refine (HB _ hr1').mono ?_
  clear HB
  rintro e w4 ⟨s, rfl, hs, hlow, hr4, hg4⟩
  have hz4 := hg4.size
  have V0 := V0'.grown hg4 (by omega) (by omega)
  have V1 := V1'.grown hg4 (by omega) (by omega)
  have G4 := G1'.trans hg4
  obtain ⟨ca, cb⟩ := V1.cell67
  obtain ⟨q1, q2⟩ := V1
  obtain ⟨hrow, hth⟩ := V0
  obtain ⟨sa, sn, sc⟩ := s
  dsimp only [Sl.v] at ca ⊢
  have Hs := Lib.hid hs
  have Hlow := Lib.hid hlow
  have HR := Lib.hid hr4
  have HG := Lib.hid G4
  have hlt1 : w.heap.size < w4.heap.size := by omega
  have hne : w.heap.size ≠ w.heap.size + 1 := by omega
  clear hg4 hr1' V0' V1' G1' hs hlow hr4 G4
  go_wp2_with fail
  with_reducible refine ret_row Try.isAgg61 Try.sizeOf61 fvote_res (x := .pointer (some ⟨w.heap.size, 0, none⟩)) (w.heap.size) 0 ?rrhx (Eq.refl _) ?rrh ?rrhd ?rrhR; (case rrhx => simp only [Array.getD_eq_getD_getElem?, List.getElem?_toArray, List.getElem?_cons_succ, List.getElem?_cons_zero, Option.getD_some]); (case rrhd => exact rfl); (case rrh => go_simp); (case rrhR => ((refine ⟨⟨a2, b2, c2, ⟨sa, sn, sc⟩⟩, ?_, VoteR.mk (BytesR.keepLow Hs.out Hlow.out (fun b hb => Below.block (B := w.heap.size) ?_ b (Nat.lt_trans hb (Nat.lt_of_le_of_lt hle hlt)))), Hlow.out, HR.out.keepB hlt ?_, grown_below (D := w.heap.size) HG.out ?_ (Nat.le_refl _)⟩; (case refine_1 => (go_simp; done)); (case refine_2 => ((repeat' (first | (with_reducible exact Below.refl _ _) | (with_reducible assumption) | (with_reducible refine bel_trans (by assumption) ?_ ?_) | (with_reducible refine bel_grown (by assumption) ?_ ?_ ?_) | (with_reducible refine Below.alloc ?_ ?_ _) | (with_reducible refine Below.drew ?_) | (with_reducible refine below_drewN ?_ _) | (with_reducible refine Below.setCell ?_ ?_ _) | (with_reducible refine below_put ?_ ?_ _ _) | (with_reducible exact Nat.le_refl _) | omega | (with_reducible refine Nat.le_trans ?_ (Below.size (by assumption))) | (with_reducible refine Nat.le_trans ?_ (World.grownBy.size (by assumption))) | (simp only [World.size_alloc, World.size_setCell, World.size_drew, size_drewN]; omega) | (simp only [World.size_alloc, World.size_setCell, World.size_drew, size_drewN, size_put]; omega) | (intro k hk; simp [Value.ownBlock] at hk; done) | (intro k hk; simp [Value.ownBlock] at hk; omega) | (simp [size_drewN] at *; omega))))); (case refine_3 => ((repeat' (first | (with_reducible exact Below.refl _ _) | (with_reducible assumption) | (with_reducible refine bel_trans (by assumption) ?_ ?_) | (with_reducible refine bel_grown (by assumption) ?_ ?_ ?_) | (with_reducible refine Below.alloc ?_ ?_ _) | (with_reducible refine Below.drew ?_) | (with_reducible refine below_drewN ?_ _) | (with_reducible refine Below.setCell ?_ ?_ _) | (with_reducible refine below_put ?_ ?_ _ _) | (with_reducible exact Nat.le_refl _) | omega | (with_reducible refine Nat.le_trans ?_ (Below.size (by assumption))) | (with_reducible refine Nat.le_trans ?_ (World.grownBy.size (by assumption))) | (simp only [World.size_alloc, World.size_setCell, World.size_drew, size_drewN]; omega) | (simp only [World.size_alloc, World.size_setCell, World.size_drew, size_drewN, size_put]; omega) | (intro k hk; simp [Value.ownBlock] at hk; done) | (intro k hk; simp [Value.ownBlock] at hk; omega) | (simp [size_drewN] at *; omega))))); (case refine_4 => ((repeat' (first | (with_reducible exact Below.refl _ _) | (with_reducible assumption) | (with_reducible refine bel_trans (by assumption) ?_ ?_) | (with_reducible refine bel_grown (by assumption) ?_ ?_ ?_) | (with_reducible refine Below.alloc ?_ ?_ _) | (with_reducible refine Below.drew ?_) | (with_reducible refine below_drewN ?_ _) | (with_reducible refine Below.setCell ?_ ?_ _) | (with_reducible refine below_put ?_ ?_ _ _) | (with_reducible exact Nat.le_refl _) | omega | (with_reducible refine Nat.le_trans ?_ (Below.size (by assumption))) | (with_reducible refine Nat.le_trans ?_ (World.grownBy.size (by assumption))) | (simp only [World.size_alloc, World.size_setCell, World.size_drew, size_drewN]; omega) | (simp only [World.size_alloc, World.size_setCell, World.size_drew, size_drewN, size_put]; omega) | (intro k hk; simp [Value.ownBlock] at hk; done) | (intro k hk; simp [Value.ownBlock] at hk; omega) | (simp [size_drewN] at *; omega))))))))
end Go.Proofs.Ytbpbnnonialelaa
