/- Contracts: codec.read at points; PointOf, VoteOf, VoteBytes, HeaderBytes. -/
import Derived.Test.YtbpbnnonialelaaReadVote
import Derived.Test.YtbpbnnonialelaaHdrBytes
namespace Go.Proofs.Ytbpbnnonialelaa
open Go.RowKit

/-- the checkpoint of bytes, and the error -/
def pointOf (l : List UInt8) : Pt × Int := if (rdPoint (some l)).1 = some [] ∧ mayPt (rdPoint (some l)).2 = true ∧ ptBytes (rdPoint (some l)).2 = l then ((rdPoint (some l)).2, 0) else (zeroPt, 4)
theorem readp_res : Try.f88.results = #[.cell 8 29, .tmp 9] := by kernel_rfl

set_option maxRecDepth 100000 in
set_option maxHeartbeats 800000 in
theorem readPoints_c (s : Sl) (l : List UInt8) (w : World) (hs : BytesR w s l) (hl : l.length ≤ 140737488355328) :
    Calls Try.prog 88 #[s.v, .func (.func 89) #[] #[], .func (.func 46) #[] #[], .func (.func 76) #[] #[]] w
      fun e w' => e = .returned (.tuple #[.agg (pointA (pointOf l).1), .int .i64 (pointOf l).2]) ∧ Below w.heap.size w w' := by
  have HR := fun r lo W (h : RdR lo W r (some l)) => readPoint_c r (some l) W h
  unfold pointOf
  generalize rdPoint (some l) = res at *
  obtain ⟨st, v⟩ := res
  simp only at HR ⊢
  have Hs := Lib.hid hs
  clear hs
  generalize hX : (if st = some [] ∧ mayPt v = true ∧ ptBytes v = l then (v, (0 : Int)) else (zeroPt, 4)) = X
  have HX := Lib.hid hX
  clear hX
  go_enter Try.func88, Try.ntmps88
  go_wp2_with fail
  refine (read_c s l _ (Hs.out.keep (bel_a _ _)) hl).mono ?_
  rintro e w1 ⟨r, rfl, hlr, hr1, hb1⟩
  simp only [World.size_alloc] at hlr
  have hz1 : w.heap.size < w1.heap.size := by have := hb1.size; simp at this; omega
  go_wp2_with fail
  refine (HR r _ w1 hr1).mono ?_
  clear HR
  rintro e w2 ⟨rfl, hr2, hg2⟩
  have hB2 : Below w.heap.size w w2 := bel_grown hg2 (by (repeat' (first | (with_reducible exact Below.refl _ _) | (with_reducible assumption) | (with_reducible refine bel_trans (by assumption) ?_ ?_) | (with_reducible refine bel_grown (by assumption) ?_ ?_ ?_) | (with_reducible refine Below.alloc ?_ ?_ _) | (with_reducible refine Below.drew ?_) | (with_reducible refine below_drewN ?_ _) | (with_reducible refine Below.setCell ?_ ?_ _) | (with_reducible refine below_put ?_ ?_ _ _) | (with_reducible exact Nat.le_refl _) | omega | (with_reducible refine Nat.le_trans ?_ (Below.size (by assumption))) | (with_reducible refine Nat.le_trans ?_ (World.grownBy.size (by assumption))) | (simp only [World.size_alloc, World.size_setCell, World.size_drew, size_drewN]; omega) | (simp only [World.size_alloc, World.size_setCell, World.size_drew, size_drewN, size_put]; omega) | (intro k hk; simp [Value.ownBlock] at hk; done) | (intro k hk; simp [Value.ownBlock] at hk; omega) | (simp [size_drewN] at *; omega)))) (by omega) (by intro k hk; injection hk; omega)
  have hblk : w2.heap[w.heap.size]? = some (.cells (pointA zeroPt) 29 (0, 0)) := (hg2.block _ hz1 (by intro e; injection e; omega)).trans ((hb1.block _ (by simp)).trans (heap_alloc_new w _))
  have hrow : row? w2 w.heap.size 0 33 = some (pointA zeroPt) := by
    unfold row?
    rw [hblk]
    simp
  have hth : there w2 w.heap.size 0 33 := there_block hblk (by simp)
  have hz2 : w.heap.size < w2.heap.size := by have := hg2.size; omega
  have hne2 : w.heap.size ≠ w2.heap.size := by omega
  have hz2' : w.heap.size < w2.heap.size + 1 := by omega
  have HB2 := Lib.hid hB2
  have Hr2 := Lib.hid hr2
  clear hg2 hb1 hblk hr1 hB2 hr2
  go_wp2_with fail
  refine (rend_c r st _ (Hr2.out.keep (by (repeat' (first | (with_reducible exact Below.refl _ _) | (with_reducible assumption) | (with_reducible refine bel_trans (by assumption) ?_ ?_) | (with_reducible refine bel_grown (by assumption) ?_ ?_ ?_) | (with_reducible refine Below.alloc ?_ ?_ _) | (with_reducible refine Below.drew ?_) | (with_reducible refine below_drewN ?_ _) | (with_reducible refine Below.setCell ?_ ?_ _) | (with_reducible refine below_put ?_ ?_ _ _) | (with_reducible exact Nat.le_refl _) | omega | (with_reducible refine Nat.le_trans ?_ (Below.size (by assumption))) | (with_reducible refine Nat.le_trans ?_ (World.grownBy.size (by assumption))) | (simp only [World.size_alloc, World.size_setCell, World.size_drew, size_drewN]; omega) | (simp only [World.size_alloc, World.size_setCell, World.size_drew, size_drewN, size_put]; omega) | (intro k hk; simp [Value.ownBlock] at hk; done) | (intro k hk; simp [Value.ownBlock] at hk; omega) | (simp [size_drewN] at *; omega)))))).mono ?_
  rintro e w3 ⟨rfl, rfl⟩
  have hB2 := HB2.out
  by_cases hst : st = some []
  case neg =>
    have hb := rdEnd_ne st hst
    have hX : X = (zeroPt, 4) := by rw [← HX.out, if_neg (fun h => hst h.1)]
    subst hX
    clear hst
    go_wp2_with (with_reducible refine ret_row2 Try.isAgg29 Try.sizeOf29 readp_res (x := .pointer (some ⟨w.heap.size, 0, none⟩)) (y := .int .i64 4) (w.heap.size) 0 ?rrhx (Eq.refl _) ?rrhy ?rrh ?rrhd ?rrhR; (case rrhx => simp only [Array.getD_eq_getD_getElem?, List.getElem?_toArray, List.getElem?_cons_succ, List.getElem?_cons_zero, Option.getD_some]); (case rrhy => simp only [Array.getD_eq_getD_getElem?, List.getElem?_toArray, List.getElem?_cons_succ, List.getElem?_cons_zero, Option.getD_some]); (case rrhd => exact rfl); (case rrh => go_simp); (case rrhR => ((refine ⟨?_, ?_⟩; (case refine_1 => (go_simp; done)); (case refine_2 => ((repeat' (first | (with_reducible exact Below.refl _ _) | (with_reducible assumption) | (with_reducible refine bel_trans (by assumption) ?_ ?_) | (with_reducible refine bel_grown (by assumption) ?_ ?_ ?_) | (with_reducible refine Below.alloc ?_ ?_ _) | (with_reducible refine Below.drew ?_) | (with_reducible refine below_drewN ?_ _) | (with_reducible refine Below.setCell ?_ ?_ _) | (with_reducible refine below_put ?_ ?_ _ _) | (with_reducible exact Nat.le_refl _) | omega | (with_reducible refine Nat.le_trans ?_ (Below.size (by assumption))) | (with_reducible refine Nat.le_trans ?_ (World.grownBy.size (by assumption))) | (simp only [World.size_alloc, World.size_setCell, World.size_drew, size_drewN]; omega) | (simp only [World.size_alloc, World.size_setCell, World.size_drew, size_drewN, size_put]; omega) | (intro k hk; simp [Value.ownBlock] at hk; done) | (intro k hk; simp [Value.ownBlock] at hk; omega) | (simp [size_drewN] at *; omega)))))))))
  subst hst
  have hb := rdEnd_eq
  have HM := fun W => mayPoint_c v W
  go_wp2_with fail
  refine (HM _).mono ?_
  clear HM
  rintro e w3 ⟨rfl, hb3⟩
  obtain ⟨k1, k2, k3⟩ := kept hb3
  have hB3 : Below w.heap.size w w3 := by (repeat' (first | (with_reducible exact Below.refl _ _) | (with_reducible assumption) | (with_reducible refine bel_trans (by assumption) ?_ ?_) | (with_reducible refine bel_grown (by assumption) ?_ ?_ ?_) | (with_reducible refine Below.alloc ?_ ?_ _) | (with_reducible refine Below.drew ?_) | (with_reducible refine below_drewN ?_ _) | (with_reducible refine Below.setCell ?_ ?_ _) | (with_reducible refine below_put ?_ ?_ _ _) | (with_reducible exact Nat.le_refl _) | omega | (with_reducible refine Nat.le_trans ?_ (Below.size (by assumption))) | (with_reducible refine Nat.le_trans ?_ (World.grownBy.size (by assumption))) | (simp only [World.size_alloc, World.size_setCell, World.size_drew, size_drewN]; omega) | (simp only [World.size_alloc, World.size_setCell, World.size_drew, size_drewN, size_put]; omega) | (intro k hk; simp [Value.ownBlock] at hk; done) | (intro k hk; simp [Value.ownBlock] at hk; omega) | (simp [size_drewN] at *; omega)))
  have hth3 : there w3 w.heap.size 0 33 := there_below hb3 (by simp [size_put]; omega) (by go_simp)
  have hrow3 : row? w3 w.heap.size 0 33 = some (pointA zeroPt) := by
    rw [k3 _ _ _ (by simp [size_put]; omega)]
    go_simp
  have hrowx : row? w3 w2.heap.size 0 33 = some (pointA v) := by
    rw [k3 _ _ _ (by simp [size_put])]
    go_simp
  have hz3 : w2.heap.size < w3.heap.size := by have := hb3.size; simp [size_put] at this; omega
  have hBx : Below w2.heap.size w2 w3 := bel_trans hb3 (by (repeat' (first | (with_reducible exact Below.refl _ _) | (with_reducible assumption) | (with_reducible refine bel_trans (by assumption) ?_ ?_) | (with_reducible refine bel_grown (by assumption) ?_ ?_ ?_) | (with_reducible refine Below.alloc ?_ ?_ _) | (with_reducible refine Below.drew ?_) | (with_reducible refine below_drewN ?_ _) | (with_reducible refine Below.setCell ?_ ?_ _) | (with_reducible refine below_put ?_ ?_ _ _) | (with_reducible exact Nat.le_refl _) | omega | (with_reducible refine Nat.le_trans ?_ (Below.size (by assumption))) | (with_reducible refine Nat.le_trans ?_ (World.grownBy.size (by assumption))) | (simp only [World.size_alloc, World.size_setCell, World.size_drew, size_drewN]; omega) | (simp only [World.size_alloc, World.size_setCell, World.size_drew, size_drewN, size_put]; omega) | (intro k hk; simp [Value.ownBlock] at hk; done) | (intro k hk; simp [Value.ownBlock] at hk; omega) | (simp [size_drewN] at *; omega)))) (by simp [size_put])
  have HBx := Lib.hid hBx
  have hne3 : w.heap.size ≠ w3.heap.size := by omega
  have hzz3 : w.heap.size < w3.heap.size := by omega
  clear k1 k2 k3 hb3 hth hrow hB2 hBx
  cases hm : mayPt v
  · have hX : X = (zeroPt, 4) := by rw [← HX.out]; simp [hm]
    subst hX
    clear hm
    go_wp2_with (with_reducible refine ret_row2 Try.isAgg29 Try.sizeOf29 readp_res (x := .pointer (some ⟨w.heap.size, 0, none⟩)) (y := .int .i64 4) (w.heap.size) 0 ?rrhx (Eq.refl _) ?rrhy ?rrh ?rrhd ?rrhR; (case rrhx => simp only [Array.getD_eq_getD_getElem?, List.getElem?_toArray, List.getElem?_cons_succ, List.getElem?_cons_zero, Option.getD_some]); (case rrhy => simp only [Array.getD_eq_getD_getElem?, List.getElem?_toArray, List.getElem?_cons_succ, List.getElem?_cons_zero, Option.getD_some]); (case rrhd => exact rfl); (case rrh => go_simp); (case rrhR => ((refine ⟨?_, ?_⟩; (case refine_1 => (go_simp; done)); (case refine_2 => ((repeat' (first | (with_reducible exact Below.refl _ _) | (with_reducible assumption) | (with_reducible refine bel_trans (by assumption) ?_ ?_) | (with_reducible refine bel_grown (by assumption) ?_ ?_ ?_) | (with_reducible refine Below.alloc ?_ ?_ _) | (with_reducible refine Below.drew ?_) | (with_reducible refine below_drewN ?_ _) | (with_reducible refine Below.setCell ?_ ?_ _) | (with_reducible refine below_put ?_ ?_ _ _) | (with_reducible exact Nat.le_refl _) | omega | (with_reducible refine Nat.le_trans ?_ (Below.size (by assumption))) | (with_reducible refine Nat.le_trans ?_ (World.grownBy.size (by assumption))) | (simp only [World.size_alloc, World.size_setCell, World.size_drew, size_drewN]; omega) | (simp only [World.size_alloc, World.size_setCell, World.size_drew, size_drewN, size_put]; omega) | (intro k hk; simp [Value.ownBlock] at hk; done) | (intro k hk; simp [Value.ownBlock] at hk; omega) | (simp [size_drewN] at *; omega)))))))))
  have Hm := Lib.hid hm
  clear hm
  go_wp2_with fail
  (with_reducible refine (point_c v w3).mono ?_)
  rintro e w4 ⟨x, rfl, ho, hb4⟩
  obtain ⟨s2, rfl⟩ := ho.slice
  obtain ⟨k1, k2, k3⟩ := kept hb4
  have hB4 : Below w.heap.size w w4 := by (repeat' (first | (with_reducible exact Below.refl _ _) | (with_reducible assumption) | (with_reducible refine bel_trans (by assumption) ?_ ?_) | (with_reducible refine bel_grown (by assumption) ?_ ?_ ?_) | (with_reducible refine Below.alloc ?_ ?_ _) | (with_reducible refine Below.drew ?_) | (with_reducible refine below_drewN ?_ _) | (with_reducible refine Below.setCell ?_ ?_ _) | (with_reducible refine below_put ?_ ?_ _ _) | (with_reducible exact Nat.le_refl _) | omega | (with_reducible refine Nat.le_trans ?_ (Below.size (by assumption))) | (with_reducible refine Nat.le_trans ?_ (World.grownBy.size (by assumption))) | (simp only [World.size_alloc, World.size_setCell, World.size_drew, size_drewN]; omega) | (simp only [World.size_alloc, World.size_setCell, World.size_drew, size_drewN, size_put]; omega) | (intro k hk; simp [Value.ownBlock] at hk; done) | (intro k hk; simp [Value.ownBlock] at hk; omega) | (simp [size_drewN] at *; omega)))
  have hz4 : w2.heap.size < w4.heap.size := by have := hb4.size; omega
  have hth4 : there w4 w.heap.size 0 33 := there_below hb4 (by omega) hth3
  have hrow4 : row? w4 w.heap.size 0 33 = some (pointA zeroPt) := by rw [k3 _ _ _ (by omega)]; exact hrow3
  have hrowy : row? w4 w2.heap.size 0 33 = some (pointA v) := by rw [k3 _ _ _ hz3]; exact hrowx
  have hvl := ptBytes_length v
  have HB4 := Lib.hid hB4
  clear k1 k2 k3 hb4 hth3 hrow3 hrowx hB3 hB4
  go_wp2_with fail
  (with_reducible refine (sequal_c s2 s (ptBytes v) l w4 ho.reads (Hs.out.keep HB4.out) (by omega)).mono ?_)
  rintro e w5 ⟨rfl, n, hw5⟩
  have hb5 : Below w4.heap.size w4 w5 := by rw [hw5]; exact below_drewN (Below.refl _ _) n
  clear hw5
  obtain ⟨k1, k2, k3⟩ := kept hb5
  have hth5 : there w5 w.heap.size 0 33 := there_below hb5 (by omega) hth4
  have hrow5 : row? w5 w.heap.size 0 33 = some (pointA zeroPt) := by rw [k3 _ _ _ (by omega)]; exact hrow4
  have hrowz : row? w5 w2.heap.size 0 33 = some (pointA v) := by rw [k3 _ _ _ hz4]; exact hrowy
  have hz5 := hb5.size
  have hne5 : w.heap.size ≠ w5.heap.size := by omega
  have hzz5 : w.heap.size < w5.heap.size := by omega
  have HB5 := Lib.hid hb5
  clear k1 k2 k3 hb5 hth4 hrow4 hrowy
  have hB5 : Below w.heap.size w w5 := HB4.out.trans (HB5.out.mono (by omega))
  by_cases he : ptBytes v = l
  · have hX : X = (v, 0) := by rw [← HX.out]; simp [Hm.out, he]
    subst hX
    have hd := dec_true he
    clear he hvl
    go_wp2_with (with_reducible refine ret_row2 Try.isAgg29 Try.sizeOf29 readp_res (x := .pointer (some ⟨w.heap.size, 0, none⟩)) (y := .int .i64 0) (w.heap.size) 0 ?rrhx (Eq.refl _) ?rrhy ?rrh ?rrhd ?rrhR; (case rrhx => simp only [Array.getD_eq_getD_getElem?, List.getElem?_toArray, List.getElem?_cons_succ, List.getElem?_cons_zero, Option.getD_some]); (case rrhy => simp only [Array.getD_eq_getD_getElem?, List.getElem?_toArray, List.getElem?_cons_succ, List.getElem?_cons_zero, Option.getD_some]); (case rrhd => exact rfl); (case rrh => go_simp); (case rrhR => ((refine ⟨?_, ?_⟩; (case refine_1 => (go_simp; done)); (case refine_2 => ((repeat' (first | (with_reducible exact Below.refl _ _) | (with_reducible assumption) | (with_reducible refine bel_trans (by assumption) ?_ ?_) | (with_reducible refine bel_grown (by assumption) ?_ ?_ ?_) | (with_reducible refine Below.alloc ?_ ?_ _) | (with_reducible refine Below.drew ?_) | (with_reducible refine below_drewN ?_ _) | (with_reducible refine Below.setCell ?_ ?_ _) | (with_reducible refine below_put ?_ ?_ _ _) | (with_reducible exact Nat.le_refl _) | omega | (with_reducible refine Nat.le_trans ?_ (Below.size (by assumption))) | (with_reducible refine Nat.le_trans ?_ (World.grownBy.size (by assumption))) | (simp only [World.size_alloc, World.size_setCell, World.size_drew, size_drewN]; omega) | (simp only [World.size_alloc, World.size_setCell, World.size_drew, size_drewN, size_put]; omega) | (intro k hk; simp [Value.ownBlock] at hk; done) | (intro k hk; simp [Value.ownBlock] at hk; omega) | (simp [size_drewN] at *; omega)))))))))
  · have hX : X = (zeroPt, 4) := by rw [← HX.out]; simp [he]
    subst hX
    have hd := dec_false he
    clear he hvl
    go_wp2_with (with_reducible refine ret_row2 Try.isAgg29 Try.sizeOf29 readp_res (x := .pointer (some ⟨w.heap.size, 0, none⟩)) (y := .int .i64 4) (w.heap.size) 0 ?rrhx (Eq.refl _) ?rrhy ?rrh ?rrhd ?rrhR; (case rrhx => simp only [Array.getD_eq_getD_getElem?, List.getElem?_toArray, List.getElem?_cons_succ, List.getElem?_cons_zero, Option.getD_some]); (case rrhy => simp only [Array.getD_eq_getD_getElem?, List.getElem?_toArray, List.getElem?_cons_succ, List.getElem?_cons_zero, Option.getD_some]); (case rrhd => exact rfl); (case rrh => go_simp); (case rrhR => ((refine ⟨?_, ?_⟩; (case refine_1 => (go_simp; done)); (case refine_2 => ((repeat' (first | (with_reducible exact Below.refl _ _) | (with_reducible assumption) | (with_reducible refine bel_trans (by assumption) ?_ ?_) | (with_reducible refine bel_grown (by assumption) ?_ ?_ ?_) | (with_reducible refine Below.alloc ?_ ?_ _) | (with_reducible refine Below.drew ?_) | (with_reducible refine below_drewN ?_ _) | (with_reducible refine Below.setCell ?_ ?_ _) | (with_reducible refine below_put ?_ ?_ _ _) | (with_reducible exact Nat.le_refl _) | omega | (with_reducible refine Nat.le_trans ?_ (Below.size (by assumption))) | (with_reducible refine Nat.le_trans ?_ (World.grownBy.size (by assumption))) | (simp only [World.size_alloc, World.size_setCell, World.size_drew, size_drewN]; omega) | (simp only [World.size_alloc, World.size_setCell, World.size_drew, size_drewN, size_put]; omega) | (intro k hk; simp [Value.ownBlock] at hk; done) | (intro k hk; simp [Value.ownBlock] at hk; omega) | (simp [size_drewN] at *; omega)))))))))

theorem ptof_res : Try.f44.results = #[.cell 2 29, .tmp 3] := by kernel_rfl
theorem vtof_res : Try.f40.results = #[.cell 2 61, .tmp 3] := by kernel_rfl

set_option maxRecDepth 100000 in
set_option maxHeartbeats 800000 in
theorem pointOf_c (s : Sl) (l : List UInt8) (w : World) (hs : BytesR w s l) (hl : l.length ≤ 140737488355328) :
    Calls Try.prog 44 #[s.v] w fun e w' => e = .returned (.tuple #[.agg (pointA (pointOf l).1), .int .i64 (pointOf l).2]) ∧ Below w.heap.size w w' := by
  have Hs := Lib.hid hs
  clear hs
  have HC := fun W h => readPoints_c s l W h hl
  generalize pointOf l = X at *
  go_enter Try.func44, Try.ntmps44
  go_wp2_with fail
  refine (HC _ (Hs.out.keep (bel_a _ _))).mono ?_
  clear HC
  rintro e w1 ⟨rfl, hb1⟩
  have hrow : row? w1 w.heap.size 0 33 = some (pointA zeroPt) := row_kept (by simpa using hb1) (by simp)
  have hth : there w1 w.heap.size 0 33 := there_below hb1 (by simp) (there_new w _ _ _ _ (by simp))
  have hB1 : Below w.heap.size w w1 := by (repeat' (first | (with_reducible exact Below.refl _ _) | (with_reducible assumption) | (with_reducible refine bel_trans (by assumption) ?_ ?_) | (with_reducible refine bel_grown (by assumption) ?_ ?_ ?_) | (with_reducible refine Below.alloc ?_ ?_ _) | (with_reducible refine Below.drew ?_) | (with_reducible refine below_drewN ?_ _) | (with_reducible refine Below.setCell ?_ ?_ _) | (with_reducible refine below_put ?_ ?_ _ _) | (with_reducible exact Nat.le_refl _) | omega | (with_reducible refine Nat.le_trans ?_ (Below.size (by assumption))) | (with_reducible refine Nat.le_trans ?_ (World.grownBy.size (by assumption))) | (simp only [World.size_alloc, World.size_setCell, World.size_drew, size_drewN]; omega) | (simp only [World.size_alloc, World.size_setCell, World.size_drew, size_drewN, size_put]; omega) | (intro k hk; simp [Value.ownBlock] at hk; done) | (intro k hk; simp [Value.ownBlock] at hk; omega) | (simp [size_drewN] at *; omega)))
  clear hb1
  go_wp2_with (with_reducible refine ret_row2 Try.isAgg29 Try.sizeOf29 ptof_res (x := .pointer (some ⟨w.heap.size, 0, none⟩)) (y := .int .i64 X.2) (w.heap.size) 0 ?rrhx (Eq.refl _) ?rrhy ?rrh ?rrhd ?rrhR; (case rrhx => simp only [Array.getD_eq_getD_getElem?, List.getElem?_toArray, List.getElem?_cons_succ, List.getElem?_cons_zero, Option.getD_some]); (case rrhy => simp only [Array.getD_eq_getD_getElem?, List.getElem?_toArray, List.getElem?_cons_succ, List.getElem?_cons_zero, Option.getD_some]); (case rrhd => exact rfl); (case rrh => go_simp); (case rrhR => ((refine ⟨?_, ?_⟩; (case refine_1 => (go_simp; done)); (case refine_2 => ((repeat' (first | (with_reducible exact Below.refl _ _) | (with_reducible assumption) | (with_reducible refine bel_trans (by assumption) ?_ ?_) | (with_reducible refine bel_grown (by assumption) ?_ ?_ ?_) | (with_reducible refine Below.alloc ?_ ?_ _) | (with_reducible refine Below.drew ?_) | (with_reducible refine below_drewN ?_ _) | (with_reducible refine Below.setCell ?_ ?_ _) | (with_reducible refine below_put ?_ ?_ _ _) | (with_reducible exact Nat.le_refl _) | omega | (with_reducible refine Nat.le_trans ?_ (Below.size (by assumption))) | (with_reducible refine Nat.le_trans ?_ (World.grownBy.size (by assumption))) | (simp only [World.size_alloc, World.size_setCell, World.size_drew, size_drewN]; omega) | (simp only [World.size_alloc, World.size_setCell, World.size_drew, size_drewN, size_put]; omega) | (intro k hk; simp [Value.ownBlock] at hk; done) | (intro k hk; simp [Value.ownBlock] at hk; omega) | (simp [size_drewN] at *; omega)))))))))

set_option maxRecDepth 100000 in
set_option maxHeartbeats 800000 in
theorem voteOf_c (s : Sl) (l : List UInt8) (w : World) (hs : BytesR w s l) (hl : l.length ≤ 140737488355328) :
    Calls Try.prog 40 #[s.v] w fun e w' => ∃ g, e = .returned (.tuple #[.agg (voteA g), .int .i64 (voteOf l).2]) ∧ VoteO w.heap.size w'.heap.size w' g (voteOf l).1 ∧ Below w.heap.size w w' := by
  have Hs := Lib.hid hs
  clear hs
  have HC := fun W h => readVotes_c s l W h hl
  have hzc := zc_vote
  generalize voteOf l = X at *
  go_enter Try.func40, Try.ntmps40
  go_wp2_with fail
  refine (HC _ (Hs.out.keep (bel_a _ _))).mono ?_
  clear HC
  rintro e w1 ⟨g, rfl, hv, hb1⟩
  have hrow : row? w1 w.heap.size 0 68 = some (voteA ⟨0, zeroPt, zeroPt, ⟨none, 0, 0⟩⟩) := row_kept (by simpa using hb1) (by simp)
  have hth : there w1 w.heap.size 0 68 := there_below hb1 (by simp) (there_new w _ _ _ _ (by simp))
  have hB1 : Below w.heap.size w w1 := by (repeat' (first | (with_reducible exact Below.refl _ _) | (with_reducible assumption) | (with_reducible refine bel_trans (by assumption) ?_ ?_) | (with_reducible refine bel_grown (by assumption) ?_ ?_ ?_) | (with_reducible refine Below.alloc ?_ ?_ _) | (with_reducible refine Below.drew ?_) | (with_reducible refine below_drewN ?_ _) | (with_reducible refine Below.setCell ?_ ?_ _) | (with_reducible refine below_put ?_ ?_ _ _) | (with_reducible exact Nat.le_refl _) | omega | (with_reducible refine Nat.le_trans ?_ (Below.size (by assumption))) | (with_reducible refine Nat.le_trans ?_ (World.grownBy.size (by assumption))) | (simp only [World.size_alloc, World.size_setCell, World.size_drew, size_drewN]; omega) | (simp only [World.size_alloc, World.size_setCell, World.size_drew, size_drewN, size_put]; omega) | (intro k hk; simp [Value.ownBlock] at hk; done) | (intro k hk; simp [Value.ownBlock] at hk; omega) | (simp [size_drewN] at *; omega)))
  have Hv := Lib.hid hv
  clear hb1 hv
  go_wp2_with (with_reducible refine ret_row2 Try.isAgg61 Try.sizeOf61 vtof_res (x := .pointer (some ⟨w.heap.size, 0, none⟩)) (y := .int .i64 X.2) (w.heap.size) 0 ?rrhx (Eq.refl _) ?rrhy ?rrh ?rrhd ?rrhR; (case rrhx => simp only [Array.getD_eq_getD_getElem?, List.getElem?_toArray, List.getElem?_cons_succ, List.getElem?_cons_zero, Option.getD_some]); (case rrhy => simp only [Array.getD_eq_getD_getElem?, List.getElem?_toArray, List.getElem?_cons_succ, List.getElem?_cons_zero, Option.getD_some]); (case rrhd => exact rfl); (case rrh => go_simp); (case rrhR => ((refine ⟨g, ?_, (Hv.out.keepNe (b := w.heap.size) (.inl ?_) (fun k _ hk => put_block _ _ _ _ _ hk)).wide ?_ ?_, ?_⟩; (case refine_1 => (go_simp; done)); (case refine_2 => (simp; done)); (case refine_3 => (simp; done)); (case refine_4 => (rw [size_put]; exact Nat.le_refl _)); (case refine_5 => ((repeat' (first | (with_reducible exact Below.refl _ _) | (with_reducible assumption) | (with_reducible refine bel_trans (by assumption) ?_ ?_) | (with_reducible refine bel_grown (by assumption) ?_ ?_ ?_) | (with_reducible refine Below.alloc ?_ ?_ _) | (with_reducible refine Below.drew ?_) | (with_reducible refine below_drewN ?_ _) | (with_reducible refine Below.setCell ?_ ?_ _) | (with_reducible refine below_put ?_ ?_ _ _) | (with_reducible exact Nat.le_refl _) | omega | (with_reducible refine Nat.le_trans ?_ (Below.size (by assumption))) | (with_reducible refine Nat.le_trans ?_ (World.grownBy.size (by assumption))) | (simp only [World.size_alloc, World.size_setCell, World.size_drew, size_drewN]; omega) | (simp only [World.size_alloc, World.size_setCell, World.size_drew, size_drewN, size_put]; omega) | (intro k hk; simp [Value.ownBlock] at hk; done) | (intro k hk; simp [Value.ownBlock] at hk; omega) | (simp [size_drewN] at *; omega)))))))))

theorem voteBytes_c (g : GVote) (v : Vote) (w : World) (hv : VoteR w g v) :
    Calls Try.prog 33 #[.agg (voteA g)] w fun e w' => ∃ s : Sl, e = toldV s (voteMay v) ∧ BytesR w' s (orNo (voteMay v) (vtBytes v)) ∧ Below w.heap.size w w' := by
  have Hv := Lib.hid hv
  have hm := hv.may
  clear hv
  cases h : voteMay v
  · rw [h] at hm
    have HC := fun W => toldVote_no g W hm
    clear hm h
    go_enter Try.func33, Try.ntmps33
    go_wp2_with fail
    refine (HC _).mono ?_
    rintro e w1 ⟨rfl, hb⟩
    go_wp2_with fail
    go_ret2
    exact ⟨⟨none, 0, 0⟩, rfl, BytesR.nil _ _ _, by (repeat' (first | (with_reducible exact Below.refl _ _) | (with_reducible assumption) | (with_reducible refine bel_trans (by assumption) ?_ ?_) | (with_reducible refine bel_grown (by assumption) ?_ ?_ ?_) | (with_reducible refine Below.alloc ?_ ?_ _) | (with_reducible refine Below.drew ?_) | (with_reducible refine below_drewN ?_ _) | (with_reducible refine Below.setCell ?_ ?_ _) | (with_reducible refine below_put ?_ ?_ _ _) | (with_reducible exact Nat.le_refl _) | omega | (with_reducible refine Nat.le_trans ?_ (Below.size (by assumption))) | (with_reducible refine Nat.le_trans ?_ (World.grownBy.size (by assumption))) | (simp only [World.size_alloc, World.size_setCell, World.size_drew, size_drewN]; omega) | (simp only [World.size_alloc, World.size_setCell, World.size_drew, size_drewN, size_put]; omega) | (intro k hk; simp [Value.ownBlock] at hk; done) | (intro k hk; simp [Value.ownBlock] at hk; omega) | (simp [size_drewN] at *; omega)))⟩
  · rw [h] at hm
    obtain ⟨m1, m2, m3, m4, m5⟩ := voteMay_out h
    have HC := fun W hW => toldVote_yes g v W hm hW m1 m2 m3
    clear hm h m4 m5
    go_enter Try.func33, Try.ntmps33
    go_wp2_with fail
    refine (HC _ (Hv.out.keep' (bel_a _ _))).mono ?_
    rintro e w1 ⟨x, rfl, ho, hb⟩
    obtain ⟨s, rfl⟩ := ho.slice
    go_wp2_with fail
    go_ret2
    exact ⟨s, rfl, ho.reads, by (repeat' (first | (with_reducible exact Below.refl _ _) | (with_reducible assumption) | (with_reducible refine bel_trans (by assumption) ?_ ?_) | (with_reducible refine bel_grown (by assumption) ?_ ?_ ?_) | (with_reducible refine Below.alloc ?_ ?_ _) | (with_reducible refine Below.drew ?_) | (with_reducible refine below_drewN ?_ _) | (with_reducible refine Below.setCell ?_ ?_ _) | (with_reducible refine below_put ?_ ?_ _ _) | (with_reducible exact Nat.le_refl _) | omega | (with_reducible refine Nat.le_trans ?_ (Below.size (by assumption))) | (with_reducible refine Nat.le_trans ?_ (World.grownBy.size (by assumption))) | (simp only [World.size_alloc, World.size_setCell, World.size_drew, size_drewN]; omega) | (simp only [World.size_alloc, World.size_setCell, World.size_drew, size_drewN, size_put]; omega) | (intro k hk; simp [Value.ownBlock] at hk; done) | (intro k hk; simp [Value.ownBlock] at hk; omega) | (simp [size_drewN] at *; omega)))⟩

theorem hdrMay_out {h : Hdr} (hm : hdrMay h = true) : h.ops.length ≤ 16 ∧ h.ops.all opMay = true := by
  simp only [hdrMay, Bool.and_eq_true, decide_eq_true_eq] at hm
  exact ⟨hm.1.2, hm.2⟩
theorem toldHdr_c (g : GHeader) (h : Hdr) (w : World) (hr : HdrR w g h) (hl : HdrFits h) :
    Calls Try.prog 71 #[.agg (headerA g), .func (.func 69) #[] #[], .func (.func 72) #[] #[]] w fun e w' => ∃ s : Sl, e = toldV s (hdrMay h) ∧ BytesR w' s (orNo (hdrMay h) (hdBytes h)) ∧ Below w.heap.size w w' := by
  have Hr := Lib.hid hr
  have HM := fun W hW => mayHeader_c g h W hW hl
  clear hr
  cases hm : hdrMay h
  · simp only [hm] at HM
    clear hm
    go_enter Try.func71, Try.ntmps71
    go_wp2_with fail
    refine (HM _ (HdrR.keep' Hr.out (by (repeat' (first | (with_reducible exact Below.refl _ _) | (with_reducible assumption) | (with_reducible refine bel_trans (by assumption) ?_ ?_) | (with_reducible refine bel_grown (by assumption) ?_ ?_ ?_) | (with_reducible refine Below.alloc ?_ ?_ _) | (with_reducible refine Below.drew ?_) | (with_reducible refine below_drewN ?_ _) | (with_reducible refine Below.setCell ?_ ?_ _) | (with_reducible refine below_put ?_ ?_ _ _) | (with_reducible exact Nat.le_refl _) | omega | (with_reducible refine Nat.le_trans ?_ (Below.size (by assumption))) | (with_reducible refine Nat.le_trans ?_ (World.grownBy.size (by assumption))) | (simp only [World.size_alloc, World.size_setCell, World.size_drew, size_drewN]; omega) | (simp only [World.size_alloc, World.size_setCell, World.size_drew, size_drewN, size_put]; omega) | (intro k hk; simp [Value.ownBlock] at hk; done) | (intro k hk; simp [Value.ownBlock] at hk; omega) | (simp [size_drewN] at *; omega)))))).mono ?_
    clear HM
    rintro e w1 ⟨rfl, hb⟩
    go_wp2_with fail
    go_ret2
    exact ⟨⟨none, 0, 0⟩, rfl, BytesR.nil _ _ _, by (repeat' (first | (with_reducible exact Below.refl _ _) | (with_reducible assumption) | (with_reducible refine bel_trans (by assumption) ?_ ?_) | (with_reducible refine bel_grown (by assumption) ?_ ?_ ?_) | (with_reducible refine Below.alloc ?_ ?_ _) | (with_reducible refine Below.drew ?_) | (with_reducible refine below_drewN ?_ _) | (with_reducible refine Below.setCell ?_ ?_ _) | (with_reducible refine below_put ?_ ?_ _ _) | (with_reducible exact Nat.le_refl _) | omega | (with_reducible refine Nat.le_trans ?_ (Below.size (by assumption))) | (with_reducible refine Nat.le_trans ?_ (World.grownBy.size (by assumption))) | (simp only [World.size_alloc, World.size_setCell, World.size_drew, size_drewN]; omega) | (simp only [World.size_alloc, World.size_setCell, World.size_drew, size_drewN, size_put]; omega) | (intro k hk; simp [Value.ownBlock] at hk; done) | (intro k hk; simp [Value.ownBlock] at hk; omega) | (simp [size_drewN] at *; omega)))⟩
  · simp only [hm] at HM
    obtain ⟨m1, m2⟩ := hdrMay_out hm
    have M2 := Lib.hid m2
    clear hm m2
    go_enter Try.func71, Try.ntmps71
    go_wp2_with fail
    refine (HM _ (HdrR.keep' Hr.out (by (repeat' (first | (with_reducible exact Below.refl _ _) | (with_reducible assumption) | (with_reducible refine bel_trans (by assumption) ?_ ?_) | (with_reducible refine bel_grown (by assumption) ?_ ?_ ?_) | (with_reducible refine Below.alloc ?_ ?_ _) | (with_reducible refine Below.drew ?_) | (with_reducible refine below_drewN ?_ _) | (with_reducible refine Below.setCell ?_ ?_ _) | (with_reducible refine below_put ?_ ?_ _ _) | (with_reducible exact Nat.le_refl _) | omega | (with_reducible refine Nat.le_trans ?_ (Below.size (by assumption))) | (with_reducible refine Nat.le_trans ?_ (World.grownBy.size (by assumption))) | (simp only [World.size_alloc, World.size_setCell, World.size_drew, size_drewN]; omega) | (simp only [World.size_alloc, World.size_setCell, World.size_drew, size_drewN, size_put]; omega) | (intro k hk; simp [Value.ownBlock] at hk; done) | (intro k hk; simp [Value.ownBlock] at hk; omega) | (simp [size_drewN] at *; omega)))))).mono ?_
    clear HM
    rintro e w1 ⟨rfl, hb⟩
    obtain ⟨k1, k2, k3⟩ := kept hb
    have hz : w.heap.size < w1.heap.size := by (have := hb.size; (try simp at this); omega)
    go_wp2_with fail
    refine (header_c g h _ (HdrR.keep' Hr.out (by (repeat' (first | (with_reducible exact Below.refl _ _) | (with_reducible assumption) | (with_reducible refine bel_trans (by assumption) ?_ ?_) | (with_reducible refine bel_grown (by assumption) ?_ ?_ ?_) | (with_reducible refine Below.alloc ?_ ?_ _) | (with_reducible refine Below.drew ?_) | (with_reducible refine below_drewN ?_ _) | (with_reducible refine Below.setCell ?_ ?_ _) | (with_reducible refine below_put ?_ ?_ _ _) | (with_reducible exact Nat.le_refl _) | omega | (with_reducible refine Nat.le_trans ?_ (Below.size (by assumption))) | (with_reducible refine Nat.le_trans ?_ (World.grownBy.size (by assumption))) | (simp only [World.size_alloc, World.size_setCell, World.size_drew, size_drewN]; omega) | (simp only [World.size_alloc, World.size_setCell, World.size_drew, size_drewN, size_put]; omega) | (intro k hk; simp [Value.ownBlock] at hk; done) | (intro k hk; simp [Value.ownBlock] at hk; omega) | (simp [size_drewN] at *; omega))))) m1 M2.out).mono ?_
    rintro e w2 ⟨x, rfl, ho, hb2⟩
    obtain ⟨s, rfl⟩ := ho.slice
    go_wp2_with fail
    go_ret2
    exact ⟨s, rfl, ho.reads, by (repeat' (first | (with_reducible exact Below.refl _ _) | (with_reducible assumption) | (with_reducible refine bel_trans (by assumption) ?_ ?_) | (with_reducible refine bel_grown (by assumption) ?_ ?_ ?_) | (with_reducible refine Below.alloc ?_ ?_ _) | (with_reducible refine Below.drew ?_) | (with_reducible refine below_drewN ?_ _) | (with_reducible refine Below.setCell ?_ ?_ _) | (with_reducible refine below_put ?_ ?_ _ _) | (with_reducible exact Nat.le_refl _) | omega | (with_reducible refine Nat.le_trans ?_ (Below.size (by assumption))) | (with_reducible refine Nat.le_trans ?_ (World.grownBy.size (by assumption))) | (simp only [World.size_alloc, World.size_setCell, World.size_drew, size_drewN]; omega) | (simp only [World.size_alloc, World.size_setCell, World.size_drew, size_drewN, size_put]; omega) | (intro k hk; simp [Value.ownBlock] at hk; done) | (intro k hk; simp [Value.ownBlock] at hk; omega) | (simp [size_drewN] at *; omega)))⟩
theorem headerBytes_c (g : GHeader) (h : Hdr) (w : World) (hr : HdrR w g h) (hl : HdrFits h) :
    Calls Try.prog 25 #[.agg (headerA g)] w fun e w' => ∃ s : Sl, e = toldV s (hdrMay h) ∧ BytesR w' s (orNo (hdrMay h) (hdBytes h)) ∧ Below w.heap.size w w' := by
  have Hr := Lib.hid hr
  have HC := fun W hW => toldHdr_c g h W hW hl
  clear hr
  go_enter Try.func25, Try.ntmps25
  go_wp2_with fail
  refine (HC _ (HdrR.keep' Hr.out (by (repeat' (first | (with_reducible exact Below.refl _ _) | (with_reducible assumption) | (with_reducible refine bel_trans (by assumption) ?_ ?_) | (with_reducible refine bel_grown (by assumption) ?_ ?_ ?_) | (with_reducible refine Below.alloc ?_ ?_ _) | (with_reducible refine Below.drew ?_) | (with_reducible refine below_drewN ?_ _) | (with_reducible refine Below.setCell ?_ ?_ _) | (with_reducible refine below_put ?_ ?_ _ _) | (with_reducible exact Nat.le_refl _) | omega | (with_reducible refine Nat.le_trans ?_ (Below.size (by assumption))) | (with_reducible refine Nat.le_trans ?_ (World.grownBy.size (by assumption))) | (simp only [World.size_alloc, World.size_setCell, World.size_drew, size_drewN]; omega) | (simp only [World.size_alloc, World.size_setCell, World.size_drew, size_drewN, size_put]; omega) | (intro k hk; simp [Value.ownBlock] at hk; done) | (intro k hk; simp [Value.ownBlock] at hk; omega) | (simp [size_drewN] at *; omega)))))).mono ?_
  clear HC
  rintro e w1 ⟨s, rfl, ho, hb⟩
  go_wp2_with fail
  go_ret2
  exact ⟨s, rfl, ho, by (repeat' (first | (with_reducible exact Below.refl _ _) | (with_reducible assumption) | (with_reducible refine bel_trans (by assumption) ?_ ?_) | (with_reducible refine bel_grown (by assumption) ?_ ?_ ?_) | (with_reducible refine Below.alloc ?_ ?_ _) | (with_reducible refine Below.drew ?_) | (with_reducible refine below_drewN ?_ _) | (with_reducible refine Below.setCell ?_ ?_ _) | (with_reducible refine below_put ?_ ?_ _ _) | (with_reducible exact Nat.le_refl _) | omega | (with_reducible refine Nat.le_trans ?_ (Below.size (by assumption))) | (with_reducible refine Nat.le_trans ?_ (World.grownBy.size (by assumption))) | (simp only [World.size_alloc, World.size_setCell, World.size_drew, size_drewN]; omega) | (simp only [World.size_alloc, World.size_setCell, World.size_drew, size_drewN, size_put]; omega) | (intro k hk; simp [Value.ownBlock] at hk; done) | (intro k hk; simp [Value.ownBlock] at hk; omega) | (simp [size_drewN] at *; omega)))⟩
end Go.Proofs.Ytbpbnnonialelaa
