/- Texts of this proof, one behind the other: ChnD, ChnE, FreeI, ChnF, ChnG, ChnH. -/
import Derived.Test.YthdjhbiigmcecaaGreatCAO
import Derived.Shelf.SlicesE.Clone
import Derived.Test.YthdjhbiigmcecaaGreatCAI
import Derived.Test.YthdjhbiigmcecaaGreatCAH
import Derived.Deep.CutRange
import Derived.Carry
set_option linter.unusedVariables false
set_option linter.unusedSimpArgs false
/- A chain: Check. -/
namespace Go.Proofs.YthdjhbiigmcecaaGreat
open Go.RowKit

/-- a value in a box of its own -/
theorem box_row (W : World) (Z xs : Array Value) (t : TypeId) (n : Nat) (h0 : 0 < n) (hZ : Z.size = n) (hx : xs.size = n) : ∃ W', W' = putRow (W.alloc (.cells Z t)) W.heap.size 0 xs ∧ row? W' W.heap.size 0 n = some xs ∧ there W' W.heap.size 0 n ∧ Below W.heap.size W W' ∧ W'.heap.size = W.heap.size + 1 := by
 have ht := there_new W Z t 0 n (by omega)
 exact ⟨_, rfl, row?_put_same _ _ _ _ _ hx h0 ht, there_put _ _ _ _ _ _ _ ht, below_put (bel_a W _) (Nat.le_refl _) _ _, by rw [size_put]; simp⟩
theorem chcheck_res : Tryz.f18.results = #[.cell 4 26, .tmp 5] := by kernel_rfl
set_option maxRecDepth 100000 in
set_option maxHeartbeats 3200000 in
theorem chcheck_c {W : World} {cb ab ac mb : Nat} {G : List GB} {C : List Blk} (hv : ChV W cb ab ac mb G C) (hok : ChnOk C) {g : GHeader} {h : Hdr} (hr : HdrR W g h) (hl : HdrFits h) :
  Calls Tryz.prog 18 #[ptrV cb, .agg (headerA g)] W fun r w' => r = .returned (.tuple #[.agg (pointA (chCheck C h).1), .int .i64 (chCheck C h).2]) ∧ Below W.heap.size W w' := by
 have hp := hok.pos
 have hB0 : Below W.heap.size W ((W.alloc (.cells (headerA g) 39)).alloc (.cells (pointA zeroPt) 26)) := by (repeat' (first | (with_reducible first | exact Below.refl _ _ | assumption | refine bel_trans (by assumption) ?_ ?_ | refine bel_grown (by assumption) ?_ ?_ ?_ | refine Below.alloc ?_ ?_ _ | refine Below.drew ?_ | refine below_drewN ?_ _ | refine Below.setCell ?_ ?_ _ | refine below_put ?_ ?_ _ _ | exact Nat.le_refl _) | omega | (with_reducible first | refine Nat.le_trans ?_ (Below.size (by assumption)) | refine Nat.le_trans ?_ (World.grownBy.size (by assumption))) | (simp only [World.size_alloc, World.size_setCell, World.size_drew, size_drewN]; omega) | (simp only [World.size_alloc, World.size_setCell, World.size_drew, size_drewN, size_put]; omega) | (intro k hk; simp [Value.ownBlock] at hk; first | done | omega) | (simp [size_drewN] at *; omega)))
 have hz0 : ((W.alloc (.cells (headerA g) 39)).alloc (.cells (pointA zeroPt) 26)).heap.size = W.heap.size + 2 := by simp
 have hrow0 : row? ((W.alloc (.cells (headerA g) 39)).alloc (.cells (pointA zeroPt) 26)) W.heap.size 0 34 = some (headerA g) := by rw [row?_old _ _ _ _ _ (by simp), row?_new]; simp
 have hrow1 : row? ((W.alloc (.cells (headerA g) 39)).alloc (.cells (pointA zeroPt) 26)) (W.heap.size + 1) 0 33 = some (pointA zeroPt) := by rw [row?_new_at _ _ _ _ _ _ (by simp)]; simp
 have hth : there ((W.alloc (.cells (headerA g) 39)).alloc (.cells (pointA zeroPt) 26)) (W.heap.size + 1) 0 33 := there_new_at _ _ _ _ _ _ (by simp) (by simp)
 have hv0 := Lib.hid (hv.keep hB0)
 have hr0 := Lib.hid (hr.keep' hB0)
 have hbl := Lib.hid (fun (i : Nat) (x : GB) (b : Blk) (hx : G[i]? = some x) (hb : C[i]? = some b) => hv.blt hx hb)
 have g1 := hr.1
 have g2 := hr.2.1
 clear hv hr
 obtain ⟨p, k, hpk⟩ : ∃ p k, (p, k) = chCheck C h := ⟨_, _, rfl⟩
 rw [← hpk]
 replace hpk := Lib.hid hpk
 have hclen := hok.len
 unfold ptrV
 go_enter Tryz.func18, Tryz.ntmps18
 go_upto_region 1 with fail
 generalize (W.alloc (.cells (headerA g) 39)).alloc (.cells (pointA zeroPt) 26) = w0 at *
 have HT := cthere_c hv0.out hp
 unfold ptrV at HT
 go_wp2_with fail
 refine HT.mono ?_
 clear HT
 rintro r w1 ⟨rfl, hb1⟩
 have hz1 := hb1.size
 have hv1 := Lib.hid (hv0.out.keep hb1)
 have hr1 := Lib.hid (hr0.out.keep' hb1)
 have hB1 := hB0.trans (hb1.mono (by omega))
 have hrow01 := (row?_below _ _ _ hb1 (by omega)).trans hrow0
 have hrow11 := (row?_below _ _ _ hb1 (by omega)).trans hrow1
 have hth1 := there_below hb1 (show W.heap.size + 1 < w0.heap.size by omega) hth
 clear hB0 hb1 hrow0 hrow1 hv0 hr0 hth
 have HN := name_c g h w1 hr1.out hl
 obtain ⟨hn, hhn⟩ : ∃ n, n = hdName h := ⟨_, rfl⟩
 obtain ⟨er, her⟩ : ∃ n, n = noErr (hdrMay h) := ⟨_, rfl⟩
 rw [← hhn, ← her] at HN
 replace hhn := Lib.hid hhn
 replace her := Lib.hid her
 go_wp2_with fail
 refine HN.mono ?_
 clear HN
 rintro r w2 ⟨rfl, hb2⟩
 have hz2 := hb2.size
 have hv2 := Lib.hid (hv1.out.keep hb2)
 have hB2 := hB1.trans (hb2.mono (by omega))
 have hrow02 := (row?_below _ _ _ hb2 (by omega)).trans hrow01
 have hrow12 := (row?_below _ _ _ hb2 (by omega)).trans hrow11
 have hth2 := there_below hb2 (show W.heap.size + 1 < w1.heap.size by omega) hth1
 clear hb2 hrow01 hrow11 hv1 hr1 hth1 hB1
 have hw2 : W.heap.size + 1 < w2.heap.size := by omega
 go_upto_region 4 with fail
 obtain ⟨w3, hw3, hrow63, -, hb3, hz3⟩ := box_row w2 (hashA zeroHash) (hashA hn) 24 32 (by omega) (by simp) (by simp)
 rw [← hw3]
 clear hw3
 have hv3 := Lib.hid (hv2.out.keep hb3)
 have hB3 := hB2.trans (hb3.mono (by omega))
 have hrow03 := (row?_below _ _ _ hb3 (by omega)).trans hrow02
 have hrow13 := (row?_below _ _ _ hb3 (by omega)).trans hrow12
 have hth3 := there_below hb3 (show W.heap.size + 1 < w2.heap.size by omega) hth2
 obtain ⟨b4, hb4⟩ : ∃ b, b = W.heap.size + 1 := ⟨_, rfl⟩
 rw [← hb4] at hrow13 hth3 ⊢
 obtain ⟨b6, hb6⟩ : ∃ b, b = w2.heap.size := ⟨_, rfl⟩
 rw [← hb6] at hrow63 ⊢
 have q1 : W.heap.size < b4 := by omega
 have q2 : b4 < b6 := by omega
 have q3 : b6 < w3.heap.size := by omega
 clear hb3 hrow02 hrow12 hth2 hv2 hB2 hb4 hb6 hz3 hz2 hz1 hz0 hw2
 have hE : (p, k) = if hdrMay h then (match chAt C hn with | some _ => ((zeroPt, 11) : Pt × Int) | none => match chAt C h.parent with | none => ((zeroPt, 12) : Pt × Int) | some i => if h.epoch.toNat ≤ epAt C i then ((zeroPt, 13) : Pt × Int) else if 4096 < C.length then ((zeroPt, 5) : Pt × Int) else (⟨h.epoch, hn⟩, 0)) else ((zeroPt, 2) : Pt × Int) := by
  rw [hpk.out, hhn.out]
  rfl
 have he := her.out
 clear hpk hhn her
 cases hm : hdrMay h
 ·rw [hm] at hE he
  obtain rfl : er = 2 := he
  simp only [Bool.false_eq_true, if_false, Prod.mk.injEq] at hE
  obtain ⟨rfl, rfl⟩ := hE
  clear hm hv3 hrow63 hrow03
  go_wp2_with (with_reducible refine ret_row2 Tryz.isAgg26 Tryz.sizeOf26 chcheck_res (x := .pointer (some ⟨b4, 0, none⟩)) (y := .int .i64 2) (b4) 0 ?rrhx (Eq.refl _) ?rrhy ?rrh ?rrhd ?rrhR; (case rrhx => simp only [Array.getD_eq_getD_getElem?, List.getElem?_toArray, List.getElem?_cons_succ, List.getElem?_cons_zero, Option.getD_some]); (case rrhy => simp only [Array.getD_eq_getD_getElem?, List.getElem?_toArray, List.getElem?_cons_succ, List.getElem?_cons_zero, Option.getD_some]); (case rrhd => exact rfl); (case rrh => go_simp); (case rrhR => ((refine ⟨?_, ?_⟩; (case refine_1 => (go_simp; done)); (case refine_2 => ((repeat' (first | (with_reducible first | exact Below.refl _ _ | assumption | refine bel_trans (by assumption) ?_ ?_ | refine bel_grown (by assumption) ?_ ?_ ?_ | refine Below.alloc ?_ ?_ _ | refine Below.drew ?_ | refine below_drewN ?_ _ | refine Below.setCell ?_ ?_ _ | refine below_put ?_ ?_ _ _ | exact Nat.le_refl _) | omega | (with_reducible first | refine Nat.le_trans ?_ (Below.size (by assumption)) | refine Nat.le_trans ?_ (World.grownBy.size (by assumption))) | (simp only [World.size_alloc, World.size_setCell, World.size_drew, size_drewN]; omega) | (simp only [World.size_alloc, World.size_setCell, World.size_drew, size_drewN, size_put]; omega) | (intro k hk; simp [Value.ownBlock] at hk; first | done | omega) | (simp [size_drewN] at *; omega)))))))))
 rw [hm] at hE he
 obtain rfl : er = 0 := he
 clear hm
 simp only [if_true] at hE
 have c0 := fun m => show (w3.drewN m).cell? ⟨cb, 0, none⟩ = _ from hv3.out.c0
 have c1 := fun m => show (w3.drewN m).cell? ⟨cb, 1, none⟩ = _ from hv3.out.c1
 have f6 := fun m => show row? (w3.drewN m) b6 0 32 = _ from hrow63
 have l1 := fun m => (show ChV (w3.drewN m) cb ab ac mb G C from hv3.out.keep (below_drewN (Below.refl _ _) m)).look hn
 cases hi : chAt C hn with
 | some i0 =>
  rw [hi] at hE l1
  simp only [Prod.mk.injEq] at hE
  obtain ⟨rfl, rfl⟩ := hE
  simp only [Option.getD_some, Option.isSome_some] at l1
  clear hi hv3
  go_upto_region 6 with fail
  go_quiet (fail)
  have hB4 := below_drewN hB3 nq
  have hrow4 : row? (w3.drewN nq) b4 0 33 = _ := hrow13
  have hth4 : there (w3.drewN nq) b4 0 33 := hth3
  clear c0 c1 f6 l1 hB3 hrow13 hth3 hrow63 hrow03
  replace q3 : b6 < (w3.drewN nq).heap.size := q3
  generalize w3.drewN nq = w4 at *
  go_wp2_with (with_reducible refine ret_row2 Tryz.isAgg26 Tryz.sizeOf26 chcheck_res (x := .pointer (some ⟨b4, 0, none⟩)) (y := .int .i64 11) (b4) 0 ?rrhx (Eq.refl _) ?rrhy ?rrh ?rrhd ?rrhR; (case rrhx => simp only [Array.getD_eq_getD_getElem?, List.getElem?_toArray, List.getElem?_cons_succ, List.getElem?_cons_zero, Option.getD_some]); (case rrhy => simp only [Array.getD_eq_getD_getElem?, List.getElem?_toArray, List.getElem?_cons_succ, List.getElem?_cons_zero, Option.getD_some]); (case rrhd => exact rfl); (case rrh => go_simp); (case rrhR => ((refine ⟨?_, ?_⟩; (case refine_1 => (go_simp; done)); (case refine_2 => ((repeat' (first | (with_reducible first | exact Below.refl _ _ | assumption | refine bel_trans (by assumption) ?_ ?_ | refine bel_grown (by assumption) ?_ ?_ ?_ | refine Below.alloc ?_ ?_ _ | refine Below.drew ?_ | refine below_drewN ?_ _ | refine Below.setCell ?_ ?_ _ | refine below_put ?_ ?_ _ _ | exact Nat.le_refl _) | omega | (with_reducible first | refine Nat.le_trans ?_ (Below.size (by assumption)) | refine Nat.le_trans ?_ (World.grownBy.size (by assumption))) | (simp only [World.size_alloc, World.size_setCell, World.size_drew, size_drewN]; omega) | (simp only [World.size_alloc, World.size_setCell, World.size_drew, size_drewN, size_put]; omega) | (intro k hk; simp [Value.ownBlock] at hk; first | done | omega) | (simp [size_drewN] at *; omega)))))))))
 | none =>
  rw [hi] at hE l1
  simp only [Option.getD_none, Option.isSome_none] at hE l1
  clear hi
  go_upto_region 6 with fail
  go_quiet (fail)
  have hv4 := Lib.hid (show ChV (w3.drewN nq) cb ab ac mb G C from hv3.out.keep (below_drewN (Below.refl _ _) nq))
  have hB4 := below_drewN hB3 nq
  have hrow4 : row? (w3.drewN nq) b4 0 33 = _ := hrow13
  have hth4 : there (w3.drewN nq) b4 0 33 := hth3
  have hrow04 : row? (w3.drewN nq) W.heap.size 0 34 = _ := hrow03
  have hrow64 : row? (w3.drewN nq) b6 0 32 = _ := hrow63
  clear c0 c1 f6 l1 hB3 hrow13 hth3 hv3 hrow03 hrow63
  replace q3 : b6 < (w3.drewN nq).heap.size := q3
  generalize w3.drewN nq = w4 at *
  have c0 := fun m => show (w4.drewN m).cell? ⟨cb, 0, none⟩ = _ from hv4.out.c0
  have c1 := fun m => show (w4.drewN m).cell? ⟨cb, 1, none⟩ = _ from hv4.out.c1
  have hp0 := row_part hrow04 0 32 (by omega)
  rw [headerA_parent, g1] at hp0
  have f0 := fun m => show row? (w4.drewN m) W.heap.size 0 32 = _ from hp0
  have l1 := fun m => (show ChV (w4.drewN m) cb ab ac mb G C from hv4.out.keep (below_drewN (Below.refl _ _) m)).look h.parent
  cases hj : chAt C h.parent with
  | none =>
   rw [hj] at hE l1
   simp only [Prod.mk.injEq] at hE
   obtain ⟨rfl, rfl⟩ := hE
   simp only [Option.getD_none, Option.isSome_none] at l1
   clear hj hv4
   go_upto_region 9 with fail
   go_quiet (fail)
   have hB5 := below_drewN hB4 nq
   have hrow5 : row? (w4.drewN nq) b4 0 33 = _ := hrow4
   have hth5 : there (w4.drewN nq) b4 0 33 := hth4
   clear c0 c1 f0 l1 hB4 hrow4 hth4 hrow04 hrow64 hp0
   replace q3 : b6 < (w4.drewN nq).heap.size := q3
   generalize w4.drewN nq = w5 at *
   go_wp2_with (with_reducible refine ret_row2 Tryz.isAgg26 Tryz.sizeOf26 chcheck_res (x := .pointer (some ⟨b4, 0, none⟩)) (y := .int .i64 12) (b4) 0 ?rrhx (Eq.refl _) ?rrhy ?rrh ?rrhd ?rrhR; (case rrhx => simp only [Array.getD_eq_getD_getElem?, List.getElem?_toArray, List.getElem?_cons_succ, List.getElem?_cons_zero, Option.getD_some]); (case rrhy => simp only [Array.getD_eq_getD_getElem?, List.getElem?_toArray, List.getElem?_cons_succ, List.getElem?_cons_zero, Option.getD_some]); (case rrhd => exact rfl); (case rrh => go_simp); (case rrhR => ((refine ⟨?_, ?_⟩; (case refine_1 => (go_simp; done)); (case refine_2 => ((repeat' (first | (with_reducible first | exact Below.refl _ _ | assumption | refine bel_trans (by assumption) ?_ ?_ | refine bel_grown (by assumption) ?_ ?_ ?_ | refine Below.alloc ?_ ?_ _ | refine Below.drew ?_ | refine below_drewN ?_ _ | refine Below.setCell ?_ ?_ _ | refine below_put ?_ ?_ _ _ | exact Nat.le_refl _) | omega | (with_reducible first | refine Nat.le_trans ?_ (Below.size (by assumption)) | refine Nat.le_trans ?_ (World.grownBy.size (by assumption))) | (simp only [World.size_alloc, World.size_setCell, World.size_drew, size_drewN]; omega) | (simp only [World.size_alloc, World.size_setCell, World.size_drew, size_drewN, size_put]; omega) | (intro k hk; simp [Value.ownBlock] at hk; first | done | omega) | (simp [size_drewN] at *; omega)))))))))
  | some i =>
   rw [hj] at hE l1
   simp only [Option.getD_some, Option.isSome_some] at hE l1
   have hil := chAt_lt hj
   obtain ⟨b, hb⟩ : ∃ b, C[i]? = some b := ⟨_, List.getElem?_eq_getElem hil⟩
   rw [epAt_of hb] at hE
   clear hj
   go_upto_region 9 with fail
   go_quiet (fail)
   have hv5 := Lib.hid (show ChV (w4.drewN nq) cb ab ac mb G C from hv4.out.keep (below_drewN (Below.refl _ _) nq))
   have hB5 := below_drewN hB4 nq
   have hrow5 : row? (w4.drewN nq) b4 0 33 = _ := hrow4
   have hth5 : there (w4.drewN nq) b4 0 33 := hth4
   have hrow05 : row? (w4.drewN nq) W.heap.size 0 34 = _ := hrow04
   have hrow65 : row? (w4.drewN nq) b6 0 32 = _ := hrow64
   clear c0 c1 f0 l1 hB4 hrow4 hth4 hrow04 hrow64 hp0 hv4
   replace q3 : b6 < (w4.drewN nq).heap.size := q3
   generalize w4.drewN nq = w5 at *
   obtain ⟨x, hx⟩ := hv5.out.box hb
   obtain ⟨x0, -, -, -, -, -⟩ := hv5.out.cells hx hb
   have ca := hv5.out.arr i x hx
   unfold ptrV at ca
   have h32 := cell_of_row? hrow05 32 (by omega)
   rw [headerA_epoch, g2] at h32
   have c0 := fun m => show (w5.drewN m).cell? ⟨cb, 0, none⟩ = _ from hv5.out.c0
   have f1 := fun m => show (w5.drewN m).cell? ⟨ab, i, none⟩ = _ from ca
   have f2 := fun m => show (w5.drewN m).cell? ⟨x.b, 0, none⟩ = _ from x0
   have f3 := fun m => show (w5.drewN m).cell? ⟨W.heap.size, 0 + 32, none⟩ = _ from h32
   have i1 : (i : Int) < (C.length : Int) := by omega
   clear hx hb
   by_cases hle : (h.epoch.toNat : Int) ≤ (b.p.epoch.toNat : Int)
   ·rw [if_pos (by omega)] at hE
    simp only [Prod.mk.injEq] at hE
    obtain ⟨rfl, rfl⟩ := hE
    clear hv5
    go_upto_region 12 with fail
    go_quiet (fail)
    have hB6 := below_drewN hB5 nq
    have hrow6 : row? (w5.drewN nq) b4 0 33 = _ := hrow5
    have hth6 : there (w5.drewN nq) b4 0 33 := hth5
    clear c0 f1 f2 f3 h32 ca x0 hB5 hrow5 hth5 hrow05 hrow65
    replace q3 : b6 < (w5.drewN nq).heap.size := q3
    generalize w5.drewN nq = w6 at *
    go_wp2_with (with_reducible refine ret_row2 Tryz.isAgg26 Tryz.sizeOf26 chcheck_res (x := .pointer (some ⟨b4, 0, none⟩)) (y := .int .i64 13) (b4) 0 ?rrhx (Eq.refl _) ?rrhy ?rrh ?rrhd ?rrhR; (case rrhx => simp only [Array.getD_eq_getD_getElem?, List.getElem?_toArray, List.getElem?_cons_succ, List.getElem?_cons_zero, Option.getD_some]); (case rrhy => simp only [Array.getD_eq_getD_getElem?, List.getElem?_toArray, List.getElem?_cons_succ, List.getElem?_cons_zero, Option.getD_some]); (case rrhd => exact rfl); (case rrh => go_simp); (case rrhR => ((refine ⟨?_, ?_⟩; (case refine_1 => (go_simp; done)); (case refine_2 => ((repeat' (first | (with_reducible first | exact Below.refl _ _ | assumption | refine bel_trans (by assumption) ?_ ?_ | refine bel_grown (by assumption) ?_ ?_ ?_ | refine Below.alloc ?_ ?_ _ | refine Below.drew ?_ | refine below_drewN ?_ _ | refine Below.setCell ?_ ?_ _ | refine below_put ?_ ?_ _ _ | exact Nat.le_refl _) | omega | (with_reducible first | refine Nat.le_trans ?_ (Below.size (by assumption)) | refine Nat.le_trans ?_ (World.grownBy.size (by assumption))) | (simp only [World.size_alloc, World.size_setCell, World.size_drew, size_drewN]; omega) | (simp only [World.size_alloc, World.size_setCell, World.size_drew, size_drewN, size_put]; omega) | (intro k hk; simp [Value.ownBlock] at hk; first | done | omega) | (simp [size_drewN] at *; omega)))))))))
   ·rw [if_neg (by omega)] at hE
    go_upto_region 12 with fail
    go_quiet (fail)
    have hB6 := below_drewN hB5 nq
    have hrow6 : row? (w5.drewN nq) b4 0 33 = _ := hrow5
    have hth6 : there (w5.drewN nq) b4 0 33 := hth5
    have hrow06 : row? (w5.drewN nq) W.heap.size 0 34 = _ := hrow05
    have hrow66 : row? (w5.drewN nq) b6 0 32 = _ := hrow65
    have c06 : (w5.drewN nq).cell? ⟨cb, 0, none⟩ = _ := hv5.out.c0
    have h36 : (w5.drewN nq).cell? ⟨W.heap.size, 0 + 32, none⟩ = _ := h32
    clear c0 f1 f2 f3 h32 ca x0 hB5 hrow5 hth5 hrow05 hrow65 hv5
    replace q3 : b6 < (w5.drewN nq).heap.size := q3
    generalize w5.drewN nq = w6 at *
    by_cases hfl : (4096 : Int) < (C.length : Int)
    ·rw [if_pos (by omega)] at hE
     simp only [Prod.mk.injEq] at hE
     obtain ⟨rfl, rfl⟩ := hE
     go_wp2_with (with_reducible refine ret_row2 Tryz.isAgg26 Tryz.sizeOf26 chcheck_res (x := .pointer (some ⟨b4, 0, none⟩)) (y := .int .i64 5) (b4) 0 ?rrhx (Eq.refl _) ?rrhy ?rrh ?rrhd ?rrhR; (case rrhx => simp only [Array.getD_eq_getD_getElem?, List.getElem?_toArray, List.getElem?_cons_succ, List.getElem?_cons_zero, Option.getD_some]); (case rrhy => simp only [Array.getD_eq_getD_getElem?, List.getElem?_toArray, List.getElem?_cons_succ, List.getElem?_cons_zero, Option.getD_some]); (case rrhd => exact rfl); (case rrh => go_simp); (case rrhR => ((refine ⟨?_, ?_⟩; (case refine_1 => (go_simp; done)); (case refine_2 => ((repeat' (first | (with_reducible first | exact Below.refl _ _ | assumption | refine bel_trans (by assumption) ?_ ?_ | refine bel_grown (by assumption) ?_ ?_ ?_ | refine Below.alloc ?_ ?_ _ | refine Below.drew ?_ | refine below_drewN ?_ _ | refine Below.setCell ?_ ?_ _ | refine below_put ?_ ?_ _ _ | exact Nat.le_refl _) | omega | (with_reducible first | refine Nat.le_trans ?_ (Below.size (by assumption)) | refine Nat.le_trans ?_ (World.grownBy.size (by assumption))) | (simp only [World.size_alloc, World.size_setCell, World.size_drew, size_drewN]; omega) | (simp only [World.size_alloc, World.size_setCell, World.size_drew, size_drewN, size_put]; omega) | (intro k hk; simp [Value.ownBlock] at hk; first | done | omega) | (simp [size_drewN] at *; omega)))))))))
    ·rw [if_neg (by omega)] at hE
     simp only [Prod.mk.injEq] at hE
     obtain ⟨rfl, rfl⟩ := hE
     go_wp2_with (with_reducible refine ret_row2 Tryz.isAgg26 Tryz.sizeOf26 chcheck_res (x := .pointer (some ⟨b4, 0, none⟩)) (y := .int .i64 0) (b4) 0 ?rrhx (Eq.refl _) ?rrhy ?rrh ?rrhd ?rrhR; (case rrhx => simp only [Array.getD_eq_getD_getElem?, List.getElem?_toArray, List.getElem?_cons_succ, List.getElem?_cons_zero, Option.getD_some]); (case rrhy => simp only [Array.getD_eq_getD_getElem?, List.getElem?_toArray, List.getElem?_cons_succ, List.getElem?_cons_zero, Option.getD_some]); (case rrhd => exact rfl); (case rrh => go_simp); (case rrhR => ((refine ⟨?_, ?_⟩; (case refine_1 => (go_simp; done)); (case refine_2 => ((repeat' (first | (with_reducible first | exact Below.refl _ _ | assumption | refine bel_trans (by assumption) ?_ ?_ | refine bel_grown (by assumption) ?_ ?_ ?_ | refine Below.alloc ?_ ?_ _ | refine Below.drew ?_ | refine below_drewN ?_ _ | refine Below.setCell ?_ ?_ _ | refine below_put ?_ ?_ _ _ | exact Nat.le_refl _) | omega | (with_reducible first | refine Nat.le_trans ?_ (Below.size (by assumption)) | refine Nat.le_trans ?_ (World.grownBy.size (by assumption))) | (simp only [World.size_alloc, World.size_setCell, World.size_drew, size_drewN]; omega) | (simp only [World.size_alloc, World.size_setCell, World.size_drew, size_drewN, size_put]; omega) | (intro k hk; simp [Value.ownBlock] at hk; first | done | omega) | (simp [size_drewN] at *; omega)))))))))
end Go.Proofs.YthdjhbiigmcecaaGreat

/- slices.Clone of operations, votes and bytes, wherever they lie. -/
namespace Go.Proofs.YthdjhbiigmcecaaGreat
open Go.RowKit Go.Shelf Go.Lib

def clO_ren : Go.Shelf.Ren := ⟨fun | 41 => 35 | n => n, fun | 22 => 37 | 23 => 73 | 4 => 4 | n => n, fun | n => n⟩
theorem clO : Go.Proofs.SlLaysE0.n41 Tryz.prog clO_ren := {
 mixed := by kernel_rfl
 f41 := ⟨Tryz.f35.name, by decide, Tryz.func35.trans (congrArg some (by kernel_rfl))⟩
 t4 := Tryz.underlying4
 a4 := Tryz.isAgg4
 z4 := Tryz.sizeOf4
 v4 := Tryz.zeroValue4
 t22 := Tryz.underlying37
 a22 := Tryz.isAgg37
 z22 := Tryz.sizeOf37
 v22 := Tryz.zeroValue37 }
def clV_ren : Go.Shelf.Ren := ⟨fun | 41 => 36 | n => n, fun | 22 => 71 | 23 => 76 | 4 => 4 | n => n, fun | n => n⟩
theorem clV : Go.Proofs.SlLaysE0.n41 Tryz.prog clV_ren := {
 mixed := by kernel_rfl
 f41 := ⟨Tryz.f36.name, by decide, Tryz.func36.trans (congrArg some (by kernel_rfl))⟩
 t4 := Tryz.underlying4
 a4 := Tryz.isAgg4
 z4 := Tryz.sizeOf4
 v4 := Tryz.zeroValue4
 t22 := Tryz.underlying71
 a22 := Tryz.isAgg71
 z22 := Tryz.sizeOf71
 v22 := Tryz.zeroValue71 }
def clB_ren : Go.Shelf.Ren := ⟨fun | 41 => 37 | n => n, fun | 22 => 74 | 23 => 5 | 4 => 4 | n => n, fun | n => n⟩
theorem clB : Go.Proofs.SlLaysE0.n41 Tryz.prog clB_ren := {
 mixed := by kernel_rfl
 f41 := ⟨Tryz.f37.name, by decide, Tryz.func37.trans (congrArg some (by kernel_rfl))⟩
 t4 := Tryz.underlying4
 a4 := Tryz.isAgg4
 z4 := Tryz.sizeOf4
 v4 := Tryz.zeroValue4
 t22 := Tryz.underlying74
 a22 := Tryz.isAgg74
 z22 := Tryz.sizeOf74
 v22 := Tryz.zeroValue74 }

set_option maxHeartbeats 2000000 in
set_option maxRecDepth 100000 in
/-- slices.Clone at any element type, of a slice at any address -/
theorem clone_at {P : Program} {ρ : Ren} (L : SlLaysE0.n41 P ρ) (i0 : TypeInfo) (z : Value) (size bytes : Nat) (hi : P.info? (ρ.t 23) = some i0) (hz0 : i0.zero = some z) (hz1 : i0.size = size) (hz2 : i0.bytes = bytes) (hzs : z.cells.size = size) (hsz : 0 < size)
  (a : Addr) (n c : Nat) (news : List Value) (w : World) (hl : news.length = n * size) (hn : n ≤ maxLen) (hbig : n * bytes ≤ 140737488355328)
  (hc : ∀ j u, news[j]? = some u → w.cell? (a.add j) = some u) (h1 : ∀ u ∈ news, u.oneCell' = true) :
  Calls P (ρ.f 41) #[.slice (some a) n c] w fun e w' => ∃ v', e = .returned v' ∧ w'.ownsRow w.heap.size (ρ.t 23) size v' n news ∧ Below w.heap.size w w' := by
 have mixed := L.mixed; have t4 := L.t4; have a4 := L.a4; have z4 := L.z4; have v4 := L.v4; have t22 := L.t22; have a22 := L.a22; have z22 := L.z22; have v22 := L.v22
 have q22 : ∀ (w : World) (a : Option Addr) (n c n' c' : Nat), (binOp .eql (ρ.t 22) (.slice a n c) (.slice none n' c')).run P w = .ok (.bool a.isNone) w := fun w a n c n' c' => Lib.run_eql_slice_nil w _ _ a n c n' c' L.t22
 have u22 : ∀ w, Sem.run P (underlying (ρ.t 22)) w = .ok (TypeDesc.slice (ρ.t 23)) w := run_underlying t22
 have z23 : ∀ w, (Go.sizeOf (ρ.t 23)).run P w = .ok size w := fun w => by simp [Go.sizeOf, typeInfo, hi, hz1]
 have A : Aside (∀ j u, news[j]? = some u → w.cell? (a.add j) = some u) := hc
 clear hc
 obtain ⟨_, _, FG⟩ := L.f41
 go_enter FG, SlBodyN.n41_ntmps ρ
 go_wp2_with (at_builtin; refine wpList_append_own _ rfl _ _ (ρ.t 22) rfl w.heap.size (ρ.t 23) i0 z size bytes t22 hi hz0 hz1 hz2 hzs hsz _ _ _ rfl (World.ownsRow_made w #[] 0 (Nat.le_refl _) (Nat.zero_le _) (by simp)) a n c news rfl ?qc1 ?qc2 ?qc3 ?qc4 ?qc5 ?qc6 ?_)
 case qc1 => exact hl
 case qc2 =>
  intro j u hj
  exact Lib.cell?_alloc_some _ (A.out j u hj)
 case qc3 => exact h1
 case qc4 => rw [Nat.zero_add]; exact hn
 case qc5 => rw [Nat.zero_add]; exact hbig
 case qc6 => simp
 intro v' w1 hown hgrow hnil
 go_wp2
 go_ret
 refine ⟨v', rfl, by simpa using hown, ?_⟩
 exact ((Below.refl _ w).alloc (Nat.le_refl _) _).grown hgrow (by simp) (by intro k hk; simp [Value.ownBlock] at hk; omega)
/-- of rows of structs -/
theorem clone_rows {α : Type} {A : α → Array Value} {k : Nat} (hk : ∀ x, (A x).size = k) (h1 : ∀ x, ∀ u ∈ (A x).toList, u.oneCell' = true) {ρ : Ren} (L : SlLaysE0.n41 Tryz.prog ρ) (i0 : TypeInfo) (z : Value) (bytes : Nat) (hi : Tryz.prog.info? (ρ.t 23) = some i0) (hz0 : i0.zero = some z) (hz1 : i0.size = k) (hz2 : i0.bytes = bytes) (hzs : z.cells.size = k) (hk0 : 0 < k) (hby : bytes ≤ 1000)
  {w : World} {s : Sl} {l : List α} (h : SlR k (fun cs x => cs = A x) w s l) (hl : l.length ≤ 1000000) :
  Calls Tryz.prog (ρ.f 41) #[s.v] w fun e w' => ∃ s' : Sl, e = .returned s'.v ∧ OwnC w' w.heap.size k s'.v l.length (flatC A l) ∧ Below w.heap.size w w' := by
 obtain ⟨sa, sn, sc⟩ := s
 have hn : sn = l.length := h.1
 subst hn
 cases sa with
 | none =>
  have hl0 : l = [] := by
   rcases Nat.eq_zero_or_pos l.length with h0 | h0
   ·exact List.eq_nil_of_length_eq_zero h0
   ·obtain ⟨b, off, e, _⟩ := h.at h0
    have := congrArg Sl.a e
    cases this
  subst hl0
  refine (AnyE.slices_Clone_nil L 0 sc w).mono ?_
  rintro e w' ⟨rfl, rfl⟩
  exact ⟨⟨none, 0, 0⟩, rfl, OwnC.nil _ _ _, Below.refl _ _⟩
 | some a =>
  have hm := Nat.mul_le_mul hl hby
  refine (clone_at L i0 z k bytes hi hz0 hz1 hz2 hzs hk0 a l.length sc (flatC A l) w (flatC_length A hk l) (Nat.le_trans hl (by decide)) (by omega) (fun j u hj => ?_) (flatC_onecell A h1 l)).mono ?_
  ·have hlt := lt_of_get hj
   rw [flatC_length A hk] at hlt
   have h0 : 0 < l.length := by
    rcases Nat.eq_zero_or_pos l.length with h0 | h0
    ·rw [h0] at hlt; omega
    ·exact h0
   obtain ⟨b, off, e, hb, hr⟩ := h.at h0
   have ea := congrArg Sl.a e
   simp only [Option.some.injEq] at ea
   subst ea
   have hq : j / k < l.length := Nat.div_lt_of_lt_mul (by rw [Nat.mul_comm]; exact hlt)
   have hm := Nat.mod_lt j hk0
   have hjj : j = j / k * k + j % k := by
    have := Nat.div_add_mod j k
    rw [Nat.mul_comm] at this
    exact this.symm
   obtain ⟨cs, hrow, rfl⟩ := hr _ hq
   rw [hjj, flatC_get A hk l _ _ hq hm] at hj
   rw [Addr.add_lit, hjj, ← Nat.add_assoc, cell_of_row? hrow _ hm]
   exact hj
  ·rintro e w' ⟨v', rfl, ho, hb⟩
   have ho' := OwnC.of_row ho
   obtain ⟨s', rfl⟩ := ho'.slice
   exact ⟨s', rfl, ho', hb⟩
end Go.Proofs.YthdjhbiigmcecaaGreat

/- A region that draws its order, reads, writes and makes memory: an invariant that is told by which operations (of some) are done, and by what they yielded. Over any program. -/
namespace Go.Proofs.YthdjhbiigmcecaaGreat
open Go.RowKit

def updB (L : Nat → Bool) (i : Nat) : Nat → Bool := fun j => if j = i then true else L j
def updV (V : Nat → Value) (i : Nat) (v : Value) : Nat → Value := fun j => if j = i then v else V j
theorem updB_map {L : Nat → Bool} {i : Nat} {ms : List Nat} (h : i ∉ ms) : ms.map (updB L i) = ms.map L :=
 List.map_congr_left fun j hj => if_neg (fun e : j = i => h (e ▸ hj))
theorem updV_map {V : Nat → Value} {i : Nat} {v : Value} {ms : List Nat} (h : i ∉ ms) : ms.map (updV V i v) = ms.map V :=
 List.map_congr_left fun j hj => if_neg (fun e : j = i => h (e ▸ hj))
/-- in the midst of the region: L says which operations are done -/
structure FreeI (n : Nat) (d : Nat → Nat) (F : Nat → Value → Prop) (ms : List Nat) (H : List Bool → List Value → World → Prop) (a0 : Act) (L : Nat → Bool) (a : Act) (w : World) : Prop where
 defers : a.defers = a0.defers
 size : a.tmps.size = a0.tmps.size
 glob : H (ms.map L) (ms.map fun i => sl a (d i)) w
 got : ∀ i, i < n → L i = true → F i (sl a (d i))
 rest : ∀ k, (∀ i, i < n → L i = true → d i ≠ k) → sl a k = sl a0 k
/-- what a step must bring -/
def PostI (o : Oper) (i : Nat) (d : Nat → Nat) (F : Nat → Value → Prop) (ms : List Nat) (H : List Bool → List Value → World → Prop) (L : Nat → Bool) (a : Act) (a' : Act) (w' : World) : Prop :=
 ∃ v, a' = a.put o.dst v ∧ (o.dst = none → v = undef) ∧ F i v ∧ H (ms.map (updB L i)) (ms.map (updV (fun i => sl a (d i)) i v)) w'
theorem wp_region_freeI {P : Program} {id : Nat} {ops : Array Oper} {Q : Exit → Act → World → Prop} {a0 : Act} {W0 : World} (hm : P.follows .mixedOrders = true)
  (d : Nat → Nat) (F : Nat → Value → Prop) (ms : List Nat) (H : List Bool → List Value → World → Prop) (hms : ∀ j ∈ ms, j < ops.size)
  (hop : ∀ i o, ops[i]? = some o → ((o.dst = some (d i) ∧ d i < a0.tmps.size) ∨ (o.dst = none ∧ a0.tmps.size ≤ d i)) ∧ (∀ e ∈ o.after, Region.binds .any e = true → e.on < i) ∧ ∀ k b, o.guard = some (k, b) → k < ops.size ∧ d k < a0.tmps.size)
  (hdist : ∀ i j, i < ops.size → j < ops.size → d i = d j → i = j)
  (las : Nat → List Nat) (hlas : ∀ (L : Nat → Bool), (∀ i o, ops[i]? = some o → L i = true → ∀ e ∈ o.after, Region.binds .any e = true → L e.on = true) → ∀ i, i < ops.size → L i = false → ∀ j ∈ las i, L j = false)
  (h0 : H (ms.map fun _ => false) (ms.map fun i => sl a0 (d i)) W0.drew)
  (hstep : ∀ (i : Nat) (o : Oper), ops[i]? = some o → ∀ L a w, FreeI ops.size d F ms H a0 L a w → L i = false → (∀ j ∈ las i, L j = false) → (∀ e ∈ o.after, Region.binds .any e = true → L e.on = true) →
   (Held o d a → o.wp P a w (PostI o i d F ms H L a) Q) ∧ (¬ Held o d a → F i undef ∧ H (ms.map (updB L i)) (ms.map (updV (fun i => sl a (d i)) i undef)) w))
  (hfin : ∀ a w, FreeI ops.size d F ms H a0 (fun _ => true) a w → Q .normal a w) : (Code.region id ops true).wp P Q a0 W0 := by
 refine wp_region_any hm ?_
 have hdst : ∀ i o, ops[i]? = some o → ∀ a : Act, a.tmps.size = a0.tmps.size → ∀ v, (o.dst = none → v = undef) → (∀ j, j < ops.size → sl (a.put o.dst v) (d j) = updV (fun i => sl a (d i)) i v j) ∧ (a.put o.dst v).tmps.size = a0.tmps.size ∧ (a.put o.dst v).defers = a.defers ∧ ∀ k, d i ≠ k → sl (a.put o.dst v) k = sl a k := by
  intro i o ho a ha v hv
  have hil : i < ops.size := (Array.getElem?_eq_some_iff.1 ho).1
  rcases (hop i o ho).1 with ⟨e, hlt⟩ | ⟨e, hge⟩
  ·rw [e]
   refine ⟨fun j hj => ?_, by simp [Act.put, ha], rfl, fun k hk => sl_put_other _ _ _ _ hk⟩
   unfold updV
   by_cases hij : j = i
   ·subst hij
    rw [if_pos rfl, sl_put_same _ _ _ (by rw [ha]; exact hlt)]
   ·rw [if_neg hij, sl_put_other _ _ _ _ (fun e => hij (hdist i j hil hj e).symm)]
  ·rw [e]
   refine ⟨fun j hj => ?_, ha, rfl, fun k _ => rfl⟩
   unfold updV
   by_cases hij : j = i
   ·subst hij
    rw [if_pos rfl, hv e]
    show sl a (d j) = undef
    simp only [sl, Array.getD_eq_getD_getElem?]
    rw [Array.getElem?_eq_none (by omega)]
    rfl
   ·rw [if_neg hij]
    rfl
 have hmv : ∀ (V V' : Nat → Value), (∀ j, j < ops.size → V j = V' j) → ms.map V = ms.map V' := fun V V' h => List.map_congr_left fun j hj => h j (hms j hj)
 have done : ∀ (listed : Array Bool) (a : Act) (w : World), listed.size = ops.size → FreeI ops.size d F ms H a0 (fun i => listed.getD i false) a w → Region.ready .any ops listed = [] → Q .normal a w := by
  intro listed a w hs hf hr
  have hall : ∀ i, i < ops.size → listed.getD i false = true := by
   intro i
   induction i using Nat.strongRecOn with
   | ind i ih =>
    intro hi
    cases hb : listed.getD i false with
    | true => rfl
    | false =>
     exfalso
     have hmem : i ∈ Region.ready .any ops listed := by
      refine mem_ready.2 ⟨?_, ops[i], Array.getElem?_eq_getElem hi, fun e he hb' => ih e.on ((hop i _ (Array.getElem?_eq_getElem hi)).2.1 e he hb') ?_⟩
      ·simpa [Array.getD, hs, hi] using hb
      ·exact Nat.lt_trans ((hop i _ (Array.getElem?_eq_getElem hi)).2.1 e he hb') hi
     rw [hr] at hmem
     cases hmem
  refine hfin a w ⟨hf.defers, hf.size, ?_, fun i hi _ => hf.got i hi (hall i hi), fun k hk => hf.rest k fun i hi _ => hk i hi rfl⟩
  have e : (ms.map fun i => listed.getD i false) = ms.map fun _ => true := List.map_congr_left fun j hj => hall j (hms j hj)
  have hg := hf.glob
  rw [e] at hg
  exact hg
 have main : ∀ (fuel : Nat) (listed : Array Bool) (a : Act) (w : World), listed.size = ops.size → (List.range ops.size).countP (fun i => !listed.getD i false) ≤ fuel →
   (∀ i o, ops[i]? = some o → listed.getD i false = true → ∀ e ∈ o.after, Region.binds .any e = true → listed.getD e.on false = true) →
   FreeI ops.size d F ms H a0 (fun i => listed.getD i false) a w → wpAny P .any ops Q fuel listed a w := by
  intro fuel
  induction fuel with
  | zero =>
   intro listed a w hs hc _ hf
   have hr : Region.ready .any ops listed = [] := by
    cases hr : Region.ready .any ops listed with
    | nil => rfl
    | cons x xs =>
     exfalso
     obtain ⟨hx, o, ho, _⟩ := mem_ready.1 (show x ∈ Region.ready .any ops listed by rw [hr]; exact List.mem_cons_self ..)
     have hxl : x < ops.size := (Array.getElem?_eq_some_iff.1 ho).1
     have : 0 < (List.range ops.size).countP (fun i => !listed.getD i false) := List.countP_pos_iff.2 ⟨x, List.mem_range.2 hxl, by simpa [Array.getD, hs, hxl] using hx⟩
     omega
   exact ⟨hr, done listed a w hs hf hr⟩
  | succ fuel ih =>
   intro listed a w hs hc hcl hf
   refine ⟨done listed a w hs hf, fun i hi => ?_⟩
   obtain ⟨hx, o, ho, hdep⟩ := mem_ready.1 hi
   have hil : i < ops.size := (Array.getElem?_eq_some_iff.1 ho).1
   have hxf : listed.getD i false = false := by simpa [Array.getD, hs, hil] using hx
   have hupd : (fun j => (listed.setIfInBounds i true).getD j false) = updB (fun j => listed.getD j false) i := by
    funext j
    unfold updB
    by_cases hij : j = i
    ·subst hij
     simp [Array.getD, hs, hil]
    ·rw [if_neg hij, getD_set_ne false (fun e => hij e.symm)]
   unfold wpOp
   simp only [ho]
   have hless : (List.range ops.size).countP (fun j => !(listed.setIfInBounds i true).getD j false) ≤ fuel := by
    have hlt' := countP_lt (p := fun j => !(listed.setIfInBounds i true).getD j false) (q := fun j => !listed.getD j false) (List.range ops.size)
     (fun x _ hp => by
      by_cases hxi : i = x
      ·subst hxi; simp [Array.getD, hs, hil] at hp
      ·simpa [getD_set_ne false hxi] using hp)
     ⟨i, List.mem_range.2 hil, by simpa using hxf, by simp [Array.getD, hs, hil]⟩
    omega
   have putd : ∀ v w', (o.dst = none → v = undef) → F i v → H (ms.map (updB (fun j => listed.getD j false) i)) (ms.map (updV (fun i => sl a (d i)) i v)) w' →
     FreeI ops.size d F ms H a0 (fun j => (listed.setIfInBounds i true).getD j false) (a.put o.dst v) w' := by
    intro v w' hv hF hG
    obtain ⟨h1, h2, h3, h4⟩ := hdst i o ho a hf.size v hv
    rw [hupd]
    refine ⟨h3.trans hf.defers, h2, ?_, fun j hj hLj => ?_, fun k hk => ?_⟩
    ·rw [hmv _ _ h1]
     exact hG
    ·rw [h1 j hj]
     unfold updV
     by_cases hij : j = i
     ·subst hij
      rw [if_pos rfl]
      exact hF
     ·rw [if_neg hij]
      exact hf.got j hj (by simpa [updB, hij] using hLj)
    ·rw [h4 k (hk i hil (by simp [updB]))]
     exact hf.rest k fun j hj hLj => hk j hj (by
      unfold updB
      split
      ·rfl
      ·exact hLj)
   have hwt : Region.wanted o (yielded ops a.tmps) = true ↔ Held o d a := by
    unfold Region.wanted Held
    cases hgd : o.guard with
    | none => simp
    | some g =>
     obtain ⟨k, b⟩ := g
     obtain ⟨hk, hks'⟩ := (hop i o ho).2.2 k b hgd
     have hkd : (ops[k]'hk).dst = some (d k) := by
      rcases (hop k _ (Array.getElem?_eq_getElem hk)).1 with h | h
      ·exact h.1
      ·omega
     have hks : d k < a.tmps.size := by rw [hf.size]; exact hks'
     simp only [yielded, Array.getElem?_eq_getElem hk, Option.bind_some, hkd, Array.getElem?_eq_getElem hks, sl, Array.getD_eq_getD_getElem?, Option.getD_some, beq_iff_eq]
     cases hv : a.tmps[d k] <;> simp
   have hcl' : ∀ j o', ops[j]? = some o' → (listed.setIfInBounds i true).getD j false = true → ∀ e ∈ o'.after, Region.binds .any e = true → (listed.setIfInBounds i true).getD e.on false = true := by
    intro j o' ho' hL e he hb
    have h1 : listed.getD e.on false = true := by
     by_cases hij : i = j
     ·subst hij
      rw [ho] at ho'
      injection ho' with ho'
      subst ho'
      exact hdep e he hb
     ·rw [getD_set_ne false hij] at hL
      exact hcl j o' ho' hL e he hb
    by_cases hie : i = e.on
    ·rw [← hie]
     simp [Array.getD, hs, hil]
    ·rw [getD_set_ne false hie]
     exact h1
   have hno := hlas (fun j => listed.getD j false) hcl i hil hxf
   by_cases hheld : Held o d a
   ·rw [if_pos (hwt.2 hheld)]
    refine .inl (Oper.wp_mono ?_ ((hstep i o ho _ a w hf hxf hno hdep).1 hheld))
    rintro a' w' ⟨v, rfl, hv, hF, hG⟩
    exact ih _ _ _ (by simpa using hs) hless hcl' (putd v w' hv hF hG)
   ·rw [if_neg (fun h => hheld (hwt.1 h))]
    obtain ⟨h1, h2⟩ := (hstep i o ho _ a w hf hxf hno hdep).2 hheld
    exact ih _ _ _ (by simpa using hs) hless hcl' (putd undef w (fun _ => rfl) h1 h2)
 refine main ops.size _ a0 _ (by simp) (by exact Nat.le_trans List.countP_le_length (by simp)) (fun i o ho h => by
  have := (Array.getElem?_eq_some_iff.1 ho).1
  simp [Array.getD, this] at h) ⟨rfl, rfl, ?_, fun i hi h => ?_, fun _ _ => rfl⟩
 ·have e : (ms.map fun i => ((Array.replicate ops.size false).getD i false)) = ms.map fun _ => false := List.map_congr_left fun j _ => by
   simp only [Array.getD_eq_getD_getElem?, Array.getElem?_replicate]
   split <;> rfl
  first | exact h0 | (rw [e]; exact h0)
 ·simp [Array.getD, hi] at h

/-- the region's shape, asked of the kernel: ds are the operations' slots; for a store a number from N on -/
def regionOkI (ops : Array Oper) (ds : List Nat) (ms : List Nat) (N : Nat) : Bool :=
 decide (ops.size = ds.length) && decide ds.Nodup && (ms.all fun j => decide (j < ops.size)) &&
  (List.range ops.size).all fun i => ((ops[i]?).map fun o => (match o.guard with | none => true | some g => decide (g.1 < ops.size) && decide (ds.getD g.1 0 < N)) && ((o.dst == some (ds.getD i 0) && decide (ds.getD i 0 < N)) || (o.dst == none && decide (N ≤ ds.getD i 0))) && o.after.all fun e => !Region.binds .any e || decide (e.on < i)).getD false
/-- las tells of each operation some that wait for it -/
def lasOk (ops : Array Oper) (las : List (List Nat)) : Bool :=
 (List.range las.length).all fun i => (las.getD i []).all fun j => ((ops[j]?).map fun o => o.after.any fun e => Region.binds .any e && decide (e.on < j) && (e.on == i || (las.getD i []).contains e.on)).getD false
theorem las_listed {ops : Array Oper} {las : List (List Nat)} (h : lasOk ops las = true) (L : Nat → Bool) (hc : ∀ i o, ops[i]? = some o → L i = true → ∀ e ∈ o.after, Region.binds .any e = true → L e.on = true) (i : Nat) (hi : L i = false) :
  ∀ j ∈ las.getD i [], L j = false := by
 intro j
 induction j using Nat.strongRecOn with
 | ind j ih =>
  intro hj
  by_cases hil : i < las.length
  ·unfold lasOk at h
   simp only [List.all_eq_true, List.mem_range] at h
   have h1 := h i hil j hj
   cases ho : ops[j]? with
   | none => rw [ho] at h1; simp at h1
   | some o =>
    rw [ho] at h1
    simp only [Option.map_some, Option.getD_some] at h1
    rw [← Array.any_toList, List.any_eq_true] at h1
    obtain ⟨e, he, hb⟩ := h1
    simp only [Bool.and_eq_true, decide_eq_true_eq, Bool.or_eq_true, beq_iff_eq] at hb
    obtain ⟨⟨hb1, hlt⟩, hor⟩ := hb
    cases hL : L j with
    | false => rfl
    | true =>
     have h2 := hc j o ho hL e (Array.mem_toList_iff.1 he) hb1
     rcases hor with hor | hor
     ·rw [hor, hi] at h2
      cases h2
     ·rw [ih e.on hlt (List.contains_iff_mem.1 hor)] at h2
      cases h2
  ·rw [List.getD_eq_getElem?_getD, List.getElem?_eq_none (Nat.le_of_not_lt hil)] at hj
   cases hj
/-- one operation's step -/
def FreeStepI (P : Program) (n : Nat) (d : Nat → Nat) (F : Nat → Value → Prop) (ms : List Nat) (H : List Bool → List Value → World → Prop) (a0 : Act) (Q : Exit → Act → World → Prop) (las : Nat → List Nat) (i : Nat) (o : Oper) : Prop :=
 ∀ L a w, FreeI n d F ms H a0 L a w → L i = false → (∀ j ∈ las i, L j = false) → (∀ e ∈ o.after, Region.binds .any e = true → L e.on = true) →
  (Held o d a → o.wp P a w (PostI o i d F ms H L a) Q) ∧ (¬ Held o d a → F i undef ∧ H (ms.map (updB L i)) (ms.map (updV (fun i => sl a (d i)) i undef)) w)
def FreeStepsI (P : Program) (n : Nat) (d : Nat → Nat) (F : Nat → Value → Prop) (ms : List Nat) (H : List Bool → List Value → World → Prop) (a0 : Act) (Q : Exit → Act → World → Prop) (las : Nat → List Nat) : Nat → List Oper → Prop
 | _, [] => True
 | i, o :: r => FreeStepI P n d F ms H a0 Q las i o ∧ FreeStepsI P n d F ms H a0 Q las (i + 1) r
theorem FreeStepsI.at {P : Program} {n : Nat} {d : Nat → Nat} {F : Nat → Value → Prop} {ms : List Nat} {H : List Bool → List Value → World → Prop} {a0 : Act} {Q : Exit → Act → World → Prop} {las : Nat → List Nat} :
  ∀ (l : List Oper) (k : Nat), FreeStepsI P n d F ms H a0 Q las k l → ∀ i o, l[i]? = some o → FreeStepI P n d F ms H a0 Q las (k + i) o
 | [], _, _, _, _, h => by simp at h
 | o :: r, k, h, 0, o', ho => by
  simp at ho
  subst ho
  exact h.1
 | o :: r, k, h, i + 1, o', ho => by
  have := FreeStepsI.at r (k + 1) h.2 i o' (by simpa using ho)
  rwa [Nat.add_assoc, Nat.add_comm 1 i] at this
/-- slots that lie in the frame -/
def slotsIn (N : Nat) : List Nat → List Value → List (Nat × Value)
 | k :: ks, v :: vs => if k < N then (k, v) :: slotsIn N ks vs else slotsIn N ks vs
 | _, _ => []
theorem slotsIn_mem {N : Nat} : ∀ {ks : List Nat} {vs : List Value} {p : Nat × Value}, p ∈ slotsIn N ks vs → p ∈ ks.zip vs ∧ p.1 < N
 | [], _, _, h => by simp [slotsIn] at h
 | _ :: _, [], _, h => by simp [slotsIn] at h
 | k :: ks, v :: vs, p, h => by
  unfold slotsIn at h
  split at h
  ·rcases List.mem_cons.1 h with rfl | h
   ·exact ⟨List.mem_cons_self .., by assumption⟩
   ·exact ⟨List.mem_cons_of_mem _ (slotsIn_mem h).1, (slotsIn_mem h).2⟩
  ·exact ⟨List.mem_cons_of_mem _ (slotsIn_mem h).1, (slotsIn_mem h).2⟩
theorem mem_slotsIn {N : Nat} : ∀ {ks : List Nat} {vs : List Value} {p : Nat × Value}, p ∈ ks.zip vs → p.1 < N → p ∈ slotsIn N ks vs
 | [], _, _, h, _ => by simp at h
 | _ :: _, [], _, h, _ => by simp at h
 | k :: ks, v :: vs, p, h, hp => by
  rw [List.zip_cons_cons] at h
  unfold slotsIn
  rcases List.mem_cons.1 h with rfl | h
  ·rw [if_pos hp]
   exact List.mem_cons_self ..
  ·split
   ·exact List.mem_cons_of_mem _ (mem_slotsIn h hp)
   ·exact mem_slotsIn h hp
theorem FreeI.all {n : Nat} {d : Nat → Nat} {F : Nat → Value → Prop} {ms : List Nat} {H : List Bool → List Value → World → Prop} {a0 : Act} {a : Act} {w : World} (h : FreeI n d F ms H a0 (fun _ => true) a w) (hms : ∀ j ∈ ms, j < n) :
  ∃ vs : List Value, vs.length = n ∧ (∀ i (hi : i < vs.length), F i vs[i]) ∧ H (ms.map fun _ => true) (ms.map fun i => vs.getD i undef) w ∧ a = ⟨putL a0.tmps (slotsIn a0.tmps.size ((List.range n).map d) vs), a0.defers⟩ := by
 refine ⟨(List.range n).map fun i => sl a (d i), by simp, fun i hi => by simp at hi ⊢; exact h.got i hi rfl, ?_, ?_⟩
 ·have e : (ms.map fun i => ((List.range n).map fun i => sl a (d i)).getD i undef) = ms.map fun i => sl a (d i) := List.map_congr_left fun j hj => by
   simp [List.getD_eq_getElem?_getD, hms j hj]
  rw [e]
  exact h.glob
 ·obtain ⟨t, df⟩ := a
  have h1 := h.defers
  simp only at h1
  subst h1
  congr 1
  refine eq_putL t _ _ h.size (fun p hp => ?_) fun k hk => ?_
  ·obtain ⟨i, hi, he⟩ := List.getElem_of_mem (slotsIn_mem hp).1
   simp at he
   rw [← he]
   rfl
  ·by_cases hkn : k < a0.tmps.size
   ·exact h.rest k fun i hi _ e => by
     subst e
     exact hk (d i, sl ⟨t, a0.defers⟩ (d i)) (mem_slotsIn (List.mem_iff_getElem.2 ⟨i, by simpa using hi, by simp⟩) hkn) rfl
   ·have hs := h.size
    simp only at hs
    simp only [Array.getD_eq_getD_getElem?]
    rw [Array.getElem?_eq_none (by omega), Array.getElem?_eq_none (by omega)]
theorem wp_region_freeI_l {P : Program} {id : Nat} {ops : List Oper} {Q : Exit → Act → World → Prop} {a0 : Act} {W0 : World} (hm : P.follows .mixedOrders = true)
  (ds : List Nat) (Fs : List (Value → Prop)) (ms : List Nat) (H : List Bool → List Value → World → Prop) (las : List (List Nat)) (hok : regionOkI ops.toArray ds ms a0.tmps.size = true) (hlo : lasOk ops.toArray las = true)
  (h0 : H (ms.map fun _ => false) (ms.map fun i => sl a0 (ds.getD i 0)) W0.drew)
  (hstep : FreeStepsI P ds.length (fun i => ds.getD i 0) (fun i => Fs.getD i fun _ => True) ms H a0 Q (fun i => las.getD i []) 0 ops)
  (hfin : ∀ (vs : List Value) w, vs.length = ds.length → (∀ i (hi : i < vs.length), (Fs.getD i fun _ => True) vs[i]) → H (ms.map fun _ => true) (ms.map fun i => vs.getD i undef) w → Q .normal ⟨putL a0.tmps (slotsIn a0.tmps.size ds vs), a0.defers⟩ w) :
  (Code.region id ops.toArray true).wp P Q a0 W0 := by
 unfold regionOkI at hok
 simp only [Bool.and_eq_true, decide_eq_true_eq, List.all_eq_true, List.mem_range] at hok
 obtain ⟨⟨⟨h1, h2⟩, h3⟩, h4⟩ := hok
 have hn : ops.length = ds.length := by simpa using h1
 have hop : ∀ (i : Nat) (o : Oper), ops.toArray[i]? = some o → ((o.dst = some (ds.getD i 0) ∧ ds.getD i 0 < a0.tmps.size) ∨ (o.dst = none ∧ a0.tmps.size ≤ ds.getD i 0)) ∧ (∀ e ∈ o.after, Region.binds .any e = true → e.on < i) ∧ ∀ k b, o.guard = some (k, b) → k < ops.toArray.size ∧ ds.getD k 0 < a0.tmps.size := by
  intro i o ho
  have hi := (Array.getElem?_eq_some_iff.1 ho).1
  have := h4 i hi
  rw [ho] at this
  simp only [Option.map_some, Option.getD_some, Bool.and_eq_true, Bool.or_eq_true, beq_iff_eq, decide_eq_true_eq, Array.all_eq_true_iff_forall_mem, Bool.not_eq_true'] at this
  refine ⟨this.1.2, fun e he hb => (this.2 e he).resolve_left (by simp [hb]), fun k b hg => ?_⟩
  have h5 := this.1.1
  rw [hg] at h5
  simpa using h5
 have hms : ∀ j ∈ ms, j < ops.toArray.size := fun j hj => by simpa using h3 j hj
 refine wp_region_freeI hm (fun i => ds.getD i 0) (fun i => Fs.getD i fun _ => True) ms H hms hop (fun i j hi hj he => ?_) (fun i => las.getD i []) (fun L hc i _ hi => las_listed hlo L hc i hi) h0 (fun i o ho => ?_) (fun a w hf => ?_)
 ·have hi' : i < ds.length := by rw [← hn]; simpa using hi
  have hj' : j < ds.length := by rw [← hn]; simpa using hj
  simp only [List.getD_eq_getElem?_getD, List.getElem?_eq_getElem hi', List.getElem?_eq_getElem hj', Option.getD_some] at he
  exact (List.getElem_inj h2).1 he
 ·have := FreeStepsI.at ops 0 hstep i o (by simpa using ho)
  rw [Nat.zero_add] at this
  have e : ops.toArray.size = ds.length := by simpa using hn
  rw [e]
  exact this
 ·have e0 : ops.toArray.size = ds.length := by simpa using hn
  rw [e0] at hf
  obtain ⟨vs, hl, hF, hG, rfl⟩ := hf.all (fun j hj => by rw [← e0]; exact hms j hj)
  have := hfin vs w hl hF hG
  have e : (List.range ds.length).map (fun i => ds.getD i 0) = ds := by
   apply List.ext_getElem (by simp)
   intro i h1 h2
   simp [h2]
  rw [e]
  exact this
theorem FreeI.out {ds : List Nat} {F : Nat → Value → Prop} {ms : List Nat} {H : List Bool → List Value → World → Prop} {a0 : Act} {L : Nat → Bool} {a : Act} {w : World} (h : FreeI ds.length (fun i => ds.getD i 0) F ms H a0 L a w) (k : Nat) (hk : k ∉ ds) {v : Value} (hv : sl a0 k = v) : a.tmps[k]?.getD undef = v := by
 refine slv (Eq.trans (h.rest k fun i hi _ e => hk ?_) hv)
 simp only [List.getD_eq_getElem?_getD, List.getElem?_eq_getElem hi, Option.getD_some] at e
 rw [← e]
 exact List.getElem_mem _
/-- an operation that yields a value and leaves the world -/
theorem freeI_run {P : Program} {o : Oper} {a : Act} {W : World} {k i : Nat} {n : Nat} {d : Nat → Nat} {F : Nat → Value → Prop} {ms : List Nat} {H : List Bool → List Value → World → Prop} {a0 : Act} {L : Nat → Bool} {Q : Exit → Act → World → Prop} {v : Value} (ho : o.dst = some k) (hf : FreeI n d F ms H a0 L a W) (hi : i ∉ ms)
  (h : (execOp a.eval o).run P W = .ok (.value v) W) (hF : F i v) : o.wp P a W (PostI o i d F ms H L a) Q := by
 unfold Oper.wp
 rw [h]
 exact ⟨v, rfl, (fun e => by rw [ho] at e; cases e), hF, by rw [updB_map hi, updV_map hi]; exact hf.glob⟩
/-- an operation that yields a value and turns the world -/
theorem freeI_val {P : Program} {o : Oper} {a : Act} {W W' : World} {k i : Nat} {d : Nat → Nat} {F : Nat → Value → Prop} {ms : List Nat} {H : List Bool → List Value → World → Prop} {L : Nat → Bool} {Q : Exit → Act → World → Prop} {v : Value} (ho : o.dst = some k)
  (h : (execOp a.eval o).run P W = .ok (.value v) W') (hF : F i v) (hH : H (ms.map (updB L i)) (ms.map (updV (fun i => sl a (d i)) i v)) W') : o.wp P a W (PostI o i d F ms H L a) Q := by
 unfold Oper.wp
 rw [h]
 exact ⟨v, rfl, (fun e => by rw [ho] at e; cases e), hF, hH⟩
/-- a store -/
theorem freeI_store {P : Program} {o : Oper} {a : Act} {W W' : World} {i : Nat} {d : Nat → Nat} {F : Nat → Value → Prop} {ms : List Nat} {H : List Bool → List Value → World → Prop} {L : Nat → Bool} {Q : Exit → Act → World → Prop} (ho : o.dst = none)
  (h : (execOp a.eval o).run P W = .ok .skip W') (hF : F i undef) (hH : H (ms.map (updB L i)) (ms.map (updV (fun i => sl a (d i)) i undef)) W') : o.wp P a W (PostI o i d F ms H L a) Q := by
 unfold Oper.wp
 rw [h]
 exact ⟨undef, by rw [ho], fun _ => rfl, hF, hH⟩
/-- a call -/
theorem freeI_call {P : Program} {o : Oper} {a : Act} {W : World} {k i : Nat} {d : Nat → Nat} {F : Nat → Value → Prop} {ms : List Nat} {H : List Bool → List Value → World → Prop} {L : Nat → Bool} {Q : Exit → Act → World → Prop} {f : FuncId} {args : Array Value} (ho : o.dst = some k)
  (h : (execOp a.eval o).run P W = .ok (.enter f args) W) (hc : Calls P f args W fun e w' => ∃ v, e = .returned v ∧ F i v ∧ H (ms.map (updB L i)) (ms.map (updV (fun i => sl a (d i)) i v)) w') : o.wp P a W (PostI o i d F ms H L a) Q := by
 unfold Oper.wp
 rw [h]
 refine hc.mono ?_
 rintro e w' ⟨v, rfl, hF, hH⟩
 exact ⟨v, rfl, (fun e => by rw [ho] at e; cases e), hF, hH⟩
theorem vs_litI {ds : List Nat} {Fs : List (Value → Prop)} (vs : List Value) (hl : vs.length = ds.length) (hF : ∀ (i : Nat) (hi : i < vs.length), (Fs.getD i fun _ => True) vs[i]) :
  ∃ g : Nat → Value, vs = (List.range ds.length).map g ∧ ∀ i, i < ds.length → (Fs.getD i fun _ => True) (g i) := by
 refine ⟨fun i => vs.getD i undef, ?_, fun i hi => ?_⟩
 ·apply List.ext_getElem (by simpa using hl)
  intro i h1 h2
  simp [h1]
 ·have := hF i (by omega)
  simp only [List.getD_eq_getElem?_getD, List.getElem?_eq_getElem (show i < vs.length by omega), Option.getD_some]
  simpa using this
end Go.Proofs.YthdjhbiigmcecaaGreat

/- chain.clone: a header in new memory. -/
namespace Go.Proofs.YthdjhbiigmcecaaGreat
open Go.RowKit

theorem OwnC.setc {w : World} {B k n cap g : Nat} {xs : List Value} (h : OwnC w B k (.slice (some ⟨g, 0, none⟩) n cap) n xs) (j : Nat) (hj : j < n * k) (v : Value) :
  (w.cell? ⟨g, j, none⟩).isSome = true ∧ w.frozen? ⟨g, j, none⟩ = false ∧ OwnC (w.setCell ⟨g, j, none⟩ v) B k (.slice (some ⟨g, 0, none⟩) n cap) n (xs.set j v) := by
 rcases h.2 with ⟨hv, _⟩ | ⟨g', cap', hv, h1, hlt, hn, hm, hc, hf, hx⟩
 ·cases hv
 ·injection hv with a b c
  injection a with a
  injection a with a
  subst a c
  have hjc : j < cap * k := Nat.lt_of_lt_of_le hj (Nat.mul_le_mul_right k hn)
  have hs := hc j hjc
  refine ⟨hs, hf j hjc, by rw [List.length_set]; exact h.1, .inr ⟨g, cap, rfl, h1, by simpa [World.setCell] using hlt, hn, hm, fun q hq => ?_, fun q hq => ?_, fun q u hu => ?_⟩⟩
  ·by_cases hqj : q = j
   ·subst hqj
    rw [cell_set_same hs]
    rfl
   ·rw [World.cell?_setCell_other _ _ _ _ (fun e => hqj (by injection e with _ e; exact e.symm))]
    exact hc q hq
  ·rw [World.frozen?_setCell]
   exact hf q hq
  ·rw [List.getElem?_set] at hu
   by_cases hqj : j = q
   ·subst hqj
    have hjx : j < xs.length := by rw [h.1]; exact hj
    rw [if_pos rfl, if_pos hjx] at hu
    injection hu with hu
    subst hu
    exact cell_set_same hs
   ·rw [if_neg hqj] at hu
    rw [World.cell?_setCell_other _ _ _ _ (fun e => hqj (by injection e))]
    exact hx q u hu
theorem flatC_set {α : Type} (A : α → Array Value) {k : Nat} (hk : ∀ x, (A x).size = k) {r : Nat} (hr : r < k) {y : α} {v : Value} : ∀ (xs : List α) (i : Nat) (x : α), xs[i]? = some x → A y = (A x).setIfInBounds r v → flatC A (xs.set i y) = (flatC A xs).set (i * k + r) v
 | [], _, _, h, _ => by simp at h
 | x0 :: xs, 0, x, h, e => by
  simp at h
  subst h
  rw [List.set_cons_zero, flatC_cons, flatC_cons, e, Nat.zero_mul, Nat.zero_add, List.set_append_left _ _ (by rw [Array.length_toList, hk]; exact hr)]
  simp
 | x0 :: xs, i + 1, x, h, e => by
  have ih := flatC_set A hk hr xs i x (by simpa using h) e
  rw [List.set_cons_succ, flatC_cons, flatC_cons, ih, List.set_append_right _ _ (by rw [Array.length_toList, hk, Nat.add_mul]; omega), Array.length_toList, hk]
  congr 2
  rw [Nat.add_mul]
  omega
/-- a region that calls and stores what comes of it into a cell -/
def CallSet (W0 : World) (a : Addr) (P : Sl → World → Prop) (L : List Bool) (V : List Value) (w : World) : Prop :=
 if L.getD 1 false then ∃ (s' : Sl) (w1 : World), V.getD 0 undef = s'.v ∧ P s' w1 ∧ Below W0.heap.size W0 w1 ∧ w = w1.setCell a s'.v
 else Below W0.heap.size W0 w ∧ (L.getD 0 false = true → ∃ s' : Sl, V.getD 0 undef = s'.v ∧ P s' w)
theorem callSet_no {W0 w : World} {a : Addr} {P : Sl → World → Prop} {l0 l1 : Bool} {V : List Value} (hl : l1 = false) (h : CallSet W0 a P [l0, l1] V w) : Below W0.heap.size W0 w := by
 subst hl
 exact h.1
theorem rows_split {Γ α : Type} {A : Γ → Array Value} {k : Nat} {R : Γ → α → Prop} {w : World} {s : Sl} {l : List α} (h : SlR k (fun cs x => ∃ g, cs = A g ∧ R g x) w s l) :
  ∃ gs : List Γ, gs.length = l.length ∧ SlR k (fun cs g => cs = A g) w s gs ∧ ∀ (i : Nat) (g : Γ) (x : α), gs[i]? = some g → l[i]? = some x → R g x := by
 obtain ⟨hn, hc, hr⟩ := h
 by_cases hl : l = []
 ·subst hl
  exact ⟨[], rfl, ⟨hn, hc, fun e => absurd rfl e⟩, fun i g x hg => by simp at hg⟩
 ·obtain ⟨b, off, ha, hrow⟩ := hr hl
  have hx : ∀ i : Fin l.length, ∃ g, row? w b (off + i.1 * k) k = some (A g) ∧ R g l[i.1] := fun i => by
   obtain ⟨cs, h1, g, rfl, h2⟩ := hrow i.1 i.2
   exact ⟨g, h1, h2⟩
  refine ⟨List.ofFn fun i => Classical.choose (hx i), by simp, ⟨by simpa using hn, hc, fun _ => ⟨b, off, ha, fun i hi => ?_⟩⟩, fun i g x hg hxl => ?_⟩
  ·have hi' : i < l.length := by simpa using hi
   refine ⟨_, ?_, rfl⟩
   rw [List.getElem_ofFn]
   exact (Classical.choose_spec (hx ⟨i, hi'⟩)).1
  ·have hi := (List.getElem?_eq_some_iff.1 hxl).1
   rw [List.getElem?_ofFn, dif_pos hi] at hg
   injection hg with hg
   subst hg
   have := (Classical.choose_spec (hx ⟨i, hi⟩)).2
   rw [← (List.getElem?_eq_some_iff.1 hxl).2]
   exact this
/-- what clone goes through is small -/
def ClnFits (h : Hdr) : Prop := h.ops.length ≤ 1000 ∧ ∀ o ∈ h.ops, o.evidence.length ≤ 1000 ∧ ∀ v ∈ o.evidence, v.sig.length ≤ 1000000
theorem clnFits_may {h : Hdr} (hm : hdrMay h = true) : ClnFits h := by
 unfold hdrMay at hm
 simp only [Bool.and_eq_true, decide_eq_true_eq, List.all_eq_true] at hm
 obtain ⟨⟨h1, h2⟩, h3⟩ := hm
 refine ⟨by omega, fun o ho => ?_⟩
 have h4 := h3 o ho
 unfold opMay at h4
 rw [Bool.and_eq_true, decide_eq_true_eq] at h4
 obtain ⟨h5, h6⟩ := h4
 by_cases k3 : o.kind = 3
 ·rw [if_neg (by omega), if_neg (by omega), if_pos k3] at h6
  simp only [Bool.and_eq_true, decide_eq_true_eq, List.all_eq_true] at h6
  refine ⟨by omega, fun v hv => ?_⟩
  have := h6.2 v hv
  unfold voteMay at this
  simp only [Bool.and_eq_true, decide_eq_true_eq] at this
  omega
 ·have he : o.evidence = [] := by
   rw [h5]
   unfold bareO
   rw [if_neg k3]
   split
   ·rfl
   ·split <;> rfl
  rw [he]
  exact ⟨by simp, fun v hv => by cases hv⟩
abbrev HdrAt (B : Nat) (W : World) (g : GHeader) (h : Hdr) : Prop := Safe (fun k => k < B) W fun W => HdrR W g h
theorem opA_ev (o : GOp) (e : Sl) : opA { o with evidence := e } = (opA o).setIfInBounds 35 e.v := by
 apply Array.ext'
 simp [opA, hashA, o.key.2, List.set_append]
theorem voteA_sg (v : GVote) (e : Sl) : voteA { v with sig := e } = (voteA v).setIfInBounds 67 e.v := by
 apply Array.ext'
 simp [voteA, pointA, hashA, v.source.name.2, v.target.name.2, List.set_append]
end Go.Proofs.YthdjhbiigmcecaaGreat

/- chain.clone: the walk. -/
namespace Go.Proofs.YthdjhbiigmcecaaGreat
open Go.RowKit

theorem clone_res : Tryz.f19.results = #[.cell 2 39] := by kernel_rfl
theorem info_clo : (Tryz.prog.info? 73).map (fun i => (i.zero, i.size, i.bytes)) = some (some (.agg (opA ⟨0, zeroHash, 0, 0, ⟨none, 0, 0⟩⟩)), 36, 80) := by kernel_rfl
theorem info_clv : (Tryz.prog.info? 76).map (fun i => (i.zero, i.size, i.bytes)) = some (some (.agg (voteA ⟨0, zeroPt, zeroPt, ⟨none, 0, 0⟩⟩)), 68, 112) := by kernel_rfl
theorem clopA_one (g : GOp) : ∀ u ∈ (opA g).toList, u.oneCell' = true := by
 intro u hu
 simp only [opA, hashA, Array.toList_append, List.mem_append, List.mem_map] at hu
 rcases hu with (hu | ⟨y, _, rfl⟩) | hu
 ·simp at hu; subst hu; rfl
 ·rfl
 ·simp at hu; rcases hu with rfl | rfl | rfl <;> rfl
theorem clvoteA_one (g : GVote) : ∀ u ∈ (voteA g).toList, u.oneCell' = true := by
 intro u hu
 simp only [voteA, pointA, hashA, Array.toList_append, List.mem_append, List.mem_map] at hu
 rcases hu with ((hu | (hu | ⟨y, _, rfl⟩)) | (hu | ⟨y, _, rfl⟩)) | hu
 all_goals first | rfl | (simp at hu; subst hu; rfl)
def byA (b : UInt8) : Array Value := #[byteV b]
theorem byA_one (b : UInt8) : ∀ u ∈ (byA b).toList, u.oneCell' = true := by simp [byA, byteV, Value.oneCell']
theorem bytes_rows {w : World} {s : Sl} {l : List UInt8} (h : BytesR w s l) : SlR 1 (fun cs b => cs = byA b) w s l := by
 refine ⟨h.1, h.2.1, fun hl => ?_⟩
 obtain ⟨b, off, ha, hc⟩ := h.2.2 hl
 refine ⟨b, off, ha, fun i hi => ⟨_, ?_, rfl⟩⟩
 have h1 := hc i hi
 have hlt := lt_of_cell h1
 unfold World.cell? at h1
 unfold row?
 cases hg : w.heap[b]? with
 | none => rw [hg] at h1; simp at h1
 | some o =>
  cases o with
  | cells cs t fr =>
   have h2 : cs[off + i]? = some (byteV l[i]) := by
    have := cell_of_row w b (off + i) cs t fr hg
    rw [← this]
    exact hc i hi
   have h3 := (Array.getElem?_eq_some_iff.1 h2)
   obtain ⟨h4, h5⟩ := h3
   simp only [Nat.mul_one]
   rw [if_pos (by omega)]
   congr 1
   apply Array.ext
   ·simp [byA]; omega
   ·intro j hj1 hj2
    have hj0 : j = 0 := by simp [byA] at hj2; omega
    subst hj0
    simp only [Array.getElem_extract, Nat.add_zero, byA]
    exact h5
  | _ => rw [hg] at h1; simp at h1
theorem rows_bytes {w : World} {s : Sl} {l : List UInt8} (h : SlR 1 (fun cs b => cs = byA b) w s l) : BytesR w s l := by
 refine ⟨h.1, h.2.1, fun hl => ?_⟩
 obtain ⟨b, off, ha, hc⟩ := h.2.2 hl
 refine ⟨b, off, ha, fun i hi => ?_⟩
 obtain ⟨cs, h1, rfl⟩ := hc i hi
 have := cell_of_row? h1 0 (by omega)
 rw [Nat.mul_one, Nat.add_zero] at this
 rw [this]
 rfl
theorem rows_join {Γ α : Type} {A : Γ → Array Value} {k : Nat} {R : Γ → α → Prop} {w : World} {s : Sl} {gs : List Γ} {l : List α} (h : SlR k (fun cs g => cs = A g) w s gs) (hl : gs.length = l.length) (hr : ∀ (i : Nat) (g : Γ) (x : α), gs[i]? = some g → l[i]? = some x → R g x) :
  SlR k (fun cs x => ∃ g, cs = A g ∧ R g x) w s l := by
 refine ⟨h.1.trans hl, h.2.1, fun hne => ?_⟩
 obtain ⟨b, off, ha, hc⟩ := h.2.2 (fun e => hne (by subst e; exact List.eq_nil_of_length_eq_zero (by simpa using hl.symm)))
 refine ⟨b, off, ha, fun i hi => ?_⟩
 obtain ⟨cs, h1, rfl⟩ := hc i (by omega)
 exact ⟨_, h1, _, rfl, hr i _ _ (List.getElem?_eq_getElem (by omega)) (List.getElem?_eq_getElem hi)⟩
/-- slices that a clone made: each at the head of a block that is not old, all of its cells can be written -/
def SigT (B : Nat) (W : World) (s : Sl) : Prop := s.n = 0 ∨ ∃ q, s.a = some ⟨q, 0, none⟩ ∧ B ≤ q ∧ ∀ j, j < s.n → (∃ u : UInt8, W.cell? ⟨q, j, none⟩ = some (byteV u)) ∧ W.frozen? ⟨q, j, none⟩ = false
def EvT (B : Nat) (W : World) (s : Sl) : Prop := s.n = 0 ∨ ∃ e, s.a = some ⟨e, 0, none⟩ ∧ (B ≤ e ∧ s.n ≤ 9223372036854775807) ∧ ∀ j, j < s.n → there W e (j * 68) 68 ∧ (∃ v : Int, W.cell? ⟨e, j * 68, none⟩ = some (.int .i64 v)) ∧ ∃ t : Sl, W.cell? ⟨e, j * 68 + 67, none⟩ = some t.v ∧ SigT B W t
def OpsT (B : Nat) (W : World) (s : Sl) : Prop := s.n = 0 ∨ ∃ b, s.a = some ⟨b, 0, none⟩ ∧ (B ≤ b ∧ s.n ≤ 9223372036854775807) ∧ ∀ j, j < s.n → there W b (j * 36) 36 ∧ (∃ v : UInt64, W.cell? ⟨b, j * 36 + 33, none⟩ = some (.int .u64 (v.toNat : Int))) ∧ ∃ t : Sl, W.cell? ⟨b, j * 36 + 35, none⟩ = some t.v ∧ EvT B W t
theorem SigT.more {B B' : Nat} {W : World} {s : Sl} (h : SigT B W s) (hb : B' ≤ B) : SigT B' W s := h.imp_right fun ⟨q, h1, h2, h3⟩ => ⟨q, h1, Nat.le_trans hb h2, h3⟩
theorem EvT.more {B B' : Nat} {W : World} {s : Sl} (h : EvT B W s) (hb : B' ≤ B) : EvT B' W s := h.imp_right fun ⟨q, h1, h2, h3⟩ => ⟨q, h1, ⟨Nat.le_trans hb h2.1, h2.2⟩, fun j hj => by obtain ⟨r1, r2, t, r3, r4⟩ := h3 j hj; exact ⟨r1, r2, t, r3, r4.more hb⟩⟩
theorem own_there {W : World} {B k n : Nat} {s : Sl} {xs : List Value} (h : OwnC W B k s.v n xs) : s.n = n ∧ (n = 0 ∨ ∃ q, s.a = some ⟨q, 0, none⟩ ∧ (B ≤ q ∧ n ≤ 9223372036854775807) ∧ ∀ j, j < n → there W q (j * k) k) := by
 obtain ⟨sa, sn, sc⟩ := s
 rcases h.2 with ⟨e, hn⟩ | ⟨q, cap, e, h1, -, h3, hmx, h5, h6, -⟩
 ·injection e with e1 e2 e3
  exact ⟨e2.trans hn.symm, .inl hn⟩
 ·injection e with e1 e2 e3
  refine ⟨e2, .inr ⟨q, e1, ⟨h1, by simp only [maxLen] at hmx; omega⟩, fun j hj i hi => ?_⟩⟩
  have hm : (j + 1) * k ≤ cap * k := Nat.mul_le_mul_right k (by omega)
  rw [Nat.succ_mul] at hm
  exact ⟨h5 _ (by omega), h6 _ (by omega)⟩
theorem sigT_own {W : World} {B : Nat} {s : Sl} {l : List UInt8} (h : OwnC W B 1 s.v l.length (flatC byA l)) : SigT B W s := by
 obtain ⟨hn, h0 | ⟨q, h1, h2, h3⟩⟩ := own_there h
 ·exact .inl (hn.trans h0)
 ·refine .inr ⟨q, h1, h2.1, fun j hj => ?_⟩
  obtain ⟨-, -, hr⟩ := rows_bytes (rows_of_own byA (k := 1) (fun _ => rfl) (by omega) h)
  have hjl : j < l.length := by rw [hn] at hj; exact hj
  obtain ⟨b, off, ha, hc⟩ := hr (by intro e; rw [e] at hjl; exact absurd hjl (Nat.not_lt_zero _))
  rw [h1] at ha
  injection ha with ha
  injection ha with ha1 ha2
  subst ha1 ha2
  have h4 := hc j hjl
  rw [Nat.zero_add] at h4
  have h5 := (h3 j hjl 0 (by omega)).2
  rw [Nat.mul_one, Nat.add_zero] at h5
  exact ⟨⟨_, h4⟩, h5⟩
theorem evT_own {W : World} {B : Nat} {s : Sl} {vs : List GVote} (h : OwnC W B 68 s.v vs.length (flatC voteA vs)) (hs : ∀ (j : Nat) (v : GVote), vs[j]? = some v → SigT B W v.sig) : EvT B W s := by
 obtain ⟨hn, h0 | ⟨q, h1, h2, h3⟩⟩ := own_there h
 ·exact .inl (hn.trans h0)
 ·refine .inr ⟨q, h1, ⟨h2.1, by rw [hn]; exact h2.2⟩, fun j hj => ?_⟩
  have hjl : j < vs.length := by rw [hn] at hj; exact hj
  obtain ⟨sa, sn, sc⟩ := s
  simp only at h1 hn
  subst h1 hn
  have hr := own_row voteA voteA_size (by omega) h j hjl
  have c0 := cell_of_row? hr 0 (by omega)
  have c1 := cell_of_row? hr 67 (by omega)
  rw [voteA_validator, Nat.add_zero] at c0
  rw [voteA_sig] at c1
  exact ⟨h3 j hjl, ⟨_, c0⟩, _, c1, hs j _ (List.getElem?_eq_getElem hjl)⟩
theorem opsT_own {W : World} {B : Nat} {s : Sl} {gs : List GOp} (h : OwnC W B 36 s.v gs.length (flatC opA gs)) (hs : ∀ (j : Nat) (x : GOp), gs[j]? = some x → EvT B W x.evidence) : OpsT B W s := by
 obtain ⟨hn, h0 | ⟨q, h1, h2, h3⟩⟩ := own_there h
 ·exact .inl (hn.trans h0)
 ·refine .inr ⟨q, h1, ⟨h2.1, by rw [hn]; exact h2.2⟩, fun j hj => ?_⟩
  have hjl : j < gs.length := by rw [hn] at hj; exact hj
  obtain ⟨sa, sn, sc⟩ := s
  simp only at h1 hn
  subst h1 hn
  have hr := own_row opA opA_size (by omega) h j hjl
  have c0 := cell_of_row? hr 33 (by omega)
  have c1 := cell_of_row? hr 35 (by omega)
  rw [opA_stake] at c0
  rw [opA_evidence] at c1
  exact ⟨h3 j hjl, ⟨_, c0⟩, _, c1, hs j _ (List.getElem?_eq_getElem hjl)⟩
/-- the operations while they are cloned: i are done -/
structure ClI (w W : World) (g : GHeader) (s : Sl) (gs0 gs : List GOp) (ops : List Op) (i : Nat) : Prop where
 row1 : row? W w.heap.size 0 34 = some (headerA ⟨g.parent, g.epoch, s⟩)
 row2 : row? W (w.heap.size + 1) 0 34 = some (headerA ⟨zeroHash, 0, ⟨none, 0, 0⟩⟩)
 thr2 : there W (w.heap.size + 1) 0 34
 own : OwnC W (w.heap.size + 2) 36 s.v gs.length (flatC opA gs)
 glen : gs.length = ops.length
 done : ∀ (j : Nat) (x : GOp) (o : Op), j < i → gs[j]? = some x → ops[j]? = some o → Safe (fun k => k < w.heap.size + 2 ∨ s.v.ownBlock = some k) W fun W' => OpR W' x o ∧ EvT w.heap.size W' x.evidence
 rest : ∀ j, i ≤ j → gs[j]? = gs0[j]?
 bel : Below w.heap.size w W
/-- the votes of one of them while they are cloned: k are done -/
structure ClV (W5 W : World) (E : Nat) (s : Sl) (vs0 vs : List GVote) (ev : List Vote) (k : Nat) : Prop where
 own : OwnC W E 68 s.v vs.length (flatC voteA vs)
 vlen : vs.length = ev.length
 done : ∀ (j : Nat) (x : GVote) (v : Vote), j < k → vs[j]? = some x → ev[j]? = some v → Safe (fun q => q < E ∨ s.v.ownBlock = some q) W fun W' => VoteR W' x v ∧ SigT E W' x.sig
 rest : ∀ j, k ≤ j → vs[j]? = vs0[j]?
 bel : Below E W5 W
set_option maxRecDepth 100000 in
set_option maxHeartbeats 6400000 in
theorem hclone2_c {w : World} {g : GHeader} {h : Hdr} (hr : HdrR w g h) (hf : ClnFits h) :
  Calls Tryz.prog 19 #[.agg (headerA g)] w fun e w' => ∃ g', e = .returned (.agg (headerA g')) ∧ HdrAt w.heap.size w' g' h ∧ Below w.heap.size w w' ∧ OpsT w.heap.size w' g'.ops := by
 have hB0 : Below w.heap.size w ((w.alloc (.cells (headerA g) 39)).alloc (.cells (headerA ⟨zeroHash, 0, ⟨none, 0, 0⟩⟩) 39)) := by (repeat' (first | (with_reducible first | exact Below.refl _ _ | assumption | refine bel_trans (by assumption) ?_ ?_ | refine bel_grown (by assumption) ?_ ?_ ?_ | refine Below.alloc ?_ ?_ _ | refine Below.drew ?_ | refine below_drewN ?_ _ | refine Below.setCell ?_ ?_ _ | refine below_put ?_ ?_ _ _ | exact Nat.le_refl _) | omega | (with_reducible first | refine Nat.le_trans ?_ (Below.size (by assumption)) | refine Nat.le_trans ?_ (World.grownBy.size (by assumption))) | (simp only [World.size_alloc, World.size_setCell, World.size_drew, size_drewN]; omega) | (simp only [World.size_alloc, World.size_setCell, World.size_drew, size_drewN, size_put]; omega) | (intro k hk; simp [Value.ownBlock] at hk; first | done | omega) | (simp [size_drewN] at *; omega)))
 have hz0 : ((w.alloc (.cells (headerA g) 39)).alloc (.cells (headerA ⟨zeroHash, 0, ⟨none, 0, 0⟩⟩) 39)).heap.size = w.heap.size + 2 := by simp
 have hrow1 : row? ((w.alloc (.cells (headerA g) 39)).alloc (.cells (headerA ⟨zeroHash, 0, ⟨none, 0, 0⟩⟩) 39)) w.heap.size 0 34 = some (headerA g) := by rw [row?_old _ _ _ _ _ (by simp), row?_new]; simp
 have hth1 : there ((w.alloc (.cells (headerA g) 39)).alloc (.cells (headerA ⟨zeroHash, 0, ⟨none, 0, 0⟩⟩) 39)) w.heap.size 0 34 := there_old _ _ _ _ _ (by simp) (there_new w _ 39 0 34 (by simp))
 have hrow2 : row? ((w.alloc (.cells (headerA g) 39)).alloc (.cells (headerA ⟨zeroHash, 0, ⟨none, 0, 0⟩⟩) 39)) (w.heap.size + 1) 0 34 = some (headerA ⟨zeroHash, 0, ⟨none, 0, 0⟩⟩) := by rw [row?_new_at _ _ _ _ _ _ (by simp)]; simp
 have hth2 : there ((w.alloc (.cells (headerA g) 39)).alloc (.cells (headerA ⟨zeroHash, 0, ⟨none, 0, 0⟩⟩) 39)) (w.heap.size + 1) 0 34 := there_new_at _ _ _ _ _ _ (by simp) (by simp)
 obtain ⟨gs0, hgl, hrows, hgr⟩ := rows_split (A := opA) (R := OpR w) hr.2.2
 have g1 := hr.1
 have g2 := hr.2.1
 have hf1 := hf.1
 have hf2 := Lib.hid hf.2
 obtain ⟨i0, hi, hy0, hy1, hy2⟩ := info_parts info_clo
 have HO := clone_rows opA_size clopA_one clO i0 _ 80 hi hy0 hy1 hy2 (by simp [Value.cells]) (by omega) (by omega) (SlR.keep hrows hB0 fun _ _ h => h) (by omega)
 clear hi hy0 hy1 hy2
 replace hgr := Lib.hid hgr
 clear hr hf hrows
 obtain ⟨gp, ge, ⟨ga, gn, gc⟩⟩ := g
 simp only at g1 g2
 subst g1 g2
 have h33 := cell_of_row? hrow1 33 (by omega)
 simp only [headerA_ops, Nat.zero_add] at h33
 dsimp only [Sl.v] at h33 HO
 go_enter Tryz.func19, Tryz.ntmps19
 go_upto_region 1 with fail
 generalize (w.alloc (.cells (headerA ⟨h.parent, h.epoch, ⟨ga, gn, gc⟩⟩) 39)).alloc (.cells (headerA ⟨zeroHash, 0, ⟨none, 0, 0⟩⟩) 39) = w0 at *
 go_wp2_with fail
 refine HO.mono ?_
 clear HO
 rintro e w1 ⟨⟨sa, sn, sc⟩, rfl, ho1, hb1⟩
 have hz1 := hb1.size
 have hB1 := hB0.trans (hb1.mono (by omega))
 have hrow11 := (row?_below _ _ _ hb1 (by omega)).trans hrow1
 have hth11 := there_below hb1 (show w.heap.size < w0.heap.size by omega) hth1
 have hrow21 := (row?_below _ _ _ hb1 (by omega)).trans hrow2
 have hth21 := there_below hb1 (show w.heap.size + 1 < w0.heap.size by omega) hth2
 rw [hz0] at ho1
 have hn1 : sn = h.ops.length := by
  rcases ho1.2 with ⟨e, hn⟩ | ⟨_, _, e, _⟩
  ·injection e with e1 e2 e3
   simp only at e2
   omega
  ·injection e with e1 e2 e3
   exact e2.trans hgl
 subst hn1
 have hst := (hth11 33 (by omega))
 simp only [Nat.zero_add] at hst
 obtain ⟨-, hst2⟩ := hst
 have hst1 := (hb1.cell (p := ⟨w.heap.size, 33, none⟩) (show w.heap.size < w0.heap.size by omega)).trans h33
 have hset : ∃ W, W = w1.setCell ⟨w.heap.size, 33, none⟩ (.slice sa h.ops.length sc) ∧ ClI w W ⟨h.parent, h.epoch, ⟨ga, gn, gc⟩⟩ ⟨sa, h.ops.length, sc⟩ gs0 gs0 h.ops 0 := by
  refine ⟨_, rfl, ?_, ?_, there_set _ _ _ _ _ _ hth21, ?_, hgl, fun j _ _ hj => absurd hj (Nat.not_lt_zero _), fun _ _ => rfl, hB1.setCell (Nat.le_refl _) _⟩
  ·rw [row?_set_in _ _ _ _ _ (by omega) (by rw [hrow11]; rfl), hrow11, Option.map_some]
   refine congrArg some ?_
   simp only [splice, headerA]
   apply Array.ext'
   simp
  ·rw [row?_far _ _ _ _ _ _ (by simp)]
   exact hrow21
  ·exact OwnC.off ho1 (asd_set w1 ⟨w.heap.size, 33, none⟩ _) fun q hq e => by
    have := (OwnC.lt ho1 q hq).1
    have e' : q = w.heap.size := e
    omega
 obtain ⟨w2, hw2, hCI⟩ := hset
 replace hgl := Lib.hid hgl
 replace hCI := Lib.hid hCI
 clear hB0 hrow1 hth1 hrow2 hth2 hb1 hrow11 hth11 hrow21 hth21 ho1 hB1 hz0 hz1 h33
 go_upto_region 2 with fail
 rw [← hw2]
 clear hw2 hst1 hst2
 have h33 := cell_of_row? hCI.out.row1 33 (by omega)
 simp only [headerA_ops, Nat.zero_add] at h33
 dsimp only [Sl.v] at h33
 go_upto_region 3 with fail
 go_loopw [14] (fun t W' => ∃ (i : Nat) (gs : List GOp), i ≤ h.ops.length ∧ t = .int .i64 i ∧ Hid (ClI w W' ⟨h.parent, h.epoch, ⟨ga, gn, gc⟩⟩ ⟨sa, h.ops.length, sc⟩ gs0 gs h.ops i)) (fun t _ => h.ops.length - (intOf t).toNat)
 case atStart => exact ⟨0, gs0, Nat.zero_le _, rfl, hCI⟩
 case round =>
  clear hCI h33
  obtain ⟨i, gs, hi, rfl, hCI⟩ := hrel
  have hgl2 := Lib.hid hCI.out.glen
  by_cases hix : i < h.ops.length
  ·have hks := Lib.hid (show i + 1 ≤ h.ops.length from hix)
   have hgi : i < gs.length := by rw [hgl2.out]; exact hix
   obtain ⟨gO, rfl⟩ : ∃ gO, sa = some ⟨gO, 0, none⟩ := by
    rcases hCI.out.own.2 with ⟨e, hn⟩ | ⟨gO, _, e, _⟩
    ·omega
    ·injection e with e1 e2 e3
     exact ⟨gO, e1⟩
   have hown := hCI.out.own
   rw [hgl2.out] at hown
   obtain ⟨x, hx⟩ : ∃ x, gs[i]? = some x := ⟨_, List.getElem?_eq_getElem hgi⟩
   obtain ⟨o, ho⟩ : ∃ o, h.ops[i]? = some o := ⟨_, List.getElem?_eq_getElem hix⟩
   have hrx : row? wr gO (i * 36) 36 = some (opA x) := by
    have := own_row opA opA_size (by omega) (show OwnC wr (w.heap.size + 2) 36 (.slice (some ⟨gO, 0, none⟩) h.ops.length sc) gs.length (flatC opA gs) from hCI.out.own) i hgi
    rw [(List.getElem?_eq_some_iff.1 hx).2] at this
    exact this
   have hx0 : gs0[i]? = some x := (hCI.out.rest i (Nat.le_refl _)).symm.trans hx
   have hxo := hgr.out i x o hx0 ho
   obtain ⟨of1, of2⟩ := hf2.out o (List.mem_of_getElem? ho)
   obtain ⟨vs0, hvl, hvrows, hvr⟩ := rows_split (A := voteA) (R := VoteR w) hxo.2.2.2.2
   have h33r := cell_of_row? hCI.out.row1 33 (by omega)
   simp only [headerA_ops, Nat.zero_add] at h33r
   dsimp only [Sl.v] at h33r
   have hOl := (OwnC.lt hown gO (by simp [Value.ownBlock]))
   have hwl := hCI.out.bel.size
   have i1 : (i : Int) < (h.ops.length : Int) := by omega
   have i2 : (0 : Int) ≤ (i : Int) := by omega
   go_upto_region 5 with fail
   obtain ⟨wo, hwo, hrow4, -, hb4, hz4⟩ := box_row wr (opA ⟨0, zeroHash, 0, 0, ⟨none, 0, 0⟩⟩) (opA x) 73 36 (by omega) (by simp) (by simp)
   rw [← hwo]
   clear hwo
   obtain ⟨b4, hb4e⟩ : ∃ b, b = wr.heap.size := ⟨_, rfl⟩
   rw [← hb4e] at hrow4 ⊢
   have hb4o : b4 < wo.heap.size := by omega
   have hb1o : w.heap.size < wo.heap.size := by omega
   have h33 := (hb4.cell (p := ⟨w.heap.size, 33, none⟩) (show w.heap.size < wr.heap.size by omega)).trans h33r
   have h435 := cell_of_row? hrow4 35 (by omega)
   rw [opA_evidence, Nat.zero_add] at h435
   have howno := hown.keep hb4
   have hBo := hCI.out.bel.trans (hb4.mono hwl)
   obtain ⟨iv, hiv, hy0, hy1, hy2⟩ := info_parts info_clv
   have HV := fun W (hb : Below wo.heap.size wo W) => clone_rows voteA_size clvoteA_one clV iv _ 112 hiv hy0 hy1 hy2 (by simp [Value.cells]) (by omega) (by omega) (SlR.keep hvrows (hBo.trans (hb.mono (by omega))) fun _ _ h => h) (show vs0.length ≤ 1000000 by omega)
   have hfzO := fun W (hb : Below wo.heap.size wo W) => (show (W.cell? ⟨gO, i * 36 + 35, none⟩).isSome = true ∧ W.frozen? ⟨gO, i * 36 + 35, none⟩ = false from by
    have := OwnC.setc (n := h.ops.length) (howno.keep hb) (i * 36 + 35) (by omega) undef
    exact ⟨this.1, this.2.1⟩)
   obtain ⟨xk, xy, xst, xval, ⟨ea, en, ec⟩⟩ := x
   dsimp only [Sl.v] at h435 HV
   replace hb4e := Lib.hid hb4e
   replace hz4 := Lib.hid hz4
   refine wp_region_freeI_l (by kernel_rfl) [19, 20, 21, 22, 23, 24, 25, 26, 62]
    [(fun v => v = .pointer (some ⟨w.heap.size, 33, none⟩)), (fun v => v = .slice (some ⟨gO, 0, none⟩) h.ops.length sc), (fun v => v = .int .i64 (i : Int)), (fun v => v = .pointer (some ⟨b4, 35, none⟩)), (fun v => v = .slice ea en ec), (fun v => ∃ s : Sl, v = s.v), (fun v => v = .pointer (some ⟨gO, i * 36, none⟩)), (fun v => v = .pointer (some ⟨gO, i * 36 + 35, none⟩)), (fun _ => True)]
    [5, 8] (CallSet wo ⟨gO, i * 36 + 35, none⟩ (fun s w => OwnC w wo.heap.size 68 s.v vs0.length (flatC voteA vs0))) [[1, 6, 7, 8], [6, 7, 8], [6, 7, 8], [4, 5, 8], [5, 8], [8], [7, 8], [8], []] (by kernel_rfl) (by kernel_rfl) ?_ ?_ ?_
   ·show CallSet wo ⟨gO, i * 36 + 35, none⟩ (fun s w => OwnC w wo.heap.size 68 s.v vs0.length (flatC voteA vs0)) [false, false] [_, _] _
    exact ⟨(Below.refl _ _).drew, fun h => by cases h⟩
   ·refine ⟨?_, ?_, ?_, ?_, ?_, ?_, ?_, ?_, ?_, trivial⟩
    ·intro L ax W hf hLi hno hd
     try simp [Region.binds] at hd
     have e1 : ax.tmps[1]?.getD undef = .pointer (some ⟨w.heap.size, 0, none⟩) := hf.out 1 (by decide) rfl
     refine ⟨fun _ => ?_, fun h => absurd trivial h⟩
     refine freeI_run (v := .pointer (some ⟨w.heap.size, 33, none⟩)) rfl hf (by decide) ?_ rfl
     go_simp
    ·intro L ax W hf hLi hno hd
     simp [Region.binds] at hd
     have e19 : ax.tmps[19]?.getD undef = .pointer (some ⟨w.heap.size, 33, none⟩) := slv (hf.got 0 (by decide) (by simp [hd]))
     refine ⟨fun _ => ?_, fun h => absurd trivial h⟩
     have hG : CallSet wo ⟨gO, i * 36 + 35, none⟩ (fun s w => OwnC w wo.heap.size 68 s.v vs0.length (flatC voteA vs0)) [L 5, L 8] [sl ax 24, sl ax 62] W := hf.glob
     have hB := callSet_no (hno 8 (by decide)) hG
     have h1 := (hB.cell (p := ⟨w.heap.size, 33, none⟩) hb1o).trans h33
     refine freeI_run (v := .slice (some ⟨gO, 0, none⟩) h.ops.length sc) rfl hf (by decide) ?_ rfl
     go_simp
    ·intro L ax W hf hLi hno hd
     try simp [Region.binds] at hd
     have e3 : ax.tmps[3]?.getD undef = .int .i64 (i : Int) := hf.out 3 (by decide) rfl
     refine ⟨fun _ => ?_, fun h => absurd trivial h⟩
     refine freeI_run (v := .int .i64 (i : Int)) rfl hf (by decide) ?_ rfl
     go_simp
    ·intro L ax W hf hLi hno hd
     try simp [Region.binds] at hd
     have e4 : ax.tmps[4]?.getD undef = .pointer (some ⟨b4, 0, none⟩) := hf.out 4 (by decide) rfl
     refine ⟨fun _ => ?_, fun h => absurd trivial h⟩
     refine freeI_run (v := .pointer (some ⟨b4, 35, none⟩)) rfl hf (by decide) ?_ rfl
     go_simp
    ·intro L ax W hf hLi hno hd
     simp [Region.binds] at hd
     have e22 : ax.tmps[22]?.getD undef = .pointer (some ⟨b4, 35, none⟩) := slv (hf.got 3 (by decide) (by simp [hd]))
     refine ⟨fun _ => ?_, fun h => absurd trivial h⟩
     have hG : CallSet wo ⟨gO, i * 36 + 35, none⟩ (fun s w => OwnC w wo.heap.size 68 s.v vs0.length (flatC voteA vs0)) [L 5, L 8] [sl ax 24, sl ax 62] W := hf.glob
     have hB := callSet_no (hno 8 (by decide)) hG
     have h1 := (hB.cell (p := ⟨b4, 35, none⟩) hb4o).trans h435
     refine freeI_run (v := .slice ea en ec) rfl hf (by decide) ?_ rfl
     go_simp
    ·intro L ax W hf hLi hno hd
     simp [Region.binds] at hd
     have e23 : ax.tmps[23]?.getD undef = .slice ea en ec := slv (hf.got 4 (by decide) (by simp [hd]))
     refine ⟨fun _ => ?_, fun h => absurd trivial h⟩
     have hG : CallSet wo ⟨gO, i * 36 + 35, none⟩ (fun s w => OwnC w wo.heap.size 68 s.v vs0.length (flatC voteA vs0)) [L 5, L 8] [sl ax 24, sl ax 62] W := hf.glob
     have hB := callSet_no (hno 8 (by decide)) hG
     refine freeI_call (f := 36) (args := #[.slice ea en ec]) rfl (by go_simp) ?_
     refine (HV W hB).mono ?_
     rintro e w' ⟨s', rfl, ho, hb⟩
     have hx : L 8 = false := hno 8 (by decide)
     refine ⟨_, rfl, ⟨s', rfl⟩, ?_⟩
     show CallSet wo _ _ [true, L 8] [s'.v, sl ax 62] w'
     rw [hx]
     exact ⟨hB.trans (hb.mono hB.size), fun _ => ⟨s', rfl, ho.more hB.size⟩⟩
    ·intro L ax W hf hLi hno hd
     simp [Region.binds] at hd
     have e20 : ax.tmps[20]?.getD undef = .slice (some ⟨gO, 0, none⟩) h.ops.length sc := slv (hf.got 1 (by decide) (by simp [hd]))
     have e21 : ax.tmps[21]?.getD undef = .int .i64 (i : Int) := slv (hf.got 2 (by decide) (by simp [hd]))
     refine ⟨fun _ => ?_, fun h => absurd trivial h⟩
     refine freeI_run (v := .pointer (some ⟨gO, i * 36, none⟩)) rfl hf (by decide) ?_ rfl
     go_simp
    ·intro L ax W hf hLi hno hd
     simp [Region.binds] at hd
     have e25 : ax.tmps[25]?.getD undef = .pointer (some ⟨gO, i * 36, none⟩) := slv (hf.got 6 (by decide) (by simp [hd]))
     refine ⟨fun _ => ?_, fun h => absurd trivial h⟩
     refine freeI_run (v := .pointer (some ⟨gO, i * 36 + 35, none⟩)) rfl hf (by decide) ?_ rfl
     go_simp
    ·intro L ax W hf hLi hno hd
     simp [Region.binds] at hd
     have e26 : ax.tmps[26]?.getD undef = .pointer (some ⟨gO, i * 36 + 35, none⟩) := slv (hf.got 7 (by decide) (by simp [hd]))
     have f24 : (fun v => ∃ s : Sl, v = s.v) (sl ax 24) := hf.got 5 (by decide) (by simp [hd])
     refine ⟨fun _ => ?_, fun h => absurd trivial h⟩
     have hG : CallSet wo ⟨gO, i * 36 + 35, none⟩ (fun s w => OwnC w wo.heap.size 68 s.v vs0.length (flatC voteA vs0)) [L 5, L 8] [sl ax 24, sl ax 62] W := hf.glob
     have hl5 : L 5 = true := by simp [hd]
     rw [hl5, hLi] at hG
     obtain ⟨hB, hs⟩ := hG
     obtain ⟨s', hs', ho⟩ := hs rfl
     have e24 := slv hs'
     obtain ⟨hcs0, hfz⟩ := hfzO W hB
     obtain ⟨val, hcs⟩ := Option.isSome_iff_exists.1 hcs0
     refine freeI_store (W' := W.setCell ⟨gO, i * 36 + 35, none⟩ s'.v) rfl ?_ trivial ?_
     ·go_simp
     ·exact ⟨s', W, hs', ho, hB, rfl⟩
   ·intro vs W hl' hF hG
    obtain ⟨g', hg1, hg2⟩ := vs_litI vs hl' hF
    have e5 : ∃ s : Sl, g' 5 = s.v := hg2 5 (by decide)
    obtain ⟨s2, w1, hs2, ho2, hb51, hW⟩ := hG
    have hs2' : g' 5 = s2.v := by
     rw [hg1] at hs2
     simpa using hs2
    rw [hg1]
    simp only [List.length_cons, List.length_nil, Nat.reduceAdd, show List.range 9 = [0, 1, 2, 3, 4, 5, 6, 7, 8] from rfl, List.map_cons, List.map_nil, slotsIn, putL, List.setIfInBounds_toArray, List.set_cons_succ, List.set_cons_zero, hs2', List.size_toArray, Nat.reduceLT, if_true, if_false]
    obtain ⟨s2a, s2n, ec2⟩ := s2
    have hn2 : s2n = o.evidence.length := by
     rcases ho2.2 with ⟨e, hn⟩ | ⟨_, _, e, _⟩
     ·injection e with e1 e2 e3
      simp only at e2
      omega
     ·injection e with e1 e2 e3
      exact e2.trans hvl
    subst hn2
    have hz51 := hb51.size
    have hgOw : gO < wo.heap.size := Nat.lt_of_lt_of_le hOl.2 hb4.size
    have hOw1 := howno.keep hb51
    obtain ⟨hcs, hfz, hOW⟩ := OwnC.setc (n := h.ops.length) hOw1 (i * 36 + 35) (by omega) (.slice s2a o.evidence.length ec2)
    rw [← hW] at hOW
    have hM : Hid (Asd (fun k => k < w.heap.size + 2 ∨ (Sl.v ⟨some ⟨gO, 0, none⟩, h.ops.length, sc⟩).ownBlock = some k) wr W) := Lib.hid (by
     rw [hW]
     exact ((below_fresh hb4 _).trans (below_fresh hb51 _)).trans ((asd_set w1 ⟨gO, i * 36 + 35, none⟩ _).mono fun k _ e => .inr (by simp [Value.ownBlock]; exact e.symm)))
    have hBW : Below w.heap.size w W := by
     rw [hW]
     exact (hBo.trans (hb51.mono (by omega))).setCell (show w.heap.size ≤ gO by omega) _
    have hfar : ∀ q : Nat, q < wo.heap.size → q ≠ gO → W.heap[q]? = wo.heap[q]? := fun q hq hne => by
     rw [hW, Below.heap_setCell _ _ _ q hne]
     exact hb51.block q hq
    have hf33 : W.cell? ⟨w.heap.size, 33, none⟩ = some (.slice (some ⟨gO, 0, none⟩) h.ops.length sc) := (World.cell?_of_block (a := ⟨w.heap.size, 33, none⟩) (hfar w.heap.size hb1o (by omega))).trans h33
    have hev : W.cell? ⟨gO, i * 36 + 35, none⟩ = some (.slice s2a o.evidence.length ec2) := by
     rw [hW]
     exact cell_set_same hcs
    have hoW : OwnC W wo.heap.size 68 (.slice s2a o.evidence.length ec2) vs0.length (flatC voteA vs0) := by
     rw [hW]
     exact OwnC.off ho2 (asd_set w1 ⟨gO, i * 36 + 35, none⟩ _) fun q hq e => by
      have := (OwnC.lt ho2 q hq).1
      have e' : q = gO := e
      omega
    have hrow1W : row? W w.heap.size 0 34 = some (headerA ⟨h.parent, h.epoch, ⟨some ⟨gO, 0, none⟩, h.ops.length, sc⟩⟩) := by
     have h1 := (row?_below _ _ _ hb4 (show w.heap.size < wr.heap.size by omega)).trans hCI.out.row1
     have := hfar w.heap.size hb1o (by omega)
     unfold row? at h1 ⊢
     rw [this]
     exact h1
    have hrow2W : row? W (w.heap.size + 1) 0 34 = some (headerA ⟨zeroHash, 0, ⟨none, 0, 0⟩⟩) := by
     have h1 := (row?_below _ _ _ hb4 (show w.heap.size + 1 < wr.heap.size by omega)).trans hCI.out.row2
     have := hfar (w.heap.size + 1) (by omega) (by omega)
     unfold row? at h1 ⊢
     rw [this]
     exact h1
    have hth2W : there W (w.heap.size + 1) 0 34 := by
     rw [hW]
     exact there_set _ _ _ _ _ _ (there_below hb51 (by omega) (there_below hb4 (by omega) hCI.out.thr2))
    have hWz : wo.heap.size ≤ W.heap.size := by
     rw [hW]
     simpa [World.setCell] using hz51
    have hCV0 : Hid (ClV W W wo.heap.size ⟨s2a, o.evidence.length, ec2⟩ vs0 vs0 o.evidence 0) := Lib.hid ⟨hoW, hvl, fun j _ _ hj => absurd hj (Nat.not_lt_zero _), fun _ _ => rfl, Below.refl _ _⟩
    obtain ⟨E, hE⟩ : ∃ E, E = wo.heap.size := ⟨_, rfl⟩
    rw [← hE] at hCV0 hgOw hWz
    have hE1 : w.heap.size + 1 < E := by omega
    have hBW2 := Lib.hid hBW
    have hEr : wr.heap.size ≤ E := by have := hb4.size; omega
    replace hE := Lib.hid hE
    clear hg1 hg2 hs2 hs2' e5 ho2 hb51 hl' hF hz51 hOw1 hcs hfz hoW hfar HV hfzO howno h33 h435 hrow4 hb4o hb1o h33r hrx hown hBo hb4 hBW
    replace hW := Lib.hid hW
    go_upto_region 7 with fail
    generalize wr = wr0 at *
    go_loopw [34] (fun t W' => ∃ (k : Nat) (vs : List GVote), k ≤ o.evidence.length ∧ t = .int .i64 k ∧ Hid (ClV W W' E ⟨s2a, o.evidence.length, ec2⟩ vs0 vs o.evidence k)) (fun t _ => o.evidence.length - (intOf t).toNat)
    case atStart => exact ⟨0, vs0, Nat.zero_le _, rfl, hCV0⟩
    case round =>
     clear hCV0
     obtain ⟨k, vs, hk, rfl, hCV⟩ := hrel
     have hbV := Lib.hid hCV.out.bel
     have hvl2 := Lib.hid hCV.out.vlen
     have hWr := hCV.out.bel.size
     by_cases hkx : k < o.evidence.length
     ·have hks2 := Lib.hid (show k + 1 ≤ o.evidence.length from hkx)
      have hkv : k < vs.length := by rw [hvl2.out]; exact hkx
      obtain ⟨gE, rfl⟩ : ∃ gE, s2a = some ⟨gE, 0, none⟩ := by
       rcases hCV.out.own.2 with ⟨e, hn⟩ | ⟨gE, _, e, _⟩
       ·omega
       ·injection e with e1 e2 e3
        exact ⟨gE, e1⟩
      have hownV := hCV.out.own
      rw [hvl2.out] at hownV
      have hEl := OwnC.lt hownV gE (by simp [Value.ownBlock])
      obtain ⟨xv, hxv⟩ : ∃ x, vs[k]? = some x := ⟨_, List.getElem?_eq_getElem hkv⟩
      obtain ⟨v, hv⟩ : ∃ v, o.evidence[k]? = some v := ⟨_, List.getElem?_eq_getElem hkx⟩
      have hrv : row? wr gE (k * 68) 68 = some (voteA xv) := by
       have := own_row voteA voteA_size (by omega) (show OwnC wr E 68 (.slice (some ⟨gE, 0, none⟩) o.evidence.length ec2) vs.length (flatC voteA vs) from hCV.out.own) k hkv
       rw [(List.getElem?_eq_some_iff.1 hxv).2] at this
       exact this
      have hx0 : vs0[k]? = some xv := (hCV.out.rest k (Nat.le_refl _)).symm.trans hxv
      have hxo := hvr k xv v hx0 hv
      have hsl := of2 v (List.mem_of_getElem? hv)
      have k1 : (k : Int) < (o.evidence.length : Int) := by omega
      have k2 : (0 : Int) ≤ (k : Int) := by omega
      go_upto_region 9 with fail
      obtain ⟨wq, hwq, hrow6, -, hb6, hz6⟩ := box_row wr Tryz.zeroCells76 (voteA xv) 76 68 (by omega) (by kernel_rfl) (by simp)
      rw [← hwq]
      clear hwq
      obtain ⟨b6, hb6e⟩ : ∃ b, b = wr.heap.size := ⟨_, rfl⟩
      rw [← hb6e] at hrow6 ⊢
      have hb6q : b6 < wq.heap.size := by omega
      have hqr : wr.heap.size ≤ wq.heap.size := by omega
      have hbWq : Below E W wq := hbV.out.trans (hb6.mono (by omega))
      have hb1q : w.heap.size < wq.heap.size := by omega
      have h33q := (hbWq.cell (p := ⟨w.heap.size, 33, none⟩) (show w.heap.size < E by omega)).trans hf33
      have hgOq : gO < wq.heap.size := by omega
      have hevq := (hbWq.cell (p := ⟨gO, i * 36 + 35, none⟩) hgOw).trans hev
      have h667 := cell_of_row? hrow6 67 (by omega)
      rw [voteA_sig, Nat.zero_add] at h667
      have hownVq := hownV.keep hb6
      have hBq : Below w.heap.size w wq := hBW2.out.trans (hbWq.mono (by omega))
      have hbrows := bytes_rows hxo.2.2.2
      obtain ⟨ib, hib, hq0, hq1, hq2⟩ := info_parts info_u8
      have HS := fun Wx (hb : Below wq.heap.size wq Wx) => clone_rows (A := byA) (k := 1) (fun _ => rfl) byA_one clB ib _ 1 hib hq0 hq1 hq2 (by simp [Value.cells]) (by omega) (by omega) (SlR.keep hbrows (hBq.trans (hb.mono (by omega))) fun _ _ h => h) hsl
      have hfzE := fun Wx (hb : Below wq.heap.size wq Wx) => (show (Wx.cell? ⟨gE, k * 68 + 67, none⟩).isSome = true ∧ Wx.frozen? ⟨gE, k * 68 + 67, none⟩ = false from by
       have := OwnC.setc (n := o.evidence.length) (hownVq.keep hb) (k * 68 + 67) (by omega) undef
       exact ⟨this.1, this.2.1⟩)
      obtain ⟨xval2, xsrc, xtgt, ⟨xa, xn, xc⟩⟩ := xv
      dsimp only [Sl.v] at h667 HS
      replace hb6e := Lib.hid hb6e
      replace hz6 := Lib.hid hz6
      refine wp_region_freeI_l (by kernel_rfl) [39, 40, 41, 42, 43, 44, 45, 46, 47, 48, 49, 50, 66]
       [(fun v => v = .pointer (some ⟨w.heap.size, 33, none⟩)), (fun v => v = .slice (some ⟨gO, 0, none⟩) h.ops.length sc), (fun v => v = .int .i64 (i : Int)), (fun v => v = .pointer (some ⟨gO, i * 36, none⟩)), (fun v => v = .pointer (some ⟨gO, i * 36 + 35, none⟩)), (fun v => v = .slice (some ⟨gE, 0, none⟩) o.evidence.length ec2), (fun v => v = .int .i64 (k : Int)), (fun v => v = .pointer (some ⟨b6, 67, none⟩)), (fun v => v = .slice xa xn xc), (fun v => ∃ s : Sl, v = s.v), (fun v => v = .pointer (some ⟨gE, k * 68, none⟩)), (fun v => v = .pointer (some ⟨gE, k * 68 + 67, none⟩)), (fun _ => True)]
       [9, 12] (CallSet wq ⟨gE, k * 68 + 67, none⟩ (fun s w => OwnC w wq.heap.size 1 s.v v.sig.length (flatC byA v.sig))) [[1, 3, 4, 5, 10, 11, 12], [3, 4, 5, 10, 11, 12], [3, 4, 5, 10, 11, 12], [4, 5, 10, 11, 12], [5, 10, 11, 12], [10, 11, 12], [10, 11, 12], [8, 9, 12], [9, 12], [12], [11, 12], [12], []] (by kernel_rfl) (by kernel_rfl) ?_ ?_ ?_
      ·show CallSet wq ⟨gE, k * 68 + 67, none⟩ (fun s w => OwnC w wq.heap.size 1 s.v v.sig.length (flatC byA v.sig)) [false, false] [_, _] _
       exact ⟨(Below.refl _ _).drew, fun h => by cases h⟩
      ·refine ⟨?_, ?_, ?_, ?_, ?_, ?_, ?_, ?_, ?_, ?_, ?_, ?_, ?_, trivial⟩
       ·intro L ax W hf hLi hno hd
        try simp [Region.binds] at hd
        have e1 : ax.tmps[1]?.getD undef = .pointer (some ⟨w.heap.size, 0, none⟩) := hf.out 1 (by decide) rfl
        refine ⟨fun _ => ?_, fun h => absurd trivial h⟩
        refine freeI_run (v := .pointer (some ⟨w.heap.size, 33, none⟩)) rfl hf (by decide) ?_ rfl
        go_simp
       ·intro L ax W hf hLi hno hd
        simp [Region.binds] at hd
        have e39 : ax.tmps[39]?.getD undef = .pointer (some ⟨w.heap.size, 33, none⟩) := slv (hf.got 0 (by decide) (by simp [hd]))
        refine ⟨fun _ => ?_, fun h => absurd trivial h⟩
        have hG : CallSet wq ⟨gE, k * 68 + 67, none⟩ (fun s w => OwnC w wq.heap.size 1 s.v v.sig.length (flatC byA v.sig)) [L 9, L 12] [sl ax 48, sl ax 66] W := hf.glob
        have hB := callSet_no (hno 12 (by decide)) hG
        have h1 := (hB.cell (p := ⟨w.heap.size, 33, none⟩) hb1q).trans h33q
        refine freeI_run (v := .slice (some ⟨gO, 0, none⟩) h.ops.length sc) rfl hf (by decide) ?_ rfl
        go_simp
       ·intro L ax W hf hLi hno hd
        try simp [Region.binds] at hd
        have e3 : ax.tmps[3]?.getD undef = .int .i64 (i : Int) := hf.out 3 (by decide) rfl
        refine ⟨fun _ => ?_, fun h => absurd trivial h⟩
        refine freeI_run (v := .int .i64 (i : Int)) rfl hf (by decide) ?_ rfl
        go_simp
       ·intro L ax W hf hLi hno hd
        simp [Region.binds] at hd
        have e40 : ax.tmps[40]?.getD undef = .slice (some ⟨gO, 0, none⟩) h.ops.length sc := slv (hf.got 1 (by decide) (by simp [hd]))
        have e41 : ax.tmps[41]?.getD undef = .int .i64 (i : Int) := slv (hf.got 2 (by decide) (by simp [hd]))
        refine ⟨fun _ => ?_, fun h => absurd trivial h⟩
        refine freeI_run (v := .pointer (some ⟨gO, i * 36, none⟩)) rfl hf (by decide) ?_ rfl
        go_simp
       ·intro L ax W hf hLi hno hd
        simp [Region.binds] at hd
        have e42 : ax.tmps[42]?.getD undef = .pointer (some ⟨gO, i * 36, none⟩) := slv (hf.got 3 (by decide) (by simp [hd]))
        refine ⟨fun _ => ?_, fun h => absurd trivial h⟩
        refine freeI_run (v := .pointer (some ⟨gO, i * 36 + 35, none⟩)) rfl hf (by decide) ?_ rfl
        go_simp
       ·intro L ax W hf hLi hno hd
        simp [Region.binds] at hd
        have e43 : ax.tmps[43]?.getD undef = .pointer (some ⟨gO, i * 36 + 35, none⟩) := slv (hf.got 4 (by decide) (by simp [hd]))
        refine ⟨fun _ => ?_, fun h => absurd trivial h⟩
        have hG : CallSet wq ⟨gE, k * 68 + 67, none⟩ (fun s w => OwnC w wq.heap.size 1 s.v v.sig.length (flatC byA v.sig)) [L 9, L 12] [sl ax 48, sl ax 66] W := hf.glob
        have hB := callSet_no (hno 12 (by decide)) hG
        have h1 := (hB.cell (p := ⟨gO, i * 36 + 35, none⟩) hgOq).trans hevq
        refine freeI_run (v := .slice (some ⟨gE, 0, none⟩) o.evidence.length ec2) rfl hf (by decide) ?_ rfl
        go_simp
       ·intro L ax W hf hLi hno hd
        try simp [Region.binds] at hd
        have e5 : ax.tmps[5]?.getD undef = .int .i64 (k : Int) := hf.out 5 (by decide) rfl
        refine ⟨fun _ => ?_, fun h => absurd trivial h⟩
        refine freeI_run (v := .int .i64 (k : Int)) rfl hf (by decide) ?_ rfl
        go_simp
       ·intro L ax W hf hLi hno hd
        try simp [Region.binds] at hd
        have e6 : ax.tmps[6]?.getD undef = .pointer (some ⟨b6, 0, none⟩) := hf.out 6 (by decide) rfl
        refine ⟨fun _ => ?_, fun h => absurd trivial h⟩
        refine freeI_run (v := .pointer (some ⟨b6, 67, none⟩)) rfl hf (by decide) ?_ rfl
        go_simp
       ·intro L ax W hf hLi hno hd
        simp [Region.binds] at hd
        have e46 : ax.tmps[46]?.getD undef = .pointer (some ⟨b6, 67, none⟩) := slv (hf.got 7 (by decide) (by simp [hd]))
        refine ⟨fun _ => ?_, fun h => absurd trivial h⟩
        have hG : CallSet wq ⟨gE, k * 68 + 67, none⟩ (fun s w => OwnC w wq.heap.size 1 s.v v.sig.length (flatC byA v.sig)) [L 9, L 12] [sl ax 48, sl ax 66] W := hf.glob
        have hB := callSet_no (hno 12 (by decide)) hG
        have h1 := (hB.cell (p := ⟨b6, 67, none⟩) hb6q).trans h667
        refine freeI_run (v := .slice xa xn xc) rfl hf (by decide) ?_ rfl
        go_simp
       ·intro L ax W hf hLi hno hd
        simp [Region.binds] at hd
        have e47 : ax.tmps[47]?.getD undef = .slice xa xn xc := slv (hf.got 8 (by decide) (by simp [hd]))
        refine ⟨fun _ => ?_, fun h => absurd trivial h⟩
        have hG : CallSet wq ⟨gE, k * 68 + 67, none⟩ (fun s w => OwnC w wq.heap.size 1 s.v v.sig.length (flatC byA v.sig)) [L 9, L 12] [sl ax 48, sl ax 66] W := hf.glob
        have hB := callSet_no (hno 12 (by decide)) hG
        refine freeI_call (f := 37) (args := #[.slice xa xn xc]) rfl (by go_simp) ?_
        refine (HS W hB).mono ?_
        rintro e w' ⟨s', rfl, ho, hb⟩
        have hx : L 12 = false := hno 12 (by decide)
        refine ⟨_, rfl, ⟨s', rfl⟩, ?_⟩
        show CallSet wq _ _ [true, L 12] [s'.v, sl ax 66] w'
        rw [hx]
        exact ⟨hB.trans (hb.mono hB.size), fun _ => ⟨s', rfl, ho.more hB.size⟩⟩
       ·intro L ax W hf hLi hno hd
        simp [Region.binds] at hd
        have e44 : ax.tmps[44]?.getD undef = .slice (some ⟨gE, 0, none⟩) o.evidence.length ec2 := slv (hf.got 5 (by decide) (by simp [hd]))
        have e45 : ax.tmps[45]?.getD undef = .int .i64 (k : Int) := slv (hf.got 6 (by decide) (by simp [hd]))
        refine ⟨fun _ => ?_, fun h => absurd trivial h⟩
        refine freeI_run (v := .pointer (some ⟨gE, k * 68, none⟩)) rfl hf (by decide) ?_ rfl
        go_simp
       ·intro L ax W hf hLi hno hd
        simp [Region.binds] at hd
        have e49 : ax.tmps[49]?.getD undef = .pointer (some ⟨gE, k * 68, none⟩) := slv (hf.got 10 (by decide) (by simp [hd]))
        refine ⟨fun _ => ?_, fun h => absurd trivial h⟩
        refine freeI_run (v := .pointer (some ⟨gE, k * 68 + 67, none⟩)) rfl hf (by decide) ?_ rfl
        go_simp
       ·intro L ax W hf hLi hno hd
        simp [Region.binds] at hd
        have e50 : ax.tmps[50]?.getD undef = .pointer (some ⟨gE, k * 68 + 67, none⟩) := slv (hf.got 11 (by decide) (by simp [hd]))
        have f48 : (fun v => ∃ s : Sl, v = s.v) (sl ax 48) := hf.got 9 (by decide) (by simp [hd])
        refine ⟨fun _ => ?_, fun h => absurd trivial h⟩
        have hG : CallSet wq ⟨gE, k * 68 + 67, none⟩ (fun s w => OwnC w wq.heap.size 1 s.v v.sig.length (flatC byA v.sig)) [L 9, L 12] [sl ax 48, sl ax 66] W := hf.glob
        have hl9 : L 9 = true := by simp [hd]
        rw [hl9, hLi] at hG
        obtain ⟨hB, hs⟩ := hG
        obtain ⟨s', hs', ho⟩ := hs rfl
        have e48 := slv hs'
        obtain ⟨hcs0, hfz⟩ := hfzE W hB
        obtain ⟨val, hcs⟩ := Option.isSome_iff_exists.1 hcs0
        refine freeI_store (W' := W.setCell ⟨gE, k * 68 + 67, none⟩ s'.v) rfl ?_ trivial ?_
        ·go_simp
        ·exact ⟨s', W, hs', ho, hB, rfl⟩
      ·intro vl W3 hl' hF hG
       obtain ⟨g', hg1, hg2⟩ := vs_litI vl hl' hF
       obtain ⟨s3, w3, hs3, ho3, hb63, hW3⟩ := hG
       have hs3' : g' 9 = s3.v := by
        rw [hg1] at hs3
        simpa using hs3
       rw [hg1]
       simp only [List.length_cons, List.length_nil, Nat.reduceAdd, show List.range 13 = [0, 1, 2, 3, 4, 5, 6, 7, 8, 9, 10, 11, 12] from rfl, List.map_cons, List.map_nil, slotsIn, putL, List.setIfInBounds_toArray, List.set_cons_succ, List.set_cons_zero, hs3', List.size_toArray, Nat.reduceLT, if_true, if_false]
       have hz63 := hb63.size
       have hgEq : gE < wq.heap.size := by omega
       obtain ⟨-, -, hOV⟩ := OwnC.setc (n := o.evidence.length) (hownVq.keep hb63) (k * 68 + 67) (by omega) s3.v
       rw [← hW3] at hOV
       have hA3 : Asd (fun q => q < E ∨ (Sl.v ⟨some ⟨gE, 0, none⟩, o.evidence.length, ec2⟩).ownBlock = some q) wr W3 := by
        rw [hW3]
        exact ((below_fresh hb6 _).trans (below_fresh hb63 _)).trans ((asd_set w3 ⟨gE, k * 68 + 67, none⟩ _).mono fun q _ e => .inr (by simp [Value.ownBlock]; exact e.symm))
       have hoS : OwnC W3 wq.heap.size 1 s3.v v.sig.length (flatC byA v.sig) := by
        rw [hW3]
        exact OwnC.off ho3 (asd_set w3 ⟨gE, k * 68 + 67, none⟩ _) fun q hq e => by
         have := (OwnC.lt ho3 q hq).1
         have e' : q = gE := e
         omega
       have hBel : Below E W W3 := by
        rw [hW3]
        exact (hbWq.trans (hb63.mono (by omega))).setCell (show E ≤ gE from hEl.1) _
       have hnew : Hid (ClV W W3 E ⟨some ⟨gE, 0, none⟩, o.evidence.length, ec2⟩ vs0 (vs.set k ⟨xval2, xsrc, xtgt, s3⟩) o.evidence (k + 1)) := Lib.hid (by
        refine ⟨?_, by rw [List.length_set]; exact hvl2.out, fun j x v' hj hx hv' => ?_, fun j hj => ?_, hBel⟩
        ·rw [List.length_set, flatC_set voteA voteA_size (r := 67) (by omega) (v := s3.v) vs k ⟨xval2, xsrc, xtgt, ⟨xa, xn, xc⟩⟩ hxv (voteA_sg _ s3), hvl2.out]
         exact hOV
        ·rw [List.getElem?_set] at hx
         by_cases hjk : k = j
         ·subst hjk
          rw [if_pos rfl, if_pos hkv] at hx
          cases hx
          rw [hv] at hv'
          cases hv'
          intro W2 h2
          have hoS2 := OwnC.off hoS h2 fun q hq e => by
           have h3 := (OwnC.lt hoS q hq).1
           rcases e with e | e
           ·omega
           ·simp [Value.ownBlock] at e
            omega
          exact ⟨⟨hxo.1, hxo.2.1, hxo.2.2.1, rows_bytes (rows_of_own byA (k := 1) (fun _ => rfl) (by omega) hoS2)⟩, (sigT_own hoS2).more (by omega)⟩
         ·rw [if_neg hjk] at hx
          exact (hCV.out.done j x v' (by omega) hx hv').step hA3 fun _ _ h => h
        ·rw [List.getElem?_set, if_neg (by omega)]
         exact hCV.out.rest j (by omega))
       clear hg1 hg2 hs3 hs3' hl' hF ho3 hb63 hW3 hOV hA3 hoS hBel hz63 HS hfzE hownV hownVq hrv hx0 hxo hbrows h667 hevq h33q hbWq hb6 hrow6 hBq hCV hbV hxv hv
       go_wp2_with fail
       go_roundw
       case rel => exact ⟨k + 1, vs.set k ⟨xval2, xsrc, xtgt, s3⟩, hks2.out, by go_num, hnew⟩
       case measure =>
        have := hks2.out
        simp [intOf]
        omega
     ·have hkm : k = o.evidence.length := by omega
      subst hkm
      have hnew : Hid (ClI w wr ⟨h.parent, h.epoch, ⟨ga, gn, gc⟩⟩ ⟨some ⟨gO, 0, none⟩, h.ops.length, sc⟩ gs0 (gs.set i ⟨xk, xy, xst, xval, ⟨s2a, o.evidence.length, ec2⟩⟩) h.ops (i + 1)) := Lib.hid (by
       have hA : Asd (fun k => k < w.heap.size + 2 ∨ (Sl.v ⟨some ⟨gO, 0, none⟩, h.ops.length, sc⟩).ownBlock = some k) wr0 wr := hM.out.trans' (below_off hbV.out (M := fun q => E ≤ q) fun _ _ h => h) fun q hq hEq => absurd hq (by omega)
       refine ⟨(row?_below _ _ _ hbV.out (show w.heap.size < E by omega)).trans hrow1W, (row?_below _ _ _ hbV.out hE1).trans hrow2W, there_below hbV.out hE1 hth2W, ?_, by rw [List.length_set]; exact hgl2.out, fun j x o' hj hx ho' => ?_, fun j hj => ?_, hBW2.out.trans (hbV.out.mono (by omega))⟩
       ·rw [List.length_set, flatC_set opA opA_size (r := 35) (by omega) (v := .slice s2a o.evidence.length ec2) gs i ⟨xk, xy, xst, xval, ⟨ea, en, ec⟩⟩ hx (opA_ev _ ⟨s2a, o.evidence.length, ec2⟩), hgl2.out]
        exact OwnC.off hOW (below_off hbV.out (M := fun q => E ≤ q) fun _ _ h => h) fun q hq e => by
         simp [Value.ownBlock] at hq
         omega
       ·rw [List.getElem?_set] at hx
        by_cases hji : i = j
        ·subst hji
         rw [if_pos rfl, if_pos hgi] at hx
         cases hx
         rw [ho] at ho'
         cases ho'
         intro W2 h2
         have hlt : ∀ q, (q < w.heap.size + 2 ∨ (Sl.v ⟨some ⟨gO, 0, none⟩, h.ops.length, sc⟩).ownBlock = some q) → q < E := fun q hq => by
          rcases hq with hq | hq
          ·omega
          ·simp [Value.ownBlock] at hq
           omega
         have hoV2 := OwnC.off hCV.out.own h2 fun q hq e => by
          have := (OwnC.lt hCV.out.own q hq).1
          have := hlt q e
          omega
         have hdn := fun j x v hx hv => hCV.out.done j x v (by rw [← hCV.out.vlen]; exact (List.getElem?_eq_some_iff.1 hx).1) hx hv W2 (h2.mono fun q _ hq => .inl (hlt q hq))
         refine ⟨⟨hxo.1, hxo.2.1, hxo.2.2.1, hxo.2.2.2.1, rows_join (rows_of_own voteA voteA_size (by omega) hoV2) hCV.out.vlen fun j x v hx hv => (hdn j x v hx hv).1⟩, EvT.more (evT_own hoV2 fun j x hx => ?_) (show w.heap.size ≤ E by omega)⟩
         have hjv : j < o.evidence.length := by rw [← hCV.out.vlen]; exact (List.getElem?_eq_some_iff.1 hx).1
         exact (hdn j x _ hx (List.getElem?_eq_getElem hjv)).2
        ·rw [if_neg hji] at hx
         exact (hCI.out.done j x o' (by omega) hx ho').step hA fun _ _ h => h
       ·rw [List.getElem?_set, if_neg (by omega)]
        exact hCI.out.rest j (by omega))
      clear hCV hM hrow1W hrow2W hth2W hOW hBW2 hbV hf33 hev hCI hxo hvr hvrows
      go_wp2_with fail
      go_roundw
      case rel => exact ⟨i + 1, gs.set i ⟨xk, xy, xst, xval, ⟨s2a, o.evidence.length, ec2⟩⟩, hks.out, by go_num, hnew⟩
      case measure =>
       have := hks.out
       simp [intOf]
       omega
  ·have him : i = h.ops.length := by omega
   subst him
   have hrow1 := hCI.out.row1
   have hrow2 := hCI.out.row2
   have hth2 := hCI.out.thr2
   have hfin : ∃ W3, W3 = putRow wr (w.heap.size + 1) 0 (headerA ⟨h.parent, h.epoch, ⟨sa, h.ops.length, sc⟩⟩) ∧ Hid (Safe (fun k => k < w.heap.size) W3 fun W => HdrR W ⟨h.parent, h.epoch, ⟨sa, h.ops.length, sc⟩⟩ h ∧ OpsT w.heap.size W (⟨h.parent, h.epoch, ⟨sa, h.ops.length, sc⟩⟩ : GHeader).ops) ∧ Hid (Below w.heap.size w W3) := by
    refine ⟨_, rfl, Lib.hid fun W2 h2 => ?_, Lib.hid (below_put hCI.out.bel (by omega) _ _)⟩
    have hA : Asd (fun k => k < w.heap.size + 2 ∨ (Sl.v ⟨sa, h.ops.length, sc⟩).ownBlock = some k) wr W2 := by
     refine ((asd_put wr (w.heap.size + 1) 0 _).mono fun k _ e => .inl ?_).trans (h2.mono fun k _ e => .inl ?_)
     ·have e' : k < w.heap.size := e
      omega
     ·have e' : k = w.heap.size + 1 := e
      omega
    have hA2 : Asd (fun k => k < w.heap.size + 2) wr W2 := by
     refine ((asd_put wr (w.heap.size + 1) 0 _).mono fun k _ e => ?_).trans (h2.mono fun k _ e => ?_)
     ·have e' : k = w.heap.size + 1 := e
      omega
     ·have e' : k < w.heap.size := e
      omega
    have ho2 := OwnC.off hCI.out.own hA2 fun q hq e => by
     have := (OwnC.lt hCI.out.own q hq).1
     omega
    have hdn := fun j x o hx ho => hCI.out.done j x o (List.getElem?_eq_some_iff.1 ho).1 hx ho W2 hA
    refine ⟨⟨rfl, rfl, rows_join (rows_of_own opA opA_size (by omega) ho2) hCI.out.glen fun j x o hx ho => (hdn j x o hx ho).1⟩, (opsT_own (ho2.more (show w.heap.size ≤ w.heap.size + 2 by omega)) fun j x hx => ?_)⟩
    have hjv : j < h.ops.length := by rw [← hCI.out.glen]; exact (List.getElem?_eq_some_iff.1 hx).1
    exact (hdn j x _ hx (List.getElem?_eq_getElem hjv)).2
   obtain ⟨W3, hW3, hHA0, hBf⟩ := hfin
   have hHA : Hid (HdrAt w.heap.size W3 ⟨h.parent, h.epoch, ⟨sa, h.ops.length, sc⟩⟩ h ∧ OpsT w.heap.size W3 (⟨h.parent, h.epoch, ⟨sa, h.ops.length, sc⟩⟩ : GHeader).ops) := Lib.hid ⟨fun W2 h2 => (hHA0.out W2 h2).1, hHA0.out.now.2⟩
   clear hHA0
   obtain ⟨gf, hgf⟩ : ∃ gf : GHeader, gf = ⟨h.parent, h.epoch, ⟨sa, h.ops.length, sc⟩⟩ := ⟨_, rfl⟩
   rw [← hgf] at hrow1 hW3 hHA
   obtain ⟨b2, hb2⟩ : ∃ b, b = w.heap.size + 1 := ⟨_, rfl⟩
   rw [← hb2] at hrow2 hth2 hW3 ⊢
   have hne : w.heap.size ≠ b2 := by omega
   replace hb2 := Lib.hid hb2
   replace hgf := Lib.hid hgf
   replace hW3 := hW3.symm
   have hrow3 : row? W3 b2 0 34 = some (headerA gf) := by
    rw [← hW3]
    exact row?_put_same _ _ _ _ _ (by simp) (by omega) hth2
   clear hCI
   go_wp2_with (with_reducible refine ret_row Tryz.isAgg39 Tryz.sizeOf39 clone_res (x := .pointer (some ⟨b2, 0, none⟩)) (b2) 0 ?rrhx (Eq.refl _) ?rrh ?rrhd ?rrhR; (case rrhx => simp only [Array.getD_eq_getD_getElem?, List.getElem?_toArray, List.getElem?_cons_succ, List.getElem?_cons_zero, Option.getD_some]); (case rrhd => exact rfl); (case rrh => go_simp); (case rrhR => ((first | (rw [hW3, hrow3]; exact ⟨gf, rfl, hHA.out.1, hBf.out, hHA.out.2⟩) | (rw [hrow3]; exact ⟨gf, rfl, hHA.out.1, hBf.out, hHA.out.2⟩)))))
theorem hclone_c {w : World} {g : GHeader} {h : Hdr} (hr : HdrR w g h) (hf : ClnFits h) :
  Calls Tryz.prog 19 #[.agg (headerA g)] w fun e w' => ∃ g', e = .returned (.agg (headerA g')) ∧ HdrAt w.heap.size w' g' h ∧ Below w.heap.size w w' :=
 (hclone2_c hr hf).mono fun _ _ ⟨g', h1, h2, h3, _⟩ => ⟨g', h1, h2, h3⟩
end Go.Proofs.YthdjhbiigmcecaaGreat

/- chain.New. -/
namespace Go.Proofs.YthdjhbiigmcecaaGreat
open Go.RowKit

def zeroG3 : GHeader := ⟨zeroHash, 0, ⟨none, 0, 0⟩⟩
/-- a new anchor's block -/
def nx : GB := ⟨0, zeroG3, ⟨none, 0, 0⟩, ⟨none, 0, 0⟩⟩
def bldB (parts : Array (Nat × Value)) : Sem Value := Instr.build 65 parts
theorem fold_bldB (parts : Array (Nat × Value)) : Instr.build 65 parts = bldB parts := rfl
theorem zero_blk : Tryz.zeroCells65 = blkA zeroPt nx := by kernel_rfl
theorem blk_tail (p q : Pt) (x : GB) : pointA p ++ (blkA q x).extract 33 69 = blkA p x := by
 simp [blkA, Array.extract_append, ext_self, ext_none]
theorem blk_part (p : Pt) (g : GHeader) (x : GB) : splice (blkA p x) 33 (headerA g) = blkA p { x with g := g } := by
 simp [splice, blkA, Array.extract_append, ext_self, ext_none]
theorem bld_new (p : Pt) (W : World) : (bldB #[(0, .agg (pointA p))]).run Tryz.prog W = .ok (.agg (blkA p nx)) W := by
 unfold bldB
 go_simp
 rw [zero_blk, fold0_splice _ _ 33 (by simp) (by simp), splice_zero_head _ _ 33 (by simp) (by simp), blkA_size, blk_tail]
theorem bld_blk (p : Pt) (g : GHeader) (W : World) : (bldB #[(0, .agg (pointA p)), (1, .agg (headerA g))]).run Tryz.prog W = .ok (.agg (blkA p { nx with g := g })) W := by
 unfold bldB
 go_simp
 rw [zero_blk, fold0_splice _ _ 33 (by simp) (by simp), splice_zero_head _ _ 33 (by simp) (by simp), blkA_size, blk_tail p zeroPt, fold_splice _ _ 33 34 (by simp) (by simp), blk_part, if_neg (by simp)]
 rfl
theorem bsP_one (b : Nat) (w : World) : (Instr.buildSlice 66 1 #[(0, ptrV b)]).run Tryz.prog w = .ok (.slice (some ⟨w.heap.size, 0, none⟩) 1 1) (w.alloc (.cells #[ptrV b] 63)) := by
 unfold ptrV
 go_simp
theorem bld_chain (a m : Nat) (W : World) : (Instr.build 69 #[(0, .slice (some ⟨a, 0, none⟩) 1 1), (1, .map (some m))]).run Tryz.prog W = .ok (.agg #[.slice (some ⟨a, 0, none⟩) 1 1, .map (some m)]) W := by
 go_simp
attribute [local go_sem ↓] fold_bldB
def HNew (W0 : World) (p : Pt) (L : List Bool) (V : List Value) (w : World) : Prop :=
 Below W0.heap.size W0 w ∧
 (L.getD 0 false = true → ∃ b, V.getD 0 undef = ptrV b ∧ W0.heap.size ≤ b ∧ w.heap[b]? = some (.cells (blkA p nx) 65 (0, 0))) ∧
 (L.getD 1 false = true → ∃ b a, V.getD 0 undef = ptrV b ∧ V.getD 1 undef = .slice (some ⟨a, 0, none⟩) 1 1 ∧ W0.heap.size ≤ a ∧ w.heap[a]? = some (.cells #[ptrV b] 63 (0, 0))) ∧
 (L.getD 2 false = true → ∃ m, V.getD 2 undef = .map (some m) ∧ W0.heap.size ≤ m ∧ MapHv w m (if L.getD 3 false then [(p.name, .int .i64 0)] else [])) ∧
 (L.getD 4 false = true → V.getD 4 undef = V.getD 2 undef) ∧
 (L.getD 5 false = true → V.getD 5 undef = .agg #[V.getD 1 undef, V.getD 2 undef]) ∧
 (L.getD 6 false = true → ∃ c, V.getD 6 undef = ptrV c ∧ W0.heap.size ≤ c ∧ w.heap[c]? = some (.cells #[V.getD 1 undef, V.getD 2 undef] 69 (0, 0))) ∧
 (L.getD 7 false = true → V.getD 7 undef = V.getD 6 undef)
theorem HNew.grow {W0 w w' : World} {p : Pt} {L : List Bool} {V : List Value} (h : HNew W0 p L V w) (hb : Below w.heap.size w w') : HNew W0 p L V w' := by
 obtain ⟨hB, h0, h1, h2, h4, h5, h6, h7⟩ := h
 refine ⟨hB.trans (hb.mono hB.size), fun h => ?_, fun h => ?_, fun h => ?_, h4, h5, fun h => ?_, h7⟩
 ·obtain ⟨b, q1, q2, q3⟩ := h0 h
  exact ⟨b, q1, q2, (hb.block b (Array.getElem?_eq_some_iff.1 q3).1).trans q3⟩
 ·obtain ⟨b, a, q1, q2, q3, q4⟩ := h1 h
  exact ⟨b, a, q1, q2, q3, (hb.block a (Array.getElem?_eq_some_iff.1 q4).1).trans q4⟩
 ·obtain ⟨m, q1, q2, q3⟩ := h2 h
  exact ⟨m, q1, q2, q3.keep hb q3.lt⟩
 ·obtain ⟨c, q1, q2, q3⟩ := h6 h
  exact ⟨c, q1, q2, (hb.block c (Array.getElem?_eq_some_iff.1 q3).1).trans q3⟩
theorem chnew_mem (B : Nat) (p : Pt) {W : World} {a b c m : Nat} (hb : B ≤ b) (ha : B ≤ a) (hm : B ≤ m) (hc : B ≤ c) (hB : B ≤ W.heap.size) (ob : W.heap[b]? = some (.cells (blkA p nx) 65 (0, 0))) (oa : W.heap[a]? = some (.cells #[ptrV b] 63 (0, 0)))
  (hM : MapHv W m [(p.name, .int .i64 0)]) (oc : W.heap[c]? = some (.cells #[.slice (some ⟨a, 0, none⟩) 1 1, .map (some m)] 69 (0, 0))) : ∃ T : Nat → Nat, ChR B T W c (chNew p) := by
 have nsz : ∀ {x y : Nat} {cs ds : Array Value} {t u : TypeId}, W.heap[x]? = some (.cells cs t (0, 0)) → W.heap[y]? = some (.cells ds u (0, 0)) → cs.size ≠ ds.size → x ≠ y := by
  intro x y cs ds t u h1 h2 hs e
  subst e
  rw [h1] at h2
  injection h2 with h2
  injection h2 with h2
  exact hs (by rw [h2])
 have nm : ∀ {x : Nat} {cs : Array Value} {t : TypeId}, W.heap[x]? = some (.cells cs t (0, 0)) → x ≠ m := by
  intro x cs t h1 e
  subst e
  obtain ⟨es, ck, h2, -⟩ := hM
  rw [h1] at h2
  cases h2
 have nab := nsz oa ob (by simp)
 have nac := nsz oa oc (by simp)
 have nbc := nsz ob oc (by simp)
 have nam := nm oa
 have nbm := nm ob
 have ncm := nm oc
 refine ⟨fun k => if k = c then 1 else if k = a then 2 else if k = m then 3 else if k = b then 4 else 0, ⟨some ⟨a, 0, none⟩, 1, 1⟩, m, [{ nx with b := b }], ?_⟩
 refine ⟨rowHeap oc (by simp), there_block oc (by simp), if_pos rfl, ?_, fun g hg => ?_, hM, ?_, fun k hk ht => ?_, hB, rfl, rfl, fun i x bk hx hbk => ?_⟩
 ·refine ⟨rfl, .inr ⟨a, 1, rfl, ha, (Array.getElem?_eq_some_iff.1 oa).1, Nat.le_refl _, by simp [maxLen], fun j hj => ?_, fun j _ => frozen_of_row W a j _ _ oa, fun j u hu => ?_⟩⟩
  ·have : j = 0 := by omega
   subst this
   rw [cell_of_row W a 0 _ _ _ oa]
   rfl
  ·rw [cell_of_row W a j _ _ _ oa]
   simpa [flatC, ptrA] using hu
 ·simp [Value.ownBlock] at hg
  subst hg
  rw [if_neg nac, if_pos rfl]
 ·rw [if_neg ncm.symm, if_neg nam.symm, if_pos rfl]
 ·by_cases h1 : k = c
  ·omega
  ·by_cases h2 : k = a
   ·omega
   ·by_cases h3 : k = m
    ·omega
    ·by_cases h4 : k = b
     ·omega
     ·simp [h1, h2, h3, h4] at ht
 ·have hi : i = 0 := by
   have := (List.getElem?_eq_some_iff.1 hx).1
   simpa using this
  subst hi
  simp only [List.getElem?_cons_zero, Option.some.injEq] at hx
  subst hx
  simp only [chNew, List.getElem?_cons_zero, Option.some.injEq] at hbk
  subst hbk
  refine ⟨rowHeap ob (by simp), there_block ob (by simp), ⟨_, _, ob⟩, ?_, fun W2 _ => ⟨rfl, rfl, SlR.nil _ _ _ _ _⟩, fun W2 _ => SlR.nil _ _ _ _ _, OwnC.nil _ _ _, fun g hg => by simp [nx, Value.ownBlock] at hg⟩
  show (if b = c then 1 else if b = a then 2 else if b = m then 3 else if b = b then 4 else 0) = 4
  rw [if_neg nbc, if_neg nab.symm, if_neg nbm, if_pos rfl]
set_option maxRecDepth 100000 in
set_option maxHeartbeats 6400000 in
theorem chnew_c (p : Pt) (w : World) (hp : p.epoch.toNat ≤ 4611686018427387904) :
  Calls Tryz.prog 5 #[.agg (pointA p)] w fun e w' => ∃ cb : Nat, e = .returned (.tuple #[ptrV cb, .int .i64 0]) ∧ w.heap.size ≤ cb ∧ (∃ T : Nat → Nat, ChR w.heap.size T w' cb (chNew p)) ∧ Below w.heap.size w w' := by
 have hB0 : Below w.heap.size w (w.alloc (.cells (pointA p) 26)) := bel_a _ _
 have hz0 : (w.alloc (.cells (pointA p) 26)).heap.size = w.heap.size + 1 := by simp
 have hrow : row? (w.alloc (.cells (pointA p) 26)) w.heap.size 0 33 = some (pointA p) := by rw [row?_new]; simp
 have hrown := row_part hrow 1 32 (by omega)
 have hc0 := cell_of_row? hrow 0 (by omega)
 rw [pointA_name] at hrown
 rw [pointA_epoch] at hc0
 have hpe : ¬ (4611686018427387904 : Int) < (p.epoch.toNat : Int) := by omega
 go_enter Tryz.func5, Tryz.ntmps5
 go_upto_region 1 with fail
 generalize w.alloc (.cells (pointA p) 26) = w0 at *
 obtain ⟨b1, hb1e⟩ : ∃ b, b = w.heap.size := ⟨_, rfl⟩
 rw [← hb1e] at hrow hrown hc0 ⊢
 have hb1 : b1 < w0.heap.size := by omega
 replace hb1e := Lib.hid hb1e
 replace hz0 := Lib.hid hz0
 go_upto_region 3 with fail
 refine wp_region_freeI_l (by kernel_rfl) [7, 8, 9, 10, 11, 12, 13, 24, 14, 15, 16, 2, 3]
  [(fun v => v = .agg (pointA p)), (fun v => v = .agg (blkA p nx)), (fun v => ∃ b, v = ptrV b), (fun v => ∃ a, v = .slice (some ⟨a, 0, none⟩) 1 1), (fun v => ∃ m, v = .map (some m)), (fun v => v = .pointer (some ⟨b1, 1, none⟩)), (fun v => v = .agg (hashA p.name)), (fun _ => True), (fun v => ∃ m, v = .map (some m)), (fun v => ∃ a m, v = .agg #[.slice (some ⟨a, 0, none⟩) 1 1, .map (some m)]), (fun v => ∃ c, v = ptrV c), (fun v => ∃ c, v = ptrV c), (fun v => v = .int .i64 0)]
  [2, 3, 4, 7, 8, 9, 10, 11] (HNew w0 p) [[1, 2, 3, 9, 10, 11], [2, 3, 9, 10, 11], [3, 9, 10, 11], [9, 10, 11], [7, 8, 9, 10, 11], [6, 7], [7], [], [9, 10, 11], [10, 11], [11], [], []] (by kernel_rfl) (by kernel_rfl) ?_ ?_ ?_
 ·show HNew w0 p [false, false, false, false, false, false, false, false] [_, _, _, _, _, _, _, _] _
  refine ⟨(Below.refl _ _).drew, ?_, ?_, ?_, ?_, ?_, ?_, ?_⟩ <;> (intro h; cases h)
 ·refine ⟨?_, ?_, ?_, ?_, ?_, ?_, ?_, ?_, ?_, ?_, ?_, ?_, ?_, trivial⟩
  ·intro L ax W hf hLi hno hd
   try simp [Region.binds] at hd
   have e1 : ax.tmps[1]?.getD undef = .pointer (some ⟨b1, 0, none⟩) := hf.out 1 (by decide) rfl
   refine ⟨fun _ => ?_, fun h => absurd trivial h⟩
   have hG : HNew w0 p [L 2, L 3, L 4, L 7, L 8, L 9, L 10, L 11] [sl ax 9, sl ax 10, sl ax 11, sl ax 24, sl ax 14, sl ax 15, sl ax 16, sl ax 2] W := hf.glob
   have h1 := (row?_below _ _ _ hG.1 hb1).trans hrow
   refine freeI_run (v := .agg (pointA p)) rfl hf (by decide) ?_ rfl
   go_simp
  ·intro L ax W hf hLi hno hd
   simp [Region.binds] at hd
   have e7 : ax.tmps[7]?.getD undef = .agg (pointA p) := slv (hf.got 0 (by decide) (by simp [hd]))
   refine ⟨fun _ => ?_, fun h => absurd trivial h⟩
   have hG : HNew w0 p [L 2, L 3, L 4, L 7, L 8, L 9, L 10, L 11] [sl ax 9, sl ax 10, sl ax 11, sl ax 24, sl ax 14, sl ax 15, sl ax 16, sl ax 2] W := hf.glob
   have hbd := bld_new p W
   refine freeI_run (v := .agg (blkA p nx)) rfl hf (by decide) ?_ rfl
   go_simp
  ·intro L ax W hf hLi hno hd
   simp [Region.binds] at hd
   have e8 : ax.tmps[8]?.getD undef = .agg (blkA p nx) := slv (hf.got 1 (by decide) (by simp [hd]))
   refine ⟨fun _ => ?_, fun h => absurd trivial h⟩
   have hG : HNew w0 p [L 2, L 3, L 4, L 7, L 8, L 9, L 10, L 11] [sl ax 9, sl ax 10, sl ax 11, sl ax 24, sl ax 14, sl ax 15, sl ax 16, sl ax 2] W := hf.glob
   refine freeI_val (v := ptrV W.heap.size) (W' := W.alloc (.cells (blkA p nx) 65)) rfl ?_ ⟨_, rfl⟩ ?_
   ·unfold ptrV
    go_simp
   ·obtain ⟨hB, h0, h1, h2, h4, h5, h6, h7⟩ := hG.grow (bel_a W (.cells (blkA p nx) 65))
    exact ⟨hB, fun _ => ⟨W.heap.size, rfl, hG.1.size, heap_alloc_new W _⟩, fun h => by (have h' : L 3 = true := h; rw [hno 3 (by decide)] at h'; cases h'), h2, h4, h5, h6, h7⟩
  ·intro L ax W hf hLi hno hd
   simp [Region.binds] at hd
   have f9 : (fun v => ∃ b, v = ptrV b) (sl ax 9) := hf.got 2 (by decide) (by simp [hd])
   refine ⟨fun _ => ?_, fun h => absurd trivial h⟩
   have hG : HNew w0 p [L 2, L 3, L 4, L 7, L 8, L 9, L 10, L 11] [sl ax 9, sl ax 10, sl ax 11, sl ax 24, sl ax 14, sl ax 15, sl ax 16, sl ax 2] W := hf.glob
   obtain ⟨b, e9⟩ := f9
   have e9' := slv e9
   refine freeI_val (v := .slice (some ⟨W.heap.size, 0, none⟩) 1 1) (W' := W.alloc (.cells #[ptrV b] 63)) rfl ?_ ⟨_, rfl⟩ ?_
   ·have hbs := bsP_one b W
    unfold ptrV at e9' hbs ⊢
    go_simp
   ·obtain ⟨hB, h0, h1, h2, h4, h5, h6, h7⟩ := hG.grow (bel_a W (.cells #[ptrV b] 63))
    exact ⟨hB, h0, fun _ => ⟨b, W.heap.size, e9, rfl, hG.1.size, heap_alloc_new W _⟩, h2, h4, fun h => by (have h' : L 9 = true := h; rw [hno 9 (by decide)] at h'; cases h'), fun h => by (have h' : L 10 = true := h; rw [hno 10 (by decide)] at h'; cases h'), h7⟩
  ·intro L ax W hf hLi hno hd
   try simp [Region.binds] at hd
   refine ⟨fun _ => ?_, fun h => absurd trivial h⟩
   have hG : HNew w0 p [L 2, L 3, L 4, L 7, L 8, L 9, L 10, L 11] [sl ax 9, sl ax 10, sl ax 11, sl ax 24, sl ax 14, sl ax 15, sl ax 16, sl ax 2] W := hf.glob
   have hmm := run_makeMap (P := Tryz.prog) 67 W
   refine freeI_val (v := .map (some W.heap.size)) (W' := W.alloc (.map #[] 0)) rfl ?_ ⟨_, rfl⟩ ?_
   ·go_simp
   ·obtain ⟨hB, h0, h1, h2, h4, h5, h6, h7⟩ := hG.grow (bel_a W (.map #[] 0))
    have hx : L 7 = false := hno 7 (by decide)
    refine ⟨hB, h0, h1, fun _ => ⟨W.heap.size, rfl, hG.1.size, ?_⟩, fun h => by (have h' : L 8 = true := h; rw [hno 8 (by decide)] at h'; cases h'), fun h => by (have h' : L 9 = true := h; rw [hno 9 (by decide)] at h'; cases h'), fun h => by (have h' : L 10 = true := h; rw [hno 10 (by decide)] at h'; cases h'), h7⟩
    show MapHv _ _ (if L 7 then _ else [])
    rw [hx]
    exact MapHv.new W
  ·intro L ax W hf hLi hno hd
   try simp [Region.binds] at hd
   have e1 : ax.tmps[1]?.getD undef = .pointer (some ⟨b1, 0, none⟩) := hf.out 1 (by decide) rfl
   refine ⟨fun _ => ?_, fun h => absurd trivial h⟩
   refine freeI_run (v := .pointer (some ⟨b1, 1, none⟩)) rfl hf (by decide) ?_ rfl
   go_simp
  ·intro L ax W hf hLi hno hd
   simp [Region.binds] at hd
   have e12 : ax.tmps[12]?.getD undef = .pointer (some ⟨b1, 1, none⟩) := slv (hf.got 5 (by decide) (by simp [hd]))
   refine ⟨fun _ => ?_, fun h => absurd trivial h⟩
   have hG : HNew w0 p [L 2, L 3, L 4, L 7, L 8, L 9, L 10, L 11] [sl ax 9, sl ax 10, sl ax 11, sl ax 24, sl ax 14, sl ax 15, sl ax 16, sl ax 2] W := hf.glob
   have h1 := (row?_below _ _ _ hG.1 hb1).trans hrown
   refine freeI_run (v := .agg (hashA p.name)) rfl hf (by decide) ?_ rfl
   go_simp
  ·intro L ax W hf hLi hno hd
   simp [Region.binds] at hd
   have f11 : (fun v => ∃ m, v = .map (some m)) (sl ax 11) := hf.got 4 (by decide) (by simp [hd])
   have e13 : ax.tmps[13]?.getD undef = .agg (hashA p.name) := slv (hf.got 6 (by decide) (by simp [hd]))
   refine ⟨fun _ => ?_, fun h => absurd trivial h⟩
   have hG : HNew w0 p [L 2, L 3, L 4, L 7, L 8, L 9, L 10, L 11] [sl ax 9, sl ax 10, sl ax 11, sl ax 24, sl ax 14, sl ax 15, sl ax 16, sl ax 2] W := hf.glob
   obtain ⟨m0, e11⟩ := f11
   have e11' := slv e11
   have hl4 : L 4 = true := by simp [hd]
   obtain ⟨hB, h0, h1, h2, h4, h5, h6, h7⟩ := hG
   obtain ⟨m, em, hm, hM⟩ := h2 hl4
   have hM' : MapHv W m (if L 7 then [(p.name, .int .i64 0)] else []) := hM
   rw [hLi] at hM'
   obtain rfl : m0 = m := by
    have := e11.symm.trans em
    injection this with this
    injection this
   obtain ⟨W', hrun, hM2, hgr⟩ := insert_hv Tryz.underlying67 hM' p.name (.int .i64 0) (by simp)
   unfold hsV at hrun
   refine freeI_store (W' := W') rfl ?_ trivial ?_
   ·go_simp
   ·have hfar : ∀ (b : Nat) (cs : Array Value) (t : TypeId), W.heap[b]? = some (.cells cs t (0, 0)) → W'.heap[b]? = some (.cells cs t (0, 0)) := fun b cs t hb => by
     obtain ⟨es, ck, hmb, -⟩ := hM'
     refine (hgr.block b (Array.getElem?_eq_some_iff.1 hb).1 fun e => ?_).trans hb
     injection e with e
     subst e
     rw [hb] at hmb
     cases hmb
    refine ⟨hB.grown hgr hB.size fun k hk => by (injection hk with hk; omega), fun h => ?_, fun h => ?_, fun _ => ⟨m0, em, hm, hM2⟩, h4, h5, fun h => ?_, h7⟩
    ·obtain ⟨b, q1, q2, q3⟩ := h0 h
     exact ⟨b, q1, q2, hfar _ _ _ q3⟩
    ·obtain ⟨b, a, q1, q2, q3, q4⟩ := h1 h
     exact ⟨b, a, q1, q2, q3, hfar _ _ _ q4⟩
    ·obtain ⟨c, q1, q2, q3⟩ := h6 h
     exact ⟨c, q1, q2, hfar _ _ _ q3⟩
  ·intro L ax W hf hLi hno hd
   simp [Region.binds] at hd
   have f11 : (fun v => ∃ m, v = .map (some m)) (sl ax 11) := hf.got 4 (by decide) (by simp [hd])
   refine ⟨fun _ => ?_, fun h => absurd trivial h⟩
   have hG : HNew w0 p [L 2, L 3, L 4, L 7, L 8, L 9, L 10, L 11] [sl ax 9, sl ax 10, sl ax 11, sl ax 24, sl ax 14, sl ax 15, sl ax 16, sl ax 2] W := hf.glob
   obtain ⟨m, e11⟩ := f11
   have e11' := slv e11
   obtain ⟨hB, h0, h1, h2, h4, h5, h6, h7⟩ := hG
   refine freeI_val (v := .map (some m)) (W' := W) rfl ?_ ⟨m, rfl⟩ ?_
   ·go_simp
   ·exact ⟨hB, h0, h1, h2, fun _ => e11.symm, h5, h6, h7⟩
  ·intro L ax W hf hLi hno hd
   simp [Region.binds] at hd
   have f10 : (fun v => ∃ a, v = .slice (some ⟨a, 0, none⟩) 1 1) (sl ax 10) := hf.got 3 (by decide) (by simp [hd])
   have f14 : (fun v => ∃ m, v = .map (some m)) (sl ax 14) := hf.got 8 (by decide) (by simp [hd])
   refine ⟨fun _ => ?_, fun h => absurd trivial h⟩
   have hG : HNew w0 p [L 2, L 3, L 4, L 7, L 8, L 9, L 10, L 11] [sl ax 9, sl ax 10, sl ax 11, sl ax 24, sl ax 14, sl ax 15, sl ax 16, sl ax 2] W := hf.glob
   obtain ⟨a, e10⟩ := f10
   have e10' := slv e10
   obtain ⟨m, e14⟩ := f14
   have e14' := slv e14
   obtain ⟨hB, h0, h1, h2, h4, h5, h6, h7⟩ := hG
   have e11 := (h4 (by simp [hd])).symm.trans e14
   have hbd := bld_chain a m W
   refine freeI_val (v := .agg #[.slice (some ⟨a, 0, none⟩) 1 1, .map (some m)]) (W' := W) rfl ?_ ⟨a, m, rfl⟩ ?_
   ·go_simp
   ·refine ⟨hB, h0, h1, h2, h4, fun _ => ?_, h6, h7⟩
    show Value.agg _ = Value.agg #[sl ax 10, sl ax 11]
    rw [e10]
    exact congrArg (fun v => Value.agg #[_, v]) e11.symm
  ·intro L ax W hf hLi hno hd
   simp [Region.binds] at hd
   have f15 : (fun v => ∃ a m, v = .agg #[.slice (some ⟨a, 0, none⟩) 1 1, .map (some m)]) (sl ax 15) := hf.got 9 (by decide) (by simp [hd])
   refine ⟨fun _ => ?_, fun h => absurd trivial h⟩
   have hG : HNew w0 p [L 2, L 3, L 4, L 7, L 8, L 9, L 10, L 11] [sl ax 9, sl ax 10, sl ax 11, sl ax 24, sl ax 14, sl ax 15, sl ax 16, sl ax 2] W := hf.glob
   obtain ⟨a, m, e15⟩ := f15
   have e15' := slv e15
   refine freeI_val (v := ptrV W.heap.size) (W' := W.alloc (.cells #[.slice (some ⟨a, 0, none⟩) 1 1, .map (some m)] 69)) rfl ?_ ⟨_, rfl⟩ ?_
   ·unfold ptrV
    go_simp
   ·obtain ⟨hB, h0, h1, h2, h4, h5, h6, h7⟩ := hG.grow (bel_a W (.cells #[.slice (some ⟨a, 0, none⟩) 1 1, .map (some m)] 69))
    refine ⟨hB, h0, h1, h2, h4, h5, fun _ => ⟨W.heap.size, rfl, hG.1.size, ?_⟩, fun h => by (have h' : L 11 = true := h; rw [hno 11 (by decide)] at h'; cases h')⟩
    have e := e15.symm.trans (h5 (by simp [hd]))
    have e2 : (#[Value.slice (some ⟨a, 0, none⟩) 1 1, Value.map (some m)] : Array Value) = #[sl ax 10, sl ax 11] := by injection e
    show (W.alloc _).heap[W.heap.size]? = some (.cells #[sl ax 10, sl ax 11] _ _)
    rw [← e2]
    exact heap_alloc_new W _
  ·intro L ax W hf hLi hno hd
   simp [Region.binds] at hd
   have f16 : (fun v => ∃ c, v = ptrV c) (sl ax 16) := hf.got 10 (by decide) (by simp [hd])
   refine ⟨fun _ => ?_, fun h => absurd trivial h⟩
   have hG : HNew w0 p [L 2, L 3, L 4, L 7, L 8, L 9, L 10, L 11] [sl ax 9, sl ax 10, sl ax 11, sl ax 24, sl ax 14, sl ax 15, sl ax 16, sl ax 2] W := hf.glob
   obtain ⟨c, e16⟩ := f16
   have e16' := slv e16
   obtain ⟨hB, h0, h1, h2, h4, h5, h6, h7⟩ := hG
   refine freeI_val (v := ptrV c) (W' := W) rfl ?_ ⟨c, rfl⟩ ?_
   ·unfold ptrV at e16' ⊢
    go_simp
   ·exact ⟨hB, h0, h1, h2, h4, h5, h6, fun _ => e16.symm⟩
  ·intro L ax W hf hLi hno hd
   try simp [Region.binds] at hd
   refine ⟨fun _ => ?_, fun h => absurd trivial h⟩
   refine freeI_run (v := .int .i64 0) rfl hf (by decide) ?_ rfl
   go_simp
 ·intro vs W hl' hF hG
  obtain ⟨g', hg1, hg2⟩ := vs_litI vs hl' hF
  obtain ⟨hB, h0, h1, h2, h4, h5, h6, h7⟩ := hG
  obtain ⟨b, vb, hb, ob⟩ := h0 rfl
  obtain ⟨b', a, vb', va, ha, oa⟩ := h1 rfl
  obtain ⟨m, vm, hm, hM⟩ := h2 rfl
  obtain ⟨c, vc, hc, oc⟩ := h6 rfl
  have v7 := h7 rfl
  rw [hg1] at vb vb' va vm vc v7
  simp only [List.length_cons, List.length_nil, Nat.reduceAdd, List.map_cons, List.map_nil, show List.range 13 = [0, 1, 2, 3, 4, 5, 6, 7, 8, 9, 10, 11, 12] from rfl, List.getD_cons_zero, List.getD_cons_succ] at vb vb' va vm vc v7
  have e12 : g' 12 = .int .i64 0 := hg2 12 (by decide)
  have e11 : g' 11 = ptrV c := v7.trans vc
  obtain rfl : b' = b := by
   have := vb'.symm.trans vb
   unfold ptrV at this
   injection this with this
   injection this with this
   injection this
  have oc' : W.heap[c]? = some (.cells #[.slice (some ⟨a, 0, none⟩) 1 1, .map (some m)] 69 (0, 0)) := by
   rw [hg1] at oc
   simp only [List.length_cons, List.length_nil, Nat.reduceAdd, List.map_cons, List.map_nil, show List.range 13 = [0, 1, 2, 3, 4, 5, 6, 7, 8, 9, 10, 11, 12] from rfl, List.getD_cons_zero, List.getD_cons_succ] at oc
   rw [va, vm] at oc
   exact oc
  have hR : Hid (∃ T : Nat → Nat, ChR w.heap.size T W c (chNew p)) := Lib.hid (chnew_mem w.heap.size p (by have := hz0.out; omega) (by have := hz0.out; omega) (by have := hz0.out; omega) (by have := hz0.out; omega) (by have := hB.size; have := hz0.out; omega) ob oa hM oc')
  have hBf := Lib.hid (hB0.trans (hB.mono (by have := hz0.out; omega)))
  have hcw : w.heap.size ≤ c := by have := hz0.out; omega
  rw [hg1]
  simp only [List.length_cons, List.length_nil, Nat.reduceAdd, show List.range 13 = [0, 1, 2, 3, 4, 5, 6, 7, 8, 9, 10, 11, 12] from rfl, List.map_cons, List.map_nil, slotsIn, putL, List.setIfInBounds_toArray, List.set_cons_succ, List.set_cons_zero, e11, e12, List.size_toArray, Nat.reduceLT, if_true, if_false]
  clear hg1 hg2 hB h0 h1 h2 h4 h5 h6 h7 vb vb' va vm vc v7 e11 e12 ob oa hM oc oc' hF hl' hB0 hrow hrown hc0
  go_wp2_with fail
  go_ret2
  exact ⟨c, rfl, hcw, hR.out, hBf.out⟩
end Go.Proofs.YthdjhbiigmcecaaGreat
