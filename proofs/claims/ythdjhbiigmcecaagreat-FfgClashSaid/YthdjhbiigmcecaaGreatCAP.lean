/- Texts of this proof, one behind the other: TenF, TenG. -/
import Derived.Test.YthdjhbiigmcecaaGreatCAO
import Derived.BigQuiet
import Derived.Deep.CutRange
set_option linter.unusedVariables false
set_option linter.unusedSimpArgs false
/- Contracts: landmarkref10's MayPoint, MayVote, MayOp, MayHeader. -/
namespace Go.Proofs.YthdjhbiigmcecaaGreat
open Go.RowKit

theorem tmayPoint_c (p : Pt) (w : World) : Calls Tryz.prog 83 #[.agg (pointA p)] w fun e w' => e = .returned (.bool (mayPt p)) ∧ Below w.heap.size w w' := by
 go_enter Tryz.func83, Tryz.ntmps83
 go_wp2_with fail
 go_ret
 exact ⟨ret_bool (by simp [mayPt]; omega), by (repeat' (first | (with_reducible first | exact Below.refl _ _ | assumption | refine bel_trans (by assumption) ?_ ?_ | refine bel_grown (by assumption) ?_ ?_ ?_ | refine Below.alloc ?_ ?_ _ | refine Below.drew ?_ | refine below_drewN ?_ _ | refine Below.setCell ?_ ?_ _ | refine below_put ?_ ?_ _ _ | exact Nat.le_refl _) | omega | (with_reducible first | refine Nat.le_trans ?_ (Below.size (by assumption)) | refine Nat.le_trans ?_ (World.grownBy.size (by assumption))) | (simp only [World.size_alloc, World.size_setCell, World.size_drew, size_drewN]; omega) | (simp only [World.size_alloc, World.size_setCell, World.size_drew, size_drewN, size_put]; omega) | (intro k hk; simp [Value.ownBlock] at hk; first | done | omega) | (simp [size_drewN] at *; omega)))⟩

set_option maxRecDepth 100000 in
theorem tmayVote_c (v : GVote) (w : World) : Calls Tryz.prog 65 #[.agg (voteA v)] w fun e w' => e = .returned (.bool (mayV v)) ∧ Below w.heap.size w w' := by
 go_enter Tryz.func65, Tryz.ntmps65
 go_wp2_with (go_at_call 83; refine (tmayPoint_c _ _).mono ?_; rintro e w1 ⟨rfl, hb⟩; obtain ⟨k1, k2, k3⟩ := kept hb; have hz : w.heap.size < w1.heap.size := by (have := hb.size; (try simp at this); omega))
 all_goals go_ret
 all_goals exact ⟨ret_bool (by simp_all [mayV, mayMem] <;> omega), by (repeat' (first | (with_reducible first | exact Below.refl _ _ | assumption | refine bel_trans (by assumption) ?_ ?_ | refine bel_grown (by assumption) ?_ ?_ ?_ | refine Below.alloc ?_ ?_ _ | refine Below.drew ?_ | refine below_drewN ?_ _ | refine Below.setCell ?_ ?_ _ | refine below_put ?_ ?_ _ _ | exact Nat.le_refl _) | omega | (with_reducible first | refine Nat.le_trans ?_ (Below.size (by assumption)) | refine Nat.le_trans ?_ (World.grownBy.size (by assumption))) | (simp only [World.size_alloc, World.size_setCell, World.size_drew, size_drewN]; omega) | (simp only [World.size_alloc, World.size_setCell, World.size_drew, size_drewN, size_put]; omega) | (intro k hk; simp [Value.ownBlock] at hk; first | done | omega) | (simp [size_drewN] at *; omega)))⟩

set_option maxRecDepth 100000 in
set_option maxHeartbeats 1600000 in
theorem tmayOp_c (g : GOp) (o : Op) (w : World) (h : OpR w g o) :
  Calls Tryz.prog 48 #[.agg (opA g)] w fun e w' => e = .returned (.bool (opMay o)) ∧ Below w.heap.size w w' := by
 have hz := zero_hash
 have hq := eq_hash_guard
 have hM := opMay_doc o
 have n1 := h.2.2.2.2.1
 rw [← h.1, ← h.2.1, ← h.2.2.1, ← h.2.2.2.1] at hM
 have Hv := Lib.hid h.2.2.2.2
 have hrow : row? (w.alloc (.cells (opA g) 73)) w.heap.size 0 36 = some (opA g) := by rw [row?_new]; simp
 have hB : Below w.heap.size w (w.alloc (.cells (opA g) 73)) := bel_a _ _
 have hsz : w.heap.size < (w.alloc (.cells (opA g) 73)).heap.size := by simp
 have HM := Lib.hid hM
 clear hM h
 obtain ⟨gk, gkey, gst, gv, ⟨ea, en, ec⟩⟩ := g
 simp only at n1
 subst n1
 go_enter Tryz.func48, Tryz.ntmps48
 go_upto_region 1 with fail
 generalize hw1 : w.alloc (.cells (opA ⟨gk, gkey, gst, gv, ⟨ea, o.evidence.length, ec⟩⟩) 73) = w1 at *
 clear hw1
 obtain ⟨c0, c1, c2, c3⟩ := opA_cells hrow
 have ck := row?_sub hrow 1 32 (by omega)
 simp only [Nat.zero_add, Nat.reduceAdd, opA_key] at ck
 have hsz0 := stake_zero gst
 go_cut [3] from 4 (fun x W => x = .bool (!decide (gkey = zeroHash)) ∧ W = w1)
 case first =>
  by_cases hk : gkey = zeroHash
  ·have hd := dec_true hk
   clear hk
   go_wp2_with fail
   go_meet
   case rel => exact ⟨by rw [hd]; rfl, rfl⟩
  ·have hd := dec_false hk
   clear hk
   go_wp2_with fail
   go_meet
   case rel => exact ⟨by rw [hd]; rfl, rfl⟩
 case rest =>
  obtain ⟨rfl, rfl⟩ := hcut
  simp only at HM
  generalize decide (gkey = zeroHash) = no at *
  have nl := nil_len o.evidence
  by_cases e1 : gk = 1
  ·have b1 : (gk == 1) = true := by simp [e1]
   have Hm := Lib.hid (HM.out.trans (if_pos e1))
   clear e1 HM
   go_wp2_with fail
   all_goals go_ret
   all_goals exact ⟨ret_bool (by rw [Hm.out, Bool.eq_iff_iff]; simp_all; try (first | omega | exact ⟨fun q => ⟨⟨q, by omega⟩, by omega⟩, fun q => q.1.1⟩)), hB⟩
  have Hm := Lib.hid (HM.out.trans (if_neg e1))
  have b1 : (gk == 1) = false := by simp [e1]
  clear e1 HM
  by_cases e2 : gk = 2
  ·have b2 : (gk == 2) = true := by simp [e2]
   have Hm := Lib.hid (Hm.out.trans (if_pos e2))
   clear e2
   cases no
   all_goals go_wp2_with fail
   all_goals go_ret
   all_goals exact ⟨ret_bool (by rw [Hm.out, Bool.eq_iff_iff]; simp_all [mayMem]; try omega), hB⟩
  have Hm := Lib.hid (Hm.out.trans (if_neg e2))
  have b2 : (gk == 2) = false := by simp [e2]
  clear e2
  by_cases e3 : gk = 3
  ·have b3 : (gk == 3) = true := by simp [e3]
   have Hm := Lib.hid (Hm.out.trans (if_pos e3))
   clear e3
   by_cases m2 : o.evidence.length = 2
   ·obtain ⟨a, b, hab⟩ : ∃ a b, o.evidence = [a, b] := by
     match he : o.evidence, m2 with
     | [a, b], _ => exact ⟨a, b, rfl⟩
    have hv := VotesR.keep' Hv.out hB
    rw [hab] at hv
    obtain ⟨bl, off, ga, gb, s1, s2, s3, hlt, r0, v0, r1, v1⟩ := votes_two hv
    have HmF := Lib.hid (show opMay o = (no && decide (gst = 0) && mayMem gv && (mayV ga && mayV gb)) by rw [Hm.out, hab, v0.may, v1.may]; simp [Bool.and_assoc])
    simp only at s1 s2 s3
    subst s1
    rw [m2] at c3
    dsimp only [Sl.v] at c3
    clear m2 hab hv v0 v1 s2 nl Hv
    cases no
    all_goals go_wp2_with (first
     | (go_at_call 65; (with_reducible refine (tmayVote_c ga _).mono ?_); rintro e w2 ⟨rfl, hb2⟩; obtain ⟨k1, k2, k3⟩ := kept hb2; have c3 := (k1 _ _ hsz).trans c3; have r1 := (k3 _ _ _ hlt).trans r1)
     | (go_at_call 65; (with_reducible refine (tmayVote_c gb _).mono ?_); rintro e w3 ⟨rfl, hb3⟩))
    all_goals go_ret
    all_goals exact ⟨ret_bool (by rw [HmF.out, Bool.eq_iff_iff]; simp_all [mayMem]; try omega), by (repeat' (first | (with_reducible first | exact Below.refl _ _ | assumption | refine bel_trans (by assumption) ?_ ?_ | refine bel_grown (by assumption) ?_ ?_ ?_ | refine Below.alloc ?_ ?_ _ | refine Below.drew ?_ | refine below_drewN ?_ _ | refine Below.setCell ?_ ?_ _ | refine below_put ?_ ?_ _ _ | exact Nat.le_refl _) | omega | (with_reducible first | refine Nat.le_trans ?_ (Below.size (by assumption)) | refine Nat.le_trans ?_ (World.grownBy.size (by assumption))) | (simp only [World.size_alloc, World.size_setCell, World.size_drew, size_drewN]; omega) | (simp only [World.size_alloc, World.size_setCell, World.size_drew, size_drewN, size_put]; omega) | (intro k hk; simp [Value.ownBlock] at hk; first | done | omega) | (simp [size_drewN] at *; omega)))⟩
   ·have b4 : ((o.evidence.length : Int) == 2) = false := by simp; omega
    have Hf := Lib.hid (show opMay o = false by rw [Hm.out]; simp [m2])
    clear m2 nl Hm
    cases no
    all_goals go_wp2_with fail
    all_goals go_ret
    all_goals exact ⟨ret_bool Hf.out.symm, hB⟩
  ·have b3 : (gk == 3) = false := by simp [e3]
   have Hm := Lib.hid (Hm.out.trans (if_neg e3))
   clear e3
   go_wp2_with fail
   go_ret
   exact ⟨ret_bool Hm.out.symm, hB⟩
set_option maxRecDepth 100000 in
set_option maxHeartbeats 1600000 in
theorem tmayHeader_c (g : GHeader) (h : Hdr) (w : World) (hr : HdrR w g h) (hl : h.ops.length ≤ 1000000) :
  Calls Tryz.prog 38 #[.agg (headerA g)] w fun e w' => e = .returned (.bool (hdrMay h)) ∧ Below w.heap.size w w' := by
 have n1 := hr.2.2.1
 have hE := hr.2.1
 obtain ⟨gp, ge, ⟨oa, on, oc⟩⟩ := g
 simp only at n1 hE
 subst n1
 have HG : hdrGood h = (decide (1 ≤ ge.toNat ∧ ge.toNat ≤ 4611686018427387904) && decide (h.ops.length ≤ 16)) := by rw [hdrGood, hE]
 have Hr := Lib.hid hr.2.2
 have HM := Lib.hid (hdrMay_eq h)
 clear hE hr
 have hB0 : Below w.heap.size w (w.alloc (.cells (headerA ⟨gp, ge, ⟨oa, h.ops.length, oc⟩⟩) 39)) := bel_a _ _
 have hrow : row? (w.alloc (.cells (headerA ⟨gp, ge, ⟨oa, h.ops.length, oc⟩⟩) 39)) w.heap.size 0 34 = some (headerA ⟨gp, ge, ⟨oa, h.ops.length, oc⟩⟩) := by rw [row?_new]; simp
 obtain ⟨c32, c33⟩ := headerA_cells hrow
 have hz0 : w.heap.size < (w.alloc (.cells (headerA ⟨gp, ge, ⟨oa, h.ops.length, oc⟩⟩) 39)).heap.size := by simp
 replace HG := Lib.hid HG
 clear hrow
 go_enter Tryz.func38, Tryz.ntmps38
 go_upto_region 1 with fail
 generalize w.alloc (.cells (headerA ⟨gp, ge, ⟨oa, h.ops.length, oc⟩⟩) 39) = w1 at *
 have HM' := HM
 have hl0 : ∀ k : Nat, k < h.ops.length → (k : Int) < (h.ops.length : Int) := fun k hk => by omega
 go_wp2_with fail
 go_loopw [3] (fun i w' => ∃ k : Nat, k ≤ h.ops.length ∧ Hid ((h.ops.take k).all opMay = true) ∧ i = .int .i64 k ∧ Below w1.heap.size w1 w') (fun i _ => h.ops.length - (intOf i).toNat)
 case atStart => exact ⟨0, Nat.zero_le _, Lib.hid (by simp), rfl, Below.refl _ _⟩
 case round =>
  obtain ⟨k, hk, hb, rfl, hB⟩ := hrel
  have hBB : Below w.heap.size w wr := hB0.trans (hB.mono (Nat.le_of_lt hz0))
  have c33 : wr.cell? ⟨w.heap.size, 33, none⟩ = some (.slice oa h.ops.length oc) := (hB.cell (p := ⟨w.heap.size, 33, none⟩) hz0).trans c33
  have c32 : wr.cell? ⟨w.heap.size, 32, none⟩ = some (.int .u64 (ge.toNat : Int)) := (hB.cell (p := ⟨w.heap.size, 32, none⟩) hz0).trans c32
  have hzz := hB.size
  by_cases hkx : k < h.ops.length
  ·obtain ⟨bl, off, e, hbs, hc⟩ := (OpsR.keep' Hr.out hBB).at (by omega)
   have e1 := congrArg Sl.a e
   simp only at e1
   subst e1
   clear e
   obtain ⟨cs, hcx, g1, rfl, hv1⟩ := hc k hkx
   clear hc
   have hat := all_take_succ opMay h.ops k hkx
   have haf := all_false opMay h.ops k hkx
   generalize h.ops[k] = ok at *
   have Hat := Lib.hid hat
   have Haf := Lib.hid haf
   have Hv1 := Lib.hid hv1
   clear hat haf hv1
   have i0 : (0 : Int) ≤ (k : Int) := by omega
   have i1 : (k : Int) < (h.ops.length : Int) := by omega
   go_wp2_with fail
   (with_reducible refine (tmayOp_c g1 ok _ Hv1.out).mono ?_)
   rintro e w2 ⟨rfl, hb1⟩
   have hB1 : Below w1.heap.size w1 w2 := hB.trans (hb1.mono hzz)
   cases hm : opMay ok
   ·have Hf := Lib.hid (show hdrMay h = false by rw [HM.out, Haf.out hm, Bool.and_false])
    clear hm
    go_wp2_with fail
    go_ret
    exact ⟨ret_bool Hf.out.symm, hB0.trans (hB1.mono (Nat.le_of_lt hz0))⟩
   ·have Hm := Lib.hid hm
    clear hm
    go_wp2_with fail
    go_roundw
    case rel => exact ⟨k + 1, by omega, Lib.hid (by rw [Hat.out, Hm.out, Bool.and_true]; exact hb.out), by go_num, hB1⟩
    case measure => simp [intOf]; omega
  ·have Hf := Lib.hid (show hdrMay h = (decide (1 ≤ ge.toNat ∧ ge.toNat ≤ 4611686018427387904) && decide (h.ops.length ≤ 16)) by
    have := hb.out
    rw [List.take_of_length_le (by omega)] at this
    rw [HM.out, this, Bool.and_true, HG.out])
   go_wp2_with fail
   all_goals go_ret
   all_goals exact ⟨ret_bool (by rw [Hf.out, Bool.eq_iff_iff]; simp; omega), hBB⟩
end Go.Proofs.YthdjhbiigmcecaaGreat

/- The document's chain in memory; landmarkref10.(*Chain).At. -/
namespace Go.Proofs.YthdjhbiigmcecaaGreat
open Go.RowKit

def parI : Option Nat → Int
 | none => -1
 | some j => (j : Int)
/-- a block of the document's -/
def rblkA (p : Pt) (g : GHeader) (o : Option Nat) : Array Value := pointA p ++ headerA g ++ #[.int .i64 (parI o)]
theorem rblkA_size (p : Pt) (g : GHeader) (o : Option Nat) : (rblkA p g o).size = 68 := by simp [rblkA]
theorem rblkA_point (p : Pt) (g : GHeader) (o : Option Nat) : (rblkA p g o).extract 0 33 = pointA p := by
 unfold rblkA
 rw [Array.append_assoc, Array.extract_append]
 simp [ext_self]
theorem rblkA_par (p : Pt) (g : GHeader) (o : Option Nat) : (rblkA p g o)[67]? = some (.int .i64 (parI o)) := by
 unfold rblkA
 rw [Array.getElem?_append_right (by simp)]
 simp
/-- the chain in memory: the box at cb, its rows from the head of block rb on; its headers lie in memory that was there in w0 -/
structure RefC (w0 W : World) (cb rb cap : Nat) (G : List GHeader) (C : List Blk) : Prop where
 bel : Below w0.heap.size w0 W
 cbl : w0.heap.size ≤ cb
 rbl : w0.heap.size ≤ rb
 ne : cb ≠ rb
 ob : W.heap[cb]? = some (.cells #[.slice (some ⟨rb, 0, none⟩) C.length cap] 44 (0, 0))
 lt : rb < W.heap.size
 cap : C.length ≤ cap
 len : G.length = C.length
 row : ∀ i x b, G[i]? = some x → C[i]? = some b → row? W rb (i * 68) 68 = some (rblkA b.p x b.par) ∧ HdrR w0 x b.h
section
variable {w0 W W' : World} {cb rb cap : Nat} {G : List GHeader} {C : List Blk}
theorem RefC.off (h : RefC w0 W cb rb cap G C) {M : Nat → Prop} (hb : Asd M W W') (hM : ∀ k, M k → w0.heap.size ≤ k) (h1 : ¬ M cb) (h2 : ¬ M rb) : RefC w0 W' cb rb cap G C := by
 have hc : cb < W.heap.size := (Array.getElem?_eq_some_iff.1 h.ob).1
 have hz := h.bel.size
 exact ⟨h.bel.trans (hb.below hz fun k _ hk => hM k hk), h.cbl, h.rbl, h.ne, (hb.block cb hc h1).trans h.ob, Nat.lt_of_lt_of_le h.lt hb.size, h.cap, h.len, fun i x b q1 q2 => ⟨hb.row h2 (h.row i x b q1 q2).1, (h.row i x b q1 q2).2⟩⟩
theorem RefC.keep (h : RefC w0 W cb rb cap G C) (hb : Below W.heap.size W W') : RefC w0 W' cb rb cap G C := by
 refine h.off (M := fun _ => False) (below_fresh hb _) (fun _ q => q.elim) (fun q => q) (fun q => q)
theorem RefC.cbW (h : RefC w0 W cb rb cap G C) : cb < W.heap.size := (Array.getElem?_eq_some_iff.1 h.ob).1
theorem RefC.c0 (h : RefC w0 W cb rb cap G C) : W.cell? ⟨cb, 0, none⟩ = some (.slice (some ⟨rb, 0, none⟩) C.length cap) := by
 rw [cell_of_row W cb 0 _ _ _ h.ob]
 rfl
theorem RefC.at (h : RefC w0 W cb rb cap G C) {i : Nat} (hi : i < C.length) : ∃ x, G[i]? = some x ∧ row? W rb (i * 68) 68 = some (rblkA C[i].p x C[i].par) ∧ HdrR w0 x C[i].h := by
 have hg : i < G.length := by rw [h.len]; exact hi
 obtain ⟨q1, q2⟩ := h.row i G[i] C[i] (List.getElem?_eq_getElem hg) (List.getElem?_eq_getElem hi)
 exact ⟨G[i], List.getElem?_eq_getElem hg, q1, q2⟩
end
theorem rblk_cells {W : World} {b o : Nat} {p : Pt} {g : GHeader} {q : Option Nat} (h : row? W b o 68 = some (rblkA p g q)) :
  row? W b o 33 = some (pointA p) ∧ row? W b (o + 1) 32 = some (hashA p.name) ∧ W.cell? ⟨b, o, none⟩ = some (.int .u64 (p.epoch.toNat : Int)) ∧ W.cell? ⟨b, o + 67, none⟩ = some (.int .i64 (parI q)) := by
 have h1 := row_part h 0 33 (by omega)
 rw [Nat.add_zero] at h1
 have e1 : (rblkA p g q).extract 0 33 = pointA p := rblkA_point p g q
 simp only [Nat.zero_add, e1] at h1
 have h2 := row_part h1 1 32 (by omega)
 have h3 := cell_of_row? h1 0 (by omega)
 have h4 := cell_of_row? h 67 (by omega)
 rw [rblkA_par] at h4
 refine ⟨h1, ?_, ?_, h4⟩
 ·simpa using h2
 ·simpa using h3
theorem t10_hash_guard : Tryz.prog.eqGuardType Tryz.prog.depth 24 = false := by kernel_rfl
/-- not among the first k -/
def noAt (C : List Blk) (n : Hash) (k : Nat) : Prop := ∀ j b, j < k → C[j]? = some b → b.p.name ≠ n
theorem chAt_hit {C : List Blk} {n : Hash} {k : Nat} (hk : k < C.length) (hno : noAt C n k) (he : C[k].p.name = n) : chAt C n = some k := by
 unfold chAt
 rw [List.findIdx?_eq_some_iff_getElem]
 refine ⟨hk, by simpa using he, fun j hj => ?_⟩
 have := hno j C[j] hj (List.getElem?_eq_getElem (by omega))
 simpa using this
theorem chAt_miss {C : List Blk} {n : Hash} (hno : noAt C n C.length) : chAt C n = none := by
 unfold chAt
 rw [List.findIdx?_eq_none_iff]
 intro b hb
 obtain ⟨j, hj, rfl⟩ := List.getElem_of_mem hb
 have := hno j C[j] hj (List.getElem?_eq_getElem hj)
 simpa using this
theorem noAt_succ {C : List Blk} {n : Hash} {k : Nat} (hk : k < C.length) (hno : noAt C n k) (he : C[k].p.name ≠ n) : noAt C n (k + 1) := fun j b hj hb => by
 rcases Nat.lt_succ_iff_lt_or_eq.1 hj with h | rfl
 ·exact hno j b h hb
 ·rw [List.getElem?_eq_getElem hk] at hb
  injection hb with hb
  subst hb
  exact he
set_option maxRecDepth 100000 in
set_option maxHeartbeats 1600000 in
theorem rat_c {w0 W : World} {cb rb cap : Nat} {G : List GHeader} {C : List Blk} (h : RefC w0 W cb rb cap G C) (hl : C.length ≤ 1000000) (n : Hash) :
  Calls Tryz.prog 21 #[ptrV cb, .agg (hashA n)] W fun e w' => e = .returned (.int .i64 (parI (chAt C n))) ∧ Below W.heap.size W w' := by
 have hB0 : Below W.heap.size W (W.alloc (.cells (hashA n) 24)) := bel_a _ _
 have hz0 : (W.alloc (.cells (hashA n) 24)).heap.size = W.heap.size + 1 := by simp
 have hrow0 : row? (W.alloc (.cells (hashA n) 24)) W.heap.size 0 32 = some (hashA n) := by rw [row?_new]; simp
 have h1 := Lib.hid (h.keep hB0)
 have hgd := t10_hash_guard
 clear h
 unfold ptrV
 go_enter Tryz.func21, Tryz.ntmps21
 go_upto_region 1 with fail
 generalize W.alloc (.cells (hashA n) 24) = w1 at *
 have c0 := h1.out.c0
 obtain ⟨bh, hbh⟩ : ∃ b, b = W.heap.size := ⟨_, rfl⟩
 rw [← hbh] at hrow0 ⊢
 replace hbh := Lib.hid hbh
 replace hz0 := Lib.hid hz0
 replace hB0 := Lib.hid hB0
 go_wp2_with fail
 go_loopw [5] (fun i W' => ∃ k j : Nat, k ≤ C.length ∧ i = .int .i64 k ∧ W' = w1.drewN j ∧ Hid (noAt C n k)) (fun i _ => C.length - (intOf i).toNat)
 case atStart => exact ⟨0, 0, Nat.zero_le _, rfl, rfl, Lib.hid fun j b hj => absurd hj (Nat.not_lt_zero j)⟩
 case round =>
  obtain ⟨k, j, hk, rfl, rfl, hT⟩ := hrel
  have R0 := fun n => (show (w1.drewN n).cell? ⟨cb, 0, none⟩ = _ from c0)
  by_cases hkx : k < C.length
  ·obtain ⟨x, -, hrw, -⟩ := h1.out.at hkx
   obtain ⟨-, hnm, -, -⟩ := rblk_cells hrw
   have R1 := fun j => (show row? (w1.drewN j) bh 0 32 = _ from hrow0)
   have R2 := fun j => (show row? (w1.drewN j) rb (k * 68 + 1) 32 = _ from hnm)
   have k0 : (0 : Int) ≤ (k : Int) := by omega
   have k1 : (k : Int) < (C.length : Int) := by omega
   have x6 : IntKind.i64.wrap ((k : Int) + 1) = k + 1 := IntWalk.i64_in _ (by omega)
   have hks := Lib.hid (show k + 1 ≤ C.length from hkx)
   by_cases hxy : C[k].p.name = n
   ·have dx : decide (C[k].p.name = n) = true := decide_eq_true hxy
    have hr := Lib.hid (chAt_hit hkx hT.out hxy)
    generalize C[k].p.name = nm at *
    clear hxy hT hnm hrw hkx hk
    go_upto_region 4 with fail
    go_quiet (fail)
    go_wp2_with fail
    go_ret
    exact ⟨by rw [hr.out]; rfl, by have hB9 := hB0.out; have hb9 := hbh.out; (repeat' (first | (with_reducible first | exact Below.refl _ _ | assumption | refine bel_trans (by assumption) ?_ ?_ | refine bel_grown (by assumption) ?_ ?_ ?_ | refine Below.alloc ?_ ?_ _ | refine Below.drew ?_ | refine below_drewN ?_ _ | refine Below.setCell ?_ ?_ _ | refine below_put ?_ ?_ _ _ | exact Nat.le_refl _) | omega | (with_reducible first | refine Nat.le_trans ?_ (Below.size (by assumption)) | refine Nat.le_trans ?_ (World.grownBy.size (by assumption))) | (simp only [World.size_alloc, World.size_setCell, World.size_drew, size_drewN]; omega) | (simp only [World.size_alloc, World.size_setCell, World.size_drew, size_drewN, size_put]; omega) | (intro k hk; simp [Value.ownBlock] at hk; first | done | omega) | (simp [size_drewN] at *; omega)))⟩
   ·have dx : decide (C[k].p.name = n) = false := decide_eq_false hxy
    have hT2 := Lib.hid (noAt_succ hkx hT.out hxy)
    generalize C[k].p.name = nm at *
    clear hxy hT hnm hrw hkx hk
    go_upto_region 4 with fail
    go_quiet (fail)
    go_wp2_with fail
    go_roundw
    case rel => exact ⟨k + 1, _, hks.out, by go_num, rfl, hT2⟩
    case measure =>
     have := hks.out
     simp [intOf]
     omega
  ·have hr := Lib.hid (chAt_miss (show noAt C n C.length by
    have := hT.out
    rwa [show k = C.length by omega] at this))
   have knl : ¬ (k : Int) < (C.length : Int) := by omega
   clear hT
   go_wp2_with fail
   go_ret
   exact ⟨by rw [hr.out]; rfl, by have hB9 := hB0.out; have hb9 := hbh.out; (repeat' (first | (with_reducible first | exact Below.refl _ _ | assumption | refine bel_trans (by assumption) ?_ ?_ | refine bel_grown (by assumption) ?_ ?_ ?_ | refine Below.alloc ?_ ?_ _ | refine Below.drew ?_ | refine below_drewN ?_ _ | refine Below.setCell ?_ ?_ _ | refine below_put ?_ ?_ _ _ | exact Nat.le_refl _) | omega | (with_reducible first | refine Nat.le_trans ?_ (Below.size (by assumption)) | refine Nat.le_trans ?_ (World.grownBy.size (by assumption))) | (simp only [World.size_alloc, World.size_setCell, World.size_drew, size_drewN]; omega) | (simp only [World.size_alloc, World.size_setCell, World.size_drew, size_drewN, size_put]; omega) | (intro k hk; simp [Value.ownBlock] at hk; first | done | omega) | (simp [size_drewN] at *; omega)))⟩
end Go.Proofs.YthdjhbiigmcecaaGreat
