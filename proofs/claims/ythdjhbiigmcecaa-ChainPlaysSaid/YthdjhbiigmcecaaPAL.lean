/- Texts of this proof, one behind the other: TenF, TenG, ChnD, ChnE. -/
import Derived.Test.YthdjhbiigmcecaaPAK
import Derived.BigQuiet
import Derived.Deep.CutRange
import Derived.Shelf.SlicesE.Clone
set_option linter.unusedVariables false
set_option linter.unusedSimpArgs false
/- Contracts: landmarkref10's MayPoint, MayVote, MayOp, MayHeader. -/
namespace Go.Proofs.Ythdjhbiigmcecaa
open Go.RowKit

theorem tmayPoint_c (p : Pt) (w : World) : Calls Try.prog 227 #[.agg (pointA p)] w fun e w' => e = .returned (.bool (mayPt p)) ∧ Below w.heap.size w w' := by
 go_enter Try.func227, Try.ntmps227
 go_wp2_with fail
 go_ret
 exact ⟨ret_bool (by simp [mayPt]; omega), by (repeat' (first | (with_reducible first | exact Below.refl _ _ | assumption | refine bel_trans (by assumption) ?_ ?_ | refine bel_grown (by assumption) ?_ ?_ ?_ | refine Below.alloc ?_ ?_ _ | refine Below.drew ?_ | refine below_drewN ?_ _ | refine Below.setCell ?_ ?_ _ | refine below_put ?_ ?_ _ _ | exact Nat.le_refl _) | omega | (with_reducible first | refine Nat.le_trans ?_ (Below.size (by assumption)) | refine Nat.le_trans ?_ (World.grownBy.size (by assumption))) | (simp only [World.size_alloc, World.size_setCell, World.size_drew, size_drewN]; omega) | (simp only [World.size_alloc, World.size_setCell, World.size_drew, size_drewN, size_put]; omega) | (intro k hk; simp [Value.ownBlock] at hk; first | done | omega) | (simp [size_drewN] at *; omega)))⟩

set_option maxRecDepth 100000 in
theorem tmayVote_c (v : GVote) (w : World) : Calls Try.prog 209 #[.agg (voteA v)] w fun e w' => e = .returned (.bool (mayV v)) ∧ Below w.heap.size w w' := by
 go_enter Try.func209, Try.ntmps209
 go_wp2_with (go_at_call 227; refine (tmayPoint_c _ _).mono ?_; rintro e w1 ⟨rfl, hb⟩; obtain ⟨k1, k2, k3⟩ := kept hb; have hz : w.heap.size < w1.heap.size := by (have := hb.size; (try simp at this); omega))
 all_goals go_ret
 all_goals exact ⟨ret_bool (by simp_all [mayV, mayMem] <;> omega), by (repeat' (first | (with_reducible first | exact Below.refl _ _ | assumption | refine bel_trans (by assumption) ?_ ?_ | refine bel_grown (by assumption) ?_ ?_ ?_ | refine Below.alloc ?_ ?_ _ | refine Below.drew ?_ | refine below_drewN ?_ _ | refine Below.setCell ?_ ?_ _ | refine below_put ?_ ?_ _ _ | exact Nat.le_refl _) | omega | (with_reducible first | refine Nat.le_trans ?_ (Below.size (by assumption)) | refine Nat.le_trans ?_ (World.grownBy.size (by assumption))) | (simp only [World.size_alloc, World.size_setCell, World.size_drew, size_drewN]; omega) | (simp only [World.size_alloc, World.size_setCell, World.size_drew, size_drewN, size_put]; omega) | (intro k hk; simp [Value.ownBlock] at hk; first | done | omega) | (simp [size_drewN] at *; omega)))⟩

set_option maxRecDepth 100000 in
set_option maxHeartbeats 1600000 in
theorem tmayOp_c (g : GOp) (o : Op) (w : World) (h : OpR w g o) :
  Calls Try.prog 185 #[.agg (opA g)] w fun e w' => e = .returned (.bool (opMay o)) ∧ Below w.heap.size w w' := by
 have hz := zero_hash
 have hq := eq_hash_guard
 have hM := opMay_doc o
 have n1 := h.2.2.2.2.1
 rw [← h.1, ← h.2.1, ← h.2.2.1, ← h.2.2.2.1] at hM
 have Hv := Lib.hid h.2.2.2.2
 have hrow : row? (w.alloc (.cells (opA g) 97)) w.heap.size 0 36 = some (opA g) := by rw [row?_new]; simp
 have hB : Below w.heap.size w (w.alloc (.cells (opA g) 97)) := bel_a _ _
 have hsz : w.heap.size < (w.alloc (.cells (opA g) 97)).heap.size := by simp
 have HM := Lib.hid hM
 clear hM h
 obtain ⟨gk, gkey, gst, gv, ⟨ea, en, ec⟩⟩ := g
 simp only at n1
 subst n1
 go_enter Try.func185, Try.ntmps185
 go_upto_region 1 with fail
 generalize hw1 : w.alloc (.cells (opA ⟨gk, gkey, gst, gv, ⟨ea, o.evidence.length, ec⟩⟩) 97) = w1 at *
 clear hw1
 obtain ⟨c0, c1, c2, c3⟩ := opA_cells hrow
 have ck := row?_sub hrow 1 32 (by omega)
 simp only [Nat.zero_add, Nat.reduceAdd, opA_key] at ck
 have hsz0 := stake_zero gst
 go_cut [3] from 4 (fun x W => x = .bool (!decide (gkey = zeroHash)) ∧ W = w1)
 case first =>
  by_cases hk : gkey = zeroHash
  ·have hd := dec_true hk
   clear hk
   go_wp2_with fail
   go_meet
   case rel => exact ⟨by rw [hd]; rfl, rfl⟩
  ·have hd := dec_false hk
   clear hk
   go_wp2_with fail
   go_meet
   case rel => exact ⟨by rw [hd]; rfl, rfl⟩
 case rest =>
  obtain ⟨rfl, rfl⟩ := hcut
  simp only at HM
  generalize decide (gkey = zeroHash) = no at *
  have nl := nil_len o.evidence
  by_cases e1 : gk = 1
  ·have b1 : (gk == 1) = true := by simp [e1]
   have Hm := Lib.hid (HM.out.trans (if_pos e1))
   clear e1 HM
   go_wp2_with fail
   all_goals go_ret
   all_goals exact ⟨ret_bool (by rw [Hm.out, Bool.eq_iff_iff]; simp_all; try (first | omega | exact ⟨fun q => ⟨⟨q, by omega⟩, by omega⟩, fun q => q.1.1⟩)), hB⟩
  have Hm := Lib.hid (HM.out.trans (if_neg e1))
  have b1 : (gk == 1) = false := by simp [e1]
  clear e1 HM
  by_cases e2 : gk = 2
  ·have b2 : (gk == 2) = true := by simp [e2]
   have Hm := Lib.hid (Hm.out.trans (if_pos e2))
   clear e2
   cases no
   all_goals go_wp2_with fail
   all_goals go_ret
   all_goals exact ⟨ret_bool (by rw [Hm.out, Bool.eq_iff_iff]; simp_all [mayMem]; try omega), hB⟩
  have Hm := Lib.hid (Hm.out.trans (if_neg e2))
  have b2 : (gk == 2) = false := by simp [e2]
  clear e2
  by_cases e3 : gk = 3
  ·have b3 : (gk == 3) = true := by simp [e3]
   have Hm := Lib.hid (Hm.out.trans (if_pos e3))
   clear e3
   by_cases m2 : o.evidence.length = 2
   ·obtain ⟨a, b, hab⟩ : ∃ a b, o.evidence = [a, b] := by
     match he : o.evidence, m2 with
     | [a, b], _ => exact ⟨a, b, rfl⟩
    have hv := VotesR.keep' Hv.out hB
    rw [hab] at hv
    obtain ⟨bl, off, ga, gb, s1, s2, s3, hlt, r0, v0, r1, v1⟩ := votes_two hv
    have HmF := Lib.hid (show opMay o = (no && decide (gst = 0) && mayMem gv && (mayV ga && mayV gb)) by rw [Hm.out, hab, v0.may, v1.may]; simp [Bool.and_assoc])
    simp only at s1 s2 s3
    subst s1
    rw [m2] at c3
    dsimp only [Sl.v] at c3
    clear m2 hab hv v0 v1 s2 nl Hv
    cases no
    all_goals go_wp2_with (first
     | (go_at_call 209; (with_reducible refine (tmayVote_c ga _).mono ?_); rintro e w2 ⟨rfl, hb2⟩; obtain ⟨k1, k2, k3⟩ := kept hb2; have c3 := (k1 _ _ hsz).trans c3; have r1 := (k3 _ _ _ hlt).trans r1)
     | (go_at_call 209; (with_reducible refine (tmayVote_c gb _).mono ?_); rintro e w3 ⟨rfl, hb3⟩))
    all_goals go_ret
    all_goals exact ⟨ret_bool (by rw [HmF.out, Bool.eq_iff_iff]; simp_all [mayMem]; try omega), by (repeat' (first | (with_reducible first | exact Below.refl _ _ | assumption | refine bel_trans (by assumption) ?_ ?_ | refine bel_grown (by assumption) ?_ ?_ ?_ | refine Below.alloc ?_ ?_ _ | refine Below.drew ?_ | refine below_drewN ?_ _ | refine Below.setCell ?_ ?_ _ | refine below_put ?_ ?_ _ _ | exact Nat.le_refl _) | omega | (with_reducible first | refine Nat.le_trans ?_ (Below.size (by assumption)) | refine Nat.le_trans ?_ (World.grownBy.size (by assumption))) | (simp only [World.size_alloc, World.size_setCell, World.size_drew, size_drewN]; omega) | (simp only [World.size_alloc, World.size_setCell, World.size_drew, size_drewN, size_put]; omega) | (intro k hk; simp [Value.ownBlock] at hk; first | done | omega) | (simp [size_drewN] at *; omega)))⟩
   ·have b4 : ((o.evidence.length : Int) == 2) = false := by simp; omega
    have Hf := Lib.hid (show opMay o = false by rw [Hm.out]; simp [m2])
    clear m2 nl Hm
    cases no
    all_goals go_wp2_with fail
    all_goals go_ret
    all_goals exact ⟨ret_bool Hf.out.symm, hB⟩
  ·have b3 : (gk == 3) = false := by simp [e3]
   have Hm := Lib.hid (Hm.out.trans (if_neg e3))
   clear e3
   go_wp2_with fail
   go_ret
   exact ⟨ret_bool Hm.out.symm, hB⟩
set_option maxRecDepth 100000 in
set_option maxHeartbeats 1600000 in
theorem tmayHeader_c (g : GHeader) (h : Hdr) (w : World) (hr : HdrR w g h) (hl : h.ops.length ≤ 1000000) :
  Calls Try.prog 118 #[.agg (headerA g)] w fun e w' => e = .returned (.bool (hdrMay h)) ∧ Below w.heap.size w w' := by
 have n1 := hr.2.2.1
 have hE := hr.2.1
 obtain ⟨gp, ge, ⟨oa, on, oc⟩⟩ := g
 simp only at n1 hE
 subst n1
 have HG : hdrGood h = (decide (1 ≤ ge.toNat ∧ ge.toNat ≤ 4611686018427387904) && decide (h.ops.length ≤ 16)) := by rw [hdrGood, hE]
 have Hr := Lib.hid hr.2.2
 have HM := Lib.hid (hdrMay_eq h)
 clear hE hr
 have hB0 : Below w.heap.size w (w.alloc (.cells (headerA ⟨gp, ge, ⟨oa, h.ops.length, oc⟩⟩) 49)) := bel_a _ _
 have hrow : row? (w.alloc (.cells (headerA ⟨gp, ge, ⟨oa, h.ops.length, oc⟩⟩) 49)) w.heap.size 0 34 = some (headerA ⟨gp, ge, ⟨oa, h.ops.length, oc⟩⟩) := by rw [row?_new]; simp
 obtain ⟨c32, c33⟩ := headerA_cells hrow
 have hz0 : w.heap.size < (w.alloc (.cells (headerA ⟨gp, ge, ⟨oa, h.ops.length, oc⟩⟩) 49)).heap.size := by simp
 replace HG := Lib.hid HG
 clear hrow
 go_enter Try.func118, Try.ntmps118
 go_upto_region 1 with fail
 generalize w.alloc (.cells (headerA ⟨gp, ge, ⟨oa, h.ops.length, oc⟩⟩) 49) = w1 at *
 have HM' := HM
 have hl0 : ∀ k : Nat, k < h.ops.length → (k : Int) < (h.ops.length : Int) := fun k hk => by omega
 go_wp2_with fail
 go_loopw [3] (fun i w' => ∃ k : Nat, k ≤ h.ops.length ∧ Hid ((h.ops.take k).all opMay = true) ∧ i = .int .i64 k ∧ Below w1.heap.size w1 w') (fun i _ => h.ops.length - (intOf i).toNat)
 case atStart => exact ⟨0, Nat.zero_le _, Lib.hid (by simp), rfl, Below.refl _ _⟩
 case round =>
  obtain ⟨k, hk, hb, rfl, hB⟩ := hrel
  have hBB : Below w.heap.size w wr := hB0.trans (hB.mono (Nat.le_of_lt hz0))
  have c33 : wr.cell? ⟨w.heap.size, 33, none⟩ = some (.slice oa h.ops.length oc) := (hB.cell (p := ⟨w.heap.size, 33, none⟩) hz0).trans c33
  have c32 : wr.cell? ⟨w.heap.size, 32, none⟩ = some (.int .u64 (ge.toNat : Int)) := (hB.cell (p := ⟨w.heap.size, 32, none⟩) hz0).trans c32
  have hzz := hB.size
  by_cases hkx : k < h.ops.length
  ·obtain ⟨bl, off, e, hbs, hc⟩ := (OpsR.keep' Hr.out hBB).at (by omega)
   have e1 := congrArg Sl.a e
   simp only at e1
   subst e1
   clear e
   obtain ⟨cs, hcx, g1, rfl, hv1⟩ := hc k hkx
   clear hc
   have hat := all_take_succ opMay h.ops k hkx
   have haf := all_false opMay h.ops k hkx
   generalize h.ops[k] = ok at *
   have Hat := Lib.hid hat
   have Haf := Lib.hid haf
   have Hv1 := Lib.hid hv1
   clear hat haf hv1
   have i0 : (0 : Int) ≤ (k : Int) := by omega
   have i1 : (k : Int) < (h.ops.length : Int) := by omega
   go_wp2_with fail
   (with_reducible refine (tmayOp_c g1 ok _ Hv1.out).mono ?_)
   rintro e w2 ⟨rfl, hb1⟩
   have hB1 : Below w1.heap.size w1 w2 := hB.trans (hb1.mono hzz)
   cases hm : opMay ok
   ·have Hf := Lib.hid (show hdrMay h = false by rw [HM.out, Haf.out hm, Bool.and_false])
    clear hm
    go_wp2_with fail
    go_ret
    exact ⟨ret_bool Hf.out.symm, hB0.trans (hB1.mono (Nat.le_of_lt hz0))⟩
   ·have Hm := Lib.hid hm
    clear hm
    go_wp2_with fail
    go_roundw
    case rel => exact ⟨k + 1, by omega, Lib.hid (by rw [Hat.out, Hm.out, Bool.and_true]; exact hb.out), by go_num, hB1⟩
    case measure => simp [intOf]; omega
  ·have Hf := Lib.hid (show hdrMay h = (decide (1 ≤ ge.toNat ∧ ge.toNat ≤ 4611686018427387904) && decide (h.ops.length ≤ 16)) by
    have := hb.out
    rw [List.take_of_length_le (by omega)] at this
    rw [HM.out, this, Bool.and_true, HG.out])
   go_wp2_with fail
   all_goals go_ret
   all_goals exact ⟨ret_bool (by rw [Hf.out, Bool.eq_iff_iff]; simp; omega), hBB⟩
end Go.Proofs.Ythdjhbiigmcecaa

/- The document's chain in memory; landmarkref10.(*Chain).At. -/
namespace Go.Proofs.Ythdjhbiigmcecaa
open Go.RowKit

def parI : Option Nat → Int
 | none => -1
 | some j => (j : Int)
/-- a block of the document's -/
def rblkA (p : Pt) (g : GHeader) (o : Option Nat) : Array Value := pointA p ++ headerA g ++ #[.int .i64 (parI o)]
theorem rblkA_size (p : Pt) (g : GHeader) (o : Option Nat) : (rblkA p g o).size = 68 := by simp [rblkA]
theorem rblkA_point (p : Pt) (g : GHeader) (o : Option Nat) : (rblkA p g o).extract 0 33 = pointA p := by
 unfold rblkA
 rw [Array.append_assoc, Array.extract_append]
 simp [ext_self]
theorem rblkA_par (p : Pt) (g : GHeader) (o : Option Nat) : (rblkA p g o)[67]? = some (.int .i64 (parI o)) := by
 unfold rblkA
 rw [Array.getElem?_append_right (by simp)]
 simp
/-- the chain in memory: the box at cb, its rows from the head of block rb on; its headers lie in memory that was there in w0 -/
structure RefC (w0 W : World) (cb rb cap : Nat) (G : List GHeader) (C : List Blk) : Prop where
 bel : Below w0.heap.size w0 W
 cbl : w0.heap.size ≤ cb
 rbl : w0.heap.size ≤ rb
 ne : cb ≠ rb
 ob : W.heap[cb]? = some (.cells #[.slice (some ⟨rb, 0, none⟩) C.length cap] 69 (0, 0))
 lt : rb < W.heap.size
 cap : C.length ≤ cap
 len : G.length = C.length
 row : ∀ i x b, G[i]? = some x → C[i]? = some b → row? W rb (i * 68) 68 = some (rblkA b.p x b.par) ∧ HdrR w0 x b.h
section
variable {w0 W W' : World} {cb rb cap : Nat} {G : List GHeader} {C : List Blk}
theorem RefC.off (h : RefC w0 W cb rb cap G C) {M : Nat → Prop} (hb : Asd M W W') (hM : ∀ k, M k → w0.heap.size ≤ k) (h1 : ¬ M cb) (h2 : ¬ M rb) : RefC w0 W' cb rb cap G C := by
 have hc : cb < W.heap.size := (Array.getElem?_eq_some_iff.1 h.ob).1
 have hz := h.bel.size
 exact ⟨h.bel.trans (hb.below hz fun k _ hk => hM k hk), h.cbl, h.rbl, h.ne, (hb.block cb hc h1).trans h.ob, Nat.lt_of_lt_of_le h.lt hb.size, h.cap, h.len, fun i x b q1 q2 => ⟨hb.row h2 (h.row i x b q1 q2).1, (h.row i x b q1 q2).2⟩⟩
theorem RefC.keep (h : RefC w0 W cb rb cap G C) (hb : Below W.heap.size W W') : RefC w0 W' cb rb cap G C := by
 refine h.off (M := fun _ => False) (below_fresh hb _) (fun _ q => q.elim) (fun q => q) (fun q => q)
theorem RefC.cbW (h : RefC w0 W cb rb cap G C) : cb < W.heap.size := (Array.getElem?_eq_some_iff.1 h.ob).1
theorem RefC.c0 (h : RefC w0 W cb rb cap G C) : W.cell? ⟨cb, 0, none⟩ = some (.slice (some ⟨rb, 0, none⟩) C.length cap) := by
 rw [cell_of_row W cb 0 _ _ _ h.ob]
 rfl
theorem RefC.at (h : RefC w0 W cb rb cap G C) {i : Nat} (hi : i < C.length) : ∃ x, G[i]? = some x ∧ row? W rb (i * 68) 68 = some (rblkA C[i].p x C[i].par) ∧ HdrR w0 x C[i].h := by
 have hg : i < G.length := by rw [h.len]; exact hi
 obtain ⟨q1, q2⟩ := h.row i G[i] C[i] (List.getElem?_eq_getElem hg) (List.getElem?_eq_getElem hi)
 exact ⟨G[i], List.getElem?_eq_getElem hg, q1, q2⟩
end
theorem rblk_cells {W : World} {b o : Nat} {p : Pt} {g : GHeader} {q : Option Nat} (h : row? W b o 68 = some (rblkA p g q)) :
  row? W b o 33 = some (pointA p) ∧ row? W b (o + 1) 32 = some (hashA p.name) ∧ W.cell? ⟨b, o, none⟩ = some (.int .u64 (p.epoch.toNat : Int)) ∧ W.cell? ⟨b, o + 67, none⟩ = some (.int .i64 (parI q)) := by
 have h1 := row_part h 0 33 (by omega)
 rw [Nat.add_zero] at h1
 have e1 : (rblkA p g q).extract 0 33 = pointA p := rblkA_point p g q
 simp only [Nat.zero_add, e1] at h1
 have h2 := row_part h1 1 32 (by omega)
 have h3 := cell_of_row? h1 0 (by omega)
 have h4 := cell_of_row? h 67 (by omega)
 rw [rblkA_par] at h4
 refine ⟨h1, ?_, ?_, h4⟩
 ·simpa using h2
 ·simpa using h3
theorem t10_hash_guard : Try.prog.eqGuardType Try.prog.depth 24 = false := by kernel_rfl
/-- not among the first k -/
def noAt (C : List Blk) (n : Hash) (k : Nat) : Prop := ∀ j b, j < k → C[j]? = some b → b.p.name ≠ n
theorem chAt_hit {C : List Blk} {n : Hash} {k : Nat} (hk : k < C.length) (hno : noAt C n k) (he : C[k].p.name = n) : chAt C n = some k := by
 unfold chAt
 rw [List.findIdx?_eq_some_iff_getElem]
 refine ⟨hk, by simpa using he, fun j hj => ?_⟩
 have := hno j C[j] hj (List.getElem?_eq_getElem (by omega))
 simpa using this
theorem chAt_miss {C : List Blk} {n : Hash} (hno : noAt C n C.length) : chAt C n = none := by
 unfold chAt
 rw [List.findIdx?_eq_none_iff]
 intro b hb
 obtain ⟨j, hj, rfl⟩ := List.getElem_of_mem hb
 have := hno j C[j] hj (List.getElem?_eq_getElem hj)
 simpa using this
theorem noAt_succ {C : List Blk} {n : Hash} {k : Nat} (hk : k < C.length) (hno : noAt C n k) (he : C[k].p.name ≠ n) : noAt C n (k + 1) := fun j b hj hb => by
 rcases Nat.lt_succ_iff_lt_or_eq.1 hj with h | rfl
 ·exact hno j b h hb
 ·rw [List.getElem?_eq_getElem hk] at hb
  injection hb with hb
  subst hb
  exact he
set_option maxRecDepth 100000 in
set_option maxHeartbeats 1600000 in
theorem rat_c {w0 W : World} {cb rb cap : Nat} {G : List GHeader} {C : List Blk} (h : RefC w0 W cb rb cap G C) (hl : C.length ≤ 1000000) (n : Hash) :
  Calls Try.prog 173 #[ptrV cb, .agg (hashA n)] W fun e w' => e = .returned (.int .i64 (parI (chAt C n))) ∧ Below W.heap.size W w' := by
 have hB0 : Below W.heap.size W (W.alloc (.cells (hashA n) 24)) := bel_a _ _
 have hz0 : (W.alloc (.cells (hashA n) 24)).heap.size = W.heap.size + 1 := by simp
 have hrow0 : row? (W.alloc (.cells (hashA n) 24)) W.heap.size 0 32 = some (hashA n) := by rw [row?_new]; simp
 have h1 := Lib.hid (h.keep hB0)
 have hgd := t10_hash_guard
 clear h
 unfold ptrV
 go_enter Try.func173, Try.ntmps173
 go_upto_region 1 with fail
 generalize W.alloc (.cells (hashA n) 24) = w1 at *
 have c0 := h1.out.c0
 obtain ⟨bh, hbh⟩ : ∃ b, b = W.heap.size := ⟨_, rfl⟩
 rw [← hbh] at hrow0 ⊢
 replace hbh := Lib.hid hbh
 replace hz0 := Lib.hid hz0
 replace hB0 := Lib.hid hB0
 go_wp2_with fail
 go_loopw [5] (fun i W' => ∃ k j : Nat, k ≤ C.length ∧ i = .int .i64 k ∧ W' = w1.drewN j ∧ Hid (noAt C n k)) (fun i _ => C.length - (intOf i).toNat)
 case atStart => exact ⟨0, 0, Nat.zero_le _, rfl, rfl, Lib.hid fun j b hj => absurd hj (Nat.not_lt_zero j)⟩
 case round =>
  obtain ⟨k, j, hk, rfl, rfl, hT⟩ := hrel
  have R0 := fun n => (show (w1.drewN n).cell? ⟨cb, 0, none⟩ = _ from c0)
  by_cases hkx : k < C.length
  ·obtain ⟨x, -, hrw, -⟩ := h1.out.at hkx
   obtain ⟨-, hnm, -, -⟩ := rblk_cells hrw
   have R1 := fun j => (show row? (w1.drewN j) bh 0 32 = _ from hrow0)
   have R2 := fun j => (show row? (w1.drewN j) rb (k * 68 + 1) 32 = _ from hnm)
   have k0 : (0 : Int) ≤ (k : Int) := by omega
   have k1 : (k : Int) < (C.length : Int) := by omega
   have x6 : IntKind.i64.wrap ((k : Int) + 1) = k + 1 := IntWalk.i64_in _ (by omega)
   have hks := Lib.hid (show k + 1 ≤ C.length from hkx)
   by_cases hxy : C[k].p.name = n
   ·have dx : decide (C[k].p.name = n) = true := decide_eq_true hxy
    have hr := Lib.hid (chAt_hit hkx hT.out hxy)
    generalize C[k].p.name = nm at *
    clear hxy hT hnm hrw hkx hk
    go_upto_region 4 with fail
    go_quiet (fail)
    go_wp2_with fail
    go_ret
    exact ⟨by rw [hr.out]; rfl, by have hB9 := hB0.out; have hb9 := hbh.out; (repeat' (first | (with_reducible first | exact Below.refl _ _ | assumption | refine bel_trans (by assumption) ?_ ?_ | refine bel_grown (by assumption) ?_ ?_ ?_ | refine Below.alloc ?_ ?_ _ | refine Below.drew ?_ | refine below_drewN ?_ _ | refine Below.setCell ?_ ?_ _ | refine below_put ?_ ?_ _ _ | exact Nat.le_refl _) | omega | (with_reducible first | refine Nat.le_trans ?_ (Below.size (by assumption)) | refine Nat.le_trans ?_ (World.grownBy.size (by assumption))) | (simp only [World.size_alloc, World.size_setCell, World.size_drew, size_drewN]; omega) | (simp only [World.size_alloc, World.size_setCell, World.size_drew, size_drewN, size_put]; omega) | (intro k hk; simp [Value.ownBlock] at hk; first | done | omega) | (simp [size_drewN] at *; omega)))⟩
   ·have dx : decide (C[k].p.name = n) = false := decide_eq_false hxy
    have hT2 := Lib.hid (noAt_succ hkx hT.out hxy)
    generalize C[k].p.name = nm at *
    clear hxy hT hnm hrw hkx hk
    go_upto_region 4 with fail
    go_quiet (fail)
    go_wp2_with fail
    go_roundw
    case rel => exact ⟨k + 1, _, hks.out, by go_num, rfl, hT2⟩
    case measure =>
     have := hks.out
     simp [intOf]
     omega
  ·have hr := Lib.hid (chAt_miss (show noAt C n C.length by
    have := hT.out
    rwa [show k = C.length by omega] at this))
   have knl : ¬ (k : Int) < (C.length : Int) := by omega
   clear hT
   go_wp2_with fail
   go_ret
   exact ⟨by rw [hr.out]; rfl, by have hB9 := hB0.out; have hb9 := hbh.out; (repeat' (first | (with_reducible first | exact Below.refl _ _ | assumption | refine bel_trans (by assumption) ?_ ?_ | refine bel_grown (by assumption) ?_ ?_ ?_ | refine Below.alloc ?_ ?_ _ | refine Below.drew ?_ | refine below_drewN ?_ _ | refine Below.setCell ?_ ?_ _ | refine below_put ?_ ?_ _ _ | exact Nat.le_refl _) | omega | (with_reducible first | refine Nat.le_trans ?_ (Below.size (by assumption)) | refine Nat.le_trans ?_ (World.grownBy.size (by assumption))) | (simp only [World.size_alloc, World.size_setCell, World.size_drew, size_drewN]; omega) | (simp only [World.size_alloc, World.size_setCell, World.size_drew, size_drewN, size_put]; omega) | (intro k hk; simp [Value.ownBlock] at hk; first | done | omega) | (simp [size_drewN] at *; omega)))⟩
end Go.Proofs.Ythdjhbiigmcecaa

/- A chain: Check. -/
namespace Go.Proofs.Ythdjhbiigmcecaa
open Go.RowKit

/-- a value in a box of its own -/
theorem box_row (W : World) (Z xs : Array Value) (t : TypeId) (n : Nat) (h0 : 0 < n) (hZ : Z.size = n) (hx : xs.size = n) : ∃ W', W' = putRow (W.alloc (.cells Z t)) W.heap.size 0 xs ∧ row? W' W.heap.size 0 n = some xs ∧ there W' W.heap.size 0 n ∧ Below W.heap.size W W' ∧ W'.heap.size = W.heap.size + 1 := by
 have ht := there_new W Z t 0 n (by omega)
 exact ⟨_, rfl, row?_put_same _ _ _ _ _ hx h0 ht, there_put _ _ _ _ _ _ _ ht, below_put (bel_a W _) (Nat.le_refl _) _ _, by rw [size_put]; simp⟩
theorem chcheck_res : Try.f60.results = #[.cell 4 26, .tmp 5] := by kernel_rfl
set_option maxRecDepth 100000 in
set_option maxHeartbeats 3200000 in
theorem chcheck_c {W : World} {cb ab ac mb : Nat} {G : List GB} {C : List Blk} (hv : ChV W cb ab ac mb G C) (hok : ChnOk C) {g : GHeader} {h : Hdr} (hr : HdrR W g h) (hl : HdrFits h) :
  Calls Try.prog 60 #[ptrV cb, .agg (headerA g)] W fun r w' => r = .returned (.tuple #[.agg (pointA (chCheck C h).1), .int .i64 (chCheck C h).2]) ∧ Below W.heap.size W w' := by
 have hp := hok.pos
 have hB0 : Below W.heap.size W ((W.alloc (.cells (headerA g) 49)).alloc (.cells (pointA zeroPt) 26)) := by (repeat' (first | (with_reducible first | exact Below.refl _ _ | assumption | refine bel_trans (by assumption) ?_ ?_ | refine bel_grown (by assumption) ?_ ?_ ?_ | refine Below.alloc ?_ ?_ _ | refine Below.drew ?_ | refine below_drewN ?_ _ | refine Below.setCell ?_ ?_ _ | refine below_put ?_ ?_ _ _ | exact Nat.le_refl _) | omega | (with_reducible first | refine Nat.le_trans ?_ (Below.size (by assumption)) | refine Nat.le_trans ?_ (World.grownBy.size (by assumption))) | (simp only [World.size_alloc, World.size_setCell, World.size_drew, size_drewN]; omega) | (simp only [World.size_alloc, World.size_setCell, World.size_drew, size_drewN, size_put]; omega) | (intro k hk; simp [Value.ownBlock] at hk; first | done | omega) | (simp [size_drewN] at *; omega)))
 have hz0 : ((W.alloc (.cells (headerA g) 49)).alloc (.cells (pointA zeroPt) 26)).heap.size = W.heap.size + 2 := by simp
 have hrow0 : row? ((W.alloc (.cells (headerA g) 49)).alloc (.cells (pointA zeroPt) 26)) W.heap.size 0 34 = some (headerA g) := by rw [row?_old _ _ _ _ _ (by simp), row?_new]; simp
 have hrow1 : row? ((W.alloc (.cells (headerA g) 49)).alloc (.cells (pointA zeroPt) 26)) (W.heap.size + 1) 0 33 = some (pointA zeroPt) := by rw [row?_new_at _ _ _ _ _ _ (by simp)]; simp
 have hth : there ((W.alloc (.cells (headerA g) 49)).alloc (.cells (pointA zeroPt) 26)) (W.heap.size + 1) 0 33 := there_new_at _ _ _ _ _ _ (by simp) (by simp)
 have hv0 := Lib.hid (hv.keep hB0)
 have hr0 := Lib.hid (hr.keep' hB0)
 have hbl := Lib.hid (fun (i : Nat) (x : GB) (b : Blk) (hx : G[i]? = some x) (hb : C[i]? = some b) => hv.blt hx hb)
 have g1 := hr.1
 have g2 := hr.2.1
 clear hv hr
 obtain ⟨p, k, hpk⟩ : ∃ p k, (p, k) = chCheck C h := ⟨_, _, rfl⟩
 rw [← hpk]
 replace hpk := Lib.hid hpk
 have hclen := hok.len
 unfold ptrV
 go_enter Try.func60, Try.ntmps60
 go_upto_region 1 with fail
 generalize (W.alloc (.cells (headerA g) 49)).alloc (.cells (pointA zeroPt) 26) = w0 at *
 have HT := cthere_c hv0.out hp
 unfold ptrV at HT
 go_wp2_with fail
 refine HT.mono ?_
 clear HT
 rintro r w1 ⟨rfl, hb1⟩
 have hz1 := hb1.size
 have hv1 := Lib.hid (hv0.out.keep hb1)
 have hr1 := Lib.hid (hr0.out.keep' hb1)
 have hB1 := hB0.trans (hb1.mono (by omega))
 have hrow01 := (row?_below _ _ _ hb1 (by omega)).trans hrow0
 have hrow11 := (row?_below _ _ _ hb1 (by omega)).trans hrow1
 have hth1 := there_below hb1 (show W.heap.size + 1 < w0.heap.size by omega) hth
 clear hB0 hb1 hrow0 hrow1 hv0 hr0 hth
 have HN := name_c g h w1 hr1.out hl
 obtain ⟨hn, hhn⟩ : ∃ n, n = hdName h := ⟨_, rfl⟩
 obtain ⟨er, her⟩ : ∃ n, n = noErr (hdrMay h) := ⟨_, rfl⟩
 rw [← hhn, ← her] at HN
 replace hhn := Lib.hid hhn
 replace her := Lib.hid her
 go_wp2_with fail
 refine HN.mono ?_
 clear HN
 rintro r w2 ⟨rfl, hb2⟩
 have hz2 := hb2.size
 have hv2 := Lib.hid (hv1.out.keep hb2)
 have hB2 := hB1.trans (hb2.mono (by omega))
 have hrow02 := (row?_below _ _ _ hb2 (by omega)).trans hrow01
 have hrow12 := (row?_below _ _ _ hb2 (by omega)).trans hrow11
 have hth2 := there_below hb2 (show W.heap.size + 1 < w1.heap.size by omega) hth1
 clear hb2 hrow01 hrow11 hv1 hr1 hth1 hB1
 have hw2 : W.heap.size + 1 < w2.heap.size := by omega
 go_upto_region 4 with fail
 obtain ⟨w3, hw3, hrow63, -, hb3, hz3⟩ := box_row w2 (hashA zeroHash) (hashA hn) 24 32 (by omega) (by simp) (by simp)
 rw [← hw3]
 clear hw3
 have hv3 := Lib.hid (hv2.out.keep hb3)
 have hB3 := hB2.trans (hb3.mono (by omega))
 have hrow03 := (row?_below _ _ _ hb3 (by omega)).trans hrow02
 have hrow13 := (row?_below _ _ _ hb3 (by omega)).trans hrow12
 have hth3 := there_below hb3 (show W.heap.size + 1 < w2.heap.size by omega) hth2
 obtain ⟨b4, hb4⟩ : ∃ b, b = W.heap.size + 1 := ⟨_, rfl⟩
 rw [← hb4] at hrow13 hth3 ⊢
 obtain ⟨b6, hb6⟩ : ∃ b, b = w2.heap.size := ⟨_, rfl⟩
 rw [← hb6] at hrow63 ⊢
 have q1 : W.heap.size < b4 := by omega
 have q2 : b4 < b6 := by omega
 have q3 : b6 < w3.heap.size := by omega
 clear hb3 hrow02 hrow12 hth2 hv2 hB2 hb4 hb6 hz3 hz2 hz1 hz0 hw2
 have hE : (p, k) = if hdrMay h then (match chAt C hn with | some _ => ((zeroPt, 11) : Pt × Int) | none => match chAt C h.parent with | none => ((zeroPt, 12) : Pt × Int) | some i => if h.epoch.toNat ≤ epAt C i then ((zeroPt, 13) : Pt × Int) else if 4096 < C.length then ((zeroPt, 5) : Pt × Int) else (⟨h.epoch, hn⟩, 0)) else ((zeroPt, 2) : Pt × Int) := by
  rw [hpk.out, hhn.out]
  rfl
 have he := her.out
 clear hpk hhn her
 cases hm : hdrMay h
 ·rw [hm] at hE he
  obtain rfl : er = 2 := he
  simp only [Bool.false_eq_true, if_false, Prod.mk.injEq] at hE
  obtain ⟨rfl, rfl⟩ := hE
  clear hm hv3 hrow63 hrow03
  go_wp2_with (with_reducible refine ret_row2 Try.isAgg26 Try.sizeOf26 chcheck_res (x := .pointer (some ⟨b4, 0, none⟩)) (y := .int .i64 2) (b4) 0 ?rrhx (Eq.refl _) ?rrhy ?rrh ?rrhd ?rrhR; (case rrhx => simp only [Array.getD_eq_getD_getElem?, List.getElem?_toArray, List.getElem?_cons_succ, List.getElem?_cons_zero, Option.getD_some]); (case rrhy => simp only [Array.getD_eq_getD_getElem?, List.getElem?_toArray, List.getElem?_cons_succ, List.getElem?_cons_zero, Option.getD_some]); (case rrhd => exact rfl); (case rrh => go_simp); (case rrhR => ((refine ⟨?_, ?_⟩; (case refine_1 => (go_simp; done)); (case refine_2 => ((repeat' (first | (with_reducible first | exact Below.refl _ _ | assumption | refine bel_trans (by assumption) ?_ ?_ | refine bel_grown (by assumption) ?_ ?_ ?_ | refine Below.alloc ?_ ?_ _ | refine Below.drew ?_ | refine below_drewN ?_ _ | refine Below.setCell ?_ ?_ _ | refine below_put ?_ ?_ _ _ | exact Nat.le_refl _) | omega | (with_reducible first | refine Nat.le_trans ?_ (Below.size (by assumption)) | refine Nat.le_trans ?_ (World.grownBy.size (by assumption))) | (simp only [World.size_alloc, World.size_setCell, World.size_drew, size_drewN]; omega) | (simp only [World.size_alloc, World.size_setCell, World.size_drew, size_drewN, size_put]; omega) | (intro k hk; simp [Value.ownBlock] at hk; first | done | omega) | (simp [size_drewN] at *; omega)))))))))
 rw [hm] at hE he
 obtain rfl : er = 0 := he
 clear hm
 simp only [if_true] at hE
 have c0 := fun m => show (w3.drewN m).cell? ⟨cb, 0, none⟩ = _ from hv3.out.c0
 have c1 := fun m => show (w3.drewN m).cell? ⟨cb, 1, none⟩ = _ from hv3.out.c1
 have f6 := fun m => show row? (w3.drewN m) b6 0 32 = _ from hrow63
 have l1 := fun m => (show ChV (w3.drewN m) cb ab ac mb G C from hv3.out.keep (below_drewN (Below.refl _ _) m)).look hn
 cases hi : chAt C hn with
 | some i0 =>
  rw [hi] at hE l1
  simp only [Prod.mk.injEq] at hE
  obtain ⟨rfl, rfl⟩ := hE
  simp only [Option.getD_some, Option.isSome_some] at l1
  clear hi hv3
  go_upto_region 6 with fail
  go_quiet (fail)
  have hB4 := below_drewN hB3 nq
  have hrow4 : row? (w3.drewN nq) b4 0 33 = _ := hrow13
  have hth4 : there (w3.drewN nq) b4 0 33 := hth3
  clear c0 c1 f6 l1 hB3 hrow13 hth3 hrow63 hrow03
  replace q3 : b6 < (w3.drewN nq).heap.size := q3
  generalize w3.drewN nq = w4 at *
  go_wp2_with (with_reducible refine ret_row2 Try.isAgg26 Try.sizeOf26 chcheck_res (x := .pointer (some ⟨b4, 0, none⟩)) (y := .int .i64 11) (b4) 0 ?rrhx (Eq.refl _) ?rrhy ?rrh ?rrhd ?rrhR; (case rrhx => simp only [Array.getD_eq_getD_getElem?, List.getElem?_toArray, List.getElem?_cons_succ, List.getElem?_cons_zero, Option.getD_some]); (case rrhy => simp only [Array.getD_eq_getD_getElem?, List.getElem?_toArray, List.getElem?_cons_succ, List.getElem?_cons_zero, Option.getD_some]); (case rrhd => exact rfl); (case rrh => go_simp); (case rrhR => ((refine ⟨?_, ?_⟩; (case refine_1 => (go_simp; done)); (case refine_2 => ((repeat' (first | (with_reducible first | exact Below.refl _ _ | assumption | refine bel_trans (by assumption) ?_ ?_ | refine bel_grown (by assumption) ?_ ?_ ?_ | refine Below.alloc ?_ ?_ _ | refine Below.drew ?_ | refine below_drewN ?_ _ | refine Below.setCell ?_ ?_ _ | refine below_put ?_ ?_ _ _ | exact Nat.le_refl _) | omega | (with_reducible first | refine Nat.le_trans ?_ (Below.size (by assumption)) | refine Nat.le_trans ?_ (World.grownBy.size (by assumption))) | (simp only [World.size_alloc, World.size_setCell, World.size_drew, size_drewN]; omega) | (simp only [World.size_alloc, World.size_setCell, World.size_drew, size_drewN, size_put]; omega) | (intro k hk; simp [Value.ownBlock] at hk; first | done | omega) | (simp [size_drewN] at *; omega)))))))))
 | none =>
  rw [hi] at hE l1
  simp only [Option.getD_none, Option.isSome_none] at hE l1
  clear hi
  go_upto_region 6 with fail
  go_quiet (fail)
  have hv4 := Lib.hid (show ChV (w3.drewN nq) cb ab ac mb G C from hv3.out.keep (below_drewN (Below.refl _ _) nq))
  have hB4 := below_drewN hB3 nq
  have hrow4 : row? (w3.drewN nq) b4 0 33 = _ := hrow13
  have hth4 : there (w3.drewN nq) b4 0 33 := hth3
  have hrow04 : row? (w3.drewN nq) W.heap.size 0 34 = _ := hrow03
  have hrow64 : row? (w3.drewN nq) b6 0 32 = _ := hrow63
  clear c0 c1 f6 l1 hB3 hrow13 hth3 hv3 hrow03 hrow63
  replace q3 : b6 < (w3.drewN nq).heap.size := q3
  generalize w3.drewN nq = w4 at *
  have c0 := fun m => show (w4.drewN m).cell? ⟨cb, 0, none⟩ = _ from hv4.out.c0
  have c1 := fun m => show (w4.drewN m).cell? ⟨cb, 1, none⟩ = _ from hv4.out.c1
  have hp0 := row_part hrow04 0 32 (by omega)
  rw [headerA_parent, g1] at hp0
  have f0 := fun m => show row? (w4.drewN m) W.heap.size 0 32 = _ from hp0
  have l1 := fun m => (show ChV (w4.drewN m) cb ab ac mb G C from hv4.out.keep (below_drewN (Below.refl _ _) m)).look h.parent
  cases hj : chAt C h.parent with
  | none =>
   rw [hj] at hE l1
   simp only [Prod.mk.injEq] at hE
   obtain ⟨rfl, rfl⟩ := hE
   simp only [Option.getD_none, Option.isSome_none] at l1
   clear hj hv4
   go_upto_region 9 with fail
   go_quiet (fail)
   have hB5 := below_drewN hB4 nq
   have hrow5 : row? (w4.drewN nq) b4 0 33 = _ := hrow4
   have hth5 : there (w4.drewN nq) b4 0 33 := hth4
   clear c0 c1 f0 l1 hB4 hrow4 hth4 hrow04 hrow64 hp0
   replace q3 : b6 < (w4.drewN nq).heap.size := q3
   generalize w4.drewN nq = w5 at *
   go_wp2_with (with_reducible refine ret_row2 Try.isAgg26 Try.sizeOf26 chcheck_res (x := .pointer (some ⟨b4, 0, none⟩)) (y := .int .i64 12) (b4) 0 ?rrhx (Eq.refl _) ?rrhy ?rrh ?rrhd ?rrhR; (case rrhx => simp only [Array.getD_eq_getD_getElem?, List.getElem?_toArray, List.getElem?_cons_succ, List.getElem?_cons_zero, Option.getD_some]); (case rrhy => simp only [Array.getD_eq_getD_getElem?, List.getElem?_toArray, List.getElem?_cons_succ, List.getElem?_cons_zero, Option.getD_some]); (case rrhd => exact rfl); (case rrh => go_simp); (case rrhR => ((refine ⟨?_, ?_⟩; (case refine_1 => (go_simp; done)); (case refine_2 => ((repeat' (first | (with_reducible first | exact Below.refl _ _ | assumption | refine bel_trans (by assumption) ?_ ?_ | refine bel_grown (by assumption) ?_ ?_ ?_ | refine Below.alloc ?_ ?_ _ | refine Below.drew ?_ | refine below_drewN ?_ _ | refine Below.setCell ?_ ?_ _ | refine below_put ?_ ?_ _ _ | exact Nat.le_refl _) | omega | (with_reducible first | refine Nat.le_trans ?_ (Below.size (by assumption)) | refine Nat.le_trans ?_ (World.grownBy.size (by assumption))) | (simp only [World.size_alloc, World.size_setCell, World.size_drew, size_drewN]; omega) | (simp only [World.size_alloc, World.size_setCell, World.size_drew, size_drewN, size_put]; omega) | (intro k hk; simp [Value.ownBlock] at hk; first | done | omega) | (simp [size_drewN] at *; omega)))))))))
  | some i =>
   rw [hj] at hE l1
   simp only [Option.getD_some, Option.isSome_some] at hE l1
   have hil := chAt_lt hj
   obtain ⟨b, hb⟩ : ∃ b, C[i]? = some b := ⟨_, List.getElem?_eq_getElem hil⟩
   rw [epAt_of hb] at hE
   clear hj
   go_upto_region 9 with fail
   go_quiet (fail)
   have hv5 := Lib.hid (show ChV (w4.drewN nq) cb ab ac mb G C from hv4.out.keep (below_drewN (Below.refl _ _) nq))
   have hB5 := below_drewN hB4 nq
   have hrow5 : row? (w4.drewN nq) b4 0 33 = _ := hrow4
   have hth5 : there (w4.drewN nq) b4 0 33 := hth4
   have hrow05 : row? (w4.drewN nq) W.heap.size 0 34 = _ := hrow04
   have hrow65 : row? (w4.drewN nq) b6 0 32 = _ := hrow64
   clear c0 c1 f0 l1 hB4 hrow4 hth4 hrow04 hrow64 hp0 hv4
   replace q3 : b6 < (w4.drewN nq).heap.size := q3
   generalize w4.drewN nq = w5 at *
   obtain ⟨x, hx⟩ := hv5.out.box hb
   obtain ⟨x0, -, -, -, -, -⟩ := hv5.out.cells hx hb
   have ca := hv5.out.arr i x hx
   unfold ptrV at ca
   have h32 := cell_of_row? hrow05 32 (by omega)
   rw [headerA_epoch, g2] at h32
   have c0 := fun m => show (w5.drewN m).cell? ⟨cb, 0, none⟩ = _ from hv5.out.c0
   have f1 := fun m => show (w5.drewN m).cell? ⟨ab, i, none⟩ = _ from ca
   have f2 := fun m => show (w5.drewN m).cell? ⟨x.b, 0, none⟩ = _ from x0
   have f3 := fun m => show (w5.drewN m).cell? ⟨W.heap.size, 0 + 32, none⟩ = _ from h32
   have i1 : (i : Int) < (C.length : Int) := by omega
   clear hx hb
   by_cases hle : (h.epoch.toNat : Int) ≤ (b.p.epoch.toNat : Int)
   ·rw [if_pos (by omega)] at hE
    simp only [Prod.mk.injEq] at hE
    obtain ⟨rfl, rfl⟩ := hE
    clear hv5
    go_upto_region 12 with fail
    go_quiet (fail)
    have hB6 := below_drewN hB5 nq
    have hrow6 : row? (w5.drewN nq) b4 0 33 = _ := hrow5
    have hth6 : there (w5.drewN nq) b4 0 33 := hth5
    clear c0 f1 f2 f3 h32 ca x0 hB5 hrow5 hth5 hrow05 hrow65
    replace q3 : b6 < (w5.drewN nq).heap.size := q3
    generalize w5.drewN nq = w6 at *
    go_wp2_with (with_reducible refine ret_row2 Try.isAgg26 Try.sizeOf26 chcheck_res (x := .pointer (some ⟨b4, 0, none⟩)) (y := .int .i64 13) (b4) 0 ?rrhx (Eq.refl _) ?rrhy ?rrh ?rrhd ?rrhR; (case rrhx => simp only [Array.getD_eq_getD_getElem?, List.getElem?_toArray, List.getElem?_cons_succ, List.getElem?_cons_zero, Option.getD_some]); (case rrhy => simp only [Array.getD_eq_getD_getElem?, List.getElem?_toArray, List.getElem?_cons_succ, List.getElem?_cons_zero, Option.getD_some]); (case rrhd => exact rfl); (case rrh => go_simp); (case rrhR => ((refine ⟨?_, ?_⟩; (case refine_1 => (go_simp; done)); (case refine_2 => ((repeat' (first | (with_reducible first | exact Below.refl _ _ | assumption | refine bel_trans (by assumption) ?_ ?_ | refine bel_grown (by assumption) ?_ ?_ ?_ | refine Below.alloc ?_ ?_ _ | refine Below.drew ?_ | refine below_drewN ?_ _ | refine Below.setCell ?_ ?_ _ | refine below_put ?_ ?_ _ _ | exact Nat.le_refl _) | omega | (with_reducible first | refine Nat.le_trans ?_ (Below.size (by assumption)) | refine Nat.le_trans ?_ (World.grownBy.size (by assumption))) | (simp only [World.size_alloc, World.size_setCell, World.size_drew, size_drewN]; omega) | (simp only [World.size_alloc, World.size_setCell, World.size_drew, size_drewN, size_put]; omega) | (intro k hk; simp [Value.ownBlock] at hk; first | done | omega) | (simp [size_drewN] at *; omega)))))))))
   ·rw [if_neg (by omega)] at hE
    go_upto_region 12 with fail
    go_quiet (fail)
    have hB6 := below_drewN hB5 nq
    have hrow6 : row? (w5.drewN nq) b4 0 33 = _ := hrow5
    have hth6 : there (w5.drewN nq) b4 0 33 := hth5
    have hrow06 : row? (w5.drewN nq) W.heap.size 0 34 = _ := hrow05
    have hrow66 : row? (w5.drewN nq) b6 0 32 = _ := hrow65
    have c06 : (w5.drewN nq).cell? ⟨cb, 0, none⟩ = _ := hv5.out.c0
    have h36 : (w5.drewN nq).cell? ⟨W.heap.size, 0 + 32, none⟩ = _ := h32
    clear c0 f1 f2 f3 h32 ca x0 hB5 hrow5 hth5 hrow05 hrow65 hv5
    replace q3 : b6 < (w5.drewN nq).heap.size := q3
    generalize w5.drewN nq = w6 at *
    by_cases hfl : (4096 : Int) < (C.length : Int)
    ·rw [if_pos (by omega)] at hE
     simp only [Prod.mk.injEq] at hE
     obtain ⟨rfl, rfl⟩ := hE
     go_wp2_with (with_reducible refine ret_row2 Try.isAgg26 Try.sizeOf26 chcheck_res (x := .pointer (some ⟨b4, 0, none⟩)) (y := .int .i64 5) (b4) 0 ?rrhx (Eq.refl _) ?rrhy ?rrh ?rrhd ?rrhR; (case rrhx => simp only [Array.getD_eq_getD_getElem?, List.getElem?_toArray, List.getElem?_cons_succ, List.getElem?_cons_zero, Option.getD_some]); (case rrhy => simp only [Array.getD_eq_getD_getElem?, List.getElem?_toArray, List.getElem?_cons_succ, List.getElem?_cons_zero, Option.getD_some]); (case rrhd => exact rfl); (case rrh => go_simp); (case rrhR => ((refine ⟨?_, ?_⟩; (case refine_1 => (go_simp; done)); (case refine_2 => ((repeat' (first | (with_reducible first | exact Below.refl _ _ | assumption | refine bel_trans (by assumption) ?_ ?_ | refine bel_grown (by assumption) ?_ ?_ ?_ | refine Below.alloc ?_ ?_ _ | refine Below.drew ?_ | refine below_drewN ?_ _ | refine Below.setCell ?_ ?_ _ | refine below_put ?_ ?_ _ _ | exact Nat.le_refl _) | omega | (with_reducible first | refine Nat.le_trans ?_ (Below.size (by assumption)) | refine Nat.le_trans ?_ (World.grownBy.size (by assumption))) | (simp only [World.size_alloc, World.size_setCell, World.size_drew, size_drewN]; omega) | (simp only [World.size_alloc, World.size_setCell, World.size_drew, size_drewN, size_put]; omega) | (intro k hk; simp [Value.ownBlock] at hk; first | done | omega) | (simp [size_drewN] at *; omega)))))))))
    ·rw [if_neg (by omega)] at hE
     simp only [Prod.mk.injEq] at hE
     obtain ⟨rfl, rfl⟩ := hE
     go_wp2_with (with_reducible refine ret_row2 Try.isAgg26 Try.sizeOf26 chcheck_res (x := .pointer (some ⟨b4, 0, none⟩)) (y := .int .i64 0) (b4) 0 ?rrhx (Eq.refl _) ?rrhy ?rrh ?rrhd ?rrhR; (case rrhx => simp only [Array.getD_eq_getD_getElem?, List.getElem?_toArray, List.getElem?_cons_succ, List.getElem?_cons_zero, Option.getD_some]); (case rrhy => simp only [Array.getD_eq_getD_getElem?, List.getElem?_toArray, List.getElem?_cons_succ, List.getElem?_cons_zero, Option.getD_some]); (case rrhd => exact rfl); (case rrh => go_simp); (case rrhR => ((refine ⟨?_, ?_⟩; (case refine_1 => (go_simp; done)); (case refine_2 => ((repeat' (first | (with_reducible first | exact Below.refl _ _ | assumption | refine bel_trans (by assumption) ?_ ?_ | refine bel_grown (by assumption) ?_ ?_ ?_ | refine Below.alloc ?_ ?_ _ | refine Below.drew ?_ | refine below_drewN ?_ _ | refine Below.setCell ?_ ?_ _ | refine below_put ?_ ?_ _ _ | exact Nat.le_refl _) | omega | (with_reducible first | refine Nat.le_trans ?_ (Below.size (by assumption)) | refine Nat.le_trans ?_ (World.grownBy.size (by assumption))) | (simp only [World.size_alloc, World.size_setCell, World.size_drew, size_drewN]; omega) | (simp only [World.size_alloc, World.size_setCell, World.size_drew, size_drewN, size_put]; omega) | (intro k hk; simp [Value.ownBlock] at hk; first | done | omega) | (simp [size_drewN] at *; omega)))))))))
end Go.Proofs.Ythdjhbiigmcecaa

/- slices.Clone of operations, votes and bytes, wherever they lie. -/
namespace Go.Proofs.Ythdjhbiigmcecaa
open Go.RowKit Go.Shelf Go.Lib

def clO_ren : Go.Shelf.Ren := ⟨fun | 41 => 174 | n => n, fun | 22 => 47 | 23 => 97 | 4 => 4 | n => n, fun | n => n⟩
theorem clO : Go.Proofs.SlLaysE0.n41 Try.prog clO_ren := {
 mixed := by kernel_rfl
 f41 := ⟨Try.f174.name, by decide, Try.func174.trans (congrArg some (by kernel_rfl))⟩
 t4 := Try.underlying4
 a4 := Try.isAgg4
 z4 := Try.sizeOf4
 v4 := Try.zeroValue4
 t22 := Try.underlying47
 a22 := Try.isAgg47
 z22 := Try.sizeOf47
 v22 := Try.zeroValue47 }
def clV_ren : Go.Shelf.Ren := ⟨fun | 41 => 175 | n => n, fun | 22 => 29 | 23 => 99 | 4 => 4 | n => n, fun | n => n⟩
theorem clV : Go.Proofs.SlLaysE0.n41 Try.prog clV_ren := {
 mixed := by kernel_rfl
 f41 := ⟨Try.f175.name, by decide, Try.func175.trans (congrArg some (by kernel_rfl))⟩
 t4 := Try.underlying4
 a4 := Try.isAgg4
 z4 := Try.sizeOf4
 v4 := Try.zeroValue4
 t22 := Try.underlying29
 a22 := Try.isAgg29
 z22 := Try.sizeOf29
 v22 := Try.zeroValue29 }
def clB_ren : Go.Shelf.Ren := ⟨fun | 41 => 132 | n => n, fun | 22 => 32 | 23 => 5 | 4 => 4 | n => n, fun | n => n⟩
theorem clB : Go.Proofs.SlLaysE0.n41 Try.prog clB_ren := {
 mixed := by kernel_rfl
 f41 := ⟨Try.f132.name, by decide, Try.func132.trans (congrArg some (by kernel_rfl))⟩
 t4 := Try.underlying4
 a4 := Try.isAgg4
 z4 := Try.sizeOf4
 v4 := Try.zeroValue4
 t22 := Try.underlying32
 a22 := Try.isAgg32
 z22 := Try.sizeOf32
 v22 := Try.zeroValue32 }

set_option maxHeartbeats 2000000 in
set_option maxRecDepth 100000 in
/-- slices.Clone at any element type, of a slice at any address -/
theorem clone_at {P : Program} {ρ : Ren} (L : SlLaysE0.n41 P ρ) (i0 : TypeInfo) (z : Value) (size bytes : Nat) (hi : P.info? (ρ.t 23) = some i0) (hz0 : i0.zero = some z) (hz1 : i0.size = size) (hz2 : i0.bytes = bytes) (hzs : z.cells.size = size) (hsz : 0 < size)
  (a : Addr) (n c : Nat) (news : List Value) (w : World) (hl : news.length = n * size) (hn : n ≤ maxLen) (hbig : n * bytes ≤ 140737488355328)
  (hc : ∀ j u, news[j]? = some u → w.cell? (a.add j) = some u) (h1 : ∀ u ∈ news, u.oneCell' = true) :
  Calls P (ρ.f 41) #[.slice (some a) n c] w fun e w' => ∃ v', e = .returned v' ∧ w'.ownsRow w.heap.size (ρ.t 23) size v' n news ∧ Below w.heap.size w w' := by
 have mixed := L.mixed; have t4 := L.t4; have a4 := L.a4; have z4 := L.z4; have v4 := L.v4; have t22 := L.t22; have a22 := L.a22; have z22 := L.z22; have v22 := L.v22
 have q22 : ∀ (w : World) (a : Option Addr) (n c n' c' : Nat), (binOp .eql (ρ.t 22) (.slice a n c) (.slice none n' c')).run P w = .ok (.bool a.isNone) w := fun w a n c n' c' => Lib.run_eql_slice_nil w _ _ a n c n' c' L.t22
 have u22 : ∀ w, Sem.run P (underlying (ρ.t 22)) w = .ok (TypeDesc.slice (ρ.t 23)) w := run_underlying t22
 have z23 : ∀ w, (Go.sizeOf (ρ.t 23)).run P w = .ok size w := fun w => by simp [Go.sizeOf, typeInfo, hi, hz1]
 have A : Aside (∀ j u, news[j]? = some u → w.cell? (a.add j) = some u) := hc
 clear hc
 obtain ⟨_, _, FG⟩ := L.f41
 go_enter FG, SlBodyN.n41_ntmps ρ
 go_wp2_with (at_builtin; refine wpList_append_own _ rfl _ _ (ρ.t 22) rfl w.heap.size (ρ.t 23) i0 z size bytes t22 hi hz0 hz1 hz2 hzs hsz _ _ _ rfl (World.ownsRow_made w #[] 0 (Nat.le_refl _) (Nat.zero_le _) (by simp)) a n c news rfl ?qc1 ?qc2 ?qc3 ?qc4 ?qc5 ?qc6 ?_)
 case qc1 => exact hl
 case qc2 =>
  intro j u hj
  exact Lib.cell?_alloc_some _ (A.out j u hj)
 case qc3 => exact h1
 case qc4 => rw [Nat.zero_add]; exact hn
 case qc5 => rw [Nat.zero_add]; exact hbig
 case qc6 => simp
 intro v' w1 hown hgrow hnil
 go_wp2
 go_ret
 refine ⟨v', rfl, by simpa using hown, ?_⟩
 exact ((Below.refl _ w).alloc (Nat.le_refl _) _).grown hgrow (by simp) (by intro k hk; simp [Value.ownBlock] at hk; omega)
/-- of rows of structs -/
theorem clone_rows {α : Type} {A : α → Array Value} {k : Nat} (hk : ∀ x, (A x).size = k) (h1 : ∀ x, ∀ u ∈ (A x).toList, u.oneCell' = true) {ρ : Ren} (L : SlLaysE0.n41 Try.prog ρ) (i0 : TypeInfo) (z : Value) (bytes : Nat) (hi : Try.prog.info? (ρ.t 23) = some i0) (hz0 : i0.zero = some z) (hz1 : i0.size = k) (hz2 : i0.bytes = bytes) (hzs : z.cells.size = k) (hk0 : 0 < k) (hby : bytes ≤ 1000)
  {w : World} {s : Sl} {l : List α} (h : SlR k (fun cs x => cs = A x) w s l) (hl : l.length ≤ 1000000) :
  Calls Try.prog (ρ.f 41) #[s.v] w fun e w' => ∃ s' : Sl, e = .returned s'.v ∧ OwnC w' w.heap.size k s'.v l.length (flatC A l) ∧ Below w.heap.size w w' := by
 obtain ⟨sa, sn, sc⟩ := s
 have hn : sn = l.length := h.1
 subst hn
 cases sa with
 | none =>
  have hl0 : l = [] := by
   rcases Nat.eq_zero_or_pos l.length with h0 | h0
   ·exact List.eq_nil_of_length_eq_zero h0
   ·obtain ⟨b, off, e, _⟩ := h.at h0
    have := congrArg Sl.a e
    cases this
  subst hl0
  refine (AnyE.slices_Clone_nil L 0 sc w).mono ?_
  rintro e w' ⟨rfl, rfl⟩
  exact ⟨⟨none, 0, 0⟩, rfl, OwnC.nil _ _ _, Below.refl _ _⟩
 | some a =>
  have hm := Nat.mul_le_mul hl hby
  refine (clone_at L i0 z k bytes hi hz0 hz1 hz2 hzs hk0 a l.length sc (flatC A l) w (flatC_length A hk l) (Nat.le_trans hl (by decide)) (by omega) (fun j u hj => ?_) (flatC_onecell A h1 l)).mono ?_
  ·have hlt := lt_of_get hj
   rw [flatC_length A hk] at hlt
   have h0 : 0 < l.length := by
    rcases Nat.eq_zero_or_pos l.length with h0 | h0
    ·rw [h0] at hlt; omega
    ·exact h0
   obtain ⟨b, off, e, hb, hr⟩ := h.at h0
   have ea := congrArg Sl.a e
   simp only [Option.some.injEq] at ea
   subst ea
   have hq : j / k < l.length := Nat.div_lt_of_lt_mul (by rw [Nat.mul_comm]; exact hlt)
   have hm := Nat.mod_lt j hk0
   have hjj : j = j / k * k + j % k := by
    have := Nat.div_add_mod j k
    rw [Nat.mul_comm] at this
    exact this.symm
   obtain ⟨cs, hrow, rfl⟩ := hr _ hq
   rw [hjj, flatC_get A hk l _ _ hq hm] at hj
   rw [Addr.add_lit, hjj, ← Nat.add_assoc, cell_of_row? hrow _ hm]
   exact hj
  ·rintro e w' ⟨v', rfl, ho, hb⟩
   have ho' := OwnC.of_row ho
   obtain ⟨s', rfl⟩ := ho'.slice
   exact ⟨s', rfl, ho', hb⟩
end Go.Proofs.Ythdjhbiigmcecaa
