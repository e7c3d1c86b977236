/- Contracts: ref09.MayOp, MayHeader, Much. -/
import Derived.Test.YtbpbnnonialelaaHdrBytes
import Derived.Test.YtbpbnnonialelaaRefVote
import Derived.Deep.CutRange
namespace Go.Proofs.Ytbpbnnonialelaa
open Go.RowKit

/-- a row's part -/
theorem row?_sub {w : World} {b off n : Nat} {l : Array Value} (h : row? w b off n = some l) (o k : Nat) (hk : o + k ≤ n) : row? w b (off + o) k = some (l.extract o (o + k)) := by
  obtain ⟨cs, t, fr, hg, hle, rfl⟩ := row?_some h
  unfold row?
  rw [hg]
  simp only [show off + o + k ≤ cs.size by omega, if_true, Option.some.injEq]
  rw [Array.extract_extract]
  congr 1
  omega
theorem stake_zero (a : UInt64) : ((a.toNat : Int) == 0) = decide (a = 0) := by
  have := stake_eq a 0
  simpa using this
theorem nil_len {α : Type} (l : List α) : ((l.length : Int) == 0) = decide (l = []) := by
  rw [Bool.eq_iff_iff]
  simp
/-- what the document says of operations -/
theorem opMay_doc (o : Op) : opMay o = (if o.kind = 1 then decide (o.validator = 0) && decide (o.evidence = []) && decide (1 ≤ o.stake.toNat) && decide (o.stake.toNat ≤ 4294967296)
    else if o.kind = 2 then (decide (o.key = zeroHash) && decide (o.stake = 0)) && decide (o.evidence = []) && mayMem o.validator
    else if o.kind = 3 then (decide (o.key = zeroHash) && decide (o.stake = 0)) && mayMem o.validator && decide (o.evidence.length = 2) && o.evidence.all voteMay else false) := by
  obtain ⟨k, key, st, v, ev⟩ := o
  unfold opMay bareO
  simp only
  by_cases e1 : k = 1
  · subst e1
    simp only [if_pos, Op.mk.injEq, true_and]
    rw [Bool.eq_iff_iff]
    simp [and_assoc]
  · simp only [if_neg e1]
    by_cases e2 : k = 2
    · subst e2
      simp only [show ¬ (2 : Int) = 3 by decide, if_false, if_true, Op.mk.injEq, true_and]
      rw [Bool.eq_iff_iff]
      simp [and_assoc]
    · simp only [if_neg e2]
      by_cases e3 : k = 3
      · subst e3
        simp only [if_true, Op.mk.injEq, true_and]
        rw [Bool.eq_iff_iff]
        simp [and_assoc]
      · simp only [if_neg e3, Bool.and_false]
theorem and_of_true {a b : Bool} (h : a = true) : (a && b) = b := by rw [h]; rfl
theorem and_of_false {a b : Bool} (h : a = false) : (a && b) = false := by rw [h]; rfl

set_option maxRecDepth 100000 in
set_option maxHeartbeats 1600000 in
theorem fmayOp_c (g : GOp) (o : Op) (w : World) (h : OpR w g o) :
    Calls Try.prog 27 #[.agg (opA g)] w fun e w' => e = .returned (.bool (opMay o)) ∧ Below w.heap.size w w' := by
  have hz := zero_hash
  have hq := eq_hash_guard
  have hM := opMay_doc o
  have n1 := h.2.2.2.2.1
  rw [← h.1, ← h.2.1, ← h.2.2.1, ← h.2.2.2.1] at hM
  have Hv := Lib.hid h.2.2.2.2
  have hrow : row? (w.alloc (.cells (opA g) 54)) w.heap.size 0 36 = some (opA g) := by rw [row?_new]; simp
  have hB : Below w.heap.size w (w.alloc (.cells (opA g) 54)) := bel_a _ _
  have hsz : w.heap.size < (w.alloc (.cells (opA g) 54)).heap.size := by simp
  have HM := Lib.hid hM
  clear hM h
  obtain ⟨gk, gkey, gst, gv, ⟨ea, en, ec⟩⟩ := g
  simp only at n1
  subst n1
  go_enter Try.func27, Try.ntmps27
  go_upto_region 1 with fail
  generalize hw1 : w.alloc (.cells (opA ⟨gk, gkey, gst, gv, ⟨ea, o.evidence.length, ec⟩⟩) 54) = w1 at *
  clear hw1
  obtain ⟨c0, c1, c2, c3⟩ := opA_cells hrow
  have ck := row?_sub hrow 1 32 (by omega)
  simp only [Nat.zero_add, Nat.reduceAdd, opA_key] at ck
  have hsz0 := stake_zero gst
  go_cut [3] from 4 (fun x W => x = .bool (decide (gkey = zeroHash) && decide (gst = 0)) ∧ W = w1)
  case first =>
    by_cases hk : gkey = zeroHash
    · have hd := dec_true hk
      clear hk
      go_wp2_with fail
      go_meet
      case rel => exact ⟨by rw [hd, Bool.true_and], rfl⟩
    · have hd := dec_false hk
      clear hk
      go_wp2_with fail
      go_meet
      case rel => exact ⟨by rw [hd, Bool.false_and], rfl⟩
  case rest =>
    obtain ⟨rfl, rfl⟩ := hcut
    simp only at HM
    generalize (decide (gkey = zeroHash) && decide (gst = 0)) = no at *
    clear hsz0
    have nl := nil_len o.evidence
    by_cases e1 : gk = 1
    · have b1 : (gk == 1) = true := by simp [e1]
      have Hm := Lib.hid (HM.out.trans (if_pos e1))
      clear e1 HM
      go_wp2_with fail
      all_goals go_ret
      all_goals exact ⟨ret_bool (by rw [Hm.out, Bool.eq_iff_iff]; simp_all; try omega), hB⟩
    have Hm := Lib.hid (HM.out.trans (if_neg e1))
    have b1 : (gk == 1) = false := by simp [e1]
    clear e1 HM
    by_cases e2 : gk = 2
    · have b2 : (gk == 2) = true := by simp [e2]
      have Hm := Lib.hid (Hm.out.trans (if_pos e2))
      clear e2
      cases no
      all_goals go_wp2_with fail
      all_goals go_ret
      all_goals exact ⟨ret_bool (by rw [Hm.out, Bool.eq_iff_iff]; simp_all [mayMem]; try omega), hB⟩
    have Hm := Lib.hid (Hm.out.trans (if_neg e2))
    have b2 : (gk == 2) = false := by simp [e2]
    clear e2
    by_cases e3 : gk = 3
    · have b3 : (gk == 3) = true := by simp [e3]
      have Hm := Lib.hid (Hm.out.trans (if_pos e3))
      clear e3
      by_cases m2 : o.evidence.length = 2
      · obtain ⟨a, b, hab⟩ : ∃ a b, o.evidence = [a, b] := by
          match he : o.evidence, m2 with
          | [a, b], _ => exact ⟨a, b, rfl⟩
        have hv := VotesR.keep' Hv.out hB
        rw [hab] at hv
        obtain ⟨bl, off, ga, gb, s1, s2, s3, hlt, r0, v0, r1, v1⟩ := votes_two hv
        have Hm := Lib.hid (show opMay o = (no && mayMem gv && (mayV ga && mayV gb)) by rw [Hm.out, hab, v0.may, v1.may]; simp [Bool.and_assoc])
        simp only at s1 s2 s3
        subst s1
        rw [m2] at c3
        dsimp only [Sl.v] at c3
        clear m2 hab hv v0 v1 s2 nl Hv
        cases no
        all_goals go_wp2_with (first
          | (go_at_call 32; (with_reducible refine (fmayVote_c ga _).mono ?_); rintro e w2 ⟨rfl, hb2⟩; obtain ⟨k1, k2, k3⟩ := kept hb2; have c3 := (k1 _ _ hsz).trans c3; have r1 := (k3 _ _ _ hlt).trans r1)
          | (go_at_call 32; (with_reducible refine (fmayVote_c gb _).mono ?_); rintro e w3 ⟨rfl, hb3⟩))
        all_goals go_ret
        all_goals exact ⟨ret_bool (by rw [Hm.out, Bool.eq_iff_iff]; simp_all [mayMem]; try omega), by (repeat' (first | (with_reducible exact Below.refl _ _) | (with_reducible assumption) | (with_reducible refine bel_trans (by assumption) ?_ ?_) | (with_reducible refine bel_grown (by assumption) ?_ ?_ ?_) | (with_reducible refine Below.alloc ?_ ?_ _) | (with_reducible refine Below.drew ?_) | (with_reducible refine below_drewN ?_ _) | (with_reducible refine Below.setCell ?_ ?_ _) | (with_reducible refine below_put ?_ ?_ _ _) | (with_reducible exact Nat.le_refl _) | omega | (with_reducible refine Nat.le_trans ?_ (Below.size (by assumption))) | (with_reducible refine Nat.le_trans ?_ (World.grownBy.size (by assumption))) | (simp only [World.size_alloc, World.size_setCell, World.size_drew, size_drewN]; omega) | (simp only [World.size_alloc, World.size_setCell, World.size_drew, size_drewN, size_put]; omega) | (intro k hk; simp [Value.ownBlock] at hk; done) | (intro k hk; simp [Value.ownBlock] at hk; omega) | (simp [size_drewN] at *; omega)))⟩
      · have b4 : ((o.evidence.length : Int) == 2) = false := by simp; omega
        have Hf := Lib.hid (show opMay o = false by rw [Hm.out]; simp [m2])
        clear m2 nl Hm
        cases no
        all_goals go_wp2_with fail
        all_goals go_ret
        all_goals exact ⟨ret_bool Hf.out.symm, hB⟩
    · have b3 : (gk == 3) = false := by simp [e3]
      have Hm := Lib.hid (Hm.out.trans (if_neg e3))
      clear e3
      go_wp2_with fail
      go_ret
      exact ⟨ret_bool Hm.out.symm, hB⟩

theorem hdrGood_len {h : Hdr} (hg : hdrGood h = true) : h.ops.length ≤ 16 := by
  unfold hdrGood at hg
  rw [Bool.and_eq_true] at hg
  exact of_decide_eq_true hg.2
set_option maxRecDepth 100000 in
set_option maxHeartbeats 1600000 in
theorem fmayHeader_c (g : GHeader) (h : Hdr) (w : World) (hr : HdrR w g h) :
    Calls Try.prog 30 #[.agg (headerA g)] w fun e w' => e = .returned (.bool (hdrMay h)) ∧ Below w.heap.size w w' := by
  have n1 := hr.2.2.1
  have hE := hr.2.1
  obtain ⟨gp, ge, ⟨oa, on, oc⟩⟩ := g
  simp only at n1 hE
  subst n1
  have HG : hdrGood h = (decide (1 ≤ ge.toNat ∧ ge.toNat ≤ 4611686018427387904) && decide (h.ops.length ≤ 16)) := by rw [hdrGood, hE]
  have Hr := Lib.hid hr.2.2
  have HM := Lib.hid (hdrMay_eq h)
  clear hE hr
  have hB0 : Below w.heap.size w (w.alloc (.cells (headerA ⟨gp, ge, ⟨oa, h.ops.length, oc⟩⟩) 51)) := bel_a _ _
  have hrow : row? (w.alloc (.cells (headerA ⟨gp, ge, ⟨oa, h.ops.length, oc⟩⟩) 51)) w.heap.size 0 34 = some (headerA ⟨gp, ge, ⟨oa, h.ops.length, oc⟩⟩) := by rw [row?_new]; simp
  obtain ⟨c32, c33⟩ := headerA_cells hrow
  have hz0 : w.heap.size < (w.alloc (.cells (headerA ⟨gp, ge, ⟨oa, h.ops.length, oc⟩⟩) 51)).heap.size := by simp
  replace HG := Lib.hid HG
  clear hrow
  go_enter Try.func30, Try.ntmps30
  go_upto_region 1 with fail
  generalize w.alloc (.cells (headerA ⟨gp, ge, ⟨oa, h.ops.length, oc⟩⟩) 51) = w1 at *
  go_cut [17] from 4 (fun x W => x = .bool (!hdrGood h) ∧ W = w1)
  case first =>
    go_wp2_with fail
    all_goals go_meet
    all_goals exact ⟨congrArg Value.bool (by rw [HG.out, Bool.eq_iff_iff]; simp; omega), rfl⟩
  case rest =>
    obtain ⟨rfl, rfl⟩ := hcut
    have HM' := fun hg : hdrGood h = true => (show hdrMay h = h.ops.all opMay by rw [HM.out, hg, Bool.true_and])
    have HM0 := fun hg : hdrGood h = false => (show hdrMay h = false by rw [HM.out, hg, Bool.false_and])
    have HL := fun hg => hdrGood_len (h := h) hg
    generalize hdrGood h = hg at *
    clear HG HM
    cases hg
    · have Hf := Lib.hid (HM0 rfl)
      clear HM' HM0
      go_wp2_with fail
      go_ret
      exact ⟨ret_bool Hf.out.symm, hB0⟩
    replace HM' := Lib.hid (HM' rfl)
    have hl16 := HL rfl
    clear HL
    clear HM0
    go_wp2_with fail
    go_loopw [3] (fun i w' => ∃ k : Nat, k ≤ h.ops.length ∧ Hid ((h.ops.take k).all opMay = true) ∧ i = .int .i64 k ∧ Below wc.heap.size wc w') (fun i _ => h.ops.length - (intOf i).toNat)
    case atStart => exact ⟨0, Nat.zero_le _, Lib.hid (by simp), rfl, Below.refl _ _⟩
    case round =>
      obtain ⟨k, hk, hb, rfl, hB⟩ := hrel
      have hBB : Below w.heap.size w wr := hB0.trans (hB.mono (Nat.le_of_lt hz0))
      have c33 : wr.cell? ⟨w.heap.size, 33, none⟩ = some (.slice oa h.ops.length oc) := (hB.cell (p := ⟨w.heap.size, 33, none⟩) hz0).trans c33
      have hzz := hB.size
      by_cases hkx : k < h.ops.length
      · obtain ⟨bl, off, e, hbs, hc⟩ := (OpsR.keep' Hr.out hBB).at (by omega)
        have e1 := congrArg Sl.a e
        simp only at e1
        subst e1
        clear e
        obtain ⟨cs, hcx, g1, rfl, hv1⟩ := hc k hkx
        clear hc
        have hat := all_take_succ opMay h.ops k hkx
        have haf := all_false opMay h.ops k hkx
        generalize h.ops[k] = ok at *
        have Hat := Lib.hid hat
        have Haf := Lib.hid haf
        have Hv1 := Lib.hid hv1
        clear hat haf hv1
        have i0 : (0 : Int) ≤ (k : Int) := by omega
        have i1 : (k : Int) < (h.ops.length : Int) := by omega
        go_wp2_with fail
        (with_reducible refine (fmayOp_c g1 ok _ Hv1.out).mono ?_)
        rintro e w2 ⟨rfl, hb1⟩
        have hB1 : Below wc.heap.size wc w2 := hB.trans (hb1.mono hzz)
        cases hm : opMay ok
        · have Hf := Lib.hid (show hdrMay h = false by rw [HM'.out, Haf.out hm])
          clear hm
          go_wp2_with fail
          go_ret
          exact ⟨ret_bool Hf.out.symm, hB0.trans (hB1.mono (Nat.le_of_lt hz0))⟩
        · have Hm := Lib.hid hm
          clear hm
          go_wp2_with fail
          go_roundw
          case rel => exact ⟨k + 1, by omega, Lib.hid (by rw [Hat.out, Hm.out, Bool.and_true]; exact hb.out), by go_num, hB1⟩
          case measure => simp [intOf]; omega
      · have Hf := Lib.hid (show hdrMay h = true by
          have := hb.out
          rw [List.take_of_length_le (by omega)] at this
          rw [HM'.out, this])
        go_wp2_with fail
        go_ret
        exact ⟨ret_bool Hf.out.symm, hBB⟩
end Go.Proofs.Ytbpbnnonialelaa
