/- Contract: codec.MayHeader. -/
import Derived.Test.YtbpbnnonialelaaOpMay
import Derived.WalkMore
namespace Go.Proofs.Ytbpbnnonialelaa
open Go.RowKit

/-- how long a header's lists are -/
def HdrFits (h : Hdr) : Prop := h.ops.length ≤ 9223372036854775807 ∧ ∀ o ∈ h.ops, OpFits o
def hdrGood (h : Hdr) : Bool := decide (1 ≤ h.epoch.toNat ∧ h.epoch.toNat ≤ 4611686018427387904) && decide (h.ops.length ≤ 16)
theorem hdrMay_eq (h : Hdr) : hdrMay h = (hdrGood h && h.ops.all opMay) := rfl
theorem all_take_succ {α : Type} (p : α → Bool) (l : List α) (k : Nat) (h : k < l.length) : (l.take (k + 1)).all p = ((l.take k).all p && p l[k]) := by
  rw [List.take_succ_eq_append_getElem h, List.all_append]
  simp
theorem all_false {α : Type} (p : α → Bool) (l : List α) (k : Nat) (h : k < l.length) (hp : p l[k] = false) : l.all p = false := by
  rw [List.all_eq_false]
  exact ⟨l[k], List.getElem_mem _, by simp [hp]⟩

set_option maxRecDepth 100000 in
set_option maxHeartbeats 1600000 in
theorem mayHeader_c (g : GHeader) (h : Hdr) (w : World) (hr : HdrR w g h) (hl : HdrFits h) :
    Calls Try.prog 69 #[.agg (headerA g)] w fun e w' => e = .returned (.bool (hdrMay h)) ∧ Below w.heap.size w w' := by
  have n1 := hr.2.2.1
  have hE := hr.2.1
  obtain ⟨gp, ge, ⟨oa, on, oc⟩⟩ := g
  simp only at n1 hE
  subst n1
  have HG : hdrGood h = (decide (1 ≤ ge.toNat ∧ ge.toNat ≤ 4611686018427387904) && decide (h.ops.length ≤ 16)) := by rw [hdrGood, hE]
  have HG := Lib.hid HG
  have Hr := Lib.hid hr.2.2
  have hk0 := hl.1
  have Hl := Lib.hid hl.2
  have HM := Lib.hid (hdrMay_eq h)
  clear hE hr hl
  go_enter Try.func69, Try.ntmps69
  go_wp2_with fail
  go_step3
  go_wp2_with fail
  all_goals go_step3
  all_goals go_wp2_with fail
  all_goals
    go_loopw [3, 23] (fun u i w' => ∃ (k : Nat) (b : Bool), k ≤ h.ops.length ∧ Hid (b = (hdrGood h && (h.ops.take k).all opMay)) ∧ u = .bool b ∧ i = .int .i64 k ∧ Below w.heap.size w w') (fun _ i _ => h.ops.length - (intOf i).toNat)
    case atStart => exact ⟨0, _, Nat.zero_le _, Lib.hid (by rw [HG.out, Bool.eq_iff_iff]; simp; omega), rfl, rfl, by (repeat' (first | (with_reducible exact Below.refl _ _) | (with_reducible assumption) | (with_reducible refine bel_trans (by assumption) ?_ ?_) | (with_reducible refine bel_grown (by assumption) ?_ ?_ ?_) | (with_reducible refine Below.alloc ?_ ?_ _) | (with_reducible refine Below.drew ?_) | (with_reducible refine below_drewN ?_ _) | (with_reducible refine Below.setCell ?_ ?_ _) | (with_reducible refine below_put ?_ ?_ _ _) | (with_reducible exact Nat.le_refl _) | omega | (with_reducible refine Nat.le_trans ?_ (Below.size (by assumption))) | (with_reducible refine Nat.le_trans ?_ (World.grownBy.size (by assumption))) | (simp only [World.size_alloc, World.size_setCell, World.size_drew, size_drewN]; omega) | (simp only [World.size_alloc, World.size_setCell, World.size_drew, size_drewN, size_put]; omega) | (intro k hk; simp [Value.ownBlock] at hk; done) | (intro k hk; simp [Value.ownBlock] at hk; omega) | (simp [size_drewN] at *; omega)))⟩
    case round =>
      obtain ⟨k, b, hk, hb, rfl, rfl, hB⟩ := hrel
      by_cases hkx : k < h.ops.length
      · obtain ⟨bl, off, e, hbs, hc⟩ := (OpsR.keep' Hr.out hB).at (by omega)
        have e1 := congrArg Sl.a e
        simp only at e1
        subst e1
        clear e
        dsimp only [Sl.v]
        obtain ⟨cs, hcx, g1, rfl, hv1⟩ := hc k hkx
        clear hc
        have hat := all_take_succ opMay h.ops k hkx
        have haf := all_false opMay h.ops k hkx
        have hfit := Hl.out h.ops[k] (List.getElem_mem _)
        generalize h.ops[k] = ok at *
        have Hat := Lib.hid hat
        have Haf := Lib.hid haf
        have Hfit := Lib.hid hfit
        have Hv1 := Lib.hid hv1
        clear hat haf hfit hv1
        have hz := hB.size
        have m1 : bl ≠ wr.heap.size := by omega
        have i0 : (0 : Int) ≤ (k : Int) := by omega
        have i1 : (k : Int) < (h.ops.length : Int) := by omega
        cases b
        · have Hf := Lib.hid (show hdrMay h = false by
            have h1 := hb.out
            rw [HM.out]
            cases hg : hdrGood h
            · rfl
            · rw [hg, Bool.true_and] at h1
              rw [Bool.true_and, ← List.take_append_drop k h.ops, List.all_append, ← h1, Bool.false_and])
          go_wp2_with fail
          rw [Exit.noGoto_ret]
          go_ret
          exact ⟨ret_bool Hf.out.symm, by (repeat' (first | (with_reducible exact Below.refl _ _) | (with_reducible assumption) | (with_reducible refine bel_trans (by assumption) ?_ ?_) | (with_reducible refine bel_grown (by assumption) ?_ ?_ ?_) | (with_reducible refine Below.alloc ?_ ?_ _) | (with_reducible refine Below.drew ?_) | (with_reducible refine below_drewN ?_ _) | (with_reducible refine Below.setCell ?_ ?_ _) | (with_reducible refine below_put ?_ ?_ _ _) | (with_reducible exact Nat.le_refl _) | omega | (with_reducible refine Nat.le_trans ?_ (Below.size (by assumption))) | (with_reducible refine Nat.le_trans ?_ (World.grownBy.size (by assumption))) | (simp only [World.size_alloc, World.size_setCell, World.size_drew, size_drewN]; omega) | (simp only [World.size_alloc, World.size_setCell, World.size_drew, size_drewN, size_put]; omega) | (intro k hk; simp [Value.ownBlock] at hk; done) | (intro k hk; simp [Value.ownBlock] at hk; omega) | (simp [size_drewN] at *; omega)))⟩
        · go_wp2_with fail
          (with_reducible refine (mayOp_c g1 ok _ (OpR.keep' Hv1.out (by (repeat' (first | (with_reducible exact Below.refl _ _) | (with_reducible assumption) | (with_reducible refine bel_trans (by assumption) ?_ ?_) | (with_reducible refine bel_grown (by assumption) ?_ ?_ ?_) | (with_reducible refine Below.alloc ?_ ?_ _) | (with_reducible refine Below.drew ?_) | (with_reducible refine below_drewN ?_ _) | (with_reducible refine Below.setCell ?_ ?_ _) | (with_reducible refine below_put ?_ ?_ _ _) | (with_reducible exact Nat.le_refl _) | omega | (with_reducible refine Nat.le_trans ?_ (Below.size (by assumption))) | (with_reducible refine Nat.le_trans ?_ (World.grownBy.size (by assumption))) | (simp only [World.size_alloc, World.size_setCell, World.size_drew, size_drewN]; omega) | (simp only [World.size_alloc, World.size_setCell, World.size_drew, size_drewN, size_put]; omega) | (intro k hk; simp [Value.ownBlock] at hk; done) | (intro k hk; simp [Value.ownBlock] at hk; omega) | (simp [size_drewN] at *; omega))))) Hfit.out).mono ?_)
          rintro e w1 ⟨rfl, hb1⟩
          have hB1 : Below w.heap.size w w1 := by (repeat' (first | (with_reducible exact Below.refl _ _) | (with_reducible assumption) | (with_reducible refine bel_trans (by assumption) ?_ ?_) | (with_reducible refine bel_grown (by assumption) ?_ ?_ ?_) | (with_reducible refine Below.alloc ?_ ?_ _) | (with_reducible refine Below.drew ?_) | (with_reducible refine below_drewN ?_ _) | (with_reducible refine Below.setCell ?_ ?_ _) | (with_reducible refine below_put ?_ ?_ _ _) | (with_reducible exact Nat.le_refl _) | omega | (with_reducible refine Nat.le_trans ?_ (Below.size (by assumption))) | (with_reducible refine Nat.le_trans ?_ (World.grownBy.size (by assumption))) | (simp only [World.size_alloc, World.size_setCell, World.size_drew, size_drewN]; omega) | (simp only [World.size_alloc, World.size_setCell, World.size_drew, size_drewN, size_put]; omega) | (intro k hk; simp [Value.ownBlock] at hk; done) | (intro k hk; simp [Value.ownBlock] at hk; omega) | (simp [size_drewN] at *; omega)))
          cases hm : opMay ok
          · have Hf := Lib.hid (show hdrMay h = false by
              rw [HM.out, Haf.out hm, Bool.and_false])
            clear hm
            go_wp2_with fail
            rw [Exit.noGoto_ret]
            go_ret
            exact ⟨ret_bool Hf.out.symm, hB1⟩
          · have Hm := Lib.hid hm
            clear hm
            go_wp2_with fail
            go_roundw
            case rel => exact ⟨k + 1, true, by omega, Lib.hid (by rw [Hat.out, Hm.out, Bool.and_true]; exact hb.out), rfl, by go_num, hB1⟩
            case measure => simp [intOf]; omega
      · have Hf := Lib.hid (show hdrMay h = b by
          rw [hb.out, HM.out, List.take_of_length_le (by omega)])
        go_wp2_with fail
        rw [Exit.noGoto_ret]
        go_ret
        exact ⟨ret_bool Hf.out.symm, by (repeat' (first | (with_reducible exact Below.refl _ _) | (with_reducible assumption) | (with_reducible refine bel_trans (by assumption) ?_ ?_) | (with_reducible refine bel_grown (by assumption) ?_ ?_ ?_) | (with_reducible refine Below.alloc ?_ ?_ _) | (with_reducible refine Below.drew ?_) | (with_reducible refine below_drewN ?_ _) | (with_reducible refine Below.setCell ?_ ?_ _) | (with_reducible refine below_put ?_ ?_ _ _) | (with_reducible exact Nat.le_refl _) | omega | (with_reducible refine Nat.le_trans ?_ (Below.size (by assumption))) | (with_reducible refine Nat.le_trans ?_ (World.grownBy.size (by assumption))) | (simp only [World.size_alloc, World.size_setCell, World.size_drew, size_drewN]; omega) | (simp only [World.size_alloc, World.size_setCell, World.size_drew, size_drewN, size_put]; omega) | (intro k hk; simp [Value.ownBlock] at hk; done) | (intro k hk; simp [Value.ownBlock] at hk; omega) | (simp [size_drewN] at *; omega)))⟩
end Go.Proofs.Ytbpbnnonialelaa
