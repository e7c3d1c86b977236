/- Texts of this proof, one behind the other: Same, OpMay, OpBytes, HdrMay, HdrBytes, Ref01, RefGet. -/
import Derived.Test.YthdjhbiigmcecaaPAE
import Derived.Test.YthdjhbiigmcecaaPAA
import Derived.Deep.QuietTactic
import Derived.BigQuiet
import Derived.Deep.RegionHeld3
import Derived.Test.YthdjhbiigmcecaaPAD
import Derived.WalkMore
set_option linter.unusedVariables false
set_option linter.unusedSimpArgs false
/- Contracts: codec.SameVote, slices.EqualFunc at votes. -/
namespace Go.Proofs.Ythdjhbiigmcecaa
open Go.RowKit

theorem vote_eq (a b : Vote) : decide (a = b) = (decide (a.validator = b.validator) && decide (a.source = b.source) && decide (a.target = b.target) && decide (a.sig = b.sig)) := by
 rw [Bool.eq_iff_iff]
 cases a; cases b
 simp [and_assoc]

theorem eq_point_guard : Try.prog.eqGuardType Try.prog.depth 26 = false := by kernel_rfl
theorem eq_hash_guard : Try.prog.eqGuardType Try.prog.depth 24 = false := by kernel_rfl

set_option maxRecDepth 100000 in
set_option maxHeartbeats 800000 in
theorem sameVote_c (g1 g2 : GVote) (v1 v2 : Vote) (w : World) (h1 : VoteR w g1 v1) (h2 : VoteR w g2 v2) (hl : v1.sig.length ≤ 9223372036854775807) :
  Calls Try.prog 70 #[.agg (voteA g1), .agg (voteA g2)] w fun e w' => e = .returned (.bool (decide (v1 = v2))) ∧ Below w.heap.size w w' := by
 have hg := eq_point_guard
 have hE : decide (v1 = v2) = ((g1.validator == g2.validator) && decide (g1.source = g2.source) && decide (g1.target = g2.target) && decide (v1.sig = v2.sig)) := by
  rw [vote_eq, ← h1.1, ← h1.2.1, ← h1.2.2.1, ← h2.1, ← h2.2.1, ← h2.2.2.1]
  congr 3
 have HE := Lib.hid hE
 have H1 := Lib.hid h1.2.2.2
 have H2 := Lib.hid h2.2.2.2
 clear hE h1 h2
 go_enter Try.func70, Try.ntmps70
 go_wp2_with (go_at_call 81; (with_reducible refine (sequal_c g1.sig g2.sig v1.sig v2.sig _ (H1.out.keep (by (repeat' (first | (with_reducible first | exact Below.refl _ _ | assumption | refine bel_trans (by assumption) ?_ ?_ | refine bel_grown (by assumption) ?_ ?_ ?_ | refine Below.alloc ?_ ?_ _ | refine Below.drew ?_ | refine below_drewN ?_ _ | refine Below.setCell ?_ ?_ _ | refine below_put ?_ ?_ _ _ | exact Nat.le_refl _) | omega | (with_reducible first | refine Nat.le_trans ?_ (Below.size (by assumption)) | refine Nat.le_trans ?_ (World.grownBy.size (by assumption))) | (simp only [World.size_alloc, World.size_setCell, World.size_drew, size_drewN]; omega) | (simp only [World.size_alloc, World.size_setCell, World.size_drew, size_drewN, size_put]; omega) | (intro k hk; simp [Value.ownBlock] at hk; first | done | omega) | (simp [size_drewN] at *; omega))))) (H2.out.keep (by (repeat' (first | (with_reducible first | exact Below.refl _ _ | assumption | refine bel_trans (by assumption) ?_ ?_ | refine bel_grown (by assumption) ?_ ?_ ?_ | refine Below.alloc ?_ ?_ _ | refine Below.drew ?_ | refine below_drewN ?_ _ | refine Below.setCell ?_ ?_ _ | refine below_put ?_ ?_ _ _ | exact Nat.le_refl _) | omega | (with_reducible first | refine Nat.le_trans ?_ (Below.size (by assumption)) | refine Nat.le_trans ?_ (World.grownBy.size (by assumption))) | (simp only [World.size_alloc, World.size_setCell, World.size_drew, size_drewN]; omega) | (simp only [World.size_alloc, World.size_setCell, World.size_drew, size_drewN, size_put]; omega) | (intro k hk; simp [Value.ownBlock] at hk; first | done | omega) | (simp [size_drewN] at *; omega))))) hl).mono ?_); rintro e w1 ⟨rfl, n, rfl⟩)
 all_goals go_ret
 all_goals exact ⟨ret_bool (by rw [HE.out]; simp [*]), by (repeat' (first | (with_reducible first | exact Below.refl _ _ | assumption | refine bel_trans (by assumption) ?_ ?_ | refine bel_grown (by assumption) ?_ ?_ ?_ | refine Below.alloc ?_ ?_ _ | refine Below.drew ?_ | refine below_drewN ?_ _ | refine Below.setCell ?_ ?_ _ | refine below_put ?_ ?_ _ _ | exact Nat.le_refl _) | omega | (with_reducible first | refine Nat.le_trans ?_ (Below.size (by assumption)) | refine Nat.le_trans ?_ (World.grownBy.size (by assumption))) | (simp only [World.size_alloc, World.size_setCell, World.size_drew, size_drewN]; omega) | (simp only [World.size_alloc, World.size_setCell, World.size_drew, size_drewN, size_put]; omega) | (intro k hk; simp [Value.ownBlock] at hk; first | done | omega) | (simp [size_drewN] at *; omega)))⟩

theorem take_succ_eqA {α : Type} (x y : List α) (k : Nat) (hx : k < x.length) (hy : k < y.length) (h : x.take k = y.take k) (he : x[k] = y[k]) : x.take (k + 1) = y.take (k + 1) := by
 rw [List.take_succ_eq_append_getElem hx, List.take_succ_eq_append_getElem hy, h, he]
theorem ne_of_atA {α : Type} (x y : List α) (k : Nat) (hx : k < x.length) (hy : k < y.length) (he : x[k] ≠ y[k]) : x ≠ y := by
 intro h
 subst h
 exact he rfl
theorem dec_true {p : Prop} [Decidable p] (h : p) : decide p = true := decide_eq_true h
theorem dec_false {p : Prop} [Decidable p] (h : ¬p) : decide p = false := decide_eq_false h

set_option maxRecDepth 100000 in
set_option maxHeartbeats 800000 in
theorem eqVotes_c (s t : Sl) (x y : List Vote) (w : World) (hs : VotesR w s x) (ht : VotesR w t y) (hx : x.length ≤ 9223372036854775807) (hl : ∀ v ∈ x, v.sig.length ≤ 9223372036854775807) :
  Calls Try.prog 69 #[s.v, t.v, .func (.func 70) #[] #[]] w fun e w' => e = .returned (.bool (decide (x = y))) ∧ Below w.heap.size w w' := by
 have hs1 := hs.1
 have ht1 := ht.1
 obtain ⟨sa, sn, sc⟩ := s
 obtain ⟨ta, tn, tc⟩ := t
 simp only at hs1 ht1
 subst hs1
 subst ht1
 have Hs := Lib.hid hs
 have Ht := Lib.hid ht
 have Hl := Lib.hid hl
 clear hs ht hl
 change Calls Try.prog _ #[.slice sa x.length sc, .slice ta y.length tc, _] w _
 by_cases hlen : x.length = y.length
 ·have hl1 : (x.length : Int) = y.length := by omega
  have hb : ((x.length : Int) != (y.length : Int)) = false := by simp [hl1]
  have Hlen := Lib.hid hlen
  clear hlen hl1
  go_enter Try.func69, Try.ntmps69
  go_wp2_with fail
  go_loopw [17] (fun i w' => ∃ k : Nat, k ≤ x.length ∧ x.take k = y.take k ∧ i = .int .i64 k ∧ Below w.heap.size w w') (fun i _ => x.length - (intOf i).toNat)
  case atStart => exact ⟨0, Nat.zero_le _, by simp, rfl, Below.refl _ _⟩
  case round =>
   obtain ⟨k, hk, hl, rfl, hB⟩ := hrel
   have Htk := Lib.hid hl
   clear hl
   by_cases hkx : k < x.length
   ·have hyk : k < y.length := by have := Hlen.out; omega
    obtain ⟨b, off, e, hbs, hc⟩ := (VotesR.keep' Hs.out hB).at (by omega)
    have e1 := congrArg Sl.a e
    simp only at e1
    subst e1
    clear e
    obtain ⟨cs, hcx, g1, rfl, hv1⟩ := hc k hkx
    clear hc
    obtain ⟨b2, off2, e, hbs2, hc⟩ := (VotesR.keep' Ht.out hB).at (by omega)
    have e1 := congrArg Sl.a e
    simp only at e1
    subst e1
    clear e
    obtain ⟨cs, hcy, g2, rfl, hv2⟩ := hc k hyk
    clear hc
    have i0 : (0 : Int) ≤ (k : Int) := by omega
    have i1 : (k : Int) < (x.length : Int) := by omega
    have i2 : (k : Int) < (y.length : Int) := by omega
    have hlk := Hl.out x[k] (List.getElem_mem _)
    have hne := ne_of_atA x y k hkx hyk
    have htk := take_succ_eqA x y k hkx hyk Htk.out
    have hz := hB.size
    have n1 : b ≠ wr.heap.size := by omega
    have n2 : b2 ≠ wr.heap.size := by omega
    have n3 : b2 ≠ wr.heap.size + 1 := by omega
    generalize hxk : x[k] = xk at *
    generalize hyk' : y[k] = yk at *
    have Hne := Lib.hid hne
    have Htk := Lib.hid htk
    have Hlk := Lib.hid hlk
    have H1 := Lib.hid hv1
    have H2 := Lib.hid hv2
    clear hxk hyk' hne htk hlk hv1 hv2
    go_wp2_with fail
    (with_reducible refine (sameVote_c g1 g2 xk yk _ (H1.out.keep' (by (repeat' (first | (with_reducible first | exact Below.refl _ _ | assumption | refine bel_trans (by assumption) ?_ ?_ | refine bel_grown (by assumption) ?_ ?_ ?_ | refine Below.alloc ?_ ?_ _ | refine Below.drew ?_ | refine below_drewN ?_ _ | refine Below.setCell ?_ ?_ _ | refine below_put ?_ ?_ _ _ | exact Nat.le_refl _) | omega | (with_reducible first | refine Nat.le_trans ?_ (Below.size (by assumption)) | refine Nat.le_trans ?_ (World.grownBy.size (by assumption))) | (simp only [World.size_alloc, World.size_setCell, World.size_drew, size_drewN]; omega) | (simp only [World.size_alloc, World.size_setCell, World.size_drew, size_drewN, size_put]; omega) | (intro k hk; simp [Value.ownBlock] at hk; first | done | omega) | (simp [size_drewN] at *; omega))))) (H2.out.keep' (by (repeat' (first | (with_reducible first | exact Below.refl _ _ | assumption | refine bel_trans (by assumption) ?_ ?_ | refine bel_grown (by assumption) ?_ ?_ ?_ | refine Below.alloc ?_ ?_ _ | refine Below.drew ?_ | refine below_drewN ?_ _ | refine Below.setCell ?_ ?_ _ | refine below_put ?_ ?_ _ _ | exact Nat.le_refl _) | omega | (with_reducible first | refine Nat.le_trans ?_ (Below.size (by assumption)) | refine Nat.le_trans ?_ (World.grownBy.size (by assumption))) | (simp only [World.size_alloc, World.size_setCell, World.size_drew, size_drewN]; omega) | (simp only [World.size_alloc, World.size_setCell, World.size_drew, size_drewN, size_put]; omega) | (intro k hk; simp [Value.ownBlock] at hk; first | done | omega) | (simp [size_drewN] at *; omega))))) Hlk.out).mono ?_)
    rintro e w1 ⟨rfl, hb1⟩
    by_cases hz : xk = yk
    ·have hd := dec_true hz
     have Hz := Lib.hid hz
     clear hz
     have hB1 : Below w.heap.size w w1 := by (repeat' (first | (with_reducible first | exact Below.refl _ _ | assumption | refine bel_trans (by assumption) ?_ ?_ | refine bel_grown (by assumption) ?_ ?_ ?_ | refine Below.alloc ?_ ?_ _ | refine Below.drew ?_ | refine below_drewN ?_ _ | refine Below.setCell ?_ ?_ _ | refine below_put ?_ ?_ _ _ | exact Nat.le_refl _) | omega | (with_reducible first | refine Nat.le_trans ?_ (Below.size (by assumption)) | refine Nat.le_trans ?_ (World.grownBy.size (by assumption))) | (simp only [World.size_alloc, World.size_setCell, World.size_drew, size_drewN]; omega) | (simp only [World.size_alloc, World.size_setCell, World.size_drew, size_drewN, size_put]; omega) | (intro k hk; simp [Value.ownBlock] at hk; first | done | omega) | (simp [size_drewN] at *; omega)))
     go_wp2_with fail
     go_roundw
     case rel => exact ⟨k + 1, by omega, Htk.out Hz.out, by go_num, hB1⟩
     case measure => simp [intOf]; omega
    ·have hd := dec_false hz
     have Hd := Lib.hid (dec_false (Hne.out hz))
     clear hz
     have hB1 : Below w.heap.size w w1 := by (repeat' (first | (with_reducible first | exact Below.refl _ _ | assumption | refine bel_trans (by assumption) ?_ ?_ | refine bel_grown (by assumption) ?_ ?_ ?_ | refine Below.alloc ?_ ?_ _ | refine Below.drew ?_ | refine below_drewN ?_ _ | refine Below.setCell ?_ ?_ _ | refine below_put ?_ ?_ _ _ | exact Nat.le_refl _) | omega | (with_reducible first | refine Nat.le_trans ?_ (Below.size (by assumption)) | refine Nat.le_trans ?_ (World.grownBy.size (by assumption))) | (simp only [World.size_alloc, World.size_setCell, World.size_drew, size_drewN]; omega) | (simp only [World.size_alloc, World.size_setCell, World.size_drew, size_drewN, size_put]; omega) | (intro k hk; simp [Value.ownBlock] at hk; first | done | omega) | (simp [size_drewN] at *; omega)))
     go_wp2_with fail
     go_ret
     exact ⟨ret_bool Hd.out.symm, hB1⟩
   ·have hd : decide (x = y) = true := decide_eq_true (by
     have h1 := Htk.out
     have h2 := Hlen.out
     rw [List.take_of_length_le (by omega), List.take_of_length_le (by omega)] at h1
     exact h1)
    have Hd := Lib.hid hd
    clear hd
    go_wp2_with fail
    go_ret
    exact ⟨ret_bool Hd.out.symm, hB⟩
 ·have hb : ((x.length : Int) != (y.length : Int)) = true := by simp; omega
  have hd : decide (x = y) = false := decide_eq_false (fun h => hlen (by rw [h]))
  rw [hd]
  clear hlen hd
  go_enter Try.func69, Try.ntmps69
  go_wp2_with fail
  go_ret
  exact ⟨rfl, Below.refl _ _⟩
end Go.Proofs.Ythdjhbiigmcecaa

/- Contracts: codec.sameOp, MayOp, MayHeader. -/
namespace Go.Proofs.Ythdjhbiigmcecaa
open Go.RowKit

theorem op_eq (a b : Op) : decide (a = b) = (decide (a.kind = b.kind) && decide (a.key = b.key) && decide (a.stake = b.stake) && decide (a.validator = b.validator) && decide (a.evidence = b.evidence)) := by
 rw [Bool.eq_iff_iff]
 cases a; cases b
 simp [and_assoc]
theorem stake_eq (a b : UInt64) : ((a.toNat : Int) == (b.toNat : Int)) = decide (a = b) := by
 rw [Bool.eq_iff_iff]
 simp only [beq_iff_eq, decide_eq_true_eq]
 exact ⟨fun h => UInt64.toNat_inj.1 (by omega), fun h => by rw [h]⟩
theorem int_eq (a b : Int) : (a == b) = decide (a = b) := by rw [Bool.eq_iff_iff]; simp

/-- how long an operation's lists are -/
def OpFits (o : Op) : Prop := o.evidence.length ≤ 9223372036854775807 ∧ ∀ v ∈ o.evidence, v.sig.length ≤ 9223372036854775807

set_option maxRecDepth 100000 in
set_option maxHeartbeats 800000 in
theorem sameOp_c (g1 g2 : GOp) (v1 v2 : Op) (w : World) (h1 : OpR w g1 v1) (h2 : OpR w g2 v2) (hl : OpFits v1) :
  Calls Try.prog 158 #[.agg (opA g1), .agg (opA g2)] w fun e w' => e = .returned (.bool (decide (v1 = v2))) ∧ Below w.heap.size w w' := by
 have hg := eq_hash_guard
 have hE : decide (v1 = v2) = ((g1.kind == g2.kind) && decide (g1.key = g2.key) && ((g1.stake.toNat : Int) == (g2.stake.toNat : Int)) && (g1.validator == g2.validator) && decide (v1.evidence = v2.evidence)) := by
  rw [op_eq, ← h1.1, ← h1.2.1, ← h1.2.2.1, ← h1.2.2.2.1, ← h2.1, ← h2.2.1, ← h2.2.2.1, ← h2.2.2.2.1, stake_eq, int_eq, int_eq]
 have HE := Lib.hid hE
 have H1 := Lib.hid h1.2.2.2.2
 have H2 := Lib.hid h2.2.2.2.2
 have hl1 := hl.1
 have Hl := Lib.hid hl.2
 clear hE h1 h2 hl
 go_enter Try.func158, Try.ntmps158
 go_wp2_with (go_at_call 69; (with_reducible refine (eqVotes_c g1.evidence g2.evidence v1.evidence v2.evidence _ (VotesR.keep' H1.out (by (repeat' (first | (with_reducible first | exact Below.refl _ _ | assumption | refine bel_trans (by assumption) ?_ ?_ | refine bel_grown (by assumption) ?_ ?_ ?_ | refine Below.alloc ?_ ?_ _ | refine Below.drew ?_ | refine below_drewN ?_ _ | refine Below.setCell ?_ ?_ _ | refine below_put ?_ ?_ _ _ | exact Nat.le_refl _) | omega | (with_reducible first | refine Nat.le_trans ?_ (Below.size (by assumption)) | refine Nat.le_trans ?_ (World.grownBy.size (by assumption))) | (simp only [World.size_alloc, World.size_setCell, World.size_drew, size_drewN]; omega) | (simp only [World.size_alloc, World.size_setCell, World.size_drew, size_drewN, size_put]; omega) | (intro k hk; simp [Value.ownBlock] at hk; first | done | omega) | (simp [size_drewN] at *; omega))))) (VotesR.keep' H2.out (by (repeat' (first | (with_reducible first | exact Below.refl _ _ | assumption | refine bel_trans (by assumption) ?_ ?_ | refine bel_grown (by assumption) ?_ ?_ ?_ | refine Below.alloc ?_ ?_ _ | refine Below.drew ?_ | refine below_drewN ?_ _ | refine Below.setCell ?_ ?_ _ | refine below_put ?_ ?_ _ _ | exact Nat.le_refl _) | omega | (with_reducible first | refine Nat.le_trans ?_ (Below.size (by assumption)) | refine Nat.le_trans ?_ (World.grownBy.size (by assumption))) | (simp only [World.size_alloc, World.size_setCell, World.size_drew, size_drewN]; omega) | (simp only [World.size_alloc, World.size_setCell, World.size_drew, size_drewN, size_put]; omega) | (intro k hk; simp [Value.ownBlock] at hk; first | done | omega) | (simp [size_drewN] at *; omega))))) hl1 Hl.out).mono ?_); rintro e w1 ⟨rfl, hb1⟩)
 all_goals go_ret
 all_goals exact ⟨ret_bool (by rw [HE.out]; simp [*]), by (repeat' (first | (with_reducible first | exact Below.refl _ _ | assumption | refine bel_trans (by assumption) ?_ ?_ | refine bel_grown (by assumption) ?_ ?_ ?_ | refine Below.alloc ?_ ?_ _ | refine Below.drew ?_ | refine below_drewN ?_ _ | refine Below.setCell ?_ ?_ _ | refine below_put ?_ ?_ _ _ | exact Nat.le_refl _) | omega | (with_reducible first | refine Nat.le_trans ?_ (Below.size (by assumption)) | refine Nat.le_trans ?_ (World.grownBy.size (by assumption))) | (simp only [World.size_alloc, World.size_setCell, World.size_drew, size_drewN]; omega) | (simp only [World.size_alloc, World.size_setCell, World.size_drew, size_drewN, size_put]; omega) | (intro k hk; simp [Value.ownBlock] at hk; first | done | omega) | (simp [size_drewN] at *; omega)))⟩

theorem bareR {w : World} {g : GOp} {o : Op} (h : OpR w g o) : OpR w (bareOp g) (bareO o) := by
 obtain ⟨h1, h2, h3, h4, h5⟩ := h
 unfold bareOp bareO
 rw [h1]
 by_cases e1 : o.kind = 1
 ·rw [if_pos e1, if_pos e1]
  exact ⟨rfl, h2, h3, rfl, SlR.nil _ _ _ _ _⟩
 ·rw [if_neg e1, if_neg e1]
  by_cases e2 : o.kind = 3
  ·rw [if_pos e2, if_pos e2]
   exact ⟨rfl, rfl, rfl, h4, h5⟩
  ·rw [if_neg e2, if_neg e2]
   by_cases e3 : o.kind = 2
   ·rw [if_pos e3, if_pos e3]
    exact ⟨rfl, rfl, rfl, h4, SlR.nil _ _ _ _ _⟩
   ·rw [if_neg e3, if_neg e3]
    exact ⟨rfl, rfl, rfl, rfl, SlR.nil _ _ _ _ _⟩

set_option maxRecDepth 100000 in
set_option maxHeartbeats 800000 in
theorem mayOp_no (g : GOp) (o : Op) (w : World) (h : OpR w g o) (hl : OpFits o) (hn : decide (o = bareO o) = false) :
  Calls Try.prog 94 #[.agg (opA g)] w fun e w' => e = .returned (.bool (opMay o)) ∧ Below w.heap.size w w' := by
 have hE : opMay o = false := by simp [opMay, hn]
 rw [hE]
 have HS := fun W hb => sameOp_c g (bareOp g) o (bareO o) W (OpR.keep' h hb) (bareR (OpR.keep' h hb)) hl
 simp only [hn] at HS
 clear hE h hl hn
 go_enter Try.func94, Try.ntmps94
 go_wp2_with fail
 go_region_held3 (fun w' => row? w' w.heap.size 0 36 = some (opA g))
  (first | go_keep | (simp [row?_drew, row?_new, ext_self]; done) | (with_reducible exact hr1) | (rw [j3 _ _ _ (by have := hb.size; simp at this; omega)]; exact hr1))
  (first
   | (go_simp; go_at_call 159; (with_reducible refine (bare_c g _).mono ?_); rintro e w1 ⟨rfl, hb⟩; obtain ⟨k1, k2, k3⟩ := kept hb; have hr1 : row? w1 w.heap.size 0 36 = some (opA g) := by (rw [k3 _ _ _ (by simp)]; simp [row?_drew, row?_new, ext_self]))
   | (go_simp; go_at_call 158; (with_reducible refine (HS _ (by (repeat' (first | (with_reducible first | exact Below.refl _ _ | assumption | refine bel_trans (by assumption) ?_ ?_ | refine bel_grown (by assumption) ?_ ?_ ?_ | refine Below.alloc ?_ ?_ _ | refine Below.drew ?_ | refine below_drewN ?_ _ | refine Below.setCell ?_ ?_ _ | refine below_put ?_ ?_ _ _ | exact Nat.le_refl _) | omega | (with_reducible first | refine Nat.le_trans ?_ (Below.size (by assumption)) | refine Nat.le_trans ?_ (World.grownBy.size (by assumption))) | (simp only [World.size_alloc, World.size_setCell, World.size_drew, size_drewN]; omega) | (simp only [World.size_alloc, World.size_setCell, World.size_drew, size_drewN, size_put]; omega) | (intro k hk; simp [Value.ownBlock] at hk; first | done | omega) | (simp [size_drewN] at *; omega))))).mono ?_); rintro e w2 ⟨rfl, hb2⟩; obtain ⟨j1, j2, j3⟩ := kept hb2))
 go_wp2_with fail
 go_ret
 exact ⟨rfl, by (repeat' (first | (with_reducible first | exact Below.refl _ _ | assumption | refine bel_trans (by assumption) ?_ ?_ | refine bel_grown (by assumption) ?_ ?_ ?_ | refine Below.alloc ?_ ?_ _ | refine Below.drew ?_ | refine below_drewN ?_ _ | refine Below.setCell ?_ ?_ _ | refine below_put ?_ ?_ _ _ | exact Nat.le_refl _) | omega | (with_reducible first | refine Nat.le_trans ?_ (Below.size (by assumption)) | refine Nat.le_trans ?_ (World.grownBy.size (by assumption))) | (simp only [World.size_alloc, World.size_setCell, World.size_drew, size_drewN]; omega) | (simp only [World.size_alloc, World.size_setCell, World.size_drew, size_drewN, size_put]; omega) | (intro k hk; simp [Value.ownBlock] at hk; first | done | omega) | (simp [size_drewN] at *; omega)))⟩

theorem votes_two {w : World} {s : Sl} {a b : Vote} (h : VotesR w s [a, b]) : ∃ bl off ga gb, s.a = some ⟨bl, off, none⟩ ∧ s.n = 2 ∧ 2 ≤ s.c ∧ bl < w.heap.size ∧ row? w bl off 68 = some (voteA ga) ∧ VoteR w ga a ∧ row? w bl (off + 68) 68 = some (voteA gb) ∧ VoteR w gb b := by
 obtain ⟨bl, off, ha, hc⟩ := h.2.2 (by simp)
 obtain ⟨_, r0, ga, rfl, v0⟩ := hc 0 (by simp)
 obtain ⟨_, r1, gb, rfl, v1⟩ := hc 1 (by simp)
 have hn := h.1
 have hc := h.2.1
 simp at hn
 exact ⟨bl, off, ga, gb, ha, hn, by omega, lt_of_row r0, by simpa using r0, v0, by simpa using r1, v1⟩
theorem opA_cells {w : World} {b : Nat} {g : GOp} (h : row? w b 0 36 = some (opA g)) : w.cell? ⟨b, 0, none⟩ = some (.int .i64 g.kind) ∧ w.cell? ⟨b, 33, none⟩ = some (.int .u64 (g.stake.toNat : Int)) ∧ w.cell? ⟨b, 34, none⟩ = some (.int .i64 g.validator) ∧ w.cell? ⟨b, 35, none⟩ = some g.evidence.v := by
 have h0 := cell_of_row? h 0 (by omega)
 have h1 := cell_of_row? h 33 (by omega)
 have h2 := cell_of_row? h 34 (by omega)
 have h3 := cell_of_row? h 35 (by omega)
 simp only [Nat.zero_add, opA_kind, opA_stake, opA_validator, opA_evidence] at h0 h1 h2 h3
 exact ⟨h0, h1, h2, h3⟩

set_option maxRecDepth 100000 in
set_option maxHeartbeats 1600000 in
theorem mayOp_c (g : GOp) (o : Op) (w : World) (h : OpR w g o) (hl : OpFits o) :
  Calls Try.prog 94 #[.agg (opA g)] w fun e w' => e = .returned (.bool (opMay o)) ∧ Below w.heap.size w w' := by
 by_cases hn : o = bareO o
 case neg => exact mayOp_no g o w h hl (dec_false hn)
 have HS := fun W hb => sameOp_c g (bareOp g) o (bareO o) W (OpR.keep' h hb) (bareR (OpR.keep' h hb)) hl
 simp only [dec_true hn] at HS
 have hM : opMay o = (if g.kind = 1 then decide (1 ≤ g.stake.toNat ∧ g.stake.toNat ≤ 4294967296) else if g.kind = 2 then mayMem g.validator
  else if g.kind = 3 then mayMem g.validator && decide (o.evidence.length = 2) && o.evidence.all voteMay else false) := by
  unfold opMay
  rw [dec_true hn, Bool.true_and, h.1, h.2.2.1, h.2.2.2.1]
 have HM := Lib.hid hM
 have Hv := Lib.hid h.2.2.2.2
 clear hM h hl hn
 go_enter Try.func94, Try.ntmps94
 go_wp2_with fail
 go_region_held3 (fun w' => row? w' w.heap.size 0 36 = some (opA g))
  (first | go_keep | (simp [row?_drew, row?_new, ext_self]; done) | (with_reducible exact hr1) | (rw [j3 _ _ _ (by have := hb.size; simp at this; omega)]; exact hr1))
  (first
   | (go_simp; go_at_call 159; (with_reducible refine (bare_c g _).mono ?_); rintro e w1 ⟨rfl, hb⟩; obtain ⟨k1, k2, k3⟩ := kept hb; have hr1 : row? w1 w.heap.size 0 36 = some (opA g) := by (rw [k3 _ _ _ (by simp)]; simp [row?_drew, row?_new, ext_self]))
   | (go_simp; go_at_call 158; (with_reducible refine (HS _ (by (repeat' (first | (with_reducible first | exact Below.refl _ _ | assumption | refine bel_trans (by assumption) ?_ ?_ | refine bel_grown (by assumption) ?_ ?_ ?_ | refine Below.alloc ?_ ?_ _ | refine Below.drew ?_ | refine below_drewN ?_ _ | refine Below.setCell ?_ ?_ _ | refine below_put ?_ ?_ _ _ | exact Nat.le_refl _) | omega | (with_reducible first | refine Nat.le_trans ?_ (Below.size (by assumption)) | refine Nat.le_trans ?_ (World.grownBy.size (by assumption))) | (simp only [World.size_alloc, World.size_setCell, World.size_drew, size_drewN]; omega) | (simp only [World.size_alloc, World.size_setCell, World.size_drew, size_drewN, size_put]; omega) | (intro k hk; simp [Value.ownBlock] at hk; first | done | omega) | (simp [size_drewN] at *; omega))))).mono ?_); rintro e w2 ⟨rfl, hb2⟩; obtain ⟨j1, j2, j3⟩ := kept hb2))
 have hz : w.heap.size < w1.heap.size := by have := hb.size; simp at this; omega
 have hr2 : row? w2 w.heap.size 0 36 = some (opA g) := by rw [j3 _ _ _ hz]; exact hr1
 have hB : Below w.heap.size w w2 := by (repeat' (first | (with_reducible first | exact Below.refl _ _ | assumption | refine bel_trans (by assumption) ?_ ?_ | refine bel_grown (by assumption) ?_ ?_ ?_ | refine Below.alloc ?_ ?_ _ | refine Below.drew ?_ | refine below_drewN ?_ _ | refine Below.setCell ?_ ?_ _ | refine below_put ?_ ?_ _ _ | exact Nat.le_refl _) | omega | (with_reducible first | refine Nat.le_trans ?_ (Below.size (by assumption)) | refine Nat.le_trans ?_ (World.grownBy.size (by assumption))) | (simp only [World.size_alloc, World.size_setCell, World.size_drew, size_drewN]; omega) | (simp only [World.size_alloc, World.size_setCell, World.size_drew, size_drewN, size_put]; omega) | (intro k hk; simp [Value.ownBlock] at hk; first | done | omega) | (simp [size_drewN] at *; omega)))
 have hz2 : w.heap.size < w2.heap.size := by have := hb2.size; omega
 clear k1 k2 k3 j1 j2 j3 hr1 hb hb2 HS
 obtain ⟨c0, c1, c2, c3⟩ := opA_cells hr2
 by_cases e1 : g.kind = 1
 ·have b1 : (g.kind == 1) = true := by simp [e1]
  have Hm := Lib.hid (HM.out.trans (if_pos e1))
  clear e1
  go_wp2_with fail
  all_goals go_ret
  all_goals exact ⟨ret_bool (by rw [Hm.out, Bool.eq_iff_iff]; simp; omega), hB⟩
 have Hm := Lib.hid (HM.out.trans (if_neg e1))
 have b1 : (g.kind == 1) = false := by simp [e1]
 clear e1 HM
 by_cases e2 : g.kind = 2
 ·have b2 : (g.kind == 2) = true := by simp [e2]
  have Hm := Lib.hid (Hm.out.trans (if_pos e2))
  clear e2
  go_wp2_with (go_at_call 160; refine (mayMember_c _ _).mono ?_; rintro e w3 ⟨rfl, hb3⟩)
  go_ret
  exact ⟨ret_bool Hm.out.symm, by (repeat' (first | (with_reducible first | exact Below.refl _ _ | assumption | refine bel_trans (by assumption) ?_ ?_ | refine bel_grown (by assumption) ?_ ?_ ?_ | refine Below.alloc ?_ ?_ _ | refine Below.drew ?_ | refine below_drewN ?_ _ | refine Below.setCell ?_ ?_ _ | refine below_put ?_ ?_ _ _ | exact Nat.le_refl _) | omega | (with_reducible first | refine Nat.le_trans ?_ (Below.size (by assumption)) | refine Nat.le_trans ?_ (World.grownBy.size (by assumption))) | (simp only [World.size_alloc, World.size_setCell, World.size_drew, size_drewN]; omega) | (simp only [World.size_alloc, World.size_setCell, World.size_drew, size_drewN, size_put]; omega) | (intro k hk; simp [Value.ownBlock] at hk; first | done | omega) | (simp [size_drewN] at *; omega)))⟩
 have Hm := Lib.hid (Hm.out.trans (if_neg e2))
 have b2 : (g.kind == 2) = false := by simp [e2]
 clear e2
 by_cases e3 : g.kind = 3
 ·have b3 : (g.kind == 3) = true := by simp [e3]
  have Hm := Lib.hid (Hm.out.trans (if_pos e3))
  clear e3
  have n1 := Hv.out.1
  by_cases m1 : mayMem g.validator = true
  ·by_cases m2 : o.evidence.length = 2
   ·obtain ⟨a, b, hab⟩ : ∃ a b, o.evidence = [a, b] := by
     match he : o.evidence, m2 with
     | [a, b], _ => exact ⟨a, b, rfl⟩
    have hv := VotesR.keep' Hv.out hB
    rw [hab] at hv
    obtain ⟨bl, off, ga, gb, s1, s2, s3, hlt, r0, v0, r1, v1⟩ := votes_two hv
    have Hm := Lib.hid (show opMay o = (mayV ga && mayV gb) by rw [Hm.out, m1, hab, v0.may, v1.may]; simp)
    have hev : g.evidence.v = .slice (some ⟨bl, off, none⟩) 2 g.evidence.c := by
     show Value.slice g.evidence.a g.evidence.n g.evidence.c = _
     rw [s1, s2]
    rw [hev] at c3
    clear n1 m2 hab hv v0 v1 s1 s2 s3 hev hr2 c1
    have HC := fun W => mayMember_c g.validator W
    simp only [m1] at HC
    clear m1
    go_wp2_with fail
    refine (HC _).mono ?_
    rintro e w3 ⟨rfl, hb3⟩
    obtain ⟨k1, k2, k3⟩ := kept hb3
    have c3 := (k1 _ _ hz2).trans c3
    have r0 := (k3 _ _ _ hlt).trans r0
    have r1 := (k3 _ _ _ hlt).trans r1
    have hz3 : w.heap.size < w3.heap.size := by have := hb3.size; omega
    have hlt : bl < w3.heap.size := by have := hb3.size; omega
    have hB : Below w.heap.size w w3 := by (repeat' (first | (with_reducible first | exact Below.refl _ _ | assumption | refine bel_trans (by assumption) ?_ ?_ | refine bel_grown (by assumption) ?_ ?_ ?_ | refine Below.alloc ?_ ?_ _ | refine Below.drew ?_ | refine below_drewN ?_ _ | refine Below.setCell ?_ ?_ _ | refine below_put ?_ ?_ _ _ | exact Nat.le_refl _) | omega | (with_reducible first | refine Nat.le_trans ?_ (Below.size (by assumption)) | refine Nat.le_trans ?_ (World.grownBy.size (by assumption))) | (simp only [World.size_alloc, World.size_setCell, World.size_drew, size_drewN]; omega) | (simp only [World.size_alloc, World.size_setCell, World.size_drew, size_drewN, size_put]; omega) | (intro k hk; simp [Value.ownBlock] at hk; first | done | omega) | (simp [size_drewN] at *; omega)))
    clear k1 k2 k3 c2 HC hb3 hz2
    have HA := fun W => mayVote_c ga W
    cases hma : mayV ga
    ·have Hm := Lib.hid (Hm.out.trans (by rw [hma, Bool.false_and] : _ = false))
     simp only [hma] at HA
     clear hma
     go_wp2_with fail
     refine (HA _).mono ?_
     rintro e w4 ⟨rfl, hb4⟩
     go_wp2_with fail
     go_ret
     exact ⟨ret_bool Hm.out.symm, by (repeat' (first | (with_reducible first | exact Below.refl _ _ | assumption | refine bel_trans (by assumption) ?_ ?_ | refine bel_grown (by assumption) ?_ ?_ ?_ | refine Below.alloc ?_ ?_ _ | refine Below.drew ?_ | refine below_drewN ?_ _ | refine Below.setCell ?_ ?_ _ | refine below_put ?_ ?_ _ _ | exact Nat.le_refl _) | omega | (with_reducible first | refine Nat.le_trans ?_ (Below.size (by assumption)) | refine Nat.le_trans ?_ (World.grownBy.size (by assumption))) | (simp only [World.size_alloc, World.size_setCell, World.size_drew, size_drewN]; omega) | (simp only [World.size_alloc, World.size_setCell, World.size_drew, size_drewN, size_put]; omega) | (intro k hk; simp [Value.ownBlock] at hk; first | done | omega) | (simp [size_drewN] at *; omega)))⟩
    ·have Hm := Lib.hid (Hm.out.trans (by rw [hma, Bool.true_and] : _ = mayV gb))
     simp only [hma] at HA
     clear hma
     go_wp2_with fail
     refine (HA _).mono ?_
     rintro e w4 ⟨rfl, hb4⟩
     obtain ⟨k1, k2, k3⟩ := kept hb4
     have c3 := (k1 _ _ hz3).trans c3
     have r1 := (k3 _ _ _ hlt).trans r1
     clear k1 k2 k3
     go_wp2_with fail
     refine (mayVote_c gb _).mono ?_
     rintro e w5 ⟨rfl, hb5⟩
     go_wp2_with fail
     go_ret
     exact ⟨ret_bool Hm.out.symm, by (repeat' (first | (with_reducible first | exact Below.refl _ _ | assumption | refine bel_trans (by assumption) ?_ ?_ | refine bel_grown (by assumption) ?_ ?_ ?_ | refine Below.alloc ?_ ?_ _ | refine Below.drew ?_ | refine below_drewN ?_ _ | refine Below.setCell ?_ ?_ _ | refine below_put ?_ ?_ _ _ | exact Nat.le_refl _) | omega | (with_reducible first | refine Nat.le_trans ?_ (Below.size (by assumption)) | refine Nat.le_trans ?_ (World.grownBy.size (by assumption))) | (simp only [World.size_alloc, World.size_setCell, World.size_drew, size_drewN]; omega) | (simp only [World.size_alloc, World.size_setCell, World.size_drew, size_drewN, size_put]; omega) | (intro k hk; simp [Value.ownBlock] at hk; first | done | omega) | (simp [size_drewN] at *; omega)))⟩
   ·have b4 : ((g.evidence.n : Int) == 2) = false := by rw [n1]; simp; omega
    have Hm := Lib.hid (show opMay o = false by rw [Hm.out]; simp [m2])
    clear n1 m2
    have HC := fun W => mayMember_c g.validator W
    simp only [m1] at HC
    go_wp2_with (go_at_call 160; refine (HC _).mono ?_; rintro e w3 ⟨rfl, hb3⟩; obtain ⟨k1, k2, k3⟩ := kept hb3)
    go_ret
    exact ⟨ret_bool Hm.out.symm, by (repeat' (first | (with_reducible first | exact Below.refl _ _ | assumption | refine bel_trans (by assumption) ?_ ?_ | refine bel_grown (by assumption) ?_ ?_ ?_ | refine Below.alloc ?_ ?_ _ | refine Below.drew ?_ | refine below_drewN ?_ _ | refine Below.setCell ?_ ?_ _ | refine below_put ?_ ?_ _ _ | exact Nat.le_refl _) | omega | (with_reducible first | refine Nat.le_trans ?_ (Below.size (by assumption)) | refine Nat.le_trans ?_ (World.grownBy.size (by assumption))) | (simp only [World.size_alloc, World.size_setCell, World.size_drew, size_drewN]; omega) | (simp only [World.size_alloc, World.size_setCell, World.size_drew, size_drewN, size_put]; omega) | (intro k hk; simp [Value.ownBlock] at hk; first | done | omega) | (simp [size_drewN] at *; omega)))⟩
  ·have m1 : mayMem g.validator = false := by simpa using m1
   have Hm := Lib.hid (show opMay o = false by rw [Hm.out]; simp [m1])
   have HC := fun W => mayMember_c g.validator W
   simp only [m1] at HC
   clear n1
   go_wp2_with (go_at_call 160; refine (HC _).mono ?_; rintro e w3 ⟨rfl, hb3⟩)
   go_ret
   exact ⟨ret_bool Hm.out.symm, by (repeat' (first | (with_reducible first | exact Below.refl _ _ | assumption | refine bel_trans (by assumption) ?_ ?_ | refine bel_grown (by assumption) ?_ ?_ ?_ | refine Below.alloc ?_ ?_ _ | refine Below.drew ?_ | refine below_drewN ?_ _ | refine Below.setCell ?_ ?_ _ | refine below_put ?_ ?_ _ _ | exact Nat.le_refl _) | omega | (with_reducible first | refine Nat.le_trans ?_ (Below.size (by assumption)) | refine Nat.le_trans ?_ (World.grownBy.size (by assumption))) | (simp only [World.size_alloc, World.size_setCell, World.size_drew, size_drewN]; omega) | (simp only [World.size_alloc, World.size_setCell, World.size_drew, size_drewN, size_put]; omega) | (intro k hk; simp [Value.ownBlock] at hk; first | done | omega) | (simp [size_drewN] at *; omega)))⟩
 ·have b3 : (g.kind == 3) = false := by simp [e3]
  have Hm := Lib.hid (Hm.out.trans (if_neg e3))
  clear e3
  go_wp2_with fail
  go_ret
  exact ⟨ret_bool Hm.out.symm, hB⟩
end Go.Proofs.Ythdjhbiigmcecaa

/- Contract: codec.op. -/
namespace Go.Proofs.Ythdjhbiigmcecaa
open Go.RowKit

theorem byteV_int (k : Int) (h0 : 0 ≤ k) (h1 : k < 256) : byteV (UInt8.ofNat (k % 256).toNat) = .int .u8 k := by
 rw [byteV_of]
 congr 1
 omega
theorem key_reads {w : World} {b : Nat} {g : GOp} (h : row? w b 0 36 = some (opA g)) : BytesR w ⟨some ⟨b, 1, none⟩, 32, 32⟩ g.key.1 := by
 refine ⟨g.key.2.symm, Nat.le_refl _, fun _ => ⟨b, 1, rfl, fun i hi => ?_⟩⟩
 have := g.key.2
 rw [← Nat.zero_add (1 + i), cell_of_row? h (1 + i) (by omega)]
 have hk := congrArg (fun a => a[i]?) (opA_key g)
 simp only [Array.getElem?_extract] at hk
 rw [if_pos (by simp; omega)] at hk
 rw [hk]
 simp [hashA, hi]

theorem row?_grown {w w1 : World} {row : Option Nat} {b off n : Nat} {l : Array Value} (hg : w.grownBy w1 row) (h : row? w b off n = some l) (hne : some b ≠ row) : row? w1 b off n = some l := by
 have hlt := lt_of_row h
 unfold row? at h ⊢
 rw [hg.block b hlt hne]
 exact h

set_option maxRecDepth 100000 in
set_option maxHeartbeats 800000 in
theorem op_dep (g : GOp) (o : Op) (w : World) (h : OpR w g o) (hk : o.kind = 1) :
  Calls Try.prog 167 #[.agg (opA g)] w fun e w' => ∃ v, e = .returned v ∧ Own w' w.heap.size v (opBytes o) ∧ Below w.heap.size w w' := by
 obtain ⟨i0, hi, hz0, hz1, hz2⟩ := info_parts info_u8
 have hE : opBytes o = UInt8.ofNat (g.kind % 256).toNat :: (g.key.1 ++ be 8 g.stake.toNat) := by
  unfold opBytes
  rw [if_pos hk, h.1, h.2.1, h.2.2.1]
 have hkind : g.kind = 1 := by rw [h.1, hk]
 have hw : IntKind.u8.wrap g.kind = g.kind := IntWalk.u8_in _ (by omega)
 have b1 : (g.kind == 1) = true := by simp [hkind]
 have hkb := byteV_int g.kind (by omega) (by omega)
 have hn := g.stake.toNat_lt
 have HC := fun W => number8 g.stake.toNat W (by omega)
 have hkl := g.key.2
 have HE := Lib.hid hE
 have Hkb := Lib.hid hkb
 have Hk := Lib.hid hkind
 have hk0 : 0 ≤ g.kind := by omega
 have hk1 : g.kind ≤ 3 := by omega
 have hlit : Own ((w.alloc (.cells (opA g) 97)).alloc (.cells #[.int .u8 g.kind] 5)) w.heap.size (.slice (some ⟨w.heap.size + 1, 0, none⟩) 1 1) [UInt8.ofNat (g.kind % 256).toNat] := by
  have := Own.lit (w.alloc (.cells (opA g) 97)) w.heap.size [UInt8.ofNat (g.kind % 256).toNat] #[.int .u8 g.kind] 5 1 (by rw [List.map_cons, hkb]; rfl) rfl (by simp) (by simp [maxLen])
  simpa using this
 have hrow : row? ((w.alloc (.cells (opA g) 97)).alloc (.cells #[.int .u8 g.kind] 5)) w.heap.size 0 36 = some (opA g) := by
  rw [row?_old _ _ _ _ _ (by simp), row?_new]
  simp
 have Hlit := Lib.hid hlit
 have Hrow := Lib.hid hrow
 clear hE h hk hkind hkb hn hlit hrow
 go_enter Try.func167, Try.ntmps167
 go_wp2_with (at_builtin; refine wpList_append_bytes _ rfl (.tmp 32) (.tmp 34) _ (by rfl) w.heap.size 5 i0 _ Try.underlying32 hi hz0 hz1 hz2 rfl _ _ rfl Hlit.out ⟨some ⟨w.heap.size, 1, none⟩, 32, 32⟩ g.key.1 rfl (key_reads Hrow.out) (by simp [hkl]) (by simp; omega) ?_; intro v1 w1 o1 g1' e1; have g1 : World.grownBy _ w1 (some (w.heap.size + 1)) := g1'; clear g1'; have hr1 : row? w1 w.heap.size 0 36 = some (opA g) := row?_grown g1 Hrow.out (by intro h; injection h; omega); (have hz1' : w.heap.size + 1 < w1.heap.size := by have := g1.size; simp at this; omega); have hB1 : Below w.heap.size w w1 := bel_grown g1 (by (repeat' (first | (with_reducible first | exact Below.refl _ _ | assumption | refine bel_trans (by assumption) ?_ ?_ | refine bel_grown (by assumption) ?_ ?_ ?_ | refine Below.alloc ?_ ?_ _ | refine Below.drew ?_ | refine below_drewN ?_ _ | refine Below.setCell ?_ ?_ _ | refine below_put ?_ ?_ _ _ | exact Nat.le_refl _) | omega | (with_reducible first | refine Nat.le_trans ?_ (Below.size (by assumption)) | refine Nat.le_trans ?_ (World.grownBy.size (by assumption))) | (simp only [World.size_alloc, World.size_setCell, World.size_drew, size_drewN]; omega) | (simp only [World.size_alloc, World.size_setCell, World.size_drew, size_drewN, size_put]; omega) | (intro k hk; simp [Value.ownBlock] at hk; first | done | omega) | (simp [size_drewN] at *; omega)))) (by simp only [World.size_alloc]; omega) (by intro k hk; injection hk; omega); obtain ⟨c0, c1, c2, c3⟩ := opA_cells hr1; clear e1 g1)
 refine (HC _).mono ?_
 rintro e w2 ⟨v2, rfl, o2, b2⟩
 obtain ⟨s2, rfl⟩ := o2.slice
 have o1' := o1.keep b2
 have hz2' := b2.size
 clear c0 c1 c2 c3 HC
 go_wp2_with (at_builtin; refine wpList_append_bytes _ rfl (.tmp 36) (.tmp 39) _ (by rfl) w.heap.size 5 i0 _ Try.underlying32 hi hz0 hz1 hz2 rfl _ _ rfl o1' s2 (be 8 g.stake.toNat) rfl o2.reads (by simp [hkl, be_length]) (by omega) ?_; intro v3 w3 o3 g3 e3)
 go_ret
 refine ⟨_, rfl, ?_, bel_grown g3 (by (repeat' (first | (with_reducible first | exact Below.refl _ _ | assumption | refine bel_trans (by assumption) ?_ ?_ | refine bel_grown (by assumption) ?_ ?_ ?_ | refine Below.alloc ?_ ?_ _ | refine Below.drew ?_ | refine below_drewN ?_ _ | refine Below.setCell ?_ ?_ _ | refine below_put ?_ ?_ _ _ | exact Nat.le_refl _) | omega | (with_reducible first | refine Nat.le_trans ?_ (Below.size (by assumption)) | refine Nat.le_trans ?_ (World.grownBy.size (by assumption))) | (simp only [World.size_alloc, World.size_setCell, World.size_drew, size_drewN]; omega) | (simp only [World.size_alloc, World.size_setCell, World.size_drew, size_drewN, size_put]; omega) | (intro k hk; simp [Value.ownBlock] at hk; first | done | omega) | (simp [size_drewN] at *; omega)))) (by omega) (fun k hk => (o1.lt k hk).1)⟩
 rw [HE.out]
 simpa using o3

theorem vtBytes_length (v : Vote) : (vtBytes v).length = 83 + v.sig.length := by
 simp [vtBytes, be_length, ptBytes_length]
 omega
theorem voteMay_out {v : Vote} (h : voteMay v = true) : 1 ≤ v.validator ∧ v.validator ≤ 64 ∧ v.sig.length ≤ 4096 ∧ mayPt v.source = true ∧ mayPt v.target = true := by
 simp only [voteMay, mayMem, Bool.and_eq_true, decide_eq_true_eq] at h
 exact ⟨h.1.1.1.1, h.1.1.1.2, h.2, h.1.1.2, h.1.2⟩
theorem votes_len (l : List Vote) (k : Nat) (hk : k ≤ 2) (hm : l.all voteMay = true) : (((l.take k).map vtBytes).flatten).length ≤ k * 5000 := by
 induction k generalizing l with
 | zero => simp
 | succ k ih =>
  cases l with
  | nil => simp
  | cons v l =>
   simp only [List.all_cons, Bool.and_eq_true] at hm
   have := ih l (by omega) hm.2
   have h2 := vtBytes_length v
   have h3 := (voteMay_out hm.1).2.2.1
   simp only [List.take_succ_cons, List.map_cons, List.flatten_cons, List.length_append]
   omega

set_option maxRecDepth 100000 in
set_option maxHeartbeats 800000 in
theorem op_rest (g : GOp) (o : Op) (w : World) (h : OpR w g o) (hk : o.kind = 2 ∨ o.kind = 3) (hv0 : 1 ≤ o.validator) (hv1 : o.validator ≤ 64) (he : o.evidence.length ≤ 2) (hm : o.evidence.all voteMay = true) :
  Calls Try.prog 167 #[.agg (opA g)] w fun e w' => ∃ v, e = .returned v ∧ Own w' w.heap.size v (opBytes o) ∧ Below w.heap.size w w' := by
 obtain ⟨i0, hi, hz0, hz1, hz2⟩ := info_parts info_u8
 have hE : opBytes o = UInt8.ofNat (g.kind % 256).toNat :: UInt8.ofNat (g.validator % 256).toNat :: (o.evidence.map vtBytes).flatten := by
  unfold opBytes
  rw [if_neg (by omega), h.1, h.2.2.2.1]
 have hkind : g.kind = 2 ∨ g.kind = 3 := by rw [h.1]; exact hk
 have hg0 : 1 ≤ g.validator := by rw [h.2.2.2.1]; exact hv0
 have hg1 : g.validator ≤ 64 := by rw [h.2.2.2.1]; exact hv1
 have n1 := h.2.2.2.2.1
 have hr := h.2.2.2.2
 obtain ⟨gk, gkey, gst, gv, ⟨ea, en, ec⟩⟩ := g
 simp only at n1 hkind hg0 hg1 hE
 subst n1
 have hw : IntKind.u8.wrap gk = gk := IntWalk.u8_in _ (by omega)
 have hw2 : IntKind.u8.wrap gv = gv := IntWalk.u8_in _ (by omega)
 have b1 : (gk == 1) = false := by simp; omega
 have hkb := byteV_int gk (by omega) (by omega)
 have hvb := byteV_int gv (by omega) (by omega)
 have HE := Lib.hid hE
 have Hr := Lib.hid hr
 have hk0 : 0 ≤ gk := by omega
 have hk1 : gk ≤ 3 := by omega
 generalize hA : opA ⟨gk, gkey, gst, gv, ⟨ea, o.evidence.length, ec⟩⟩ = A
 have hlit : Own ((w.alloc (.cells A 97)).alloc (.cells #[.int .u8 gk] 5)) w.heap.size (.slice (some ⟨w.heap.size + 1, 0, none⟩) 1 1) [UInt8.ofNat (gk % 256).toNat] := by
  have := Own.lit (w.alloc (.cells A 97)) w.heap.size [UInt8.ofNat (gk % 256).toNat] #[.int .u8 gk] 5 1 (by rw [List.map_cons, hkb]; rfl) rfl (by simp) (by simp [maxLen])
  simpa using this
 have hlit3 : Own (((w.alloc (.cells A 97)).alloc (.cells #[.int .u8 gk] 5)).alloc (.cells #[.int .u8 gv] 5)) w.heap.size (.slice (some ⟨w.heap.size + 1, 0, none⟩) 1 1) [UInt8.ofNat (gk % 256).toNat] := hlit.keep (bel_a _ _)
 have hone : BytesR (((w.alloc (.cells A 97)).alloc (.cells #[.int .u8 gk] 5)).alloc (.cells #[.int .u8 gv] 5)) ⟨some ⟨w.heap.size + 1 + 1, 0, none⟩, 1, 1⟩ [UInt8.ofNat (gv % 256).toNat] := by
  refine BytesR.one _ _ _ _ _ (by simp) hvb
 have hrow : row? (((w.alloc (.cells A 97)).alloc (.cells #[.int .u8 gk] 5)).alloc (.cells #[.int .u8 gv] 5)) w.heap.size 0 36 = some (opA ⟨gk, gkey, gst, gv, ⟨ea, o.evidence.length, ec⟩⟩) := by
  rw [row?_old _ _ _ _ _ (by simp; omega), row?_old _ _ _ _ _ (by simp), row?_new, ← hA]
  simp
 subst hA
 have H1 := Lib.hid hlit3
 have H2 := Lib.hid hone
 have H3 := Lib.hid hrow
 have Hm := Lib.hid hm
 clear hlit hlit3 hone hrow hm hE hr h hk hkb hvb hv0 hv1 hkind
 go_enter Try.func167, Try.ntmps167
 go_wp2_with (at_builtin; refine wpList_append_bytes _ rfl (.tmp 12) (.tmp 16) _ (by rfl) w.heap.size 5 i0 _ Try.underlying32 hi hz0 hz1 hz2 rfl _ _ rfl H1.out ⟨some ⟨w.heap.size + 1 + 1, 0, none⟩, 1, 1⟩ [UInt8.ofNat (gv % 256).toNat] rfl H2.out (by simp) (by simp; omega) ?_; intro v1 w1 o1 g1' e1; have g1 : World.grownBy _ w1 (some (w.heap.size + 1)) := g1'; clear g1'; (have hr1 : row? w1 w.heap.size 0 36 = some (opA ⟨gk, gkey, gst, gv, ⟨ea, o.evidence.length, ec⟩⟩) := row?_grown g1 H3.out (by intro h; injection h; omega)); (have hz1' : w.heap.size + 1 < w1.heap.size := by have := g1.size; simp at this; omega); (have hB1 : Below w.heap.size w w1 := bel_grown g1 (by (repeat' (first | (with_reducible first | exact Below.refl _ _ | assumption | refine bel_trans (by assumption) ?_ ?_ | refine bel_grown (by assumption) ?_ ?_ ?_ | refine Below.alloc ?_ ?_ _ | refine Below.drew ?_ | refine below_drewN ?_ _ | refine Below.setCell ?_ ?_ _ | refine below_put ?_ ?_ _ _ | exact Nat.le_refl _) | omega | (with_reducible first | refine Nat.le_trans ?_ (Below.size (by assumption)) | refine Nat.le_trans ?_ (World.grownBy.size (by assumption))) | (simp only [World.size_alloc, World.size_setCell, World.size_drew, size_drewN]; omega) | (simp only [World.size_alloc, World.size_setCell, World.size_drew, size_drewN, size_put]; omega) | (intro k hk; simp [Value.ownBlock] at hk; first | done | omega) | (simp [size_drewN] at *; omega)))) (by simp only [World.size_alloc]; omega) (by intro k hk; injection hk; omega)); obtain ⟨c0, c1, c2, c3⟩ := opA_cells hr1; clear e1 g1)
 go_loopw [3, 21] (fun u i w' => ∃ k : Nat, k ≤ o.evidence.length ∧ Own w' w.heap.size u ([UInt8.ofNat (gk % 256).toNat] ++ [UInt8.ofNat (gv % 256).toNat] ++ ((o.evidence.take k).map vtBytes).flatten) ∧ i = .int .i64 k ∧ Below w.heap.size w w') (fun _ i _ => o.evidence.length - (intOf i).toNat)
 case atStart => exact ⟨0, Nat.zero_le _, by simpa using o1, rfl, hB1⟩
 case round =>
  clear c0 c1 c2 c3 hr1
  obtain ⟨k, hk, hown, rfl, hB⟩ := hrel
  have hz := hB.size
  by_cases hkx : k < o.evidence.length
  ·obtain ⟨b, off, e, hbs, hc⟩ := (VotesR.keep' Hr.out hB).at (by omega)
   have e1 := congrArg Sl.a e
   simp only at e1
   subst e1
   clear e
   dsimp only [Sl.v]
   obtain ⟨cs, hcx, g1, rfl, hv1⟩ := hc k hkx
   clear hc
   have hvm := List.all_eq_true.1 Hm.out o.evidence[k] (List.getElem_mem _)
   have hfl : ((o.evidence.take (k + 1)).map vtBytes).flatten = ((o.evidence.take k).map vtBytes).flatten ++ vtBytes o.evidence[k] := by
    rw [List.take_succ_eq_append_getElem hkx, List.map_append, List.flatten_append, List.map_cons, List.map_nil, List.flatten_cons, List.flatten_nil, List.append_nil]
   have hlen := votes_len o.evidence k (by omega) Hm.out
   have hvl := vtBytes_length o.evidence[k]
   generalize o.evidence[k] = vk at *
   obtain ⟨m1, m2, m3, m4, m5⟩ := voteMay_out hvm
   have i0' : (0 : Int) ≤ (k : Int) := by omega
   have i1 : (k : Int) < (o.evidence.length : Int) := by omega
   have n1 : b ≠ wr.heap.size := by omega
   have hfit : ([UInt8.ofNat (gk % 256).toNat] ++ [UInt8.ofNat (gv % 256).toNat] ++ ((o.evidence.take k).map vtBytes).flatten).length + (vtBytes vk).length ≤ 140737488355328 := by
    simp only [List.length_append, List.length_cons, List.length_nil]
    omega
   have Hfl := Lib.hid hfl
   have Hv1 := Lib.hid hv1
   have Hown := Lib.hid hown
   generalize hpre : ((o.evidence.take k).map vtBytes).flatten = pre at *
   clear hpre hfl hv1 hlen hvm hvl hown m4 m5
   go_wp2_with fail
   (with_reducible refine (vote_c g1 vk _ (Hv1.out.keep' (by (repeat' (first | (with_reducible first | exact Below.refl _ _ | assumption | refine bel_trans (by assumption) ?_ ?_ | refine bel_grown (by assumption) ?_ ?_ ?_ | refine Below.alloc ?_ ?_ _ | refine Below.drew ?_ | refine below_drewN ?_ _ | refine Below.setCell ?_ ?_ _ | refine below_put ?_ ?_ _ _ | exact Nat.le_refl _) | omega | (with_reducible first | refine Nat.le_trans ?_ (Below.size (by assumption)) | refine Nat.le_trans ?_ (World.grownBy.size (by assumption))) | (simp only [World.size_alloc, World.size_setCell, World.size_drew, size_drewN]; omega) | (simp only [World.size_alloc, World.size_setCell, World.size_drew, size_drewN, size_put]; omega) | (intro k hk; simp [Value.ownBlock] at hk; first | done | omega) | (simp [size_drewN] at *; omega))))) m1 m2 m3).mono ?_)
   rintro e w2 ⟨x, rfl, o2, b2⟩
   obtain ⟨s2, rfl⟩ := o2.slice
   have hBx : Below wr.heap.size wr w2 := by (repeat' (first | (with_reducible first | exact Below.refl _ _ | assumption | refine bel_trans (by assumption) ?_ ?_ | refine bel_grown (by assumption) ?_ ?_ ?_ | refine Below.alloc ?_ ?_ _ | refine Below.drew ?_ | refine below_drewN ?_ _ | refine Below.setCell ?_ ?_ _ | refine below_put ?_ ?_ _ _ | exact Nat.le_refl _) | omega | (with_reducible first | refine Nat.le_trans ?_ (Below.size (by assumption)) | refine Nat.le_trans ?_ (World.grownBy.size (by assumption))) | (simp only [World.size_alloc, World.size_setCell, World.size_drew, size_drewN]; omega) | (simp only [World.size_alloc, World.size_setCell, World.size_drew, size_drewN, size_put]; omega) | (intro k hk; simp [Value.ownBlock] at hk; first | done | omega) | (simp [size_drewN] at *; omega)))
   have hown := Hown.out.keep hBx
   have hB2 : Below w.heap.size w w2 := by (repeat' (first | (with_reducible first | exact Below.refl _ _ | assumption | refine bel_trans (by assumption) ?_ ?_ | refine bel_grown (by assumption) ?_ ?_ ?_ | refine Below.alloc ?_ ?_ _ | refine Below.drew ?_ | refine below_drewN ?_ _ | refine Below.setCell ?_ ?_ _ | refine below_put ?_ ?_ _ _ | exact Nat.le_refl _) | omega | (with_reducible first | refine Nat.le_trans ?_ (Below.size (by assumption)) | refine Nat.le_trans ?_ (World.grownBy.size (by assumption))) | (simp only [World.size_alloc, World.size_setCell, World.size_drew, size_drewN]; omega) | (simp only [World.size_alloc, World.size_setCell, World.size_drew, size_drewN, size_put]; omega) | (intro k hk; simp [Value.ownBlock] at hk; first | done | omega) | (simp [size_drewN] at *; omega)))
   have hzB := hB2.size
   clear b2
   go_wp2_with (at_builtin; refine wpList_append_bytes _ rfl (.tmp 25) (.tmp 27) _ (by rfl) w.heap.size 5 i0 _ Try.underlying32 hi hz0 hz1 hz2 rfl _ _ rfl hown s2 (vtBytes vk) rfl o2.reads hfit hzB ?_; intro v3 w3 o3 g3 e3)
   have hB3 : Below w.heap.size w w3 := bel_grown g3 hB2 hzB (fun k hk => (hown.lt k hk).1)
   go_roundw
   case rel => exact ⟨k + 1, by omega, by rw [Hfl.out]; simpa using o3, by go_num, hB3⟩
   case measure => simp [intOf]; omega
  ·have hfl : (o.evidence.take k) = o.evidence := List.take_of_length_le (by omega)
   rw [hfl] at hown
   have Hown := Lib.hid hown
   clear hfl hown
   go_wp2_with fail
   go_ret
   exact ⟨_, rfl, by rw [HE.out]; exact Hown.out, by (repeat' (first | (with_reducible first | exact Below.refl _ _ | assumption | refine bel_trans (by assumption) ?_ ?_ | refine bel_grown (by assumption) ?_ ?_ ?_ | refine Below.alloc ?_ ?_ _ | refine Below.drew ?_ | refine below_drewN ?_ _ | refine Below.setCell ?_ ?_ _ | refine below_put ?_ ?_ _ _ | exact Nat.le_refl _) | omega | (with_reducible first | refine Nat.le_trans ?_ (Below.size (by assumption)) | refine Nat.le_trans ?_ (World.grownBy.size (by assumption))) | (simp only [World.size_alloc, World.size_setCell, World.size_drew, size_drewN]; omega) | (simp only [World.size_alloc, World.size_setCell, World.size_drew, size_drewN, size_put]; omega) | (intro k hk; simp [Value.ownBlock] at hk; first | done | omega) | (simp [size_drewN] at *; omega)))⟩
end Go.Proofs.Ythdjhbiigmcecaa

/- Contract: codec.MayHeader. -/
namespace Go.Proofs.Ythdjhbiigmcecaa
open Go.RowKit

/-- how long a header's lists are -/
def HdrFits (h : Hdr) : Prop := h.ops.length ≤ 9223372036854775807 ∧ ∀ o ∈ h.ops, OpFits o
def hdrGood (h : Hdr) : Bool := decide (1 ≤ h.epoch.toNat ∧ h.epoch.toNat ≤ 4611686018427387904) && decide (h.ops.length ≤ 16)
theorem hdrMay_eq (h : Hdr) : hdrMay h = (hdrGood h && h.ops.all opMay) := rfl
theorem all_take_succ {α : Type} (p : α → Bool) (l : List α) (k : Nat) (h : k < l.length) : (l.take (k + 1)).all p = ((l.take k).all p && p l[k]) := by
 rw [List.take_succ_eq_append_getElem h, List.all_append]
 simp
theorem all_false {α : Type} (p : α → Bool) (l : List α) (k : Nat) (h : k < l.length) (hp : p l[k] = false) : l.all p = false := by
 rw [List.all_eq_false]
 exact ⟨l[k], List.getElem_mem _, by simp [hp]⟩

set_option maxRecDepth 100000 in
set_option maxHeartbeats 1600000 in
theorem mayHeader_c (g : GHeader) (h : Hdr) (w : World) (hr : HdrR w g h) (hl : HdrFits h) :
  Calls Try.prog 93 #[.agg (headerA g)] w fun e w' => e = .returned (.bool (hdrMay h)) ∧ Below w.heap.size w w' := by
 have n1 := hr.2.2.1
 have hE := hr.2.1
 obtain ⟨gp, ge, ⟨oa, on, oc⟩⟩ := g
 simp only at n1 hE
 subst n1
 have HG : hdrGood h = (decide (1 ≤ ge.toNat ∧ ge.toNat ≤ 4611686018427387904) && decide (h.ops.length ≤ 16)) := by rw [hdrGood, hE]
 have HG := Lib.hid HG
 have Hr := Lib.hid hr.2.2
 have hk0 := hl.1
 have Hl := Lib.hid hl.2
 have HM := Lib.hid (hdrMay_eq h)
 clear hE hr hl
 go_enter Try.func93, Try.ntmps93
 go_wp2_with fail
 go_step3
 go_wp2_with fail
 all_goals go_step3
 all_goals go_wp2_with fail
 all_goals
  go_loopw [3, 23] (fun u i w' => ∃ (k : Nat) (b : Bool), k ≤ h.ops.length ∧ Hid (b = (hdrGood h && (h.ops.take k).all opMay)) ∧ u = .bool b ∧ i = .int .i64 k ∧ Below w.heap.size w w') (fun _ i _ => h.ops.length - (intOf i).toNat)
  case atStart => exact ⟨0, _, Nat.zero_le _, Lib.hid (by rw [HG.out, Bool.eq_iff_iff]; simp; omega), rfl, rfl, by (repeat' (first | (with_reducible first | exact Below.refl _ _ | assumption | refine bel_trans (by assumption) ?_ ?_ | refine bel_grown (by assumption) ?_ ?_ ?_ | refine Below.alloc ?_ ?_ _ | refine Below.drew ?_ | refine below_drewN ?_ _ | refine Below.setCell ?_ ?_ _ | refine below_put ?_ ?_ _ _ | exact Nat.le_refl _) | omega | (with_reducible first | refine Nat.le_trans ?_ (Below.size (by assumption)) | refine Nat.le_trans ?_ (World.grownBy.size (by assumption))) | (simp only [World.size_alloc, World.size_setCell, World.size_drew, size_drewN]; omega) | (simp only [World.size_alloc, World.size_setCell, World.size_drew, size_drewN, size_put]; omega) | (intro k hk; simp [Value.ownBlock] at hk; first | done | omega) | (simp [size_drewN] at *; omega)))⟩
  case round =>
   obtain ⟨k, b, hk, hb, rfl, rfl, hB⟩ := hrel
   by_cases hkx : k < h.ops.length
   ·obtain ⟨bl, off, e, hbs, hc⟩ := (OpsR.keep' Hr.out hB).at (by omega)
    have e1 := congrArg Sl.a e
    simp only at e1
    subst e1
    clear e
    dsimp only [Sl.v]
    obtain ⟨cs, hcx, g1, rfl, hv1⟩ := hc k hkx
    clear hc
    have hat := all_take_succ opMay h.ops k hkx
    have haf := all_false opMay h.ops k hkx
    have hfit := Hl.out h.ops[k] (List.getElem_mem _)
    generalize h.ops[k] = ok at *
    have Hat := Lib.hid hat
    have Haf := Lib.hid haf
    have Hfit := Lib.hid hfit
    have Hv1 := Lib.hid hv1
    clear hat haf hfit hv1
    have hz := hB.size
    have m1 : bl ≠ wr.heap.size := by omega
    have i0 : (0 : Int) ≤ (k : Int) := by omega
    have i1 : (k : Int) < (h.ops.length : Int) := by omega
    cases b
    ·have Hf := Lib.hid (show hdrMay h = false by
      have h1 := hb.out
      rw [HM.out]
      cases hg : hdrGood h
      ·rfl
      ·rw [hg, Bool.true_and] at h1
       rw [Bool.true_and, ← List.take_append_drop k h.ops, List.all_append, ← h1, Bool.false_and])
     go_wp2_with fail
     rw [Exit.noGoto_ret]
     go_ret
     exact ⟨ret_bool Hf.out.symm, by (repeat' (first | (with_reducible first | exact Below.refl _ _ | assumption | refine bel_trans (by assumption) ?_ ?_ | refine bel_grown (by assumption) ?_ ?_ ?_ | refine Below.alloc ?_ ?_ _ | refine Below.drew ?_ | refine below_drewN ?_ _ | refine Below.setCell ?_ ?_ _ | refine below_put ?_ ?_ _ _ | exact Nat.le_refl _) | omega | (with_reducible first | refine Nat.le_trans ?_ (Below.size (by assumption)) | refine Nat.le_trans ?_ (World.grownBy.size (by assumption))) | (simp only [World.size_alloc, World.size_setCell, World.size_drew, size_drewN]; omega) | (simp only [World.size_alloc, World.size_setCell, World.size_drew, size_drewN, size_put]; omega) | (intro k hk; simp [Value.ownBlock] at hk; first | done | omega) | (simp [size_drewN] at *; omega)))⟩
    ·go_wp2_with fail
     (with_reducible refine (mayOp_c g1 ok _ (OpR.keep' Hv1.out (by (repeat' (first | (with_reducible first | exact Below.refl _ _ | assumption | refine bel_trans (by assumption) ?_ ?_ | refine bel_grown (by assumption) ?_ ?_ ?_ | refine Below.alloc ?_ ?_ _ | refine Below.drew ?_ | refine below_drewN ?_ _ | refine Below.setCell ?_ ?_ _ | refine below_put ?_ ?_ _ _ | exact Nat.le_refl _) | omega | (with_reducible first | refine Nat.le_trans ?_ (Below.size (by assumption)) | refine Nat.le_trans ?_ (World.grownBy.size (by assumption))) | (simp only [World.size_alloc, World.size_setCell, World.size_drew, size_drewN]; omega) | (simp only [World.size_alloc, World.size_setCell, World.size_drew, size_drewN, size_put]; omega) | (intro k hk; simp [Value.ownBlock] at hk; first | done | omega) | (simp [size_drewN] at *; omega))))) Hfit.out).mono ?_)
     rintro e w1 ⟨rfl, hb1⟩
     have hB1 : Below w.heap.size w w1 := by (repeat' (first | (with_reducible first | exact Below.refl _ _ | assumption | refine bel_trans (by assumption) ?_ ?_ | refine bel_grown (by assumption) ?_ ?_ ?_ | refine Below.alloc ?_ ?_ _ | refine Below.drew ?_ | refine below_drewN ?_ _ | refine Below.setCell ?_ ?_ _ | refine below_put ?_ ?_ _ _ | exact Nat.le_refl _) | omega | (with_reducible first | refine Nat.le_trans ?_ (Below.size (by assumption)) | refine Nat.le_trans ?_ (World.grownBy.size (by assumption))) | (simp only [World.size_alloc, World.size_setCell, World.size_drew, size_drewN]; omega) | (simp only [World.size_alloc, World.size_setCell, World.size_drew, size_drewN, size_put]; omega) | (intro k hk; simp [Value.ownBlock] at hk; first | done | omega) | (simp [size_drewN] at *; omega)))
     cases hm : opMay ok
     ·have Hf := Lib.hid (show hdrMay h = false by
       rw [HM.out, Haf.out hm, Bool.and_false])
      clear hm
      go_wp2_with fail
      rw [Exit.noGoto_ret]
      go_ret
      exact ⟨ret_bool Hf.out.symm, hB1⟩
     ·have Hm := Lib.hid hm
      clear hm
      go_wp2_with fail
      go_roundw
      case rel => exact ⟨k + 1, true, by omega, Lib.hid (by rw [Hat.out, Hm.out, Bool.and_true]; exact hb.out), rfl, by go_num, hB1⟩
      case measure => simp [intOf]; omega
   ·have Hf := Lib.hid (show hdrMay h = b by
     rw [hb.out, HM.out, List.take_of_length_le (by omega)])
    go_wp2_with fail
    rw [Exit.noGoto_ret]
    go_ret
    exact ⟨ret_bool Hf.out.symm, by (repeat' (first | (with_reducible first | exact Below.refl _ _ | assumption | refine bel_trans (by assumption) ?_ ?_ | refine bel_grown (by assumption) ?_ ?_ ?_ | refine Below.alloc ?_ ?_ _ | refine Below.drew ?_ | refine below_drewN ?_ _ | refine Below.setCell ?_ ?_ _ | refine below_put ?_ ?_ _ _ | exact Nat.le_refl _) | omega | (with_reducible first | refine Nat.le_trans ?_ (Below.size (by assumption)) | refine Nat.le_trans ?_ (World.grownBy.size (by assumption))) | (simp only [World.size_alloc, World.size_setCell, World.size_drew, size_drewN]; omega) | (simp only [World.size_alloc, World.size_setCell, World.size_drew, size_drewN, size_put]; omega) | (intro k hk; simp [Value.ownBlock] at hk; first | done | omega) | (simp [size_drewN] at *; omega)))⟩
end Go.Proofs.Ythdjhbiigmcecaa

/- Contracts: codec.op, codec.header. -/
namespace Go.Proofs.Ythdjhbiigmcecaa
open Go.RowKit

theorem opMay_out {o : Op} (h : opMay o = true) : (o.kind = 1 ∨ ((o.kind = 2 ∨ o.kind = 3) ∧ 1 ≤ o.validator ∧ o.validator ≤ 64 ∧ o.evidence.length ≤ 2 ∧ o.evidence.all voteMay = true)) := by
 unfold opMay at h
 simp only [Bool.and_eq_true, decide_eq_true_eq] at h
 obtain ⟨hb, h⟩ := h
 by_cases e1 : o.kind = 1
 ·exact .inl e1
 ·rw [if_neg e1] at h
  by_cases e2 : o.kind = 2
  ·rw [if_pos e2] at h
   have hev : o.evidence = [] := by
    have := congrArg Op.evidence hb
    unfold bareO at this
    rw [if_neg e1, if_neg (by omega), if_pos e2] at this
    exact this
   simp only [mayMem, decide_eq_true_eq] at h
   exact .inr ⟨.inl e2, h.1, h.2, by rw [hev]; simp, by rw [hev]; rfl⟩
  ·rw [if_neg e2] at h
   by_cases e3 : o.kind = 3
   ·rw [if_pos e3] at h
    simp only [mayMem, Bool.and_eq_true, decide_eq_true_eq] at h
    exact .inr ⟨.inr e3, h.1.1.1, h.1.1.2, by omega, h.2⟩
   ·rw [if_neg e3] at h
    cases h
theorem op_c (g : GOp) (o : Op) (w : World) (h : OpR w g o) (hm : opMay o = true) :
  Calls Try.prog 167 #[.agg (opA g)] w fun e w' => ∃ v, e = .returned v ∧ Own w' w.heap.size v (opBytes o) ∧ Below w.heap.size w w' := by
 rcases opMay_out hm with h1 | ⟨h1, h2, h3, h4, h5⟩
 ·exact op_dep g o w h h1
 ·exact op_rest g o w h h1 h2 h3 h4 h5
theorem opBytes_length {o : Op} (hm : opMay o = true) : (opBytes o).length ≤ 10002 := by
 unfold opBytes
 rcases opMay_out hm with h1 | ⟨h1, h2, h3, h4, h5⟩
 ·rw [if_pos h1]
  simp [be_length, o.key.2]
 ·rw [if_neg (by omega)]
  have := votes_len o.evidence 2 (by omega) h5
  rw [List.take_of_length_le h4] at this
  simp only [List.length_cons]
  omega
theorem ops_len (l : List Op) (k : Nat) (hm : l.all opMay = true) : (((l.take k).map opBytes).flatten).length ≤ k * 10002 := by
 induction k generalizing l with
 | zero => simp
 | succ k ih =>
  cases l with
  | nil => simp
  | cons v l =>
   simp only [List.all_cons, Bool.and_eq_true] at hm
   have := ih l hm.2
   have h2 := opBytes_length hm.1
   simp only [List.take_succ_cons, List.map_cons, List.flatten_cons, List.length_append]
   omega

theorem headerA_cells {w : World} {b : Nat} {g : GHeader} (h : row? w b 0 34 = some (headerA g)) : w.cell? ⟨b, 32, none⟩ = some (.int .u64 (g.epoch.toNat : Int)) ∧ w.cell? ⟨b, 33, none⟩ = some g.ops.v := by
 have h0 := cell_of_row? h 32 (by omega)
 have h1 := cell_of_row? h 33 (by omega)
 simp only [Nat.zero_add, headerA_epoch, headerA_ops] at h0 h1
 exact ⟨h0, h1⟩
theorem parent_reads {w : World} {b : Nat} {g : GHeader} (h : row? w b 0 34 = some (headerA g)) : BytesR w ⟨some ⟨b, 0, none⟩, 32, 32⟩ g.parent.1 := by
 refine ⟨g.parent.2.symm, Nat.le_refl _, fun _ => ⟨b, 0, rfl, fun i hi => ?_⟩⟩
 have := g.parent.2
 rw [cell_of_row? h i (by omega)]
 have hk := congrArg (fun a => a[i]?) (headerA_parent g)
 simp only [Array.getElem?_extract] at hk
 rw [if_pos (by simp; omega), Nat.zero_add] at hk
 rw [hk]
 simp [hashA, hi]

/-- a slice of bytes of the call's own -/
def OwnB (base : Nat) (l : List UInt8) (v : Value) (w : World) : Prop := Own w base v l
def hdHead (h : Hdr) : List UInt8 := h.parent.1 ++ be 8 h.epoch.toNat ++ [UInt8.ofNat h.ops.length]
theorem hdBytes_eq (h : Hdr) : hdBytes h = hdHead h ++ (h.ops.map opBytes).flatten := rfl
theorem hdHead_length (h : Hdr) : (hdHead h).length = 41 := by simp [hdHead, be_length, h.parent.2]

set_option maxRecDepth 100000 in
set_option maxHeartbeats 1600000 in
theorem header_c (g : GHeader) (h : Hdr) (w : World) (hr : HdrR w g h) (hl : h.ops.length ≤ 16) (hm : h.ops.all opMay = true) :
  Calls Try.prog 96 #[.agg (headerA g)] w fun e w' => ∃ v, e = .returned v ∧ Own w' w.heap.size v (hdBytes h) ∧ Below w.heap.size w w' := by
 obtain ⟨i0, hi, hy0, hy1, hy2⟩ := info_parts info_u8
 have n1 := hr.2.2.1
 have e1 := hr.1
 have e2 := hr.2.1
 obtain ⟨gp, ge, ⟨oa, on, oc⟩⟩ := g
 simp only at n1 e1 e2
 subst n1 e1 e2
 have hw : IntKind.u8.wrap (h.ops.length : Int) = h.ops.length := IntWalk.u8_in _ (by omega)
 have hnb : byteV (UInt8.ofNat h.ops.length) = .int .u8 (h.ops.length : Int) := by
  rw [byteV_of, Nat.mod_eq_of_lt (by omega)]
 have Hnb := Lib.hid hnb
 have hn := h.epoch.toNat_lt
 have HC := fun W => number8 h.epoch.toNat W (by omega)
 have Hr := Lib.hid hr.2.2
 have Hm := Lib.hid hm
 have hrow : row? (w.alloc (.cells (headerA ⟨h.parent, h.epoch, ⟨oa, h.ops.length, oc⟩⟩) 49)) w.heap.size 0 34 = some (headerA ⟨h.parent, h.epoch, ⟨oa, h.ops.length, oc⟩⟩) := by
  rw [row?_new]
  simp
 have Hrow := Lib.hid hrow
 clear hr hm hn hnb hrow
 go_enter Try.func96, Try.ntmps96
 go_wp2_with fail
 obtain ⟨w1, hw1⟩ : ∃ w1, w1 = w.alloc (.cells (headerA ⟨h.parent, h.epoch, ⟨oa, h.ops.length, oc⟩⟩) 49) := ⟨_, rfl⟩
 have hb0 : Below w.heap.size w w1 := by rw [hw1]; exact bel_a _ _
 have hz0 : w.heap.size < w1.heap.size := by rw [hw1]; simp
 rw [← hw1] at Hrow ⊢
 clear hw1
 have hrow := Hrow.out
 obtain ⟨c1, c2⟩ := headerA_cells hrow
 have Hb0 := Lib.hid hb0
 clear hb0 hrow
 refine wp_region_free_l (fun W W' => Below W.heap.size W W') (by kernel_rfl) [6, 7, 8, 9, 10, 11, 12, 13, 14, 15, 16, 17, 3]
  [Is (.pointer (some ⟨w.heap.size, 0, none⟩)), Is (.slice (some ⟨w.heap.size, 0, none⟩) 32 32), Is (.pointer (some ⟨w.heap.size, 32, none⟩)), Is (.int .u64 (h.epoch.toNat : Int)), IsB (be 8 h.epoch.toNat),
   Is (.pointer (some ⟨w.heap.size, 33, none⟩)), Is (.slice oa h.ops.length oc), Is (.int .i64 (h.ops.length : Int)), Is (.int .u8 (h.ops.length : Int)), IsB [UInt8.ofNat h.ops.length],
   Pieces [h.parent.1, be 8 h.epoch.toNat, [UInt8.ofNat h.ops.length]], OwnB w.heap.size (hdHead h), OwnB w.heap.size (hdHead h)]
  (by kernel_rfl) (fun W W' h hb => hb.trans (h.mono hb.size)) ?_ ?_ ?_
 ·intro f hf
  simp only [List.mem_cons, List.not_mem_nil, or_false] at hf
  rcases hf with rfl | rfl | rfl | rfl | rfl | rfl | rfl | rfl | rfl | rfl | rfl | rfl | rfl <;> intro x W W' h hr <;>
  first
   | exact h
   | (obtain ⟨s, h1, h2⟩ := h; exact ⟨s, h1, h2.keep hr⟩)
   | (exact Own.keep h hr)
   | (obtain ⟨b, ss, h1, h2, h3, h4⟩ := h; exact ⟨b, ss, h1, h2, fun i hi => (hr.cell (p := ⟨b, i, none⟩) (lt_of_cell (h3 i hi))).trans (h3 i hi), fun i hi hj => (h4 i hi hj).keep hr⟩)
 ·refine ⟨?_, ?_, ?_, ?_, ?_, ?_, ?_, ?_, ?_, ?_, ?_, ?_, ?_, trivial⟩
  ·intro L a W hf hd
   have e1 : a.tmps[1]?.getD undef = .pointer (some ⟨w.heap.size, 0, none⟩) := hf.out 1 (by decide) rfl
   refine free_run (v := .pointer (some ⟨w.heap.size, 0, none⟩)) (W' := W) rfl ?_ rfl (Below.refl _ _)
   go_simp
  ·intro L a W hf hd
   simp [Region.binds] at hd
   have e1 : a.tmps[6]?.getD undef = .pointer (some ⟨w.heap.size, 0, none⟩) := slv (hf.got 0 (by decide) hd)
   refine free_run (v := .slice (some ⟨w.heap.size, 0, none⟩) 32 32) (W' := W) rfl ?_ rfl (Below.refl _ _)
   go_simp
  ·intro L a W hf hd
   have e1 : a.tmps[1]?.getD undef = .pointer (some ⟨w.heap.size, 0, none⟩) := hf.out 1 (by decide) rfl
   refine free_run (v := .pointer (some ⟨w.heap.size, 32, none⟩)) (W' := W) rfl ?_ rfl (Below.refl _ _)
   go_simp
  ·intro L a W hf hd
   simp [Region.binds] at hd
   have e1 : a.tmps[8]?.getD undef = .pointer (some ⟨w.heap.size, 32, none⟩) := slv (hf.got 2 (by decide) hd)
   have h1 := (hf.below.cell (p := ⟨w.heap.size, 32, none⟩) hz0).trans c1
   refine free_run (v := .int .u64 (h.epoch.toNat : Int)) (W' := W) rfl ?_ rfl (Below.refl _ _)
   go_simp
  ·intro L a W hf hd
   simp [Region.binds] at hd
   have e1 : a.tmps[9]?.getD undef = .int .u64 (h.epoch.toNat : Int) := slv (hf.got 3 (by decide) hd)
   refine free_call (f := 166) (args := #[.int .u64 (h.epoch.toNat : Int), .int .i64 8]) rfl (by go_simp) ?_
   refine (HC W).mono ?_
   rintro e w' ⟨x, rfl, ho, hb⟩
   obtain ⟨s, rfl⟩ := ho.slice
   exact ⟨_, rfl, ⟨s, rfl, ho.reads⟩, hb⟩
  ·intro L a W hf hd
   have e1 : a.tmps[1]?.getD undef = .pointer (some ⟨w.heap.size, 0, none⟩) := hf.out 1 (by decide) rfl
   refine free_run (v := .pointer (some ⟨w.heap.size, 33, none⟩)) (W' := W) rfl ?_ rfl (Below.refl _ _)
   go_simp
  ·intro L a W hf hd
   simp [Region.binds] at hd
   have e1 : a.tmps[11]?.getD undef = .pointer (some ⟨w.heap.size, 33, none⟩) := slv (hf.got 5 (by decide) hd)
   have h1 := (hf.below.cell (p := ⟨w.heap.size, 33, none⟩) hz0).trans c2
   refine free_run (v := .slice oa h.ops.length oc) (W' := W) rfl ?_ rfl (Below.refl _ _)
   go_simp
  ·intro L a W hf hd
   simp [Region.binds] at hd
   have e1 : a.tmps[12]?.getD undef = .slice oa h.ops.length oc := slv (hf.got 6 (by decide) hd)
   refine free_run (v := .int .i64 (h.ops.length : Int)) (W' := W) rfl ?_ rfl (Below.refl _ _)
   go_simp
  ·intro L a W hf hd
   simp [Region.binds] at hd
   have e1 : a.tmps[13]?.getD undef = .int .i64 (h.ops.length : Int) := slv (hf.got 7 (by decide) hd)
   refine free_run (v := .int .u8 (h.ops.length : Int)) (W' := W) rfl ?_ rfl (Below.refl _ _)
   go_simp
  ·intro L a W hf hd
   simp [Region.binds] at hd
   have e1 : a.tmps[14]?.getD undef = .int .u8 (h.ops.length : Int) := slv (hf.got 8 (by decide) hd)
   refine free_run (v := .slice (some ⟨W.heap.size, 0, none⟩) 1 1) (W' := W.alloc (.cells #[.int .u8 (h.ops.length : Int)] 5)) rfl ?_ ⟨⟨some ⟨W.heap.size, 0, none⟩, 1, 1⟩, rfl, BytesR.one _ _ _ _ _ rfl Hnb.out⟩ (bel_a _ _)
   go_simp
  ·intro L a W hf hd
   simp [Region.binds] at hd
   have e7' : a.tmps[7]?.getD undef = .slice (some ⟨w.heap.size, 0, none⟩) 32 32 := slv (hf.got 1 (by decide) hd.1)
   obtain ⟨s1, e10, r1⟩ : IsB _ (sl a 10) W := hf.got 4 (by decide) hd.2.1
   obtain ⟨s2, e15, r2⟩ : IsB _ (sl a 15) W := hf.got 9 (by decide) hd.2.2
   have e10' := slv e10
   have e15' := slv e15
   have r0 : BytesR W ⟨some ⟨w.heap.size, 0, none⟩, 32, 32⟩ h.parent.1 := parent_reads ((row?_below _ _ _ hf.below hz0).trans Hrow.out)
   have hb := bel_a W (.cells #[.slice (some ⟨w.heap.size, 0, none⟩) 32 32, s1.v, s2.v] 32)
   refine free_run (v := .slice (some ⟨W.heap.size, 0, none⟩) 3 3) (W' := W.alloc (.cells #[.slice (some ⟨w.heap.size, 0, none⟩) 32 32, s1.v, s2.v] 32)) rfl ?_ ⟨W.heap.size, [⟨some ⟨w.heap.size, 0, none⟩, 32, 32⟩, s1, s2], rfl, rfl, ?_, ?_⟩ hb
   ·clear hb
    go_simp
   ·intro i h
    have hi4 : i = 0 ∨ i = 1 ∨ i = 2 := by simp at h; omega
    rcases hi4 with rfl | rfl | rfl <;> simp
   ·intro i h h'
    have hi4 : i = 0 ∨ i = 1 ∨ i = 2 := by simp at h; omega
    rcases hi4 with rfl | rfl | rfl
    ·exact r0.keep hb
    ·exact r1.keep hb
    ·exact r2.keep hb
  ·intro L a W hf hd
   simp [Region.binds] at hd
   obtain ⟨b, ss, e19, hl, hc, hr⟩ : Pieces _ (sl a 16) W := hf.got 10 (by decide) hd.1
   have e19' := slv e19
   refine free_call (f := 165) (args := #[.slice (some ⟨b, 0, none⟩) 3 3]) rfl (by simp [execOp, Act.eval, e19', resolve, invoke, Deferred.ofValue]; try go_simp) ?_
   refine (concat_c b 3 ss [h.parent.1, be 8 h.epoch.toNat, [UInt8.ofNat h.ops.length]] W ⟨hl, hc, hr⟩ (by simp) (by simp [sumLen, be_length, h.parent.2]) (by simp [sumLen, be_length, h.parent.2])).mono ?_
   rintro e w' ⟨x, rfl, ho, hb⟩
   refine ⟨_, rfl, ?_, hb⟩
   have := ho.more (base' := w.heap.size) (by have := hf.below.size; omega)
   unfold OwnB hdHead
   simpa using this
  ·intro L a W hf hd
   simp [Region.binds] at hd
   have e20 : OwnB w.heap.size (hdHead h) (sl a 17) W := hf.got 11 (by decide) (by first | exact hd | exact hd.1)
   refine free_run (v := sl a 17) (W' := W) rfl ?_ e20 (Below.refl _ _)
   simp [execOp, Act.eval, sl]
 ·intro vs W hl' hF hb
  match vs, hl' with
  | [v0, v1, v2, v3, v4, v5, v6, v7, v8, v9, v10, v11, v12], _ =>
   have ho : Own W w.heap.size v12 (hdHead h) := hF 12 (by simp)
   have hrow := (row?_below _ _ _ hb hz0).trans Hrow.out
   have hB0 : Below w.heap.size w W := Hb0.out.trans (hb.mono (by omega))
   clear hF c1 c2
   obtain ⟨c1, c2⟩ := headerA_cells hrow
   clear hrow hb
   simp only [putL, List.zip_cons_cons, List.zip_nil_right, List.setIfInBounds_toArray, List.set_cons_succ, List.set_cons_zero]
   go_wp2_with fail
   clear c1 c2
   dsimp only [Sl.v]
   obtain ⟨W1, hW1⟩ : ∃ W1 : World, W1 = W := ⟨_, rfl⟩
   subst hW1
   go_loopw [3, 21] (fun u i w' => ∃ k : Nat, k ≤ h.ops.length ∧ Own w' w.heap.size u (hdHead h ++ ((h.ops.take k).map opBytes).flatten) ∧ i = .int .i64 k ∧ Below w.heap.size w w') (fun _ i _ => h.ops.length - (intOf i).toNat)
   case atStart => exact ⟨0, Nat.zero_le _, by simpa using ho, rfl, hB0⟩
   case round =>
    obtain ⟨k, hk, hown, rfl, hB⟩ := hrel
    have hz := hB.size
    by_cases hkx : k < h.ops.length
    ·obtain ⟨b, off, e, hbs, hc⟩ := (OpsR.keep' Hr.out hB).at (by omega)
     have e1 := congrArg Sl.a e
     simp only at e1
     subst e1
     clear e
     obtain ⟨cs, hcx, g1, rfl, hv1⟩ := hc k hkx
     clear hc
     have hvm := List.all_eq_true.1 Hm.out h.ops[k] (List.getElem_mem _)
     have hfl : ((h.ops.take (k + 1)).map opBytes).flatten = ((h.ops.take k).map opBytes).flatten ++ opBytes h.ops[k] := by
      rw [List.take_succ_eq_append_getElem hkx, List.map_append, List.flatten_append, List.map_cons, List.map_nil, List.flatten_cons, List.flatten_nil, List.append_nil]
     have hlen := ops_len h.ops k Hm.out
     have hvl := opBytes_length hvm
     have hhd := hdHead_length h
     generalize h.ops[k] = ok at *
     have i0' : (0 : Int) ≤ (k : Int) := by omega
     have i1 : (k : Int) < (h.ops.length : Int) := by omega
     have n1 : b ≠ wr.heap.size := by omega
     have hfit : (hdHead h ++ ((h.ops.take k).map opBytes).flatten).length + (opBytes ok).length ≤ 140737488355328 := by
      simp only [List.length_append]
      omega
     have Hfl := Lib.hid hfl
     have Hv1 := Lib.hid hv1
     have Hown := Lib.hid hown
     have Hvm := Lib.hid hvm
     generalize hpre : ((h.ops.take k).map opBytes).flatten = pre at *
     clear hpre hfl hv1 hlen hvm hvl hown hhd
     go_wp2_with fail
     (with_reducible refine (op_c g1 ok _ (OpR.keep' Hv1.out (by (repeat' (first | (with_reducible first | exact Below.refl _ _ | assumption | refine bel_trans (by assumption) ?_ ?_ | refine bel_grown (by assumption) ?_ ?_ ?_ | refine Below.alloc ?_ ?_ _ | refine Below.drew ?_ | refine below_drewN ?_ _ | refine Below.setCell ?_ ?_ _ | refine below_put ?_ ?_ _ _ | exact Nat.le_refl _) | omega | (with_reducible first | refine Nat.le_trans ?_ (Below.size (by assumption)) | refine Nat.le_trans ?_ (World.grownBy.size (by assumption))) | (simp only [World.size_alloc, World.size_setCell, World.size_drew, size_drewN]; omega) | (simp only [World.size_alloc, World.size_setCell, World.size_drew, size_drewN, size_put]; omega) | (intro k hk; simp [Value.ownBlock] at hk; first | done | omega) | (simp [size_drewN] at *; omega))))) Hvm.out).mono ?_)
     rintro e w2 ⟨x, rfl, o2, b2⟩
     obtain ⟨s2, rfl⟩ := o2.slice
     have hBx : Below wr.heap.size wr w2 := by (repeat' (first | (with_reducible first | exact Below.refl _ _ | assumption | refine bel_trans (by assumption) ?_ ?_ | refine bel_grown (by assumption) ?_ ?_ ?_ | refine Below.alloc ?_ ?_ _ | refine Below.drew ?_ | refine below_drewN ?_ _ | refine Below.setCell ?_ ?_ _ | refine below_put ?_ ?_ _ _ | exact Nat.le_refl _) | omega | (with_reducible first | refine Nat.le_trans ?_ (Below.size (by assumption)) | refine Nat.le_trans ?_ (World.grownBy.size (by assumption))) | (simp only [World.size_alloc, World.size_setCell, World.size_drew, size_drewN]; omega) | (simp only [World.size_alloc, World.size_setCell, World.size_drew, size_drewN, size_put]; omega) | (intro k hk; simp [Value.ownBlock] at hk; first | done | omega) | (simp [size_drewN] at *; omega)))
     have hown := Hown.out.keep hBx
     have hB2 : Below w.heap.size w w2 := by (repeat' (first | (with_reducible first | exact Below.refl _ _ | assumption | refine bel_trans (by assumption) ?_ ?_ | refine bel_grown (by assumption) ?_ ?_ ?_ | refine Below.alloc ?_ ?_ _ | refine Below.drew ?_ | refine below_drewN ?_ _ | refine Below.setCell ?_ ?_ _ | refine below_put ?_ ?_ _ _ | exact Nat.le_refl _) | omega | (with_reducible first | refine Nat.le_trans ?_ (Below.size (by assumption)) | refine Nat.le_trans ?_ (World.grownBy.size (by assumption))) | (simp only [World.size_alloc, World.size_setCell, World.size_drew, size_drewN]; omega) | (simp only [World.size_alloc, World.size_setCell, World.size_drew, size_drewN, size_put]; omega) | (intro k hk; simp [Value.ownBlock] at hk; first | done | omega) | (simp [size_drewN] at *; omega)))
     have hzB := hB2.size
     clear b2
     go_wp2_with (at_builtin; refine wpList_append_bytes _ rfl (.tmp 25) (.tmp 27) _ (by rfl) w.heap.size 5 i0 _ Try.underlying32 hi hy0 hy1 hy2 rfl _ _ rfl hown s2 (opBytes ok) rfl o2.reads hfit hzB ?_; intro v3 w3 o3 g3 e3)
     have hB3 : Below w.heap.size w w3 := bel_grown g3 hB2 hzB (fun k hk => (hown.lt k hk).1)
     go_roundw
     case rel => exact ⟨k + 1, by omega, by rw [Hfl.out]; simpa using o3, by go_num, hB3⟩
     case measure => simp [intOf]; omega
    ·have hfl : (h.ops.take k) = h.ops := List.take_of_length_le (by omega)
     rw [hfl] at hown
     have Hown := Lib.hid hown
     clear hfl hown
     go_wp2_with fail
     go_ret
     exact ⟨_, rfl, by rw [hdBytes_eq]; exact Hown.out, by (repeat' (first | (with_reducible first | exact Below.refl _ _ | assumption | refine bel_trans (by assumption) ?_ ?_ | refine bel_grown (by assumption) ?_ ?_ ?_ | refine Below.alloc ?_ ?_ _ | refine Below.drew ?_ | refine below_drewN ?_ _ | refine Below.setCell ?_ ?_ _ | refine below_put ?_ ?_ _ _ | exact Nat.le_refl _) | omega | (with_reducible first | refine Nat.le_trans ?_ (Below.size (by assumption)) | refine Nat.le_trans ?_ (World.grownBy.size (by assumption))) | (simp only [World.size_alloc, World.size_setCell, World.size_drew, size_drewN]; omega) | (simp only [World.size_alloc, World.size_setCell, World.size_drew, size_drewN, size_put]; omega) | (intro k hk; simp [Value.ownBlock] at hk; first | done | omega) | (simp [size_drewN] at *; omega)))⟩
end Go.Proofs.Ythdjhbiigmcecaa

/- Contracts of package landmarkref01: numbers. -/
namespace Go.Proofs.Ythdjhbiigmcecaa
open Go.RowKit

theorem pow_le7 (j : Nat) (h : j ≤ 7) : 256 ^ j ≤ 72057594037927936 := by
 have := Nat.pow_le_pow_right (show 0 < 256 by omega) h
 omega
theorem power_c (k : Nat) (w : World) (hk : k ≤ 7) : Calls Try.prog 198 #[.int .i64 k] w fun e w' => e = .returned (.int .u64 ((256 ^ k : Nat) : Int)) ∧ w' = w := by
 go_enter Try.func198, Try.ntmps198
 go_wp2_with fail
 go_loop [3, 4] (fun p i => ∃ j : Nat, j ≤ k ∧ p = .int .u64 ((256 ^ j : Nat) : Int) ∧ i = .int .i64 j) (fun _ i => k - (intOf i).toNat)
 case atStart => exact ⟨0, Nat.zero_le _, rfl, rfl⟩
 case round =>
  obtain ⟨j, hj, rfl, rfl⟩ := hrel
  have hle := pow_le7 j (by omega)
  have hs : 256 ^ (j + 1) = 256 ^ j * 256 := Nat.pow_succ ..
  have Hk := Lib.hid (show j = k → (256 ^ j : Nat) = 256 ^ k from fun h => by rw [h])
  by_cases hlt : j < k
  ·have hle2 : 256 ^ j * 256 ≤ 72057594037927936 := by rw [← hs]; exact pow_le7 (j + 1) (by omega)
   generalize 256 ^ j = p at *
   have Hs := Lib.hid hs
   clear hs
   go_wp2_with fail
   go_round
   case rel => exact ⟨j + 1, by omega, by rw [Hs.out]; go_num, by go_num⟩
   case measure => simp [intOf]; omega
  ·clear hs
   go_wp2_with fail
   go_ret
   obtain rfl : j = k := by omega
   exact ⟨by simp, rfl⟩
theorem power_i (i : Int) (w : World) (h0 : 0 ≤ i) (h7 : i ≤ 7) : Calls Try.prog 198 #[.int .i64 i] w fun e w' => e = .returned (.int .u64 ((256 ^ i.toNat : Nat) : Int)) ∧ w' = w := by
 obtain ⟨k, rfl⟩ := Int.eq_ofNat_of_zero_le h0
 exact power_c k w (by omega)

set_option maxRecDepth 100000 in
set_option maxHeartbeats 800000 in
theorem rput_c (size n : Nat) (w : World) (hs0 : 1 ≤ size) (hs : size ≤ 8) (hn : n < 18446744073709551616) :
  Calls Try.prog 152 #[.int .u64 n, .int .i64 size] w fun e w' => ∃ v, e = .returned v ∧ Own w' w.heap.size v (be size n) ∧ Below w.heap.size w w' := by
 obtain ⟨i0, hi, hy0, hy1, hy2⟩ := info_parts info_u8
 have hlen := be_length size n
 go_enter Try.func152, Try.ntmps152
 go_wp2_with fail
 go_loopw [5, 6] (fun u i w' => ∃ j : Nat, j ≤ size ∧ Own w' w.heap.size u ((be size n).take j) ∧ i = .int .i64 ((size : Int) - 1 - j) ∧ Below w.heap.size w w') (fun _ i _ => (intOf i + 1).toNat)
 case atStart => exact ⟨0, Nat.zero_le _, Own.nil _ _, by simp, Below.refl _ _⟩
 case round =>
  obtain ⟨j, hj, hown, rfl, hB⟩ := hrel
  have hz := hB.size
  by_cases hlt : j < size
  ·have hts := be_take_succ size n j hlt
   have hp7 := pow_le7 (size - 1 - j) (by omega)
   have hp0 : 0 < 256 ^ (size - 1 - j) := Nat.pow_pos (by omega)
   have hbv := byteV_div n (256 ^ (size - 1 - j))
   have HC := fun W => power_i ((size : Int) - 1 - j) W (by omega) (by omega)
   rw [show ((size : Int) - 1 - j).toNat = size - 1 - j by omega] at HC
   have htl : ((be size n).take j).length + 1 ≤ 140737488355328 := by simp; omega
   generalize 256 ^ (size - 1 - j) = p at *
   have hd0 : (0 : Int) ≤ (n : Int) / (p : Int) := Int.ediv_nonneg (by omega) (by omega)
   have hd1 : (n : Int) / (p : Int) ≤ n := Int.ediv_le_self _ (by omega)
   have hpp : (0 : Int) < (p : Int) := by omega
   have Hts := Lib.hid hts
   have Hbv := Lib.hid hbv
   have Hown := Lib.hid hown
   clear hts hbv hown
   go_wp2_with (first
    | (go_at_call 198; (with_reducible refine (HC _).mono ?_); rintro e w1 ⟨rfl, rfl⟩)
    | (at_builtin; refine wpList_append_bytes _ rfl (.tmp 13) (.tmp 20) _ (by rfl) w.heap.size 5 i0 _ Try.underlying32 hi hy0 hy1 hy2 rfl _ _ (by rfl) (Hown.out.keep (bel_a _ _)) ⟨some ⟨_, 0, none⟩, 1, 1⟩ [UInt8.ofNat (n / p)] (by rfl) (BytesR.one _ _ _ _ _ rfl Hbv.out) htl (by simp; omega) ?_; intro v' w2 hown2 hg2 _))
   have hB2 : Below w.heap.size w w2 := bel_grown hg2 (hB.trans ((bel_a _ _).mono hz)) (by simp; omega) (fun k hk => (Hown.out.lt k hk).1)
   go_roundw
   case rel => exact ⟨j + 1, by omega, by rw [Hts.out]; exact hown2, by go_num, hB2⟩
   case measure => simp [intOf]; omega
  ·have hfl : (be size n).take j = be size n := by rw [List.take_of_length_le (by omega)]
   rw [hfl] at hown
   clear hfl
   go_wp2_with fail
   go_ret
   exact ⟨_, rfl, hown, hB⟩
end Go.Proofs.Ythdjhbiigmcecaa

/- Contract of landmarkref01.Get. -/
namespace Go.Proofs.Ythdjhbiigmcecaa
open Go.RowKit

theorem numOf_snoc (l : List UInt8) (x : UInt8) : numOf (l ++ [x]) = numOf l * 256 + x.toNat := by
 simp [numOf, List.foldl_append]
theorem numOf_take_succ (l : List UInt8) (j : Nat) (h : j < l.length) : numOf (l.take (j + 1)) = numOf (l.take j) * 256 + l[j].toNat := by
 rw [List.take_succ_eq_append_getElem h, numOf_snoc]
theorem get_step (l : List UInt8) (j : Nat) (h : j < l.length) : numOf (l.take (j + 1)) * 256 ^ (l.length - (j + 1)) = numOf (l.take j) * 256 ^ (l.length - j) + l[j].toNat * 256 ^ (l.length - 1 - j) := by
 rw [numOf_take_succ l j h, show l.length - j = l.length - (j + 1) + 1 by omega, Nat.pow_succ, show l.length - 1 - j = l.length - (j + 1) by omega, Nat.add_mul]
 congr 1
 rw [Nat.mul_assoc, Nat.mul_comm 256]
theorem get_lt (l : List UInt8) (j : Nat) (h : j ≤ l.length) (h8 : l.length ≤ 8) : numOf (l.take j) * 256 ^ (l.length - j) < 18446744073709551616 := by
 have h1 := numOf_lt (l.take j)
 rw [List.length_take, Nat.min_eq_left h] at h1
 have h2 : 0 < 256 ^ (l.length - j) := Nat.pow_pos (by omega)
 have h3 := Nat.mul_lt_mul_of_pos_right h1 h2
 rw [← Nat.pow_add, show j + (l.length - j) = l.length by omega] at h3
 have h4 := Nat.pow_le_pow_right (show 0 < 256 by omega) h8
 omega

set_option maxRecDepth 100000 in
set_option maxHeartbeats 800000 in
theorem rget_c (s : Sl) (l : List UInt8) (w : World) (hs : BytesR w s l) (h8 : l.length ≤ 8) :
  Calls Try.prog 154 #[s.v] w fun e w' => e = .returned (.int .u64 (numOf l)) ∧ ∃ m, w' = w.drewN m := by
 obtain ⟨sa, sn, sc⟩ := s
 obtain rfl : sn = l.length := hs.1
 have Hs := Lib.hid hs
 clear hs
 show Calls Try.prog 154 #[.slice sa l.length sc] w _
 go_enter Try.func154, Try.ntmps154
 go_wp2_with fail
 go_loopw [3, 4] (fun p i w' => ∃ j : Nat, j ≤ l.length ∧ p = .int .u64 ((numOf (l.take j) * 256 ^ (l.length - j) : Nat) : Int) ∧ i = .int .i64 j ∧ ∃ m, w' = w.drewN m) (fun _ i _ => l.length - (intOf i).toNat)
 case atStart => exact ⟨0, Nat.zero_le _, by simp [numOf], rfl, 0, rfl⟩
 case round =>
  obtain ⟨j, hj, rfl, rfl, m, rfl⟩ := hrel
  by_cases hlt : j < l.length
  ·obtain ⟨b, off, ha, hc⟩ := Hs.out.2.2 (by intro e; subst e; simp at hlt)
   simp only at ha
   subst ha
   obtain ⟨W, hW⟩ : ∃ W, W = w.drewN m := ⟨_, rfl⟩
   have hcj : ∀ n, (W.drewN n).cell? ⟨b, off + j, none⟩ = some (.int .u8 (l[j].toNat : Int)) := fun n => by rw [hW]; exact hc j hlt
   rw [← hW]
   have HW := Lib.hid hW
   clear hW
   have hst := get_step l j hlt
   have hg0 := get_lt l j (by omega) h8
   have hg1 := get_lt l (j + 1) hlt h8
   have hp7 := pow_le7 (l.length - 1 - j) (by omega)
   have hp0 : 0 < 256 ^ (l.length - 1 - j) := Nat.pow_pos (by omega)
   have hx := l[j].toNat_lt
   have HC := fun W => power_i ((l.length : Int) - 1 - j) W (by omega) (by omega)
   rw [show ((l.length : Int) - 1 - j).toNat = l.length - 1 - j by omega] at HC
   have hi0 : (0 : Int) ≤ (j : Int) := by omega
   have hi1 : (j : Int) < (l.length : Int) := by omega
   generalize hy : l[j].toNat = y at *
   generalize hn1 : numOf (l.take (j + 1)) * 256 ^ (l.length - (j + 1)) = n1 at *
   generalize hn0 : numOf (l.take j) * 256 ^ (l.length - j) = n0 at *
   generalize 256 ^ (l.length - 1 - j) = p at *
   have hyp : y * p < 18446744073709551616 := by omega
   have Hn := Lib.hid hn1
   clear hn1 hn0 hy hc
   go_wp2_with fail
   go_quiet ((go_at_call 198; exact Calls.quiet_of_same (HC _)))
   go_wp2_with fail
   go_roundw
   case rel => exact ⟨j + 1, by omega, by rw [Hn.out]; go_num, by go_num, _, by rw [HW.out, World.drewN_drewN]⟩
   case measure => simp [intOf]; omega
  ·obtain rfl : j = l.length := by omega
   go_wp2_with fail
   go_ret
   exact ⟨by simp, m, rfl⟩
end Go.Proofs.Ythdjhbiigmcecaa
