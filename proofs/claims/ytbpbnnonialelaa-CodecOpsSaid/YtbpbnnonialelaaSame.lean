/- Contracts: codec.SameVote, slices.EqualFunc at votes. -/
import Derived.Test.YtbpbnnonialelaaData
import Derived.Test.YtbpbnnonialelaaSlices
import Derived.Test.YtbpbnnonialelaaEq
import Derived.Test.YtbpbnnonialelaaStores
import Derived.Deep.QuietTactic
import Derived.BigQuiet
namespace Go.Proofs.Ytbpbnnonialelaa
open Go.RowKit

theorem vote_eq (a b : Vote) : decide (a = b) = (decide (a.validator = b.validator) && decide (a.source = b.source) && decide (a.target = b.target) && decide (a.sig = b.sig)) := by
  rw [Bool.eq_iff_iff]
  cases a; cases b
  simp [and_assoc]

theorem eq_point_guard : Try.prog.eqGuardType Try.prog.depth 29 = false := by kernel_rfl
theorem eq_hash_guard : Try.prog.eqGuardType Try.prog.depth 27 = false := by kernel_rfl

set_option maxRecDepth 100000 in
set_option maxHeartbeats 800000 in
theorem sameVote_c (g1 g2 : GVote) (v1 v2 : Vote) (w : World) (h1 : VoteR w g1 v1) (h2 : VoteR w g2 v2) (hl : v1.sig.length ≤ 9223372036854775807) :
    Calls Try.prog 38 #[.agg (voteA g1), .agg (voteA g2)] w fun e w' => e = .returned (.bool (decide (v1 = v2))) ∧ Below w.heap.size w w' := by
  have hg := eq_point_guard
  have hE : decide (v1 = v2) = ((g1.validator == g2.validator) && decide (g1.source = g2.source) && decide (g1.target = g2.target) && decide (v1.sig = v2.sig)) := by
    rw [vote_eq, ← h1.1, ← h1.2.1, ← h1.2.2.1, ← h2.1, ← h2.2.1, ← h2.2.2.1]
    congr 3
  have HE := Lib.hid hE
  have H1 := Lib.hid h1.2.2.2
  have H2 := Lib.hid h2.2.2.2
  clear hE h1 h2
  go_enter Try.func38, Try.ntmps38
  go_wp2_with (go_at_call 63; (with_reducible refine (sequal_c g1.sig g2.sig v1.sig v2.sig _ (H1.out.keep (by (repeat' (first | (with_reducible exact Below.refl _ _) | (with_reducible assumption) | (with_reducible refine bel_trans (by assumption) ?_ ?_) | (with_reducible refine bel_grown (by assumption) ?_ ?_ ?_) | (with_reducible refine Below.alloc ?_ ?_ _) | (with_reducible refine Below.drew ?_) | (with_reducible refine below_drewN ?_ _) | (with_reducible refine Below.setCell ?_ ?_ _) | (with_reducible refine below_put ?_ ?_ _ _) | (with_reducible exact Nat.le_refl _) | omega | (with_reducible refine Nat.le_trans ?_ (Below.size (by assumption))) | (with_reducible refine Nat.le_trans ?_ (World.grownBy.size (by assumption))) | (simp only [World.size_alloc, World.size_setCell, World.size_drew, size_drewN]; omega) | (simp only [World.size_alloc, World.size_setCell, World.size_drew, size_drewN, size_put]; omega) | (intro k hk; simp [Value.ownBlock] at hk; done) | (intro k hk; simp [Value.ownBlock] at hk; omega) | (simp [size_drewN] at *; omega))))) (H2.out.keep (by (repeat' (first | (with_reducible exact Below.refl _ _) | (with_reducible assumption) | (with_reducible refine bel_trans (by assumption) ?_ ?_) | (with_reducible refine bel_grown (by assumption) ?_ ?_ ?_) | (with_reducible refine Below.alloc ?_ ?_ _) | (with_reducible refine Below.drew ?_) | (with_reducible refine below_drewN ?_ _) | (with_reducible refine Below.setCell ?_ ?_ _) | (with_reducible refine below_put ?_ ?_ _ _) | (with_reducible exact Nat.le_refl _) | omega | (with_reducible refine Nat.le_trans ?_ (Below.size (by assumption))) | (with_reducible refine Nat.le_trans ?_ (World.grownBy.size (by assumption))) | (simp only [World.size_alloc, World.size_setCell, World.size_drew, size_drewN]; omega) | (simp only [World.size_alloc, World.size_setCell, World.size_drew, size_drewN, size_put]; omega) | (intro k hk; simp [Value.ownBlock] at hk; done) | (intro k hk; simp [Value.ownBlock] at hk; omega) | (simp [size_drewN] at *; omega))))) hl).mono ?_); rintro e w1 ⟨rfl, n, rfl⟩)
  all_goals go_ret
  all_goals exact ⟨ret_bool (by rw [HE.out]; simp [*]), by (repeat' (first | (with_reducible exact Below.refl _ _) | (with_reducible assumption) | (with_reducible refine bel_trans (by assumption) ?_ ?_) | (with_reducible refine bel_grown (by assumption) ?_ ?_ ?_) | (with_reducible refine Below.alloc ?_ ?_ _) | (with_reducible refine Below.drew ?_) | (with_reducible refine below_drewN ?_ _) | (with_reducible refine Below.setCell ?_ ?_ _) | (with_reducible refine below_put ?_ ?_ _ _) | (with_reducible exact Nat.le_refl _) | omega | (with_reducible refine Nat.le_trans ?_ (Below.size (by assumption))) | (with_reducible refine Nat.le_trans ?_ (World.grownBy.size (by assumption))) | (simp only [World.size_alloc, World.size_setCell, World.size_drew, size_drewN]; omega) | (simp only [World.size_alloc, World.size_setCell, World.size_drew, size_drewN, size_put]; omega) | (intro k hk; simp [Value.ownBlock] at hk; done) | (intro k hk; simp [Value.ownBlock] at hk; omega) | (simp [size_drewN] at *; omega)))⟩

theorem take_succ_eqA {α : Type} (x y : List α) (k : Nat) (hx : k < x.length) (hy : k < y.length) (h : x.take k = y.take k) (he : x[k] = y[k]) : x.take (k + 1) = y.take (k + 1) := by
  rw [List.take_succ_eq_append_getElem hx, List.take_succ_eq_append_getElem hy, h, he]
theorem ne_of_atA {α : Type} (x y : List α) (k : Nat) (hx : k < x.length) (hy : k < y.length) (he : x[k] ≠ y[k]) : x ≠ y := by
  intro h
  subst h
  exact he rfl
theorem dec_true {p : Prop} [Decidable p] (h : p) : decide p = true := decide_eq_true h
theorem dec_false {p : Prop} [Decidable p] (h : ¬p) : decide p = false := decide_eq_false h

set_option maxRecDepth 100000 in
set_option maxHeartbeats 800000 in
theorem eqVotes_c (s t : Sl) (x y : List Vote) (w : World) (hs : VotesR w s x) (ht : VotesR w t y) (hx : x.length ≤ 9223372036854775807) (hl : ∀ v ∈ x, v.sig.length ≤ 9223372036854775807) :
    Calls Try.prog 56 #[s.v, t.v, .func (.func 38) #[] #[]] w fun e w' => e = .returned (.bool (decide (x = y))) ∧ Below w.heap.size w w' := by
  have hs1 := hs.1
  have ht1 := ht.1
  obtain ⟨sa, sn, sc⟩ := s
  obtain ⟨ta, tn, tc⟩ := t
  simp only at hs1 ht1
  subst hs1
  subst ht1
  have Hs := Lib.hid hs
  have Ht := Lib.hid ht
  have Hl := Lib.hid hl
  clear hs ht hl
  change Calls Try.prog _ #[.slice sa x.length sc, .slice ta y.length tc, _] w _
  by_cases hlen : x.length = y.length
  · have hl1 : (x.length : Int) = y.length := by omega
    have hb : ((x.length : Int) != (y.length : Int)) = false := by simp [hl1]
    have Hlen := Lib.hid hlen
    clear hlen hl1
    go_enter Try.func56, Try.ntmps56
    go_wp2_with fail
    go_loopw [17] (fun i w' => ∃ k : Nat, k ≤ x.length ∧ x.take k = y.take k ∧ i = .int .i64 k ∧ Below w.heap.size w w') (fun i _ => x.length - (intOf i).toNat)
    case atStart => exact ⟨0, Nat.zero_le _, by simp, rfl, Below.refl _ _⟩
    case round =>
      obtain ⟨k, hk, hl, rfl, hB⟩ := hrel
      have Htk := Lib.hid hl
      clear hl
      by_cases hkx : k < x.length
      · have hyk : k < y.length := by have := Hlen.out; omega
        obtain ⟨b, off, e, hbs, hc⟩ := (VotesR.keep' Hs.out hB).at (by omega)
        have e1 := congrArg Sl.a e
        simp only at e1
        subst e1
        clear e
        obtain ⟨cs, hcx, g1, rfl, hv1⟩ := hc k hkx
        clear hc
        obtain ⟨b2, off2, e, hbs2, hc⟩ := (VotesR.keep' Ht.out hB).at (by omega)
        have e1 := congrArg Sl.a e
        simp only at e1
        subst e1
        clear e
        obtain ⟨cs, hcy, g2, rfl, hv2⟩ := hc k hyk
        clear hc
        have i0 : (0 : Int) ≤ (k : Int) := by omega
        have i1 : (k : Int) < (x.length : Int) := by omega
        have i2 : (k : Int) < (y.length : Int) := by omega
        have hlk := Hl.out x[k] (List.getElem_mem _)
        have hne := ne_of_atA x y k hkx hyk
        have htk := take_succ_eqA x y k hkx hyk Htk.out
        have hz := hB.size
        have n1 : b ≠ wr.heap.size := by omega
        have n2 : b2 ≠ wr.heap.size := by omega
        have n3 : b2 ≠ wr.heap.size + 1 := by omega
        generalize hxk : x[k] = xk at *
        generalize hyk' : y[k] = yk at *
        have Hne := Lib.hid hne
        have Htk := Lib.hid htk
        have Hlk := Lib.hid hlk
        have H1 := Lib.hid hv1
        have H2 := Lib.hid hv2
        clear hxk hyk' hne htk hlk hv1 hv2
        go_wp2_with fail
        (with_reducible refine (sameVote_c g1 g2 xk yk _ (H1.out.keep' (by (repeat' (first | (with_reducible exact Below.refl _ _) | (with_reducible assumption) | (with_reducible refine bel_trans (by assumption) ?_ ?_) | (with_reducible refine bel_grown (by assumption) ?_ ?_ ?_) | (with_reducible refine Below.alloc ?_ ?_ _) | (with_reducible refine Below.drew ?_) | (with_reducible refine below_drewN ?_ _) | (with_reducible refine Below.setCell ?_ ?_ _) | (with_reducible refine below_put ?_ ?_ _ _) | (with_reducible exact Nat.le_refl _) | omega | (with_reducible refine Nat.le_trans ?_ (Below.size (by assumption))) | (with_reducible refine Nat.le_trans ?_ (World.grownBy.size (by assumption))) | (simp only [World.size_alloc, World.size_setCell, World.size_drew, size_drewN]; omega) | (simp only [World.size_alloc, World.size_setCell, World.size_drew, size_drewN, size_put]; omega) | (intro k hk; simp [Value.ownBlock] at hk; done) | (intro k hk; simp [Value.ownBlock] at hk; omega) | (simp [size_drewN] at *; omega))))) (H2.out.keep' (by (repeat' (first | (with_reducible exact Below.refl _ _) | (with_reducible assumption) | (with_reducible refine bel_trans (by assumption) ?_ ?_) | (with_reducible refine bel_grown (by assumption) ?_ ?_ ?_) | (with_reducible refine Below.alloc ?_ ?_ _) | (with_reducible refine Below.drew ?_) | (with_reducible refine below_drewN ?_ _) | (with_reducible refine Below.setCell ?_ ?_ _) | (with_reducible refine below_put ?_ ?_ _ _) | (with_reducible exact Nat.le_refl _) | omega | (with_reducible refine Nat.le_trans ?_ (Below.size (by assumption))) | (with_reducible refine Nat.le_trans ?_ (World.grownBy.size (by assumption))) | (simp only [World.size_alloc, World.size_setCell, World.size_drew, size_drewN]; omega) | (simp only [World.size_alloc, World.size_setCell, World.size_drew, size_drewN, size_put]; omega) | (intro k hk; simp [Value.ownBlock] at hk; done) | (intro k hk; simp [Value.ownBlock] at hk; omega) | (simp [size_drewN] at *; omega))))) Hlk.out).mono ?_)
        rintro e w1 ⟨rfl, hb1⟩
        by_cases hz : xk = yk
        · have hd := dec_true hz
          have Hz := Lib.hid hz
          clear hz
          have hB1 : Below w.heap.size w w1 := by (repeat' (first | (with_reducible exact Below.refl _ _) | (with_reducible assumption) | (with_reducible refine bel_trans (by assumption) ?_ ?_) | (with_reducible refine bel_grown (by assumption) ?_ ?_ ?_) | (with_reducible refine Below.alloc ?_ ?_ _) | (with_reducible refine Below.drew ?_) | (with_reducible refine below_drewN ?_ _) | (with_reducible refine Below.setCell ?_ ?_ _) | (with_reducible refine below_put ?_ ?_ _ _) | (with_reducible exact Nat.le_refl _) | omega | (with_reducible refine Nat.le_trans ?_ (Below.size (by assumption))) | (with_reducible refine Nat.le_trans ?_ (World.grownBy.size (by assumption))) | (simp only [World.size_alloc, World.size_setCell, World.size_drew, size_drewN]; omega) | (simp only [World.size_alloc, World.size_setCell, World.size_drew, size_drewN, size_put]; omega) | (intro k hk; simp [Value.ownBlock] at hk; done) | (intro k hk; simp [Value.ownBlock] at hk; omega) | (simp [size_drewN] at *; omega)))
          go_wp2_with fail
          go_roundw
          case rel => exact ⟨k + 1, by omega, Htk.out Hz.out, by go_num, hB1⟩
          case measure => simp [intOf]; omega
        · have hd := dec_false hz
          have Hd := Lib.hid (dec_false (Hne.out hz))
          clear hz
          have hB1 : Below w.heap.size w w1 := by (repeat' (first | (with_reducible exact Below.refl _ _) | (with_reducible assumption) | (with_reducible refine bel_trans (by assumption) ?_ ?_) | (with_reducible refine bel_grown (by assumption) ?_ ?_ ?_) | (with_reducible refine Below.alloc ?_ ?_ _) | (with_reducible refine Below.drew ?_) | (with_reducible refine below_drewN ?_ _) | (with_reducible refine Below.setCell ?_ ?_ _) | (with_reducible refine below_put ?_ ?_ _ _) | (with_reducible exact Nat.le_refl _) | omega | (with_reducible refine Nat.le_trans ?_ (Below.size (by assumption))) | (with_reducible refine Nat.le_trans ?_ (World.grownBy.size (by assumption))) | (simp only [World.size_alloc, World.size_setCell, World.size_drew, size_drewN]; omega) | (simp only [World.size_alloc, World.size_setCell, World.size_drew, size_drewN, size_put]; omega) | (intro k hk; simp [Value.ownBlock] at hk; done) | (intro k hk; simp [Value.ownBlock] at hk; omega) | (simp [size_drewN] at *; omega)))
          go_wp2_with fail
          go_ret
          exact ⟨ret_bool Hd.out.symm, hB1⟩
      · have hd : decide (x = y) = true := decide_eq_true (by
          have h1 := Htk.out
          have h2 := Hlen.out
          rw [List.take_of_length_le (by omega), List.take_of_length_le (by omega)] at h1
          exact h1)
        have Hd := Lib.hid hd
        clear hd
        go_wp2_with fail
        go_ret
        exact ⟨ret_bool Hd.out.symm, hB⟩
  · have hb : ((x.length : Int) != (y.length : Int)) = true := by simp; omega
    have hd : decide (x = y) = false := decide_eq_false (fun h => hlen (by rw [h]))
    rw [hd]
    clear hlen hd
    go_enter Try.func56, Try.ntmps56
    go_wp2_with fail
    go_ret
    exact ⟨rfl, Below.refl _ _⟩
end Go.Proofs.Ytbpbnnonialelaa
