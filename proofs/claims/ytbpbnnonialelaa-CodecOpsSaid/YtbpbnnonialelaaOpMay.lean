/- Contracts: codec.sameOp, MayOp, MayHeader. -/
import Derived.Test.YtbpbnnonialelaaOps
import Derived.Test.YtbpbnnonialelaaSame
import Derived.Deep.RegionHeld3
namespace Go.Proofs.Ytbpbnnonialelaa
open Go.RowKit

theorem op_eq (a b : Op) : decide (a = b) = (decide (a.kind = b.kind) && decide (a.key = b.key) && decide (a.stake = b.stake) && decide (a.validator = b.validator) && decide (a.evidence = b.evidence)) := by
  rw [Bool.eq_iff_iff]
  cases a; cases b
  simp [and_assoc]
theorem stake_eq (a b : UInt64) : ((a.toNat : Int) == (b.toNat : Int)) = decide (a = b) := by
  rw [Bool.eq_iff_iff]
  simp only [beq_iff_eq, decide_eq_true_eq]
  exact ⟨fun h => UInt64.toNat_inj.1 (by omega), fun h => by rw [h]⟩
theorem int_eq (a b : Int) : (a == b) = decide (a = b) := by rw [Bool.eq_iff_iff]; simp

/-- how long an operation's lists are -/
def OpFits (o : Op) : Prop := o.evidence.length ≤ 9223372036854775807 ∧ ∀ v ∈ o.evidence, v.sig.length ≤ 9223372036854775807

set_option maxRecDepth 100000 in
set_option maxHeartbeats 800000 in
theorem sameOp_c (g1 g2 : GOp) (v1 v2 : Op) (w : World) (h1 : OpR w g1 v1) (h2 : OpR w g2 v2) (hl : OpFits v1) :
    Calls Try.prog 101 #[.agg (opA g1), .agg (opA g2)] w fun e w' => e = .returned (.bool (decide (v1 = v2))) ∧ Below w.heap.size w w' := by
  have hg := eq_hash_guard
  have hE : decide (v1 = v2) = ((g1.kind == g2.kind) && decide (g1.key = g2.key) && ((g1.stake.toNat : Int) == (g2.stake.toNat : Int)) && (g1.validator == g2.validator) && decide (v1.evidence = v2.evidence)) := by
    rw [op_eq, ← h1.1, ← h1.2.1, ← h1.2.2.1, ← h1.2.2.2.1, ← h2.1, ← h2.2.1, ← h2.2.2.1, ← h2.2.2.2.1, stake_eq, int_eq, int_eq]
  have HE := Lib.hid hE
  have H1 := Lib.hid h1.2.2.2.2
  have H2 := Lib.hid h2.2.2.2.2
  have hl1 := hl.1
  have Hl := Lib.hid hl.2
  clear hE h1 h2 hl
  go_enter Try.func101, Try.ntmps101
  go_wp2_with (go_at_call 56; (with_reducible refine (eqVotes_c g1.evidence g2.evidence v1.evidence v2.evidence _ (VotesR.keep' H1.out (by (repeat' (first | (with_reducible exact Below.refl _ _) | (with_reducible assumption) | (with_reducible refine bel_trans (by assumption) ?_ ?_) | (with_reducible refine bel_grown (by assumption) ?_ ?_ ?_) | (with_reducible refine Below.alloc ?_ ?_ _) | (with_reducible refine Below.drew ?_) | (with_reducible refine below_drewN ?_ _) | (with_reducible refine Below.setCell ?_ ?_ _) | (with_reducible refine below_put ?_ ?_ _ _) | (with_reducible exact Nat.le_refl _) | omega | (with_reducible refine Nat.le_trans ?_ (Below.size (by assumption))) | (with_reducible refine Nat.le_trans ?_ (World.grownBy.size (by assumption))) | (simp only [World.size_alloc, World.size_setCell, World.size_drew, size_drewN]; omega) | (simp only [World.size_alloc, World.size_setCell, World.size_drew, size_drewN, size_put]; omega) | (intro k hk; simp [Value.ownBlock] at hk; done) | (intro k hk; simp [Value.ownBlock] at hk; omega) | (simp [size_drewN] at *; omega))))) (VotesR.keep' H2.out (by (repeat' (first | (with_reducible exact Below.refl _ _) | (with_reducible assumption) | (with_reducible refine bel_trans (by assumption) ?_ ?_) | (with_reducible refine bel_grown (by assumption) ?_ ?_ ?_) | (with_reducible refine Below.alloc ?_ ?_ _) | (with_reducible refine Below.drew ?_) | (with_reducible refine below_drewN ?_ _) | (with_reducible refine Below.setCell ?_ ?_ _) | (with_reducible refine below_put ?_ ?_ _ _) | (with_reducible exact Nat.le_refl _) | omega | (with_reducible refine Nat.le_trans ?_ (Below.size (by assumption))) | (with_reducible refine Nat.le_trans ?_ (World.grownBy.size (by assumption))) | (simp only [World.size_alloc, World.size_setCell, World.size_drew, size_drewN]; omega) | (simp only [World.size_alloc, World.size_setCell, World.size_drew, size_drewN, size_put]; omega) | (intro k hk; simp [Value.ownBlock] at hk; done) | (intro k hk; simp [Value.ownBlock] at hk; omega) | (simp [size_drewN] at *; omega))))) hl1 Hl.out).mono ?_); rintro e w1 ⟨rfl, hb1⟩)
  all_goals go_ret
  all_goals exact ⟨ret_bool (by rw [HE.out]; simp [*]), by (repeat' (first | (with_reducible exact Below.refl _ _) | (with_reducible assumption) | (with_reducible refine bel_trans (by assumption) ?_ ?_) | (with_reducible refine bel_grown (by assumption) ?_ ?_ ?_) | (with_reducible refine Below.alloc ?_ ?_ _) | (with_reducible refine Below.drew ?_) | (with_reducible refine below_drewN ?_ _) | (with_reducible refine Below.setCell ?_ ?_ _) | (with_reducible refine below_put ?_ ?_ _ _) | (with_reducible exact Nat.le_refl _) | omega | (with_reducible refine Nat.le_trans ?_ (Below.size (by assumption))) | (with_reducible refine Nat.le_trans ?_ (World.grownBy.size (by assumption))) | (simp only [World.size_alloc, World.size_setCell, World.size_drew, size_drewN]; omega) | (simp only [World.size_alloc, World.size_setCell, World.size_drew, size_drewN, size_put]; omega) | (intro k hk; simp [Value.ownBlock] at hk; done) | (intro k hk; simp [Value.ownBlock] at hk; omega) | (simp [size_drewN] at *; omega)))⟩

theorem bareR {w : World} {g : GOp} {o : Op} (h : OpR w g o) : OpR w (bareOp g) (bareO o) := by
  obtain ⟨h1, h2, h3, h4, h5⟩ := h
  unfold bareOp bareO
  rw [h1]
  by_cases e1 : o.kind = 1
  · rw [if_pos e1, if_pos e1]
    exact ⟨rfl, h2, h3, rfl, SlR.nil _ _ _ _ _⟩
  · rw [if_neg e1, if_neg e1]
    by_cases e2 : o.kind = 3
    · rw [if_pos e2, if_pos e2]
      exact ⟨rfl, rfl, rfl, h4, h5⟩
    · rw [if_neg e2, if_neg e2]
      by_cases e3 : o.kind = 2
      · rw [if_pos e3, if_pos e3]
        exact ⟨rfl, rfl, rfl, h4, SlR.nil _ _ _ _ _⟩
      · rw [if_neg e3, if_neg e3]
        exact ⟨rfl, rfl, rfl, rfl, SlR.nil _ _ _ _ _⟩

set_option maxRecDepth 100000 in
set_option maxHeartbeats 800000 in
theorem mayOp_no (g : GOp) (o : Op) (w : World) (h : OpR w g o) (hl : OpFits o) (hn : decide (o = bareO o) = false) :
    Calls Try.prog 70 #[.agg (opA g)] w fun e w' => e = .returned (.bool (opMay o)) ∧ Below w.heap.size w w' := by
  have hE : opMay o = false := by simp [opMay, hn]
  rw [hE]
  have HS := fun W hb => sameOp_c g (bareOp g) o (bareO o) W (OpR.keep' h hb) (bareR (OpR.keep' h hb)) hl
  simp only [hn] at HS
  clear hE h hl hn
  go_enter Try.func70, Try.ntmps70
  go_wp2_with fail
  go_region_held3 (fun w' => row? w' w.heap.size 0 36 = some (opA g))
    (first | go_keep | (simp [row?_drew, row?_new, ext_self]; done) | (with_reducible exact hr1) | (rw [j3 _ _ _ (by have := hb.size; simp at this; omega)]; exact hr1))
    (first
      | (go_simp; go_at_call 102; (with_reducible refine (bare_c g _).mono ?_); rintro e w1 ⟨rfl, hb⟩; obtain ⟨k1, k2, k3⟩ := kept hb; have hr1 : row? w1 w.heap.size 0 36 = some (opA g) := by (rw [k3 _ _ _ (by simp)]; simp [row?_drew, row?_new, ext_self]))
      | (go_simp; go_at_call 101; (with_reducible refine (HS _ (by (repeat' (first | (with_reducible exact Below.refl _ _) | (with_reducible assumption) | (with_reducible refine bel_trans (by assumption) ?_ ?_) | (with_reducible refine bel_grown (by assumption) ?_ ?_ ?_) | (with_reducible refine Below.alloc ?_ ?_ _) | (with_reducible refine Below.drew ?_) | (with_reducible refine below_drewN ?_ _) | (with_reducible refine Below.setCell ?_ ?_ _) | (with_reducible refine below_put ?_ ?_ _ _) | (with_reducible exact Nat.le_refl _) | omega | (with_reducible refine Nat.le_trans ?_ (Below.size (by assumption))) | (with_reducible refine Nat.le_trans ?_ (World.grownBy.size (by assumption))) | (simp only [World.size_alloc, World.size_setCell, World.size_drew, size_drewN]; omega) | (simp only [World.size_alloc, World.size_setCell, World.size_drew, size_drewN, size_put]; omega) | (intro k hk; simp [Value.ownBlock] at hk; done) | (intro k hk; simp [Value.ownBlock] at hk; omega) | (simp [size_drewN] at *; omega))))).mono ?_); rintro e w2 ⟨rfl, hb2⟩; obtain ⟨j1, j2, j3⟩ := kept hb2))
  go_wp2_with fail
  go_ret
  exact ⟨rfl, by (repeat' (first | (with_reducible exact Below.refl _ _) | (with_reducible assumption) | (with_reducible refine bel_trans (by assumption) ?_ ?_) | (with_reducible refine bel_grown (by assumption) ?_ ?_ ?_) | (with_reducible refine Below.alloc ?_ ?_ _) | (with_reducible refine Below.drew ?_) | (with_reducible refine below_drewN ?_ _) | (with_reducible refine Below.setCell ?_ ?_ _) | (with_reducible refine below_put ?_ ?_ _ _) | (with_reducible exact Nat.le_refl _) | omega | (with_reducible refine Nat.le_trans ?_ (Below.size (by assumption))) | (with_reducible refine Nat.le_trans ?_ (World.grownBy.size (by assumption))) | (simp only [World.size_alloc, World.size_setCell, World.size_drew, size_drewN]; omega) | (simp only [World.size_alloc, World.size_setCell, World.size_drew, size_drewN, size_put]; omega) | (intro k hk; simp [Value.ownBlock] at hk; done) | (intro k hk; simp [Value.ownBlock] at hk; omega) | (simp [size_drewN] at *; omega)))⟩

theorem votes_two {w : World} {s : Sl} {a b : Vote} (h : VotesR w s [a, b]) : ∃ bl off ga gb, s.a = some ⟨bl, off, none⟩ ∧ s.n = 2 ∧ 2 ≤ s.c ∧ bl < w.heap.size ∧ row? w bl off 68 = some (voteA ga) ∧ VoteR w ga a ∧ row? w bl (off + 68) 68 = some (voteA gb) ∧ VoteR w gb b := by
  obtain ⟨bl, off, ha, hc⟩ := h.2.2 (by simp)
  obtain ⟨_, r0, ga, rfl, v0⟩ := hc 0 (by simp)
  obtain ⟨_, r1, gb, rfl, v1⟩ := hc 1 (by simp)
  have hn := h.1
  have hc := h.2.1
  simp at hn
  exact ⟨bl, off, ga, gb, ha, hn, by omega, lt_of_row r0, by simpa using r0, v0, by simpa using r1, v1⟩
theorem opA_cells {w : World} {b : Nat} {g : GOp} (h : row? w b 0 36 = some (opA g)) : w.cell? ⟨b, 0, none⟩ = some (.int .i64 g.kind) ∧ w.cell? ⟨b, 33, none⟩ = some (.int .u64 (g.stake.toNat : Int)) ∧ w.cell? ⟨b, 34, none⟩ = some (.int .i64 g.validator) ∧ w.cell? ⟨b, 35, none⟩ = some g.evidence.v := by
  have h0 := cell_of_row? h 0 (by omega)
  have h1 := cell_of_row? h 33 (by omega)
  have h2 := cell_of_row? h 34 (by omega)
  have h3 := cell_of_row? h 35 (by omega)
  simp only [Nat.zero_add, opA_kind, opA_stake, opA_validator, opA_evidence] at h0 h1 h2 h3
  exact ⟨h0, h1, h2, h3⟩

set_option maxRecDepth 100000 in
set_option maxHeartbeats 1600000 in
theorem mayOp_c (g : GOp) (o : Op) (w : World) (h : OpR w g o) (hl : OpFits o) :
    Calls Try.prog 70 #[.agg (opA g)] w fun e w' => e = .returned (.bool (opMay o)) ∧ Below w.heap.size w w' := by
  by_cases hn : o = bareO o
  case neg => exact mayOp_no g o w h hl (dec_false hn)
  have HS := fun W hb => sameOp_c g (bareOp g) o (bareO o) W (OpR.keep' h hb) (bareR (OpR.keep' h hb)) hl
  simp only [dec_true hn] at HS
  have hM : opMay o = (if g.kind = 1 then decide (1 ≤ g.stake.toNat ∧ g.stake.toNat ≤ 4294967296) else if g.kind = 2 then mayMem g.validator
    else if g.kind = 3 then mayMem g.validator && decide (o.evidence.length = 2) && o.evidence.all voteMay else false) := by
    unfold opMay
    rw [dec_true hn, Bool.true_and, h.1, h.2.2.1, h.2.2.2.1]
  have HM := Lib.hid hM
  have Hv := Lib.hid h.2.2.2.2
  clear hM h hl hn
  go_enter Try.func70, Try.ntmps70
  go_wp2_with fail
  go_region_held3 (fun w' => row? w' w.heap.size 0 36 = some (opA g))
    (first | go_keep | (simp [row?_drew, row?_new, ext_self]; done) | (with_reducible exact hr1) | (rw [j3 _ _ _ (by have := hb.size; simp at this; omega)]; exact hr1))
    (first
      | (go_simp; go_at_call 102; (with_reducible refine (bare_c g _).mono ?_); rintro e w1 ⟨rfl, hb⟩; obtain ⟨k1, k2, k3⟩ := kept hb; have hr1 : row? w1 w.heap.size 0 36 = some (opA g) := by (rw [k3 _ _ _ (by simp)]; simp [row?_drew, row?_new, ext_self]))
      | (go_simp; go_at_call 101; (with_reducible refine (HS _ (by (repeat' (first | (with_reducible exact Below.refl _ _) | (with_reducible assumption) | (with_reducible refine bel_trans (by assumption) ?_ ?_) | (with_reducible refine bel_grown (by assumption) ?_ ?_ ?_) | (with_reducible refine Below.alloc ?_ ?_ _) | (with_reducible refine Below.drew ?_) | (with_reducible refine below_drewN ?_ _) | (with_reducible refine Below.setCell ?_ ?_ _) | (with_reducible refine below_put ?_ ?_ _ _) | (with_reducible exact Nat.le_refl _) | omega | (with_reducible refine Nat.le_trans ?_ (Below.size (by assumption))) | (with_reducible refine Nat.le_trans ?_ (World.grownBy.size (by assumption))) | (simp only [World.size_alloc, World.size_setCell, World.size_drew, size_drewN]; omega) | (simp only [World.size_alloc, World.size_setCell, World.size_drew, size_drewN, size_put]; omega) | (intro k hk; simp [Value.ownBlock] at hk; done) | (intro k hk; simp [Value.ownBlock] at hk; omega) | (simp [size_drewN] at *; omega))))).mono ?_); rintro e w2 ⟨rfl, hb2⟩; obtain ⟨j1, j2, j3⟩ := kept hb2))
  have hz : w.heap.size < w1.heap.size := by have := hb.size; simp at this; omega
  have hr2 : row? w2 w.heap.size 0 36 = some (opA g) := by rw [j3 _ _ _ hz]; exact hr1
  have hB : Below w.heap.size w w2 := by (repeat' (first | (with_reducible exact Below.refl _ _) | (with_reducible assumption) | (with_reducible refine bel_trans (by assumption) ?_ ?_) | (with_reducible refine bel_grown (by assumption) ?_ ?_ ?_) | (with_reducible refine Below.alloc ?_ ?_ _) | (with_reducible refine Below.drew ?_) | (with_reducible refine below_drewN ?_ _) | (with_reducible refine Below.setCell ?_ ?_ _) | (with_reducible refine below_put ?_ ?_ _ _) | (with_reducible exact Nat.le_refl _) | omega | (with_reducible refine Nat.le_trans ?_ (Below.size (by assumption))) | (with_reducible refine Nat.le_trans ?_ (World.grownBy.size (by assumption))) | (simp only [World.size_alloc, World.size_setCell, World.size_drew, size_drewN]; omega) | (simp only [World.size_alloc, World.size_setCell, World.size_drew, size_drewN, size_put]; omega) | (intro k hk; simp [Value.ownBlock] at hk; done) | (intro k hk; simp [Value.ownBlock] at hk; omega) | (simp [size_drewN] at *; omega)))
  have hz2 : w.heap.size < w2.heap.size := by have := hb2.size; omega
  clear k1 k2 k3 j1 j2 j3 hr1 hb hb2 HS
  obtain ⟨c0, c1, c2, c3⟩ := opA_cells hr2
  by_cases e1 : g.kind = 1
  · have b1 : (g.kind == 1) = true := by simp [e1]
    have Hm := Lib.hid (HM.out.trans (if_pos e1))
    clear e1
    go_wp2_with fail
    all_goals go_ret
    all_goals exact ⟨ret_bool (by rw [Hm.out, Bool.eq_iff_iff]; simp; omega), hB⟩
  have Hm := Lib.hid (HM.out.trans (if_neg e1))
  have b1 : (g.kind == 1) = false := by simp [e1]
  clear e1 HM
  by_cases e2 : g.kind = 2
  · have b2 : (g.kind == 2) = true := by simp [e2]
    have Hm := Lib.hid (Hm.out.trans (if_pos e2))
    clear e2
    go_wp2_with (go_at_call 80; refine (mayMember_c _ _).mono ?_; rintro e w3 ⟨rfl, hb3⟩)
    go_ret
    exact ⟨ret_bool Hm.out.symm, by (repeat' (first | (with_reducible exact Below.refl _ _) | (with_reducible assumption) | (with_reducible refine bel_trans (by assumption) ?_ ?_) | (with_reducible refine bel_grown (by assumption) ?_ ?_ ?_) | (with_reducible refine Below.alloc ?_ ?_ _) | (with_reducible refine Below.drew ?_) | (with_reducible refine below_drewN ?_ _) | (with_reducible refine Below.setCell ?_ ?_ _) | (with_reducible refine below_put ?_ ?_ _ _) | (with_reducible exact Nat.le_refl _) | omega | (with_reducible refine Nat.le_trans ?_ (Below.size (by assumption))) | (with_reducible refine Nat.le_trans ?_ (World.grownBy.size (by assumption))) | (simp only [World.size_alloc, World.size_setCell, World.size_drew, size_drewN]; omega) | (simp only [World.size_alloc, World.size_setCell, World.size_drew, size_drewN, size_put]; omega) | (intro k hk; simp [Value.ownBlock] at hk; done) | (intro k hk; simp [Value.ownBlock] at hk; omega) | (simp [size_drewN] at *; omega)))⟩
  have Hm := Lib.hid (Hm.out.trans (if_neg e2))
  have b2 : (g.kind == 2) = false := by simp [e2]
  clear e2
  by_cases e3 : g.kind = 3
  · have b3 : (g.kind == 3) = true := by simp [e3]
    have Hm := Lib.hid (Hm.out.trans (if_pos e3))
    clear e3
    have n1 := Hv.out.1
    by_cases m1 : mayMem g.validator = true
    · by_cases m2 : o.evidence.length = 2
      · obtain ⟨a, b, hab⟩ : ∃ a b, o.evidence = [a, b] := by
          match he : o.evidence, m2 with
          | [a, b], _ => exact ⟨a, b, rfl⟩
        have hv := VotesR.keep' Hv.out hB
        rw [hab] at hv
        obtain ⟨bl, off, ga, gb, s1, s2, s3, hlt, r0, v0, r1, v1⟩ := votes_two hv
        have Hm := Lib.hid (show opMay o = (mayV ga && mayV gb) by rw [Hm.out, m1, hab, v0.may, v1.may]; simp)
        have hev : g.evidence.v = .slice (some ⟨bl, off, none⟩) 2 g.evidence.c := by
          show Value.slice g.evidence.a g.evidence.n g.evidence.c = _
          rw [s1, s2]
        rw [hev] at c3
        clear n1 m2 hab hv v0 v1 s1 s2 s3 hev hr2 c1
        have HC := fun W => mayMember_c g.validator W
        simp only [m1] at HC
        clear m1
        go_wp2_with fail
        refine (HC _).mono ?_
        rintro e w3 ⟨rfl, hb3⟩
        obtain ⟨k1, k2, k3⟩ := kept hb3
        have c3 := (k1 _ _ hz2).trans c3
        have r0 := (k3 _ _ _ hlt).trans r0
        have r1 := (k3 _ _ _ hlt).trans r1
        have hz3 : w.heap.size < w3.heap.size := by have := hb3.size; omega
        have hlt : bl < w3.heap.size := by have := hb3.size; omega
        have hB : Below w.heap.size w w3 := by (repeat' (first | (with_reducible exact Below.refl _ _) | (with_reducible assumption) | (with_reducible refine bel_trans (by assumption) ?_ ?_) | (with_reducible refine bel_grown (by assumption) ?_ ?_ ?_) | (with_reducible refine Below.alloc ?_ ?_ _) | (with_reducible refine Below.drew ?_) | (with_reducible refine below_drewN ?_ _) | (with_reducible refine Below.setCell ?_ ?_ _) | (with_reducible refine below_put ?_ ?_ _ _) | (with_reducible exact Nat.le_refl _) | omega | (with_reducible refine Nat.le_trans ?_ (Below.size (by assumption))) | (with_reducible refine Nat.le_trans ?_ (World.grownBy.size (by assumption))) | (simp only [World.size_alloc, World.size_setCell, World.size_drew, size_drewN]; omega) | (simp only [World.size_alloc, World.size_setCell, World.size_drew, size_drewN, size_put]; omega) | (intro k hk; simp [Value.ownBlock] at hk; done) | (intro k hk; simp [Value.ownBlock] at hk; omega) | (simp [size_drewN] at *; omega)))
        clear k1 k2 k3 c2 HC hb3 hz2
        have HA := fun W => mayVote_c ga W
        cases hma : mayV ga
        · have Hm := Lib.hid (Hm.out.trans (by rw [hma, Bool.false_and] : _ = false))
          simp only [hma] at HA
          clear hma
          go_wp2_with fail
          refine (HA _).mono ?_
          rintro e w4 ⟨rfl, hb4⟩
          go_wp2_with fail
          go_ret
          exact ⟨ret_bool Hm.out.symm, by (repeat' (first | (with_reducible exact Below.refl _ _) | (with_reducible assumption) | (with_reducible refine bel_trans (by assumption) ?_ ?_) | (with_reducible refine bel_grown (by assumption) ?_ ?_ ?_) | (with_reducible refine Below.alloc ?_ ?_ _) | (with_reducible refine Below.drew ?_) | (with_reducible refine below_drewN ?_ _) | (with_reducible refine Below.setCell ?_ ?_ _) | (with_reducible refine below_put ?_ ?_ _ _) | (with_reducible exact Nat.le_refl _) | omega | (with_reducible refine Nat.le_trans ?_ (Below.size (by assumption))) | (with_reducible refine Nat.le_trans ?_ (World.grownBy.size (by assumption))) | (simp only [World.size_alloc, World.size_setCell, World.size_drew, size_drewN]; omega) | (simp only [World.size_alloc, World.size_setCell, World.size_drew, size_drewN, size_put]; omega) | (intro k hk; simp [Value.ownBlock] at hk; done) | (intro k hk; simp [Value.ownBlock] at hk; omega) | (simp [size_drewN] at *; omega)))⟩
        · have Hm := Lib.hid (Hm.out.trans (by rw [hma, Bool.true_and] : _ = mayV gb))
          simp only [hma] at HA
          clear hma
          go_wp2_with fail
          refine (HA _).mono ?_
          rintro e w4 ⟨rfl, hb4⟩
          obtain ⟨k1, k2, k3⟩ := kept hb4
          have c3 := (k1 _ _ hz3).trans c3
          have r1 := (k3 _ _ _ hlt).trans r1
          clear k1 k2 k3
          go_wp2_with fail
          refine (mayVote_c gb _).mono ?_
          rintro e w5 ⟨rfl, hb5⟩
          go_wp2_with fail
          go_ret
          exact ⟨ret_bool Hm.out.symm, by (repeat' (first | (with_reducible exact Below.refl _ _) | (with_reducible assumption) | (with_reducible refine bel_trans (by assumption) ?_ ?_) | (with_reducible refine bel_grown (by assumption) ?_ ?_ ?_) | (with_reducible refine Below.alloc ?_ ?_ _) | (with_reducible refine Below.drew ?_) | (with_reducible refine below_drewN ?_ _) | (with_reducible refine Below.setCell ?_ ?_ _) | (with_reducible refine below_put ?_ ?_ _ _) | (with_reducible exact Nat.le_refl _) | omega | (with_reducible refine Nat.le_trans ?_ (Below.size (by assumption))) | (with_reducible refine Nat.le_trans ?_ (World.grownBy.size (by assumption))) | (simp only [World.size_alloc, World.size_setCell, World.size_drew, size_drewN]; omega) | (simp only [World.size_alloc, World.size_setCell, World.size_drew, size_drewN, size_put]; omega) | (intro k hk; simp [Value.ownBlock] at hk; done) | (intro k hk; simp [Value.ownBlock] at hk; omega) | (simp [size_drewN] at *; omega)))⟩
      · have b4 : ((g.evidence.n : Int) == 2) = false := by rw [n1]; simp; omega
        have Hm := Lib.hid (show opMay o = false by rw [Hm.out]; simp [m2])
        clear n1 m2
        have HC := fun W => mayMember_c g.validator W
        simp only [m1] at HC
        go_wp2_with (go_at_call 80; refine (HC _).mono ?_; rintro e w3 ⟨rfl, hb3⟩; obtain ⟨k1, k2, k3⟩ := kept hb3)
        go_ret
        exact ⟨ret_bool Hm.out.symm, by (repeat' (first | (with_reducible exact Below.refl _ _) | (with_reducible assumption) | (with_reducible refine bel_trans (by assumption) ?_ ?_) | (with_reducible refine bel_grown (by assumption) ?_ ?_ ?_) | (with_reducible refine Below.alloc ?_ ?_ _) | (with_reducible refine Below.drew ?_) | (with_reducible refine below_drewN ?_ _) | (with_reducible refine Below.setCell ?_ ?_ _) | (with_reducible refine below_put ?_ ?_ _ _) | (with_reducible exact Nat.le_refl _) | omega | (with_reducible refine Nat.le_trans ?_ (Below.size (by assumption))) | (with_reducible refine Nat.le_trans ?_ (World.grownBy.size (by assumption))) | (simp only [World.size_alloc, World.size_setCell, World.size_drew, size_drewN]; omega) | (simp only [World.size_alloc, World.size_setCell, World.size_drew, size_drewN, size_put]; omega) | (intro k hk; simp [Value.ownBlock] at hk; done) | (intro k hk; simp [Value.ownBlock] at hk; omega) | (simp [size_drewN] at *; omega)))⟩
    · have m1 : mayMem g.validator = false := by simpa using m1
      have Hm := Lib.hid (show opMay o = false by rw [Hm.out]; simp [m1])
      have HC := fun W => mayMember_c g.validator W
      simp only [m1] at HC
      clear n1
      go_wp2_with (go_at_call 80; refine (HC _).mono ?_; rintro e w3 ⟨rfl, hb3⟩)
      go_ret
      exact ⟨ret_bool Hm.out.symm, by (repeat' (first | (with_reducible exact Below.refl _ _) | (with_reducible assumption) | (with_reducible refine bel_trans (by assumption) ?_ ?_) | (with_reducible refine bel_grown (by assumption) ?_ ?_ ?_) | (with_reducible refine Below.alloc ?_ ?_ _) | (with_reducible refine Below.drew ?_) | (with_reducible refine below_drewN ?_ _) | (with_reducible refine Below.setCell ?_ ?_ _) | (with_reducible refine below_put ?_ ?_ _ _) | (with_reducible exact Nat.le_refl _) | omega | (with_reducible refine Nat.le_trans ?_ (Below.size (by assumption))) | (with_reducible refine Nat.le_trans ?_ (World.grownBy.size (by assumption))) | (simp only [World.size_alloc, World.size_setCell, World.size_drew, size_drewN]; omega) | (simp only [World.size_alloc, World.size_setCell, World.size_drew, size_drewN, size_put]; omega) | (intro k hk; simp [Value.ownBlock] at hk; done) | (intro k hk; simp [Value.ownBlock] at hk; omega) | (simp [size_drewN] at *; omega)))⟩
  · have b3 : (g.kind == 3) = false := by simp [e3]
    have Hm := Lib.hid (Hm.out.trans (if_neg e3))
    clear e3
    go_wp2_with fail
    go_ret
    exact ⟨ret_bool Hm.out.symm, hB⟩
end Go.Proofs.Ytbpbnnonialelaa
