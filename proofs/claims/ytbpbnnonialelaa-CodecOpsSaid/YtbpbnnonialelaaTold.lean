/- Contracts: codec.PointBytes, VoteBytes. -/
import Derived.Test.YtbpbnnonialelaaCodec2
namespace Go.Proofs.Ytbpbnnonialelaa
open Go.RowKit

theorem toldPoint_yes (p : Pt) (w : World) (h : mayPt p = true) : Calls Try.prog 87 #[.agg (pointA p), .func (.func 46) #[] #[], .func (.func 76) #[] #[]] w fun e w' => ∃ v, e = .returned (.tuple #[v, .int .i64 0]) ∧ Own w' w.heap.size v (ptBytes p) ∧ Below w.heap.size w w' := by
  have H := fun W => mayPoint_c p W
  rw [h] at H
  clear h
  go_enter Try.func87, Try.ntmps87
  go_wp2_with fail
  refine (H _).mono ?_
  clear H
  rintro e w1 ⟨rfl, hb⟩
  obtain ⟨k1, k2, k3⟩ := kept hb
  have hz : w.heap.size < w1.heap.size := by (have := hb.size; (try simp at this); omega)
  go_wp2_with fail
  refine (point_c p _).mono ?_
  rintro e w2 ⟨v, rfl, ho, hb2⟩
  go_wp2_with fail
  go_ret2
  exact ⟨v, rfl, ho.more (by omega), by (repeat' (first | (with_reducible exact Below.refl _ _) | (with_reducible assumption) | (with_reducible refine bel_trans (by assumption) ?_ ?_) | (with_reducible refine bel_grown (by assumption) ?_ ?_ ?_) | (with_reducible refine Below.alloc ?_ ?_ _) | (with_reducible refine Below.drew ?_) | (with_reducible refine below_drewN ?_ _) | (with_reducible refine Below.setCell ?_ ?_ _) | (with_reducible refine below_put ?_ ?_ _ _) | (with_reducible exact Nat.le_refl _) | omega | (with_reducible refine Nat.le_trans ?_ (Below.size (by assumption))) | (with_reducible refine Nat.le_trans ?_ (World.grownBy.size (by assumption))) | (simp only [World.size_alloc, World.size_setCell, World.size_drew, size_drewN]; omega) | (simp only [World.size_alloc, World.size_setCell, World.size_drew, size_drewN, size_put]; omega) | (intro k hk; simp [Value.ownBlock] at hk; done) | (intro k hk; simp [Value.ownBlock] at hk; omega) | (simp [size_drewN] at *; omega)))⟩

theorem toldPoint_no (p : Pt) (w : World) (h : mayPt p = false) : Calls Try.prog 87 #[.agg (pointA p), .func (.func 46) #[] #[], .func (.func 76) #[] #[]] w fun e w' => e = .returned (.tuple #[.slice none 0 0, .int .i64 2]) ∧ Below w.heap.size w w' := by
  have H := fun W => mayPoint_c p W
  rw [h] at H
  clear h
  go_enter Try.func87, Try.ntmps87
  go_wp2_with fail
  refine (H _).mono ?_
  clear H
  rintro e w1 ⟨rfl, hb⟩
  obtain ⟨k1, k2, k3⟩ := kept hb
  go_wp2_with fail
  go_ret2

  exact ⟨rfl, by (repeat' (first | (with_reducible exact Below.refl _ _) | (with_reducible assumption) | (with_reducible refine bel_trans (by assumption) ?_ ?_) | (with_reducible refine bel_grown (by assumption) ?_ ?_ ?_) | (with_reducible refine Below.alloc ?_ ?_ _) | (with_reducible refine Below.drew ?_) | (with_reducible refine below_drewN ?_ _) | (with_reducible refine Below.setCell ?_ ?_ _) | (with_reducible refine below_put ?_ ?_ _ _) | (with_reducible exact Nat.le_refl _) | omega | (with_reducible refine Nat.le_trans ?_ (Below.size (by assumption))) | (with_reducible refine Nat.le_trans ?_ (World.grownBy.size (by assumption))) | (simp only [World.size_alloc, World.size_setCell, World.size_drew, size_drewN]; omega) | (simp only [World.size_alloc, World.size_setCell, World.size_drew, size_drewN, size_put]; omega) | (intro k hk; simp [Value.ownBlock] at hk; done) | (intro k hk; simp [Value.ownBlock] at hk; omega) | (simp [size_drewN] at *; omega)))⟩

/-- told's error, its bytes -/
def noErr (may : Bool) : Int := if may then 0 else 2
def orNo (may : Bool) (l : List UInt8) : List UInt8 := if may then l else []
abbrev toldV (s : Sl) (may : Bool) : Ending := .returned (.tuple #[s.v, .int .i64 (noErr may)])

theorem toldPoint_c (p : Pt) (w : World) : Calls Try.prog 87 #[.agg (pointA p), .func (.func 46) #[] #[], .func (.func 76) #[] #[]] w fun e w' => ∃ s : Sl, e = toldV s (mayPt p) ∧ BytesR w' s (orNo (mayPt p) (ptBytes p)) ∧ Below w.heap.size w w' := by
  cases h : mayPt p
  · refine (toldPoint_no p w h).mono ?_
    rintro e w1 ⟨he, hb⟩
    exact ⟨⟨none, 0, 0⟩, he, BytesR.nil _ _ _, hb⟩
  · refine (toldPoint_yes p w h).mono ?_
    rintro e w1 ⟨v, he, ho, hb⟩
    obtain ⟨s, rfl⟩ := ho.slice
    exact ⟨s, he, ho.reads, hb⟩

theorem pointBytes_c (p : Pt) (w : World) : Calls Try.prog 43 #[.agg (pointA p)] w fun e w' => ∃ s : Sl, e = toldV s (mayPt p) ∧ BytesR w' s (orNo (mayPt p) (ptBytes p)) ∧ Below w.heap.size w w' := by
  go_enter Try.func43, Try.ntmps43
  go_wp2_with fail
  refine (toldPoint_c p _).mono ?_
  rintro e w1 ⟨s, rfl, ho, hb⟩
  go_wp2_with fail
  go_ret2
  exact ⟨s, rfl, ho, by (repeat' (first | (with_reducible exact Below.refl _ _) | (with_reducible assumption) | (with_reducible refine bel_trans (by assumption) ?_ ?_) | (with_reducible refine bel_grown (by assumption) ?_ ?_ ?_) | (with_reducible refine Below.alloc ?_ ?_ _) | (with_reducible refine Below.drew ?_) | (with_reducible refine below_drewN ?_ _) | (with_reducible refine Below.setCell ?_ ?_ _) | (with_reducible refine below_put ?_ ?_ _ _) | (with_reducible exact Nat.le_refl _) | omega | (with_reducible refine Nat.le_trans ?_ (Below.size (by assumption))) | (with_reducible refine Nat.le_trans ?_ (World.grownBy.size (by assumption))) | (simp only [World.size_alloc, World.size_setCell, World.size_drew, size_drewN]; omega) | (simp only [World.size_alloc, World.size_setCell, World.size_drew, size_drewN, size_put]; omega) | (intro k hk; simp [Value.ownBlock] at hk; done) | (intro k hk; simp [Value.ownBlock] at hk; omega) | (simp [size_drewN] at *; omega)))⟩

/-! told, of a vote -/
theorem VoteR.keep {w w' : World} {g : GVote} {v : Vote} (h : VoteR w g v) (hb : Below w.heap.size w w') : VoteR w' g v :=
  ⟨h.1, h.2.1, h.2.2.1, h.2.2.2.keep hb⟩

theorem toldVote_no (g : GVote) (w : World) (h : mayV g = false) : Calls Try.prog 78 #[.agg (voteA g), .func (.func 37) #[] #[], .func (.func 79) #[] #[]] w fun e w' => e = .returned (.tuple #[.slice none 0 0, .int .i64 2]) ∧ Below w.heap.size w w' := by
  have H := fun W => mayVote_c g W
  rw [h] at H
  clear h
  go_enter Try.func78, Try.ntmps78
  go_wp2_with fail
  refine (H _).mono ?_
  clear H
  rintro e w1 ⟨rfl, hb⟩
  obtain ⟨k1, k2, k3⟩ := kept hb
  go_wp2_with fail
  go_ret2
  exact ⟨rfl, by (repeat' (first | (with_reducible exact Below.refl _ _) | (with_reducible assumption) | (with_reducible refine bel_trans (by assumption) ?_ ?_) | (with_reducible refine bel_grown (by assumption) ?_ ?_ ?_) | (with_reducible refine Below.alloc ?_ ?_ _) | (with_reducible refine Below.drew ?_) | (with_reducible refine below_drewN ?_ _) | (with_reducible refine Below.setCell ?_ ?_ _) | (with_reducible refine below_put ?_ ?_ _ _) | (with_reducible exact Nat.le_refl _) | omega | (with_reducible refine Nat.le_trans ?_ (Below.size (by assumption))) | (with_reducible refine Nat.le_trans ?_ (World.grownBy.size (by assumption))) | (simp only [World.size_alloc, World.size_setCell, World.size_drew, size_drewN]; omega) | (simp only [World.size_alloc, World.size_setCell, World.size_drew, size_drewN, size_put]; omega) | (intro k hk; simp [Value.ownBlock] at hk; done) | (intro k hk; simp [Value.ownBlock] at hk; omega) | (simp [size_drewN] at *; omega)))⟩

theorem toldVote_yes (g : GVote) (v : Vote) (w : World) (h : mayV g = true) (hv : VoteR w g v) (h1 : 1 ≤ v.validator) (h64 : v.validator ≤ 64) (hs : v.sig.length ≤ 4096) : Calls Try.prog 78 #[.agg (voteA g), .func (.func 37) #[] #[], .func (.func 79) #[] #[]] w fun e w' => ∃ x, e = .returned (.tuple #[x, .int .i64 0]) ∧ Own w' w.heap.size x (vtBytes v) ∧ Below w.heap.size w w' := by
  have H := fun W => mayVote_c g W
  rw [h] at H
  clear h
  go_enter Try.func78, Try.ntmps78
  go_wp2_with fail
  refine (H _).mono ?_
  clear H
  rintro e w1 ⟨rfl, hb⟩
  obtain ⟨k1, k2, k3⟩ := kept hb
  have hz : w.heap.size < w1.heap.size := by (have := hb.size; (try simp at this); omega)
  go_wp2_with fail
  refine (vote_c g v _ (hv.keep (by (repeat' (first | (with_reducible exact Below.refl _ _) | (with_reducible assumption) | (with_reducible refine bel_trans (by assumption) ?_ ?_) | (with_reducible refine bel_grown (by assumption) ?_ ?_ ?_) | (with_reducible refine Below.alloc ?_ ?_ _) | (with_reducible refine Below.drew ?_) | (with_reducible refine below_drewN ?_ _) | (with_reducible refine Below.setCell ?_ ?_ _) | (with_reducible refine below_put ?_ ?_ _ _) | (with_reducible exact Nat.le_refl _) | omega | (with_reducible refine Nat.le_trans ?_ (Below.size (by assumption))) | (with_reducible refine Nat.le_trans ?_ (World.grownBy.size (by assumption))) | (simp only [World.size_alloc, World.size_setCell, World.size_drew, size_drewN]; omega) | (simp only [World.size_alloc, World.size_setCell, World.size_drew, size_drewN, size_put]; omega) | (intro k hk; simp [Value.ownBlock] at hk; done) | (intro k hk; simp [Value.ownBlock] at hk; omega) | (simp [size_drewN] at *; omega))))) h1 h64 hs).mono ?_
  rintro e w2 ⟨x, rfl, ho, hb2⟩
  go_wp2_with fail
  go_ret2
  exact ⟨x, rfl, ho.more (by omega), by (repeat' (first | (with_reducible exact Below.refl _ _) | (with_reducible assumption) | (with_reducible refine bel_trans (by assumption) ?_ ?_) | (with_reducible refine bel_grown (by assumption) ?_ ?_ ?_) | (with_reducible refine Below.alloc ?_ ?_ _) | (with_reducible refine Below.drew ?_) | (with_reducible refine below_drewN ?_ _) | (with_reducible refine Below.setCell ?_ ?_ _) | (with_reducible refine below_put ?_ ?_ _ _) | (with_reducible exact Nat.le_refl _) | omega | (with_reducible refine Nat.le_trans ?_ (Below.size (by assumption))) | (with_reducible refine Nat.le_trans ?_ (World.grownBy.size (by assumption))) | (simp only [World.size_alloc, World.size_setCell, World.size_drew, size_drewN]; omega) | (simp only [World.size_alloc, World.size_setCell, World.size_drew, size_drewN, size_put]; omega) | (intro k hk; simp [Value.ownBlock] at hk; done) | (intro k hk; simp [Value.ownBlock] at hk; omega) | (simp [size_drewN] at *; omega)))⟩
end Go.Proofs.Ytbpbnnonialelaa
