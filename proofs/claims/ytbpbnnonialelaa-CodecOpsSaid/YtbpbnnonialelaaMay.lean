/- Contracts: codec.MayPoint, mayMember, MayVote. -/
import Derived.Test.YtbpbnnonialelaaLoads
namespace Go.Proofs.Ytbpbnnonialelaa
open Go.RowKit


def mayPt (p : Pt) : Bool := decide (p.epoch.toNat ≤ 4611686018427387904)
def mayMem (n : Int) : Bool := decide (1 ≤ n ∧ n ≤ 64)
def mayV (v : GVote) : Bool := mayMem v.validator && mayPt v.source && mayPt v.target && decide (v.sig.n ≤ 4096)

theorem mayPoint_c (p : Pt) (w : World) : Calls Try.prog 46 #[.agg (pointA p)] w fun e w' => e = .returned (.bool (mayPt p)) ∧ Below w.heap.size w w' := by
  go_enter Try.func46, Try.ntmps46
  go_wp2_with fail
  go_ret
  exact ⟨ret_bool (by simp [mayPt]; omega), by (repeat' (first | (with_reducible exact Below.refl _ _) | (with_reducible assumption) | (with_reducible refine bel_trans (by assumption) ?_ ?_) | (with_reducible refine bel_grown (by assumption) ?_ ?_ ?_) | (with_reducible refine Below.alloc ?_ ?_ _) | (with_reducible refine Below.drew ?_) | (with_reducible refine below_drewN ?_ _) | (with_reducible refine Below.setCell ?_ ?_ _) | (with_reducible refine below_put ?_ ?_ _ _) | (with_reducible exact Nat.le_refl _) | omega | (with_reducible refine Nat.le_trans ?_ (Below.size (by assumption))) | (with_reducible refine Nat.le_trans ?_ (World.grownBy.size (by assumption))) | (simp only [World.size_alloc, World.size_setCell, World.size_drew, size_drewN]; omega) | (simp only [World.size_alloc, World.size_setCell, World.size_drew, size_drewN, size_put]; omega) | (intro k hk; simp [Value.ownBlock] at hk; done) | (intro k hk; simp [Value.ownBlock] at hk; omega) | (simp [size_drewN] at *; omega)))⟩
theorem mayMember_c (n : Int) (w : World) : Calls Try.prog 80 #[.int .i64 n] w fun e w' => e = .returned (.bool (mayMem n)) ∧ Below w.heap.size w w' := by
  go_enter Try.func80, Try.ntmps80
  go_wp2_with fail
  all_goals go_ret
  · exact ⟨ret_bool (by simp [*, mayMem]), Below.refl _ _⟩
  · exact ⟨ret_bool (by simp [mayMem]; omega), Below.refl _ _⟩

set_option maxRecDepth 100000 in
theorem mayVote_c (v : GVote) (w : World) : Calls Try.prog 37 #[.agg (voteA v)] w fun e w' => e = .returned (.bool (mayV v)) ∧ Below w.heap.size w w' := by
  go_enter Try.func37, Try.ntmps37
  go_wp2_with (first
    | (go_at_call 80; refine (mayMember_c _ _).mono ?_; rintro e w1 ⟨rfl, hb⟩; obtain ⟨k1, k2, k3⟩ := kept hb; have hz : w.heap.size < w1.heap.size := by (have := hb.size; simp at this; omega))
    | (go_at_call 46; refine (mayPoint_c _ _).mono ?_; rintro e w1 ⟨rfl, hb⟩; obtain ⟨k1, k2, k3⟩ := kept hb; have hz : w.heap.size < w1.heap.size := by (have := hb.size; omega)))
  all_goals go_ret
  all_goals exact ⟨ret_bool (by simp_all [mayV] <;> omega), by (repeat' (first | (with_reducible exact Below.refl _ _) | (with_reducible assumption) | (with_reducible refine bel_trans (by assumption) ?_ ?_) | (with_reducible refine bel_grown (by assumption) ?_ ?_ ?_) | (with_reducible refine Below.alloc ?_ ?_ _) | (with_reducible refine Below.drew ?_) | (with_reducible refine below_drewN ?_ _) | (with_reducible refine Below.setCell ?_ ?_ _) | (with_reducible refine below_put ?_ ?_ _ _) | (with_reducible exact Nat.le_refl _) | omega | (with_reducible refine Nat.le_trans ?_ (Below.size (by assumption))) | (with_reducible refine Nat.le_trans ?_ (World.grownBy.size (by assumption))) | (simp only [World.size_alloc, World.size_setCell, World.size_drew, size_drewN]; omega) | (simp only [World.size_alloc, World.size_setCell, World.size_drew, size_drewN, size_put]; omega) | (intro k hk; simp [Value.ownBlock] at hk; done) | (intro k hk; simp [Value.ownBlock] at hk; omega) | (simp [size_drewN] at *; omega)))⟩
end Go.Proofs.Ytbpbnnonialelaa
