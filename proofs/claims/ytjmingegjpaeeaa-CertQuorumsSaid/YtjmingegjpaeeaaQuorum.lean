/- Contracts: cert.Quorum, landmarklaw15.parts, landmarklaw15.known, and the walk of CertQuorums. -/
import Derived.Test.YtjmingegjpaeeaaBase
import Derived.Test.YtjmingegjpaeeaaShelf
namespace Go.Proofs.Ytjmingegjpaeeaa
open Go.RowKit

def parts (n t : Int) (which : Int) : Int :=
  let low := n % 4294967296 * t
  if which = 1 then low % 4294967296 else n / 4294967296 * t + low / 4294967296

theorem parts_any (n t k : Int) (w : World) (h0 : 0 ≤ n) (h1 : n ≤ 18446744073709551615) (h2 : 0 ≤ t) (h3 : t ≤ 3) (hk : k = 0 ∨ k = 1) :
    Calls Try.prog 11 #[.int .u64 n, .int .u64 t, .int .i64 k] w fun e w' => e = .returned (.int .u64 (parts n t k)) ∧ w = w' := by
  have hn : 0 ≤ n % 4294967296 ∧ n % 4294967296 ≤ 4294967295 := by omega
  have hd : 0 ≤ n / 4294967296 ∧ n / 4294967296 ≤ 4294967295 := by omega
  have ht : t = 0 ∨ t = 1 ∨ t = 2 ∨ t = 3 := by omega
  unfold parts
  rcases hk with rfl | rfl <;> rcases ht with rfl | rfl | rfl | rfl <;>
  · go_enter Try.func11, Try.ntmps11
    go_wp2
    all_goals go_ret
    all_goals first | exact ⟨rfl, rfl⟩ | (refine ⟨?_, rfl⟩; simp; done) | (refine ⟨?_, rfl⟩; simp; omega)

theorem quorum_any (x y : Nat) (w : World) (h0 : x < 18446744073709551616) (h1 : y < 18446744073709551616) :
    Calls Try.prog 12 #[.int .u64 x, .int .u64 y] w fun e w' => e = .returned (.bool (decide (2 * y ≤ 3 * x))) ∧ w = w' := by
  go_enter Try.func12, Try.ntmps12
  go_wp2_with fail
  refine (Try.bits_Mul64 x 3 h0 (by decide) _).mono ?_
  rintro e w' ⟨rfl, hw⟩
  subst hw
  go_wp2_with fail
  refine (Try.bits_Mul64 y 2 h1 (by decide) _).mono ?_
  rintro e w' ⟨rfl, hw⟩
  subst hw
  go_wp2_with fail
  all_goals go_ret
  all_goals refine ⟨ret_bool ?_, rfl⟩
  all_goals first | (rw [decide_eq_decide]; omega) | (symm; simp only [decide_eq_true_eq, decide_eq_false_iff_not]; omega)

theorem certKnown (w : World) : Calls Try.prog 13 #[] w fun e w' => e = .returned (.bool true) ∧ w = w' := by
  go_enter Try.func13, Try.ntmps13
  go_wp2_with fail
  refine (quorum_any 2 3 _ (by decide) (by decide)).mono ?_
  rintro e w' ⟨rfl, rfl⟩
  go_wp2_with fail
  refine (quorum_any 1 2 _ (by decide) (by decide)).mono ?_
  rintro e w' ⟨rfl, rfl⟩
  go_wp2_with fail
  refine (quorum_any 0 0 _ (by decide) (by decide)).mono ?_
  rintro e w' ⟨rfl, rfl⟩
  go_wp2_with fail
  go_ret
  exact ⟨by simp, rfl⟩

theorem parts_hi3 (x : Int) : parts x 3 0 = x * 3 / 4294967296 := by simp [parts]; omega
theorem parts_hi2 (x : Int) : parts x 2 0 = x * 2 / 4294967296 := by simp [parts]; omega
theorem parts_lo3 (x : Int) : parts x 3 1 = x * 3 % 4294967296 := by simp [parts]; omega
theorem parts_lo2 (x : Int) : parts x 2 1 = x * 2 % 4294967296 := by simp [parts]; omega

set_option maxHeartbeats 1000000 in
theorem certQuorums_walk (x y : Nat) (w : World) (h0 : x < 18446744073709551616) (h1 : y < 18446744073709551616) :
    Calls Try.prog 3 #[.int .u64 x, .int .u64 y] w fun e w' => e = .returned (.bool true) ∧ w = w' := by
  go_enter Try.func3, Try.ntmps3
  go_wp2_with (first | (go_at_call 11; refine (parts_any _ _ _ _ (by omega) (by omega) (by omega) (by omega) (by omega)).mono ?_; rintro e w' ⟨rfl, rfl⟩) | (go_at_call 12; refine (quorum_any x y _ h0 h1).mono ?_; rintro e w' ⟨rfl, rfl⟩) | (go_at_call 13; refine (certKnown _).mono ?_; rintro e w' ⟨rfl, rfl⟩))
  all_goals go_ret
  all_goals first | exact ⟨rfl, rfl⟩ | (exfalso; simp only [parts_hi3, parts_hi2, parts_lo3, parts_lo2] at *; omega)
end Go.Proofs.Ytjmingegjpaeeaa
