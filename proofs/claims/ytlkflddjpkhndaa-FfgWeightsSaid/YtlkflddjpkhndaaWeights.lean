/- Contracts: ffg.Strong, landmarkref13.Strong; the walk of FfgWeights. -/
import Derived.Test.YtlkflddjpkhndaaKnown13
namespace Go.Proofs.Ytlkflddjpkhndaa
open Go.RowKit

theorem fstrong_c (x y : Nat) (w : World) (h0 : x < 18446744073709551616) (h1 : y < 18446744073709551616) :
    Calls Try.prog 34 #[.int .u64 x, .int .u64 y] w fun e w' => e = .returned (.bool (decide (1 ≤ x ∧ 2 * y ≤ 3 * x))) ∧ w = w' := by
  go_enter Try.func34, Try.ntmps34
  go_wp2_with fail
  refine (Try.bits_Mul64 x 3 h0 (by decide) _).mono ?_
  rintro e w' ⟨rfl, hw⟩
  subst hw
  go_wp2_with fail
  refine (Try.bits_Mul64 y 2 h1 (by decide) _).mono ?_
  rintro e w' ⟨rfl, hw⟩
  subst hw
  go_wp2_with fail
  all_goals go_ret
  all_goals refine ⟨ret_bool ?_, rfl⟩
  all_goals (rw [Bool.eq_iff_iff]; simp only [Bool.and_eq_true, decide_eq_true_eq, Bool.false_eq_true, false_iff, true_iff]; omega)
theorem rstrong_c (x y : Nat) (w : World) (h0 : x < 2305843009213693952) (h1 : y < 2305843009213693952) :
    Calls Try.prog 35 #[.int .u64 x, .int .u64 y] w fun e w' => e = .returned (.bool (decide (1 ≤ x ∧ 2 * y ≤ 3 * x))) ∧ w = w' := by
  go_enter Try.func35, Try.ntmps35
  go_wp2_with fail
  all_goals go_ret
  all_goals refine ⟨ret_bool ?_, rfl⟩
  all_goals (rw [Bool.eq_iff_iff]; simp only [Bool.and_eq_true, decide_eq_true_eq, Bool.false_eq_true, false_iff, true_iff]; omega)
/-- what lies below 32 bits -/
def lo32 (a : Int) : Int := bits .and .u64 a 4294967295
def hi32 (a : Int) : Int := a / 2 ^ 32
theorem fold_lo32 (a : Int) : bits .and .u64 a 4294967295 = lo32 a := rfl
theorem fold_hi32 (a : Int) : Op.shift .shr .u64 a .u64 32 = pure (.int .u64 (hi32 a)) := shift_shr_any .u64 .u64 a 32 (by decide)
attribute [local go_sem ↓] fold_hi32
attribute [local go_sem] fold_lo32 fold_hi32
theorem lo32_eq (a : Nat) (h : a < 18446744073709551616) : lo32 (a : Int) = ((a % 4294967296 : Nat) : Int) := by
  have := bits_and_u64_nat a 4294967295 h (by decide)
  unfold lo32
  rw [show (4294967295 : Int) = ((4294967295 : Nat) : Int) from rfl, this]
  congr 1
  exact Nat.and_two_pow_sub_one_eq_mod a 32
theorem hi32_eq (a : Nat) : hi32 (a : Int) = ((a / 4294967296 : Nat) : Int) := by
  unfold hi32
  omega
theorem weights_num (x y : Nat) (h0 : x < 18446744073709551616) (h1 : y < 18446744073709551616) : ∃ A B C D : Int,
    IntKind.u64.wrap (IntKind.u64.wrap (3 * hi32 x) + hi32 (IntKind.u64.wrap (3 * lo32 x))) = A ∧ IntKind.u64.wrap (IntKind.u64.wrap (2 * hi32 y) + hi32 (IntKind.u64.wrap (2 * lo32 y))) = B ∧
    lo32 (IntKind.u64.wrap (3 * lo32 x)) = C ∧ lo32 (IntKind.u64.wrap (2 * lo32 y)) = D ∧
    A = ((3 * x / 4294967296 : Nat) : Int) ∧ B = ((2 * y / 4294967296 : Nat) : Int) ∧ C = ((3 * x % 4294967296 : Nat) : Int) ∧ D = ((2 * y % 4294967296 : Nat) : Int) := by
  have wr : ∀ n : Nat, n < 18446744073709551616 → IntKind.u64.wrap (n : Int) = n := fun n hn => by simp [IntKind.wrap, IntKind.bits, IntKind.signed]; omega
  have a1 : IntKind.u64.wrap (3 * lo32 x) = ((3 * (x % 4294967296) : Nat) : Int) := by
    rw [lo32_eq x h0, show (3 : Int) * ((x % 4294967296 : Nat) : Int) = ((3 * (x % 4294967296) : Nat) : Int) by omega]
    exact wr _ (by omega)
  have a2 : IntKind.u64.wrap (2 * lo32 y) = ((2 * (y % 4294967296) : Nat) : Int) := by
    rw [lo32_eq y h1, show (2 : Int) * ((y % 4294967296 : Nat) : Int) = ((2 * (y % 4294967296) : Nat) : Int) by omega]
    exact wr _ (by omega)
  have a3 : IntKind.u64.wrap (3 * hi32 x) = ((3 * (x / 4294967296) : Nat) : Int) := by
    rw [hi32_eq x, show (3 : Int) * ((x / 4294967296 : Nat) : Int) = ((3 * (x / 4294967296) : Nat) : Int) by omega]
    exact wr _ (by omega)
  have a4 : IntKind.u64.wrap (2 * hi32 y) = ((2 * (y / 4294967296) : Nat) : Int) := by
    rw [hi32_eq y, show (2 : Int) * ((y / 4294967296 : Nat) : Int) = ((2 * (y / 4294967296) : Nat) : Int) by omega]
    exact wr _ (by omega)
  rw [a1, a2, a3, a4, hi32_eq, hi32_eq, lo32_eq _ (by omega), lo32_eq _ (by omega)]
  refine ⟨_, _, _, _, rfl, rfl, rfl, rfl, ?_, ?_, ?_, ?_⟩
  · rw [← Int.natCast_add, wr _ (by omega)]
    congr 1
    omega
  · rw [← Int.natCast_add, wr _ (by omega)]
    congr 1
    omega
  · congr 1
    omega
  · congr 1
    omega
set_option maxRecDepth 100000 in
set_option maxHeartbeats 3200000 in
theorem weights_core (X Y A B C D : Int) (z : Bool) (w : World) (HS : Calls Try.prog 34 #[.int .u64 X, .int .u64 Y] w fun e w' => e = .returned (.bool z) ∧ w = w')
    (HR : Hid (X < 2305843009213693952 → Y < 2305843009213693952 → Calls Try.prog 35 #[.int .u64 X, .int .u64 Y] w fun e w' => e = .returned (.bool z) ∧ w = w'))
    (hA : IntKind.u64.wrap (IntKind.u64.wrap (3 * hi32 X) + hi32 (IntKind.u64.wrap (3 * lo32 X))) = A) (hB : IntKind.u64.wrap (IntKind.u64.wrap (2 * hi32 Y) + hi32 (IntKind.u64.wrap (2 * lo32 Y))) = B)
    (hC : lo32 (IntKind.u64.wrap (3 * lo32 X)) = C) (hD : lo32 (IntKind.u64.wrap (2 * lo32 Y)) = D)
    (hc : (z = true ∧ 1 ≤ X ∧ B < A) ∨ (z = true ∧ 1 ≤ X ∧ A = B ∧ D ≤ C) ∨ (z = false ∧ 1 ≤ X ∧ A = B ∧ C < D) ∨ (z = false ∧ 1 ≤ X ∧ A < B) ∨ (z = false ∧ X < 1)) :
    Calls Try.prog 7 #[.int .u64 X, .int .u64 Y] w fun e w' => e = .returned (.bool true) ∧ Below w.heap.size w w' := by
  have HK := known13_c w
  rcases hc with ⟨rfl, h1, h2⟩ | ⟨rfl, h1, h2, h3⟩ | ⟨rfl, h1, h2, h3⟩ | ⟨rfl, h1, h2⟩ | ⟨rfl, h1⟩
  all_goals go_enter Try.func7, Try.ntmps7
  all_goals go_wp2_with fail
  all_goals refine HS.mono ?_
  all_goals rintro e w' ⟨rfl, hw⟩
  all_goals subst hw
  all_goals clear HS
  all_goals go_wp2_with (first
    | (go_at_call 35; (with_reducible refine (HR.out (by assumption) (by assumption)).mono ?_); rintro e w2 ⟨rfl, hw2⟩; subst hw2)
    | (go_at_call 21; (with_reducible refine HK.mono ?_); rintro e w2 ⟨rfl, hb⟩))
  all_goals go_ret
  all_goals first | exact ⟨rfl, hb⟩ | exact ⟨ret_bool (by simp; omega), hb⟩
theorem weights_walk (x y : Nat) (w : World) (h0 : x < 18446744073709551616) (h1 : y < 18446744073709551616) :
    Calls Try.prog 7 #[.int .u64 x, .int .u64 y] w fun e w' => e = .returned (.bool true) ∧ Below w.heap.size w w' := by
  obtain ⟨A, B, C, D, hA, hB, hC, hD, eA, eB, eC, eD⟩ := weights_num x y h0 h1
  refine weights_core x y A B C D (decide (1 ≤ x ∧ 2 * y ≤ 3 * x)) w (fstrong_c x y w h0 h1) (Lib.hid fun a b => rstrong_c x y w (by omega) (by omega)) hA hB hC hD ?_
  simp only [decide_eq_true_eq, decide_eq_false_iff_not]
  omega
end Go.Proofs.Ytlkflddjpkhndaa