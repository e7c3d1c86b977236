/- Contracts of package landmarkref01: numbers. -/
import Derived.Test.YtbpbnnonialelaaConcat
import Derived.Test.YtbpbnnonialelaaOpBytes
import Derived.Deep.QuietTactic
import Derived.BigQuiet
namespace Go.Proofs.Ytbpbnnonialelaa
open Go.RowKit

theorem pow_le7 (j : Nat) (h : j ≤ 7) : 256 ^ j ≤ 72057594037927936 := by
  have := Nat.pow_le_pow_right (show 0 < 256 by omega) h
  omega
theorem power_c (k : Nat) (w : World) (hk : k ≤ 7) : Calls Try.prog 105 #[.int .i64 k] w fun e w' => e = .returned (.int .u64 ((256 ^ k : Nat) : Int)) ∧ w' = w := by
  go_enter Try.func105, Try.ntmps105
  go_wp2_with fail
  go_loop [3, 4] (fun p i => ∃ j : Nat, j ≤ k ∧ p = .int .u64 ((256 ^ j : Nat) : Int) ∧ i = .int .i64 j) (fun _ i => k - (intOf i).toNat)
  case atStart => exact ⟨0, Nat.zero_le _, rfl, rfl⟩
  case round =>
    obtain ⟨j, hj, rfl, rfl⟩ := hrel
    have hle := pow_le7 j (by omega)
    have hs : 256 ^ (j + 1) = 256 ^ j * 256 := Nat.pow_succ ..
    have Hk := Lib.hid (show j = k → (256 ^ j : Nat) = 256 ^ k from fun h => by rw [h])
    by_cases hlt : j < k
    · have hle2 : 256 ^ j * 256 ≤ 72057594037927936 := by rw [← hs]; exact pow_le7 (j + 1) (by omega)
      generalize 256 ^ j = p at *
      have Hs := Lib.hid hs
      clear hs
      go_wp2_with fail
      go_round
      case rel => exact ⟨j + 1, by omega, by rw [Hs.out]; go_num, by go_num⟩
      case measure => simp [intOf]; omega
    · clear hs
      go_wp2_with fail
      go_ret
      obtain rfl : j = k := by omega
      exact ⟨by simp, rfl⟩
theorem power_i (i : Int) (w : World) (h0 : 0 ≤ i) (h7 : i ≤ 7) : Calls Try.prog 105 #[.int .i64 i] w fun e w' => e = .returned (.int .u64 ((256 ^ i.toNat : Nat) : Int)) ∧ w' = w := by
  obtain ⟨k, rfl⟩ := Int.eq_ofNat_of_zero_le h0
  exact power_c k w (by omega)

theorem be_get : ∀ (size n j : Nat) (h : j < size), (be size n)[j]'(by rw [be_length]; exact h) = UInt8.ofNat (n / 256 ^ (size - 1 - j))
  | size + 1, n, j, h => by
    simp only [be]
    by_cases hj : j < size
    · rw [List.getElem_append_left (by rw [be_length]; exact hj), be_get size (n / 256) j hj, Nat.div_div_eq_div_mul]
      congr 2
      rw [show size + 1 - 1 - j = size - 1 - j + 1 by omega, Nat.pow_succ, Nat.mul_comm]
    · obtain rfl : j = size := by omega
      rw [List.getElem_append_right (by rw [be_length]; exact Nat.le_refl _)]
      simp [be_length]
theorem be_take_succ (size n j : Nat) (h : j < size) : (be size n).take (j + 1) = (be size n).take j ++ [UInt8.ofNat (n / 256 ^ (size - 1 - j))] := by
  rw [List.take_succ_eq_append_getElem (by rw [be_length]; exact h), be_get]
  exact h
theorem byteV_div (n p : Nat) : byteV (UInt8.ofNat (n / p)) = .int .u8 ((n : Int) / (p : Int) % 256) := by
  simp [byteV]

set_option maxRecDepth 100000 in
set_option maxHeartbeats 800000 in
theorem rput_c (size n : Nat) (w : World) (hs0 : 1 ≤ size) (hs : size ≤ 8) (hn : n < 18446744073709551616) :
    Calls Try.prog 73 #[.int .u64 n, .int .i64 size] w fun e w' => ∃ v, e = .returned v ∧ Own w' w.heap.size v (be size n) ∧ Below w.heap.size w w' := by
  obtain ⟨i0, hi, hy0, hy1, hy2⟩ := info_parts info_u8
  have hlen := be_length size n
  go_enter Try.func73, Try.ntmps73
  go_wp2_with fail
  go_loopw [5, 6] (fun u i w' => ∃ j : Nat, j ≤ size ∧ Own w' w.heap.size u ((be size n).take j) ∧ i = .int .i64 ((size : Int) - 1 - j) ∧ Below w.heap.size w w') (fun _ i _ => (intOf i + 1).toNat)
  case atStart => exact ⟨0, Nat.zero_le _, Own.nil _ _, by simp, Below.refl _ _⟩
  case round =>
    obtain ⟨j, hj, hown, rfl, hB⟩ := hrel
    have hz := hB.size
    by_cases hlt : j < size
    · have hts := be_take_succ size n j hlt
      have hp7 := pow_le7 (size - 1 - j) (by omega)
      have hp0 : 0 < 256 ^ (size - 1 - j) := Nat.pow_pos (by omega)
      have hbv := byteV_div n (256 ^ (size - 1 - j))
      have HC := fun W => power_i ((size : Int) - 1 - j) W (by omega) (by omega)
      rw [show ((size : Int) - 1 - j).toNat = size - 1 - j by omega] at HC
      have htl : ((be size n).take j).length + 1 ≤ 140737488355328 := by simp; omega
      generalize 256 ^ (size - 1 - j) = p at *
      have hd0 : (0 : Int) ≤ (n : Int) / (p : Int) := Int.ediv_nonneg (by omega) (by omega)
      have hd1 : (n : Int) / (p : Int) ≤ n := Int.ediv_le_self _ (by omega)
      have hpp : (0 : Int) < (p : Int) := by omega
      have Hts := Lib.hid hts
      have Hbv := Lib.hid hbv
      have Hown := Lib.hid hown
      clear hts hbv hown
      go_wp2_with (first
        | (go_at_call 105; (with_reducible refine (HC _).mono ?_); rintro e w1 ⟨rfl, rfl⟩)
        | (at_builtin; refine wpList_append_bytes _ rfl (.tmp 13) (.tmp 20) _ (by rfl) w.heap.size 5 i0 _ Try.underlying35 hi hy0 hy1 hy2 rfl _ _ (by rfl) (Hown.out.keep (bel_a _ _)) ⟨some ⟨_, 0, none⟩, 1, 1⟩ [UInt8.ofNat (n / p)] (by rfl) (BytesR.one _ _ _ _ _ rfl Hbv.out) htl (by simp; omega) ?_; intro v' w2 hown2 hg2 _))
      have hB2 : Below w.heap.size w w2 := bel_grown hg2 (hB.trans ((bel_a _ _).mono hz)) (by simp; omega) (fun k hk => (Hown.out.lt k hk).1)
      go_roundw
      case rel => exact ⟨j + 1, by omega, by rw [Hts.out]; exact hown2, by go_num, hB2⟩
      case measure => simp [intOf]; omega
    · have hfl : (be size n).take j = be size n := by rw [List.take_of_length_le (by omega)]
      rw [hfl] at hown
      clear hfl
      go_wp2_with fail
      go_ret
      exact ⟨_, rfl, hown, hB⟩
end Go.Proofs.Ytbpbnnonialelaa
