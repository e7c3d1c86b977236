/- Contract of landmarkref01.Get. -/
import Derived.Test.YtbpbnnonialelaaRef01
namespace Go.Proofs.Ytbpbnnonialelaa
open Go.RowKit

theorem numOf_snoc (l : List UInt8) (x : UInt8) : numOf (l ++ [x]) = numOf l * 256 + x.toNat := by
  simp [numOf, List.foldl_append]
theorem numOf_take_succ (l : List UInt8) (j : Nat) (h : j < l.length) : numOf (l.take (j + 1)) = numOf (l.take j) * 256 + l[j].toNat := by
  rw [List.take_succ_eq_append_getElem h, numOf_snoc]
theorem get_step (l : List UInt8) (j : Nat) (h : j < l.length) : numOf (l.take (j + 1)) * 256 ^ (l.length - (j + 1)) = numOf (l.take j) * 256 ^ (l.length - j) + l[j].toNat * 256 ^ (l.length - 1 - j) := by
  rw [numOf_take_succ l j h, show l.length - j = l.length - (j + 1) + 1 by omega, Nat.pow_succ, show l.length - 1 - j = l.length - (j + 1) by omega, Nat.add_mul]
  congr 1
  rw [Nat.mul_assoc, Nat.mul_comm 256]
theorem get_lt (l : List UInt8) (j : Nat) (h : j ≤ l.length) (h8 : l.length ≤ 8) : numOf (l.take j) * 256 ^ (l.length - j) < 18446744073709551616 := by
  have h1 := numOf_lt (l.take j)
  rw [List.length_take, Nat.min_eq_left h] at h1
  have h2 : 0 < 256 ^ (l.length - j) := Nat.pow_pos (by omega)
  have h3 := Nat.mul_lt_mul_of_pos_right h1 h2
  rw [← Nat.pow_add, show j + (l.length - j) = l.length by omega] at h3
  have h4 := Nat.pow_le_pow_right (show 0 < 256 by omega) h8
  omega

set_option maxRecDepth 100000 in
set_option maxHeartbeats 800000 in
theorem rget_c (s : Sl) (l : List UInt8) (w : World) (hs : BytesR w s l) (h8 : l.length ≤ 8) :
    Calls Try.prog 100 #[s.v] w fun e w' => e = .returned (.int .u64 (numOf l)) ∧ ∃ m, w' = w.drewN m := by
  obtain ⟨sa, sn, sc⟩ := s
  obtain rfl : sn = l.length := hs.1
  have Hs := Lib.hid hs
  clear hs
  show Calls Try.prog 100 #[.slice sa l.length sc] w _
  go_enter Try.func100, Try.ntmps100
  go_wp2_with fail
  go_loopw [3, 4] (fun p i w' => ∃ j : Nat, j ≤ l.length ∧ p = .int .u64 ((numOf (l.take j) * 256 ^ (l.length - j) : Nat) : Int) ∧ i = .int .i64 j ∧ ∃ m, w' = w.drewN m) (fun _ i _ => l.length - (intOf i).toNat)
  case atStart => exact ⟨0, Nat.zero_le _, by simp [numOf], rfl, 0, rfl⟩
  case round =>
    obtain ⟨j, hj, rfl, rfl, m, rfl⟩ := hrel
    by_cases hlt : j < l.length
    · obtain ⟨b, off, ha, hc⟩ := Hs.out.2.2 (by intro e; subst e; simp at hlt)
      simp only at ha
      subst ha
      obtain ⟨W, hW⟩ : ∃ W, W = w.drewN m := ⟨_, rfl⟩
      have hcj : ∀ n, (W.drewN n).cell? ⟨b, off + j, none⟩ = some (.int .u8 (l[j].toNat : Int)) := fun n => by rw [hW]; exact hc j hlt
      rw [← hW]
      have HW := Lib.hid hW
      clear hW
      have hst := get_step l j hlt
      have hg0 := get_lt l j (by omega) h8
      have hg1 := get_lt l (j + 1) hlt h8
      have hp7 := pow_le7 (l.length - 1 - j) (by omega)
      have hp0 : 0 < 256 ^ (l.length - 1 - j) := Nat.pow_pos (by omega)
      have hx := l[j].toNat_lt
      have HC := fun W => power_i ((l.length : Int) - 1 - j) W (by omega) (by omega)
      rw [show ((l.length : Int) - 1 - j).toNat = l.length - 1 - j by omega] at HC
      have hi0 : (0 : Int) ≤ (j : Int) := by omega
      have hi1 : (j : Int) < (l.length : Int) := by omega
      generalize hy : l[j].toNat = y at *
      generalize hn1 : numOf (l.take (j + 1)) * 256 ^ (l.length - (j + 1)) = n1 at *
      generalize hn0 : numOf (l.take j) * 256 ^ (l.length - j) = n0 at *
      generalize 256 ^ (l.length - 1 - j) = p at *
      have hyp : y * p < 18446744073709551616 := by omega
      have Hn := Lib.hid hn1
      clear hn1 hn0 hy hc
      go_wp2_with fail
      go_quiet ((go_at_call 105; exact Calls.quiet_of_same (HC _)))
      go_wp2_with fail
      go_roundw
      case rel => exact ⟨j + 1, by omega, by rw [Hn.out]; go_num, by go_num, _, by rw [HW.out, World.drewN_drewN]⟩
      case measure => simp [intOf]; omega
    · obtain rfl : j = l.length := by omega
      go_wp2_with fail
      go_ret
      exact ⟨by simp, m, rfl⟩
end Go.Proofs.Ytbpbnnonialelaa
