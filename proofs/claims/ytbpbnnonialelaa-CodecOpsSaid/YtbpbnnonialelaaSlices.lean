/- Contracts of package slices and cmp at bytes: Equal, Compare, Or. -/
import Derived.Test.YtbpbnnonialelaaMem
import Derived.Test.YtbpbnnonialelaaLoads
import Derived.Handy
import Derived.Deep.QuietTactic
import Derived.BigQuiet
namespace Go.Proofs.Ytbpbnnonialelaa
open Go.RowKit

theorem isNaN64_c (n : Int) (w : World) : Calls Try.prog 108 #[.int .u64 n] w fun e w' => e = .returned (.bool false) ∧ w = w' := by
  go_enter Try.func108, Try.ntmps108
  go_wp2_with fail
  go_ret
  exact ⟨ret_bool (by simp), rfl⟩
theorem isNaN8_c (n : Int) (w : World) : Calls Try.prog 123 #[.int .u8 n] w fun e w' => e = .returned (.bool false) ∧ w = w' := by
  go_enter Try.func123, Try.ntmps123
  go_wp2_with fail
  go_ret
  exact ⟨ret_bool (by simp), rfl⟩
def cmpI (x y : Int) : Int := if x < y then -1 else if y < x then 1 else 0
theorem compare64_c (x y : Int) (w : World) : Calls Try.prog 85 #[.int .u64 x, .int .u64 y] w fun e w' => e = .returned (.int .i64 (cmpI x y)) ∧ w = w' := by
  rcases Int.lt_trichotomy x y with h | h | h
  all_goals
    go_enter Try.func85, Try.ntmps85
    go_wp2_with (go_at_call 108; refine (isNaN64_c _ _).mono ?_; rintro e w' ⟨rfl, rfl⟩)
    go_ret
    exact ⟨ret_int (by unfold cmpI; first | (rw [if_pos (by omega)]) | (rw [if_neg (by omega), if_neg (by omega)]) | (rw [if_neg (by omega), if_pos (by omega)])), rfl⟩
theorem compare8_c (x y : Int) (w : World) : Calls Try.prog 109 #[.int .u8 x, .int .u8 y] w fun e w' => e = .returned (.int .i64 (cmpI x y)) ∧ w = w' := by
  rcases Int.lt_trichotomy x y with h | h | h
  all_goals
    go_enter Try.func109, Try.ntmps109
    go_wp2_with (go_at_call 123; refine (isNaN8_c _ _).mono ?_; rintro e w' ⟨rfl, rfl⟩)
    go_ret
    exact ⟨ret_int (by unfold cmpI; first | (rw [if_pos (by omega)]) | (rw [if_neg (by omega), if_neg (by omega)]) | (rw [if_neg (by omega), if_pos (by omega)])), rfl⟩

/-- bytes in order -/
def lexC : List UInt8 → List UInt8 → Int
  | [], [] => 0
  | [], _ :: _ => -1
  | _ :: _, [] => 1
  | a :: x, b :: y => if cmpI a.toNat b.toNat = 0 then lexC x y else cmpI a.toNat b.toNat

theorem lexC_step (x y : List UInt8) (k : Nat) (hx : k < x.length) (hy : k < y.length) : lexC (x.drop k) (y.drop k) = if cmpI x[k].toNat y[k].toNat = 0 then lexC (x.drop (k + 1)) (y.drop (k + 1)) else cmpI x[k].toNat y[k].toNat := by
  rw [List.drop_eq_getElem_cons hx, List.drop_eq_getElem_cons hy]
  rfl
theorem lexC_right (x y : List UInt8) (k : Nat) (hx : k < x.length) (hy : y.length ≤ k) : lexC (x.drop k) (y.drop k) = 1 := by
  rw [List.drop_eq_getElem_cons hx, List.drop_eq_nil_of_le hy]
  rfl
theorem lexC_left (x y : List UInt8) (k : Nat) (hx : x.length ≤ k) (hy : k < y.length) : lexC (x.drop k) (y.drop k) = -1 := by
  rw [List.drop_eq_getElem_cons hy, List.drop_eq_nil_of_le hx]
  rfl
theorem lexC_end (x y : List UInt8) (k : Nat) (hx : x.length ≤ k) (hy : y.length ≤ k) : lexC (x.drop k) (y.drop k) = 0 := by
  rw [List.drop_eq_nil_of_le hy, List.drop_eq_nil_of_le hx]
  rfl

set_option maxRecDepth 100000 in
set_option maxHeartbeats 800000 in
theorem scompare_c (s t : Sl) (x y : List UInt8) (w : World) (hs : BytesR w s x) (ht : BytesR w t y) (hx : x.length ≤ 9223372036854775807) :
    Calls Try.prog 86 #[s.v, t.v] w fun e w' => e = .returned (.int .i64 (lexC x y)) ∧ w = w' := by
  have hs1 := hs.1
  have ht1 := ht.1
  obtain ⟨sa, sn, sc⟩ := s
  obtain ⟨ta, tn, tc⟩ := t
  simp only at hs1 ht1
  subst hs1
  subst ht1
  have Hs := Lib.hid hs
  have Ht := Lib.hid ht
  clear hs ht
  change Calls Try.prog _ #[.slice sa x.length sc, .slice ta y.length tc] w _
  go_enter Try.func86, Try.ntmps86
  go_wp2_with fail
  go_loop [11] (fun i => ∃ k : Nat, k ≤ x.length ∧ k ≤ y.length ∧ lexC x y = lexC (x.drop k) (y.drop k) ∧ i = .int .i64 k) (fun i => x.length - (intOf i).toNat)
  case atStart => exact ⟨0, Nat.zero_le _, Nat.zero_le _, by simp, rfl⟩
  case round =>
    obtain ⟨k, hk, hky, hl, rfl⟩ := hrel
    have Hl := Lib.hid hl
    clear hl
    by_cases hkx : k < x.length
    · obtain ⟨b, off, e, _, hc⟩ := Hs.out.at (by omega)
      have e1 := congrArg Sl.a e
      simp only at e1
      subst e1
      clear e
      have hcx : w.cell? ⟨b, off + k, none⟩ = some (.int .u8 (x[k].toNat : Int)) := hc k hkx
      clear hc
      by_cases hyk : k < y.length
      · obtain ⟨b2, off2, e, _, hc⟩ := Ht.out.at (by omega)
        have e1 := congrArg Sl.a e
        simp only at e1
        subst e1
        clear e
        have hcy : w.cell? ⟨b2, off2 + k, none⟩ = some (.int .u8 (y[k].toNat : Int)) := hc k hyk
        clear hc
        have hstep := Lib.hid (lexC_step x y k hkx hyk)
        have HC := fun W => compare8_c (x[k].toNat : Int) (y[k].toNat : Int) W
        generalize hxk : x[k] = xk at *
        generalize hyk' : y[k] = yk at *
        generalize hcm : cmpI (xk.toNat : Int) (yk.toNat : Int) = cm at *
        have Hx := Lib.hid hxk
        have Hy := Lib.hid hyk'
        have Hcm := Lib.hid hcm
        have HC' := Lib.hid HC
        clear hxk hyk' hcm HC
        by_cases hz : cm = 0
        · have hb : (cm != 0) = false := by simp [hz]
          have Hz := Lib.hid hz
          clear hz
          go_wp2_with (go_at_call 109; refine (HC'.out _).mono ?_; rintro e w' ⟨rfl, rfl⟩)
          go_round
          case rel => exact ⟨k + 1, by omega, by omega, by rw [Hl.out, hstep.out, if_pos Hz.out], by go_num⟩
          case measure => simp [intOf]; omega
        · have hb : (cm != 0) = true := by simp [hz]
          have Hz := Lib.hid hz
          clear hz
          go_wp2_with (go_at_call 109; refine (HC'.out _).mono ?_; rintro e w' ⟨rfl, rfl⟩)
          go_ret
          exact ⟨ret_int (by rw [Hl.out, hstep.out, if_neg Hz.out]), rfl⟩
      · have hstep := Lib.hid (lexC_right x y k hkx (by omega))
        go_wp2_with fail
        go_ret
        exact ⟨ret_int (by rw [Hl.out, hstep.out]), rfl⟩
    · by_cases hyk : x.length < y.length
      · have hstep := Lib.hid (lexC_left x y k (by omega) (by omega))
        go_wp2_with fail
        go_ret
        exact ⟨ret_int (by rw [Hl.out, hstep.out]), rfl⟩
      · have hstep := Lib.hid (lexC_end x y k (by omega) (by omega))
        go_wp2_with fail
        go_ret
        exact ⟨ret_int (by rw [Hl.out, hstep.out]), rfl⟩

theorem take_succ_eq (x y : List UInt8) (k : Nat) (hx : k < x.length) (hy : k < y.length) (h : x.take k = y.take k) (he : x[k] = y[k]) : x.take (k + 1) = y.take (k + 1) := by
  rw [List.take_succ_eq_append_getElem hx, List.take_succ_eq_append_getElem hy, h, he]
theorem ne_of_at (x y : List UInt8) (k : Nat) (hx : k < x.length) (hy : k < y.length) (he : x[k] ≠ y[k]) : x ≠ y := by
  intro h
  subst h
  exact he rfl

set_option maxRecDepth 100000 in
set_option maxHeartbeats 800000 in
theorem sequal_c (s t : Sl) (x y : List UInt8) (w : World) (hs : BytesR w s x) (ht : BytesR w t y) (hx : x.length ≤ 9223372036854775807) :
    Calls Try.prog 63 #[s.v, t.v] w fun e w' => e = .returned (.bool (decide (x = y))) ∧ ∃ n, w' = w.drewN n := by
  have hs1 := hs.1
  have ht1 := ht.1
  obtain ⟨sa, sn, sc⟩ := s
  obtain ⟨ta, tn, tc⟩ := t
  simp only at hs1 ht1
  subst hs1
  subst ht1
  have Hs := Lib.hid hs
  have Ht := Lib.hid ht
  clear hs ht
  change Calls Try.prog _ #[.slice sa x.length sc, .slice ta y.length tc] w _
  by_cases hlen : x.length = y.length
  · have hl1 : (x.length : Int) = y.length := by omega
    have hb : ((x.length : Int) != (y.length : Int)) = false := by simp [hl1]
    have Hlen := Lib.hid hlen
    clear hlen hl1
    go_enter Try.func63, Try.ntmps63
    go_wp2_with fail
    go_loopw [13] (fun i w' => ∃ k : Nat, k ≤ x.length ∧ x.take k = y.take k ∧ i = .int .i64 k ∧ ∃ n, w' = w.drewN n) (fun i _ => x.length - (intOf i).toNat)
    case atStart => exact ⟨0, Nat.zero_le _, by simp, rfl, 0, rfl⟩
    case round =>
      obtain ⟨k, hk, hl, rfl, n, rfl⟩ := hrel
      have Hl := Lib.hid hl
      clear hl
      by_cases hkx : k < x.length
      · have hyk : k < y.length := by have := Hlen.out; omega
        obtain ⟨b, off, e, _, hc⟩ := Hs.out.at (by omega)
        have e1 := congrArg Sl.a e
        simp only at e1
        subst e1
        clear e
        have hcx : ∀ n, (w.drewN n).cell? ⟨b, off + k, none⟩ = some (.int .u8 (x[k].toNat : Int)) := fun _ => hc k hkx
        clear hc
        obtain ⟨b2, off2, e, _, hc⟩ := Ht.out.at (by omega)
        have e1 := congrArg Sl.a e
        simp only at e1
        subst e1
        clear e
        have hcy : ∀ n, (w.drewN n).cell? ⟨b2, off2 + k, none⟩ = some (.int .u8 (y[k].toNat : Int)) := fun _ => hc k hyk
        clear hc
        have i0 : (0 : Int) ≤ (k : Int) := by omega
        have i1 : (k : Int) < (x.length : Int) := by omega
        have i2 : (k : Int) < (y.length : Int) := by omega
        have hne := ne_of_at x y k hkx hyk
        have htk := take_succ_eq x y k hkx hyk Hl.out
        generalize hxk : x[k] = xk at *
        generalize hyk' : y[k] = yk at *
        have Hne := Lib.hid hne
        have Htk := Lib.hid htk
        clear hxk hyk' hne htk
        by_cases hz : xk = yk
        · subst hz
          have hb : ((xk.toNat : Int) != (xk.toNat : Int)) = false := by simp
          go_wp2_with fail
          go_quiet (fail)
          go_wp2_with fail
          go_roundw
          case rel => exact ⟨k + 1, by omega, Htk.out (by first | rfl | trivial), by go_num, _, rfl⟩
          case measure => simp [intOf]; omega
        · have hb : ((xk.toNat : Int) != (yk.toNat : Int)) = true := by
            rw [bne_iff_ne]
            intro h
            exact hz (UInt8.toNat_inj.1 (by omega))
          have hd : decide (x = y) = false := decide_eq_false (Hne.out hz)
          have Hd := Lib.hid hd
          clear hd hz
          go_wp2_with fail
          go_quiet (fail)
          go_wp2_with fail
          go_ret
          exact ⟨ret_bool Hd.out.symm, _, World.drewN_drewN _ _ _⟩
      · have hd : decide (x = y) = true := decide_eq_true (by
          have h1 := Hl.out
          have h2 := Hlen.out
          rw [List.take_of_length_le (by omega), List.take_of_length_le (by omega)] at h1
          exact h1)
        have Hd := Lib.hid hd
        clear hd
        go_wp2_with fail
        go_ret
        exact ⟨ret_bool Hd.out.symm, _, rfl⟩
  · have hb : ((x.length : Int) != (y.length : Int)) = true := by simp; omega
    have hd : decide (x = y) = false := decide_eq_false (fun h => hlen (by rw [h]))
    rw [hd]
    clear hlen hd
    go_enter Try.func63, Try.ntmps63
    go_wp2_with fail
    go_ret
    exact ⟨rfl, 0, rfl⟩
end Go.Proofs.Ytbpbnnonialelaa
