/- Texts of this proof, one behind the other: ShaP, ShaW. -/
import Derived.Test.YthdjhbiigmcecaaQB
import Derived.Laws.BitsAllLaws
set_option linter.unusedVariables false
set_option linter.unusedSimpArgs false
/- SHA-256, plainly: what both programs compute. -/
namespace Go.Proofs.Ythdjhbiigmcecaa

def rotr (x n : UInt32) : UInt32 := x >>> n ||| x <<< (32 - n)
structure S8 where
  a : UInt32
  b : UInt32
  c : UInt32
  d : UInt32
  e : UInt32
  f : UInt32
  g : UInt32
  h : UInt32
def S8.add (s t : S8) : S8 := ⟨s.a + t.a, s.b + t.b, s.c + t.c, s.d + t.d, s.e + t.e, s.f + t.f, s.g + t.g, s.h + t.h⟩
def S8.list (s : S8) : List UInt32 := [s.a, s.b, s.c, s.d, s.e, s.f, s.g, s.h]
def shaOne (k w : UInt32) (s : S8) : UInt32 := s.h + (rotr s.e 6 ^^^ rotr s.e 11 ^^^ rotr s.e 25) + ((s.e &&& s.f) ^^^ (s.g &&& ~~~s.e)) + k + w
def shaTwo (s : S8) : UInt32 := (rotr s.a 2 ^^^ rotr s.a 13 ^^^ rotr s.a 22) + ((s.a &&& s.b) ^^^ (s.a &&& s.c) ^^^ (s.b &&& s.c))
def shaRnd (k w : UInt32) (s : S8) : S8 := ⟨shaOne k w s + shaTwo s, s.a, s.b, s.c, s.d + shaOne k w s, s.e, s.f, s.g⟩
def sig0 (x : UInt32) : UInt32 := rotr x 7 ^^^ rotr x 18 ^^^ x >>> 3
def sig1 (x : UInt32) : UInt32 := rotr x 17 ^^^ rotr x 19 ^^^ x >>> 10
/-- the i-th word of 64 bytes -/
def wd (m : List UInt8) (i : Nat) : UInt32 := UInt32.ofNat (numOf ((m.drop (4 * i)).take 4))
def sch (m : List UInt8) (t : Nat) : UInt32 :=
  if t < 16 then wd m t else sig1 (sch m (t - 2)) + sch m (t - 7) + sig0 (sch m (t - 15)) + sch m (t - 16)
termination_by t
theorem sch_low (m : List UInt8) (t : Nat) (h : t < 16) : sch m t = wd m t := by rw [sch, if_pos h]
theorem sch_high (m : List UInt8) (t : Nat) (h : 16 ≤ t) : sch m t = sig1 (sch m (t - 2)) + sch m (t - 7) + sig0 (sch m (t - 15)) + sch m (t - 16) := by rw [sch, if_neg (by omega)]
def shaK : List UInt32 := [
  0x428a2f98, 0x71374491, 0xb5c0fbcf, 0xe9b5dba5, 0x3956c25b, 0x59f111f1, 0x923f82a4, 0xab1c5ed5,
  0xd807aa98, 0x12835b01, 0x243185be, 0x550c7dc3, 0x72be5d74, 0x80deb1fe, 0x9bdc06a7, 0xc19bf174,
  0xe49b69c1, 0xefbe4786, 0x0fc19dc6, 0x240ca1cc, 0x2de92c6f, 0x4a7484aa, 0x5cb0a9dc, 0x76f988da,
  0x983e5152, 0xa831c66d, 0xb00327c8, 0xbf597fc7, 0xc6e00bf3, 0xd5a79147, 0x06ca6351, 0x14292967,
  0x27b70a85, 0x2e1b2138, 0x4d2c6dfc, 0x53380d13, 0x650a7354, 0x766a0abb, 0x81c2c92e, 0x92722c85,
  0xa2bfe8a1, 0xa81a664b, 0xc24b8b70, 0xc76c51a3, 0xd192e819, 0xd6990624, 0xf40e3585, 0x106aa070,
  0x19a4c116, 0x1e376c08, 0x2748774c, 0x34b0bcb5, 0x391c0cb3, 0x4ed8aa4a, 0x5b9cca4f, 0x682e6ff3,
  0x748f82ee, 0x78a5636f, 0x84c87814, 0x8cc70208, 0x90befffa, 0xa4506ceb, 0xbef9a3f7, 0xc67178f2]
theorem shaK_length : shaK.length = 64 := rfl
def kOf (i : Nat) : UInt32 := shaK.getD i 0
def shaH : S8 := ⟨0x6a09e667, 0xbb67ae85, 0x3c6ef372, 0xa54ff53a, 0x510e527f, 0x9b05688c, 0x1f83d9ab, 0x5be0cd19⟩
def shaComp (m : List UInt8) (s : S8) : Nat → S8
  | 0 => s
  | t + 1 => shaRnd (kOf t) (sch m t) (shaComp m s t)
def shaBlk (s : S8) (m : List UInt8) : S8 := s.add (shaComp m s 64)
/-- all whole blocks of a message -/
def shaRun (s : S8) (m : List UInt8) : S8 :=
  if h : 64 ≤ m.length then shaRun (shaBlk s (m.take 64)) (m.drop 64) else s
termination_by m.length
decreasing_by simp; omega
theorem shaRun_short (s : S8) (m : List UInt8) (h : m.length < 64) : shaRun s m = s := by rw [shaRun, dif_neg (by omega)]
theorem shaRun_long (s : S8) (m : List UInt8) (h : 64 ≤ m.length) : shaRun s m = shaRun (shaBlk s (m.take 64)) (m.drop 64) := by rw [shaRun, dif_pos h]
/-- what waits -/
def shaTail (m : List UInt8) : List UInt8 := m.drop (64 * (m.length / 64))
theorem shaTail_short (m : List UInt8) (h : m.length < 64) : shaTail m = m := by
  rw [shaTail, show m.length / 64 = 0 by omega]
  rfl
theorem shaTail_long (m : List UInt8) (h : 64 ≤ m.length) : shaTail m = shaTail (m.drop 64) := by
  rw [shaTail, shaTail, List.drop_drop, List.length_drop]
  congr 1
  omega
theorem shaRun_tail : ∀ (n : Nat) (s : S8) (m p : List UInt8), m.length ≤ n → m.length % 64 + p.length < 64 → shaRun s (m ++ p) = shaRun s m ∧ shaTail (m ++ p) = shaTail m ++ p := by
  intro n
  induction n using Nat.strongRecOn with
  | _ n ih =>
    intro s m p hm hp
    by_cases h : m.length < 64
    · rw [shaRun_short s m h, shaRun_short s (m ++ p) (by simp; omega), shaTail_short m h, shaTail_short (m ++ p) (by simp; omega)]
      exact ⟨rfl, rfl⟩
    · have e1 : (m ++ p).take 64 = m.take 64 := List.take_append_of_le_length (by omega)
      have e2 : (m ++ p).drop 64 = m.drop 64 ++ p := List.drop_append_of_le_length (by omega)
      rw [shaRun_long s m (by omega), shaRun_long s (m ++ p) (by simp; omega), shaTail_long m (by omega), shaTail_long (m ++ p) (by simp; omega), e1, e2]
      exact ih (n - 64) (by omega) _ _ _ (by simp; omega) (by simp; omega)
theorem shaRun_full : ∀ (n : Nat) (s : S8) (m p : List UInt8), m.length ≤ n → m.length % 64 + p.length = 64 → shaRun s (m ++ p) = shaBlk (shaRun s m) (shaTail m ++ p) ∧ shaTail (m ++ p) = [] := by
  intro n
  induction n using Nat.strongRecOn with
  | _ n ih =>
    intro s m p hm hp
    by_cases h : m.length < 64
    · have hl : (m ++ p).length = 64 := by simp; omega
      rw [shaRun_short s m h, shaTail_short m h, shaRun_long s (m ++ p) (by omega), shaTail_long (m ++ p) (by omega), List.take_of_length_le (by omega), List.drop_of_length_le (by omega)]
      exact ⟨shaRun_short _ _ (by simp), rfl⟩
    · have e1 : (m ++ p).take 64 = m.take 64 := List.take_append_of_le_length (by omega)
      have e2 : (m ++ p).drop 64 = m.drop 64 ++ p := List.drop_append_of_le_length (by omega)
      rw [shaRun_long s m (by omega), shaRun_long s (m ++ p) (by simp; omega), shaTail_long m (by omega), shaTail_long (m ++ p) (by simp; omega), e1, e2]
      exact ih (n - 64) (by omega) _ _ _ (by simp; omega) (by simp; omega)
def shaZeros (n : Nat) : Nat := (119 - n % 64) % 64
def shaPad (m : List UInt8) : List UInt8 := m ++ [128] ++ List.replicate (shaZeros m.length) 0 ++ be 8 (m.length * 8)
/-- four bytes of a word -/
def be4 (x : UInt32) : List UInt8 := be 4 x.toNat
def shaOut (s : S8) : List UInt8 := s.list.flatMap be4
theorem shaOut_length (s : S8) : (shaOut s).length = 32 := by simp [shaOut, S8.list, be4, be_length]
def shaSum (m : List UInt8) : Hash := ⟨shaOut (shaRun shaH (shaPad m)), shaOut_length _⟩
end Go.Proofs.Ythdjhbiigmcecaa

/- SHA-256's words: what the operations on them come to, and the functions that turn a word. -/
namespace Go.Proofs.Ythdjhbiigmcecaa
open Go.RowKit

def u32V (x : UInt32) : Value := .int .u32 (x.toNat : Int)
/-- a word as the machine's number, closed to the walk -/
def u32I (x : UInt32) : Int := (x.toNat : Int)
theorem u32V_eq (x : UInt32) : u32V x = .int .u32 (u32I x) := rfl
theorem u32I_bd (x : UInt32) : 0 ≤ u32I x ∧ u32I x ≤ 4294967295 := by
  have := x.toNat_lt
  unfold u32I
  omega
theorem u32_add (a b : UInt32) : IntKind.u32.wrap ((a.toNat : Int) + (b.toNat : Int)) = ((a + b).toNat : Int) := by
  rw [IntKind.wrap_u32', UInt32.toNat_add]
  omega
theorem u32_xor (a b : UInt32) : bits .xor .u32 (a.toNat : Int) (b.toNat : Int) = ((a ^^^ b).toNat : Int) := by
  rw [u32_xor_nat _ _ a.toNat_lt b.toNat_lt, UInt32.toNat_xor]
theorem u32_and (a b : UInt32) : bits .and .u32 (a.toNat : Int) (b.toNat : Int) = ((a &&& b).toNat : Int) := by
  rw [u32_and_nat _ _ a.toNat_lt b.toNat_lt, UInt32.toNat_and]
theorem u32_or (a b : UInt32) : bits .or .u32 (a.toNat : Int) (b.toNat : Int) = ((a ||| b).toNat : Int) := by
  rw [u32_or_nat _ _ a.toNat_lt b.toNat_lt, UInt32.toNat_or]
theorem u32_andNot (a b : UInt32) : bits .andNot .u32 (a.toNat : Int) (b.toNat : Int) = ((a &&& ~~~b).toNat : Int) := by
  rw [u32_andNot_nat _ _ a.toNat_lt b.toNat_lt, UInt32.toNat_and, UInt32.toNat_not]
  rfl
theorem u32_shr (a : UInt32) (k : Nat) (hk : k < 32) : (a.toNat : Int) / ((2 ^ k : Nat) : Int) = ((a >>> UInt32.ofNat k).toNat : Int) := by
  rw [UInt32.toNat_shiftRight, UInt32.toNat_ofNat', Nat.shiftRight_eq_div_pow, Nat.mod_eq_of_lt (show k < 2 ^ 32 by omega), Nat.mod_eq_of_lt hk]
  exact (Int.natCast_ediv _ _).symm
theorem u32_shl (a : UInt32) (k : Nat) (hk : k < 32) : ((a.toNat : Int) * ((2 ^ k : Nat) : Int)) % 4294967296 = ((a <<< UInt32.ofNat k).toNat : Int) := by
  rw [UInt32.toNat_shiftLeft, UInt32.toNat_ofNat', Nat.shiftLeft_eq, Nat.mod_eq_of_lt (show k < 2 ^ 32 by omega), Nat.mod_eq_of_lt hk]
  rw [Int.natCast_emod, Int.natCast_mul]
  rfl

theorem rot_or (x : UInt32) (n k : Nat) (hn : n < 32) (hk : k < 32) (h : (32 : UInt32) - UInt32.ofNat n = UInt32.ofNat k) :
    bits .or .u32 (u32I x * ((2 ^ k : Nat) : Int) % 4294967296) (u32I x / ((2 ^ n : Nat) : Int)) = u32I (rotr x (UInt32.ofNat n)) := by
  unfold u32I rotr
  rw [u32_shl x k hk, u32_shr x n hn, u32_or, h, UInt32.or_comm]
theorem u32I_add (a b : UInt32) : IntKind.u32.wrap (u32I a + u32I b) = u32I (a + b) := u32_add a b
theorem u32I_xor (a b : UInt32) : bits .xor .u32 (u32I a) (u32I b) = u32I (a ^^^ b) := u32_xor a b
theorem u32I_and (a b : UInt32) : bits .and .u32 (u32I a) (u32I b) = u32I (a &&& b) := u32_and a b
theorem u32I_andNot (a b : UInt32) : bits .andNot .u32 (u32I a) (u32I b) = u32I (a &&& ~~~b) := u32_andNot a b
theorem u32I_shr3 (a : UInt32) : u32I a / (8 : Int) = u32I (a >>> 3) := u32_shr a 3 (by decide)
theorem u32I_shr10 (a : UInt32) : u32I a / (1024 : Int) = u32I (a >>> 10) := u32_shr a 10 (by decide)
theorem rotl2 (x : UInt32) (w : World) :
    Calls Try.prog 225 #[.int .u32 (u32I x), .int .i64 30] w fun e w' => e = .returned (.int .u32 (u32I (rotr x 2))) ∧ w' = w := by
  obtain ⟨h0, h1⟩ := u32I_bd x
  have hb : bits .and .u64 30 31 = 30 := by decide
  have hr := rot_or x 2 30 (by decide) (by decide) (by decide)
  go_enter Try.func225, Try.ntmps225
  go_wp2_with fail
  go_ret
  exact ⟨ret_int hr, rfl⟩
theorem rot2 (x : UInt32) (w : World) :
    Calls Try.prog 224 #[.int .u32 (u32I x), .int .i64 2] w fun e w' => e = .returned (.int .u32 (u32I (rotr x 2))) ∧ w' = w := by
  go_enter Try.func224, Try.ntmps224
  go_wp2_with (go_at_call 225; refine (rotl2 _ _).mono ?_; rintro e w' ⟨rfl, hw⟩; subst hw)
  go_ret
  exact ⟨rfl, rfl⟩
theorem rotl6 (x : UInt32) (w : World) :
    Calls Try.prog 225 #[.int .u32 (u32I x), .int .i64 26] w fun e w' => e = .returned (.int .u32 (u32I (rotr x 6))) ∧ w' = w := by
  obtain ⟨h0, h1⟩ := u32I_bd x
  have hb : bits .and .u64 26 31 = 26 := by decide
  have hr := rot_or x 6 26 (by decide) (by decide) (by decide)
  go_enter Try.func225, Try.ntmps225
  go_wp2_with fail
  go_ret
  exact ⟨ret_int hr, rfl⟩
theorem rot6 (x : UInt32) (w : World) :
    Calls Try.prog 224 #[.int .u32 (u32I x), .int .i64 6] w fun e w' => e = .returned (.int .u32 (u32I (rotr x 6))) ∧ w' = w := by
  go_enter Try.func224, Try.ntmps224
  go_wp2_with (go_at_call 225; refine (rotl6 _ _).mono ?_; rintro e w' ⟨rfl, hw⟩; subst hw)
  go_ret
  exact ⟨rfl, rfl⟩
theorem rotl7 (x : UInt32) (w : World) :
    Calls Try.prog 225 #[.int .u32 (u32I x), .int .i64 25] w fun e w' => e = .returned (.int .u32 (u32I (rotr x 7))) ∧ w' = w := by
  obtain ⟨h0, h1⟩ := u32I_bd x
  have hb : bits .and .u64 25 31 = 25 := by decide
  have hr := rot_or x 7 25 (by decide) (by decide) (by decide)
  go_enter Try.func225, Try.ntmps225
  go_wp2_with fail
  go_ret
  exact ⟨ret_int hr, rfl⟩
theorem rot7 (x : UInt32) (w : World) :
    Calls Try.prog 224 #[.int .u32 (u32I x), .int .i64 7] w fun e w' => e = .returned (.int .u32 (u32I (rotr x 7))) ∧ w' = w := by
  go_enter Try.func224, Try.ntmps224
  go_wp2_with (go_at_call 225; refine (rotl7 _ _).mono ?_; rintro e w' ⟨rfl, hw⟩; subst hw)
  go_ret
  exact ⟨rfl, rfl⟩
theorem rotl11 (x : UInt32) (w : World) :
    Calls Try.prog 225 #[.int .u32 (u32I x), .int .i64 21] w fun e w' => e = .returned (.int .u32 (u32I (rotr x 11))) ∧ w' = w := by
  obtain ⟨h0, h1⟩ := u32I_bd x
  have hb : bits .and .u64 21 31 = 21 := by decide
  have hr := rot_or x 11 21 (by decide) (by decide) (by decide)
  go_enter Try.func225, Try.ntmps225
  go_wp2_with fail
  go_ret
  exact ⟨ret_int hr, rfl⟩
theorem rot11 (x : UInt32) (w : World) :
    Calls Try.prog 224 #[.int .u32 (u32I x), .int .i64 11] w fun e w' => e = .returned (.int .u32 (u32I (rotr x 11))) ∧ w' = w := by
  go_enter Try.func224, Try.ntmps224
  go_wp2_with (go_at_call 225; refine (rotl11 _ _).mono ?_; rintro e w' ⟨rfl, hw⟩; subst hw)
  go_ret
  exact ⟨rfl, rfl⟩
theorem rotl13 (x : UInt32) (w : World) :
    Calls Try.prog 225 #[.int .u32 (u32I x), .int .i64 19] w fun e w' => e = .returned (.int .u32 (u32I (rotr x 13))) ∧ w' = w := by
  obtain ⟨h0, h1⟩ := u32I_bd x
  have hb : bits .and .u64 19 31 = 19 := by decide
  have hr := rot_or x 13 19 (by decide) (by decide) (by decide)
  go_enter Try.func225, Try.ntmps225
  go_wp2_with fail
  go_ret
  exact ⟨ret_int hr, rfl⟩
theorem rot13 (x : UInt32) (w : World) :
    Calls Try.prog 224 #[.int .u32 (u32I x), .int .i64 13] w fun e w' => e = .returned (.int .u32 (u32I (rotr x 13))) ∧ w' = w := by
  go_enter Try.func224, Try.ntmps224
  go_wp2_with (go_at_call 225; refine (rotl13 _ _).mono ?_; rintro e w' ⟨rfl, hw⟩; subst hw)
  go_ret
  exact ⟨rfl, rfl⟩
theorem rotl17 (x : UInt32) (w : World) :
    Calls Try.prog 225 #[.int .u32 (u32I x), .int .i64 15] w fun e w' => e = .returned (.int .u32 (u32I (rotr x 17))) ∧ w' = w := by
  obtain ⟨h0, h1⟩ := u32I_bd x
  have hb : bits .and .u64 15 31 = 15 := by decide
  have hr := rot_or x 17 15 (by decide) (by decide) (by decide)
  go_enter Try.func225, Try.ntmps225
  go_wp2_with fail
  go_ret
  exact ⟨ret_int hr, rfl⟩
theorem rot17 (x : UInt32) (w : World) :
    Calls Try.prog 224 #[.int .u32 (u32I x), .int .i64 17] w fun e w' => e = .returned (.int .u32 (u32I (rotr x 17))) ∧ w' = w := by
  go_enter Try.func224, Try.ntmps224
  go_wp2_with (go_at_call 225; refine (rotl17 _ _).mono ?_; rintro e w' ⟨rfl, hw⟩; subst hw)
  go_ret
  exact ⟨rfl, rfl⟩
theorem rotl18 (x : UInt32) (w : World) :
    Calls Try.prog 225 #[.int .u32 (u32I x), .int .i64 14] w fun e w' => e = .returned (.int .u32 (u32I (rotr x 18))) ∧ w' = w := by
  obtain ⟨h0, h1⟩ := u32I_bd x
  have hb : bits .and .u64 14 31 = 14 := by decide
  have hr := rot_or x 18 14 (by decide) (by decide) (by decide)
  go_enter Try.func225, Try.ntmps225
  go_wp2_with fail
  go_ret
  exact ⟨ret_int hr, rfl⟩
theorem rot18 (x : UInt32) (w : World) :
    Calls Try.prog 224 #[.int .u32 (u32I x), .int .i64 18] w fun e w' => e = .returned (.int .u32 (u32I (rotr x 18))) ∧ w' = w := by
  go_enter Try.func224, Try.ntmps224
  go_wp2_with (go_at_call 225; refine (rotl18 _ _).mono ?_; rintro e w' ⟨rfl, hw⟩; subst hw)
  go_ret
  exact ⟨rfl, rfl⟩
theorem rotl19 (x : UInt32) (w : World) :
    Calls Try.prog 225 #[.int .u32 (u32I x), .int .i64 13] w fun e w' => e = .returned (.int .u32 (u32I (rotr x 19))) ∧ w' = w := by
  obtain ⟨h0, h1⟩ := u32I_bd x
  have hb : bits .and .u64 13 31 = 13 := by decide
  have hr := rot_or x 19 13 (by decide) (by decide) (by decide)
  go_enter Try.func225, Try.ntmps225
  go_wp2_with fail
  go_ret
  exact ⟨ret_int hr, rfl⟩
theorem rot19 (x : UInt32) (w : World) :
    Calls Try.prog 224 #[.int .u32 (u32I x), .int .i64 19] w fun e w' => e = .returned (.int .u32 (u32I (rotr x 19))) ∧ w' = w := by
  go_enter Try.func224, Try.ntmps224
  go_wp2_with (go_at_call 225; refine (rotl19 _ _).mono ?_; rintro e w' ⟨rfl, hw⟩; subst hw)
  go_ret
  exact ⟨rfl, rfl⟩
theorem rotl22 (x : UInt32) (w : World) :
    Calls Try.prog 225 #[.int .u32 (u32I x), .int .i64 10] w fun e w' => e = .returned (.int .u32 (u32I (rotr x 22))) ∧ w' = w := by
  obtain ⟨h0, h1⟩ := u32I_bd x
  have hb : bits .and .u64 10 31 = 10 := by decide
  have hr := rot_or x 22 10 (by decide) (by decide) (by decide)
  go_enter Try.func225, Try.ntmps225
  go_wp2_with fail
  go_ret
  exact ⟨ret_int hr, rfl⟩
theorem rot22 (x : UInt32) (w : World) :
    Calls Try.prog 224 #[.int .u32 (u32I x), .int .i64 22] w fun e w' => e = .returned (.int .u32 (u32I (rotr x 22))) ∧ w' = w := by
  go_enter Try.func224, Try.ntmps224
  go_wp2_with (go_at_call 225; refine (rotl22 _ _).mono ?_; rintro e w' ⟨rfl, hw⟩; subst hw)
  go_ret
  exact ⟨rfl, rfl⟩
theorem rotl25 (x : UInt32) (w : World) :
    Calls Try.prog 225 #[.int .u32 (u32I x), .int .i64 7] w fun e w' => e = .returned (.int .u32 (u32I (rotr x 25))) ∧ w' = w := by
  obtain ⟨h0, h1⟩ := u32I_bd x
  have hb : bits .and .u64 7 31 = 7 := by decide
  have hr := rot_or x 25 7 (by decide) (by decide) (by decide)
  go_enter Try.func225, Try.ntmps225
  go_wp2_with fail
  go_ret
  exact ⟨ret_int hr, rfl⟩
theorem rot25 (x : UInt32) (w : World) :
    Calls Try.prog 224 #[.int .u32 (u32I x), .int .i64 25] w fun e w' => e = .returned (.int .u32 (u32I (rotr x 25))) ∧ w' = w := by
  go_enter Try.func224, Try.ntmps224
  go_wp2_with (go_at_call 225; refine (rotl25 _ _).mono ?_; rintro e w' ⟨rfl, hw⟩; subst hw)
  go_ret
  exact ⟨rfl, rfl⟩
end Go.Proofs.Ythdjhbiigmcecaa
