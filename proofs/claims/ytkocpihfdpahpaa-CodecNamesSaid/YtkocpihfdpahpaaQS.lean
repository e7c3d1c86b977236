/- Texts of this proof, one behind the other: ShaP, ShaC, ShaW. -/
import Derived.Test.YtkocpihfdpahpaaQB
import Derived.Laws.BitsAllLaws
set_option linter.unusedVariables false
set_option linter.unusedSimpArgs false
/- SHA-256, plainly: what both programs compute. -/
namespace Go.Proofs.Ytkocpihfdpahpaa

def rotr (x n : UInt32) : UInt32 := x >>> n ||| x <<< (32 - n)
structure S8 where
  a : UInt32
  b : UInt32
  c : UInt32
  d : UInt32
  e : UInt32
  f : UInt32
  g : UInt32
  h : UInt32
def S8.add (s t : S8) : S8 := ⟨s.a + t.a, s.b + t.b, s.c + t.c, s.d + t.d, s.e + t.e, s.f + t.f, s.g + t.g, s.h + t.h⟩
def S8.list (s : S8) : List UInt32 := [s.a, s.b, s.c, s.d, s.e, s.f, s.g, s.h]
def shaOne (k w : UInt32) (s : S8) : UInt32 := s.h + (rotr s.e 6 ^^^ rotr s.e 11 ^^^ rotr s.e 25) + ((s.e &&& s.f) ^^^ (s.g &&& ~~~s.e)) + k + w
def shaTwo (s : S8) : UInt32 := (rotr s.a 2 ^^^ rotr s.a 13 ^^^ rotr s.a 22) + ((s.a &&& s.b) ^^^ (s.a &&& s.c) ^^^ (s.b &&& s.c))
def shaRnd (k w : UInt32) (s : S8) : S8 := ⟨shaOne k w s + shaTwo s, s.a, s.b, s.c, s.d + shaOne k w s, s.e, s.f, s.g⟩
def sig0 (x : UInt32) : UInt32 := rotr x 7 ^^^ rotr x 18 ^^^ x >>> 3
def sig1 (x : UInt32) : UInt32 := rotr x 17 ^^^ rotr x 19 ^^^ x >>> 10
/-- the i-th word of 64 bytes -/
def wd (m : List UInt8) (i : Nat) : UInt32 := UInt32.ofNat (numOf ((m.drop (4 * i)).take 4))
def sch (m : List UInt8) (t : Nat) : UInt32 :=
  if t < 16 then wd m t else sig1 (sch m (t - 2)) + sch m (t - 7) + sig0 (sch m (t - 15)) + sch m (t - 16)
termination_by t
theorem sch_low (m : List UInt8) (t : Nat) (h : t < 16) : sch m t = wd m t := by rw [sch, if_pos h]
theorem sch_high (m : List UInt8) (t : Nat) (h : 16 ≤ t) : sch m t = sig1 (sch m (t - 2)) + sch m (t - 7) + sig0 (sch m (t - 15)) + sch m (t - 16) := by rw [sch, if_neg (by omega)]
def shaK : List UInt32 := [
  0x428a2f98, 0x71374491, 0xb5c0fbcf, 0xe9b5dba5, 0x3956c25b, 0x59f111f1, 0x923f82a4, 0xab1c5ed5,
  0xd807aa98, 0x12835b01, 0x243185be, 0x550c7dc3, 0x72be5d74, 0x80deb1fe, 0x9bdc06a7, 0xc19bf174,
  0xe49b69c1, 0xefbe4786, 0x0fc19dc6, 0x240ca1cc, 0x2de92c6f, 0x4a7484aa, 0x5cb0a9dc, 0x76f988da,
  0x983e5152, 0xa831c66d, 0xb00327c8, 0xbf597fc7, 0xc6e00bf3, 0xd5a79147, 0x06ca6351, 0x14292967,
  0x27b70a85, 0x2e1b2138, 0x4d2c6dfc, 0x53380d13, 0x650a7354, 0x766a0abb, 0x81c2c92e, 0x92722c85,
  0xa2bfe8a1, 0xa81a664b, 0xc24b8b70, 0xc76c51a3, 0xd192e819, 0xd6990624, 0xf40e3585, 0x106aa070,
  0x19a4c116, 0x1e376c08, 0x2748774c, 0x34b0bcb5, 0x391c0cb3, 0x4ed8aa4a, 0x5b9cca4f, 0x682e6ff3,
  0x748f82ee, 0x78a5636f, 0x84c87814, 0x8cc70208, 0x90befffa, 0xa4506ceb, 0xbef9a3f7, 0xc67178f2]
theorem shaK_length : shaK.length = 64 := rfl
def kOf (i : Nat) : UInt32 := shaK.getD i 0
def shaH : S8 := ⟨0x6a09e667, 0xbb67ae85, 0x3c6ef372, 0xa54ff53a, 0x510e527f, 0x9b05688c, 0x1f83d9ab, 0x5be0cd19⟩
def shaComp (m : List UInt8) (s : S8) : Nat → S8
  | 0 => s
  | t + 1 => shaRnd (kOf t) (sch m t) (shaComp m s t)
def shaBlk (s : S8) (m : List UInt8) : S8 := s.add (shaComp m s 64)
/-- all whole blocks of a message -/
def shaRun (s : S8) (m : List UInt8) : S8 :=
  if h : 64 ≤ m.length then shaRun (shaBlk s (m.take 64)) (m.drop 64) else s
termination_by m.length
decreasing_by simp; omega
theorem shaRun_short (s : S8) (m : List UInt8) (h : m.length < 64) : shaRun s m = s := by rw [shaRun, dif_neg (by omega)]
theorem shaRun_long (s : S8) (m : List UInt8) (h : 64 ≤ m.length) : shaRun s m = shaRun (shaBlk s (m.take 64)) (m.drop 64) := by rw [shaRun, dif_pos h]
/-- what waits -/
def shaTail (m : List UInt8) : List UInt8 := m.drop (64 * (m.length / 64))
theorem shaTail_length (m : List UInt8) : (shaTail m).length = m.length % 64 := by
  simp only [shaTail, List.length_drop]
  omega
theorem shaTail_short (m : List UInt8) (h : m.length < 64) : shaTail m = m := by
  rw [shaTail, show m.length / 64 = 0 by omega]
  rfl
theorem shaTail_long (m : List UInt8) (h : 64 ≤ m.length) : shaTail m = shaTail (m.drop 64) := by
  rw [shaTail, shaTail, List.drop_drop, List.length_drop]
  congr 1
  omega
theorem shaRun_tail : ∀ (n : Nat) (s : S8) (m p : List UInt8), m.length ≤ n → m.length % 64 + p.length < 64 → shaRun s (m ++ p) = shaRun s m ∧ shaTail (m ++ p) = shaTail m ++ p := by
  intro n
  induction n using Nat.strongRecOn with
  | _ n ih =>
    intro s m p hm hp
    by_cases h : m.length < 64
    · rw [shaRun_short s m h, shaRun_short s (m ++ p) (by simp; omega), shaTail_short m h, shaTail_short (m ++ p) (by simp; omega)]
      exact ⟨rfl, rfl⟩
    · have e1 : (m ++ p).take 64 = m.take 64 := List.take_append_of_le_length (by omega)
      have e2 : (m ++ p).drop 64 = m.drop 64 ++ p := List.drop_append_of_le_length (by omega)
      rw [shaRun_long s m (by omega), shaRun_long s (m ++ p) (by simp; omega), shaTail_long m (by omega), shaTail_long (m ++ p) (by simp; omega), e1, e2]
      exact ih (n - 64) (by omega) _ _ _ (by simp; omega) (by simp; omega)
theorem shaRun_full : ∀ (n : Nat) (s : S8) (m p : List UInt8), m.length ≤ n → m.length % 64 + p.length = 64 → shaRun s (m ++ p) = shaBlk (shaRun s m) (shaTail m ++ p) ∧ shaTail (m ++ p) = [] := by
  intro n
  induction n using Nat.strongRecOn with
  | _ n ih =>
    intro s m p hm hp
    by_cases h : m.length < 64
    · have hl : (m ++ p).length = 64 := by simp; omega
      rw [shaRun_short s m h, shaTail_short m h, shaRun_long s (m ++ p) (by omega), shaTail_long (m ++ p) (by omega), List.take_of_length_le (by omega), List.drop_of_length_le (by omega)]
      exact ⟨shaRun_short _ _ (by simp), rfl⟩
    · have e1 : (m ++ p).take 64 = m.take 64 := List.take_append_of_le_length (by omega)
      have e2 : (m ++ p).drop 64 = m.drop 64 ++ p := List.drop_append_of_le_length (by omega)
      rw [shaRun_long s m (by omega), shaRun_long s (m ++ p) (by simp; omega), shaTail_long m (by omega), shaTail_long (m ++ p) (by simp; omega), e1, e2]
      exact ih (n - 64) (by omega) _ _ _ (by simp; omega) (by simp; omega)
def shaZeros (n : Nat) : Nat := (119 - n % 64) % 64
def shaPad (m : List UInt8) : List UInt8 := m ++ [128] ++ List.replicate (shaZeros m.length) 0 ++ be 8 (m.length * 8)
theorem shaPad_length (m : List UInt8) : (shaPad m).length % 64 = 0 := by
  simp only [shaPad, List.length_append, List.length_replicate, List.length_singleton, be_length, shaZeros]
  omega
/-- four bytes of a word -/
def be4 (x : UInt32) : List UInt8 := be 4 x.toNat
def shaOut (s : S8) : List UInt8 := s.list.flatMap be4
theorem shaOut_length (s : S8) : (shaOut s).length = 32 := by simp [shaOut, S8.list, be4, be_length]
def shaSum (m : List UInt8) : Hash := ⟨shaOut (shaRun shaH (shaPad m)), shaOut_length _⟩
end Go.Proofs.Ytkocpihfdpahpaa

/- The document's constants of SHA-256, plainly: primes, and roots by digits of 16 bits. -/
namespace Go.Proofs.Ytkocpihfdpahpaa

/-! primes -/
def prStep (l : List Nat) (n : Nat) : List Nat := if l.all (fun p => n % p != 0) then l ++ [n] else l
/-- the primes below k + 2 -/
def prTo : Nat → List Nat
  | 0 => []
  | k + 1 => prStep (prTo k) (k + 2)
theorem prStep_len (l : List Nat) (n : Nat) : l.length ≤ (prStep l n).length ∧ (prStep l n).length ≤ l.length + 1 := by
  unfold prStep
  split <;> simp
theorem prTo_mono (k : Nat) : ∀ j, k ≤ j → (prTo k).length ≤ (prTo j).length := by
  intro j hj
  induction j with
  | zero => obtain rfl : k = 0 := by omega
            exact Nat.le_refl _
  | succ j ih =>
    by_cases h : k = j + 1
    · subst h
      exact Nat.le_refl _
    · exact Nat.le_trans (ih (by omega)) (prStep_len _ _).1
def p64 : List Nat := [2, 3, 5, 7, 11, 13, 17, 19, 23, 29, 31, 37, 41, 43, 47, 53, 59, 61, 67, 71, 73, 79, 83, 89, 97, 101, 103, 107, 109, 113, 127, 131, 137, 139, 149, 151, 157, 163, 167, 173, 179, 181, 191, 193, 197, 199, 211, 223, 227, 229, 233, 239, 241, 251, 257, 263, 269, 271, 277, 281, 283, 293, 307, 311]
set_option maxRecDepth 100000 in
theorem prTo_310 : prTo 310 = p64 := by decide +kernel
set_option maxRecDepth 100000 in
theorem prTo_309 : (prTo 309).length = 63 := by decide +kernel
theorem prTo_low (k : Nat) (h : k < 310) : (prTo k).length < 64 := by
  have := prTo_mono k 309 (by omega)
  rw [prTo_309] at this
  omega
theorem prTo_ge (k : Nat) : ∀ p ∈ prTo k, 2 ≤ p ∧ p ≤ k + 1 := by
  induction k with
  | zero => intro p hp; cases hp
  | succ k ih =>
    intro p hp
    simp only [prTo, prStep] at hp
    split at hp
    · rcases List.mem_append.1 hp with hp | hp
      · have := ih p hp
        omega
      · have := List.mem_singleton.1 hp
        omega
    · have := ih p hp
      omega

/-! numbers by digits of 16 bits, the lowest first -/
def wval (d : List Nat) : Nat := d.foldr (fun x a => x + 65536 * a) 0
def Wide (d : List Nat) : Prop := d.length = 12 ∧ ∀ x ∈ d, x < 65536
theorem wval_cons (x : Nat) (d : List Nat) : wval (x :: d) = x + 65536 * wval d := rfl
theorem wval_append (a b : List Nat) : wval (a ++ b) = wval a + 65536 ^ a.length * wval b := by
  induction a with
  | nil => simp [wval]
  | cons x a ih =>
    rw [List.cons_append, wval_cons, wval_cons, ih, List.length_cons, Nat.pow_succ, Nat.mul_add, ← Nat.mul_assoc, Nat.mul_comm 65536 (65536 ^ a.length), Nat.add_assoc]
theorem wval_lt (d : List Nat) (h : ∀ x ∈ d, x < 65536) : wval d < 65536 ^ d.length := by
  induction d with
  | nil => simp [wval]
  | cons x d ih =>
    have h1 := ih fun y hy => h y (List.mem_cons_of_mem _ hy)
    have h2 := h x (List.mem_cons_self ..)
    rw [wval_cons, List.length_cons, Nat.pow_succ]
    omega
theorem wval_set (d : List Nat) (j x : Nat) (h : j < d.length) : wval (d.set j x) + d[j] * 65536 ^ j = wval d + x * 65536 ^ j := by
  induction d generalizing j with
  | nil => simp at h
  | cons y d ih =>
    cases j with
    | zero => simp only [List.set_cons_zero, wval_cons, List.getElem_cons_zero, Nat.pow_zero, Nat.mul_one]; omega
    | succ j =>
      simp only [List.set_cons_succ, wval_cons, List.getElem_cons_succ]
      have := ih j (by simpa using h)
      rw [Nat.pow_succ]
      have e1 : d[j]'(by simpa using h) * (65536 ^ j * 65536) = 65536 * (d[j]'(by simpa using h) * 65536 ^ j) := by rw [← Nat.mul_assoc, Nat.mul_comm]
      have e2 : x * (65536 ^ j * 65536) = 65536 * (x * 65536 ^ j) := by rw [← Nat.mul_assoc, Nat.mul_comm]
      rw [e1, e2]
      omega
theorem wval_take_succ (d : List Nat) (k : Nat) (h : k < d.length) : wval (d.take (k + 1)) = wval (d.take k) + d[k] * 65536 ^ k := by
  rw [List.take_succ_eq_append_getElem h, wval_append]
  simp only [wval, List.foldr_cons, List.foldr_nil, Nat.mul_zero, Nat.add_zero, List.length_take]
  rw [Nat.min_eq_left (Nat.le_of_lt h), Nat.mul_comm]
/-- one step of the inner loop -/
theorem times_step {p : List Nat} {i k c x y V0 T s : Nat} (hj : i + k < p.length) (hs : s = p[i + k] + x * y + c)
    (hinv : wval p + c * 65536 ^ (i + k) = V0 + x * 65536 ^ i * T) :
    wval (p.set (i + k) (s % 65536)) + s / 65536 * 65536 ^ (i + (k + 1)) = V0 + x * 65536 ^ i * (T + y * 65536 ^ k) := by
  have h1 := wval_set p (i + k) (s % 65536) hj
  have h2 : s = 65536 * (s / 65536) + s % 65536 := (Nat.div_add_mod s 65536).symm
  have h3 : s * 65536 ^ (i + k) = s / 65536 * 65536 ^ (i + (k + 1)) + s % 65536 * 65536 ^ (i + k) := by
    have : s * 65536 ^ (i + k) = (65536 * (s / 65536) + s % 65536) * 65536 ^ (i + k) := by rw [← h2]
    rw [this, Nat.add_mul, ← Nat.add_assoc i k 1, Nat.pow_succ, Nat.mul_comm 65536 (s / 65536), Nat.mul_assoc, Nat.mul_comm 65536 (65536 ^ (i + k))]
  have h4 : s * 65536 ^ (i + k) = p[i + k] * 65536 ^ (i + k) + x * y * 65536 ^ (i + k) + c * 65536 ^ (i + k) := by rw [hs, Nat.add_mul, Nat.add_mul]
  have h5 : x * 65536 ^ i * (T + y * 65536 ^ k) = x * 65536 ^ i * T + x * y * 65536 ^ (i + k) := by
    rw [Nat.mul_add, Nat.pow_add]
    congr 1
    rw [Nat.mul_assoc x, Nat.mul_assoc x, ← Nat.mul_assoc (65536 ^ i), Nat.mul_comm (65536 ^ i) y, Nat.mul_assoc y]
  rw [h5]
  omega
theorem times_bound {a b c d : Nat} (ha : a < 65536) (hb : b < 65536) (hc : c < 65536) (hd : d < 65536) : d + a * b + c < 4294967296 ∧ (d + a * b + c) / 65536 < 65536 := by
  have h : a * b ≤ 65535 * 65535 := Nat.mul_le_mul (by omega) (by omega)
  omega
/-- the end of the inner loop -/
theorem times_row {p b : List Nat} {i c x V0 : Nat} (hb : b.length = 12) (hi : i ≤ 12) (hinv : wval p + c * 65536 ^ (i + (12 - i)) = V0 + x * 65536 ^ i * wval (b.take (12 - i))) :
    wval p % 65536 ^ 12 = (V0 + x * 65536 ^ i * wval b) % 65536 ^ 12 := by
  have e : wval b = wval (b.take (12 - i)) + 65536 ^ (12 - i) * wval (b.drop (12 - i)) := by
    have := wval_append (b.take (12 - i)) (b.drop (12 - i))
    rw [List.take_append_drop] at this
    rw [this, List.length_take, hb, Nat.min_eq_left (by omega)]
  have h12 : 65536 ^ i * 65536 ^ (12 - i) = 65536 ^ 12 := by rw [← Nat.pow_add, show i + (12 - i) = 12 by omega]
  rw [show i + (12 - i) = 12 by omega] at hinv
  have e2 : V0 + x * 65536 ^ i * wval b = wval p + c * 65536 ^ 12 + 65536 ^ 12 * (x * wval (b.drop (12 - i))) := by
    rw [e, Nat.mul_add, ← Nat.add_assoc, ← hinv, ← h12]
    congr 1
    rw [Nat.mul_assoc x, ← Nat.mul_assoc (65536 ^ i), h12, ← Nat.mul_assoc x, ← Nat.mul_assoc, Nat.mul_comm x]
  rw [e2, Nat.add_mul_mod_self_left, Nat.add_mul_mod_self_right]
theorem times_next {a b : List Nat} {i V : Nat} (hi : i < a.length) (h : V % 65536 ^ 12 = (wval (a.take i) * wval b) % 65536 ^ 12) :
    (V + a[i] * 65536 ^ i * wval b) % 65536 ^ 12 = (wval (a.take (i + 1)) * wval b) % 65536 ^ 12 := by
  rw [wval_take_succ a i hi, Nat.add_mul, Nat.add_mod, h, ← Nat.add_mod]
/-- which number is above -/
theorem above_at {a b : List Nat} (ha : Wide a) (hb : Wide b) (i : Nat) (hi : i < 12) (hhi : ∀ j (h1 : j < a.length) (h2 : j < b.length), i < j → a[j] = b[j]) (hne : a[i]'(by rw [ha.1]; exact hi) ≠ b[i]'(by rw [hb.1]; exact hi)) :
    (b[i]'(by rw [hb.1]; exact hi) < a[i]'(by rw [ha.1]; exact hi)) ↔ wval b < wval a := by
  have hla := ha.1
  have hlb := hb.1
  have split : ∀ d : List Nat, (hd : d.length = 12) → wval d = wval (d.take i) + 65536 ^ i * (d[i]'(by omega) + 65536 * wval (d.drop (i + 1))) := fun d hd => by
    have := wval_append (d.take i) (d.drop i)
    rw [List.take_append_drop, List.length_take, hd, Nat.min_eq_left (by omega)] at this
    rw [this, List.drop_eq_getElem_cons (by omega), wval_cons]
  have htop : a.drop (i + 1) = b.drop (i + 1) := by
    apply List.ext_getElem (by simp [hla, hlb])
    intro j h1 h2
    simp only [List.length_drop] at h1
    rw [List.getElem_drop, List.getElem_drop]
    exact hhi _ _ _ (by omega)
  have lt : ∀ d : List Nat, Wide d → wval (d.take i) < 65536 ^ i := fun d hd => by
    have := wval_lt (d.take i) fun x hx => hd.2 x (List.mem_of_mem_take hx)
    rw [List.length_take, hd.1, Nat.min_eq_left (by omega)] at this
    exact this
  have la := lt a ha
  have lb := lt b hb
  rw [split a hla, split b hlb, htop]
  generalize a[i]'(by omega) = x at *
  generalize b[i]'(by omega) = y at *
  generalize wval (b.drop (i + 1)) = t at *
  generalize wval (a.take i) = u at *
  generalize wval (b.take i) = v at *
  generalize 65536 ^ i = B at *
  constructor
  · intro h
    have : B * (y + 65536 * t) + B ≤ B * (x + 65536 * t) := by rw [← Nat.mul_succ]; exact Nat.mul_le_mul_left _ (by omega)
    omega
  · intro h
    rcases Nat.lt_or_ge y x with h' | h'
    · exact h'
    · have h3 : x < y := by omega
      have : B * (x + 65536 * t) + B ≤ B * (y + 65536 * t) := by rw [← Nat.mul_succ]; exact Nat.mul_le_mul_left _ (by omega)
      omega
theorem wide_ext {a b : List Nat} (ha : Wide a) (hb : Wide b) (h : ∀ j (h1 : j < a.length) (h2 : j < b.length), a[j] = b[j]) : a = b :=
  List.ext_getElem (by rw [ha.1, hb.1]) fun j h1 h2 => h j h1 h2
/-- a number's digits -/
def digitsL (n : Nat) : List Nat := [n % 65536, n / 65536 % 65536, n / 4294967296 % 65536, n / 281474976710656 % 65536, 0, 0, 0, 0, 0, 0, 0, 0]
theorem digitsL_wide (n : Nat) : Wide (digitsL n) := by
  refine ⟨rfl, fun x hx => ?_⟩
  simp only [digitsL, List.mem_cons, List.not_mem_nil, or_false] at hx
  rcases hx with rfl | rfl | rfl | rfl | rfl | rfl | rfl | rfl | rfl | rfl | rfl | rfl <;> omega
theorem digitsL_val (n : Nat) (h : n < 18446744073709551616) : wval (digitsL n) = n := by
  simp only [digitsL, wval, List.foldr_cons, List.foldr_nil]
  omega
/-- the search of a root -/
def frLoop (P power : Nat) : Nat → Nat → Nat
  | 0, root => root
  | b + 1, root => frLoop P power b (if (root + 2 ^ b) ^ power ≤ P then root + 2 ^ b else root)
def frac (p power : Nat) : Nat := frLoop (p * 2 ^ (32 * power)) power 38 0 % 4294967296
set_option maxRecDepth 100000 in
theorem frac_k : p64.map (fun p => frac p 3) = shaK.map UInt32.toNat := by decide +kernel
set_option maxRecDepth 100000 in
theorem frac_h : (p64.take 8).map (fun p => frac p 2) = shaH.list.map UInt32.toNat := by decide +kernel
end Go.Proofs.Ytkocpihfdpahpaa

/- SHA-256's words: what the operations on them come to, and the functions that turn a word. -/
namespace Go.Proofs.Ytkocpihfdpahpaa
open Go.RowKit

def u32V (x : UInt32) : Value := .int .u32 (x.toNat : Int)
/-- a word as the machine's number, closed to the walk -/
def u32I (x : UInt32) : Int := (x.toNat : Int)
theorem u32V_eq (x : UInt32) : u32V x = .int .u32 (u32I x) := rfl
theorem u32I_bd (x : UInt32) : 0 ≤ u32I x ∧ u32I x ≤ 4294967295 := by
  have := x.toNat_lt
  unfold u32I
  omega
theorem u32_lt (x : UInt32) : x.toNat < 4294967296 := x.toNat_lt
theorem u32_add (a b : UInt32) : IntKind.u32.wrap ((a.toNat : Int) + (b.toNat : Int)) = ((a + b).toNat : Int) := by
  rw [IntKind.wrap_u32', UInt32.toNat_add]
  omega
theorem u32_add' (a b : UInt32) : ((a.toNat : Int) + (b.toNat : Int)) % 4294967296 = ((a + b).toNat : Int) := by
  rw [UInt32.toNat_add]
  omega
theorem u32_xor (a b : UInt32) : bits .xor .u32 (a.toNat : Int) (b.toNat : Int) = ((a ^^^ b).toNat : Int) := by
  rw [u32_xor_nat _ _ a.toNat_lt b.toNat_lt, UInt32.toNat_xor]
theorem u32_and (a b : UInt32) : bits .and .u32 (a.toNat : Int) (b.toNat : Int) = ((a &&& b).toNat : Int) := by
  rw [u32_and_nat _ _ a.toNat_lt b.toNat_lt, UInt32.toNat_and]
theorem u32_or (a b : UInt32) : bits .or .u32 (a.toNat : Int) (b.toNat : Int) = ((a ||| b).toNat : Int) := by
  rw [u32_or_nat _ _ a.toNat_lt b.toNat_lt, UInt32.toNat_or]
theorem u32_andNot (a b : UInt32) : bits .andNot .u32 (a.toNat : Int) (b.toNat : Int) = ((a &&& ~~~b).toNat : Int) := by
  rw [u32_andNot_nat _ _ a.toNat_lt b.toNat_lt, UInt32.toNat_and, UInt32.toNat_not]
  rfl
theorem u32_shr (a : UInt32) (k : Nat) (hk : k < 32) : (a.toNat : Int) / ((2 ^ k : Nat) : Int) = ((a >>> UInt32.ofNat k).toNat : Int) := by
  rw [UInt32.toNat_shiftRight, UInt32.toNat_ofNat', Nat.shiftRight_eq_div_pow, Nat.mod_eq_of_lt (show k < 2 ^ 32 by omega), Nat.mod_eq_of_lt hk]
  exact (Int.natCast_ediv _ _).symm
theorem u32_shl (a : UInt32) (k : Nat) (hk : k < 32) : ((a.toNat : Int) * ((2 ^ k : Nat) : Int)) % 4294967296 = ((a <<< UInt32.ofNat k).toNat : Int) := by
  rw [UInt32.toNat_shiftLeft, UInt32.toNat_ofNat', Nat.shiftLeft_eq, Nat.mod_eq_of_lt (show k < 2 ^ 32 by omega), Nat.mod_eq_of_lt hk]
  rw [Int.natCast_emod, Int.natCast_mul]
  rfl

theorem rot_or (x : UInt32) (n k : Nat) (hn : n < 32) (hk : k < 32) (h : (32 : UInt32) - UInt32.ofNat n = UInt32.ofNat k) :
    bits .or .u32 (u32I x * ((2 ^ k : Nat) : Int) % 4294967296) (u32I x / ((2 ^ n : Nat) : Int)) = u32I (rotr x (UInt32.ofNat n)) := by
  unfold u32I rotr
  rw [u32_shl x k hk, u32_shr x n hn, u32_or, h, UInt32.or_comm]
theorem u32I_add (a b : UInt32) : IntKind.u32.wrap (u32I a + u32I b) = u32I (a + b) := u32_add a b
theorem u32I_add' (a b : UInt32) : (u32I a + u32I b) % 4294967296 = u32I (a + b) := u32_add' a b
theorem u32I_xor (a b : UInt32) : bits .xor .u32 (u32I a) (u32I b) = u32I (a ^^^ b) := u32_xor a b
theorem u32I_and (a b : UInt32) : bits .and .u32 (u32I a) (u32I b) = u32I (a &&& b) := u32_and a b
theorem u32I_or (a b : UInt32) : bits .or .u32 (u32I a) (u32I b) = u32I (a ||| b) := u32_or a b
theorem u32I_andNot (a b : UInt32) : bits .andNot .u32 (u32I a) (u32I b) = u32I (a &&& ~~~b) := u32_andNot a b
theorem u32I_shr3 (a : UInt32) : u32I a / (8 : Int) = u32I (a >>> 3) := u32_shr a 3 (by decide)
theorem u32I_shr10 (a : UInt32) : u32I a / (1024 : Int) = u32I (a >>> 10) := u32_shr a 10 (by decide)
theorem rotl2 (x : UInt32) (w : World) :
    Calls Try.prog 206 #[.int .u32 (u32I x), .int .i64 30] w fun e w' => e = .returned (.int .u32 (u32I (rotr x 2))) ∧ w' = w := by
  obtain ⟨h0, h1⟩ := u32I_bd x
  have hb : bits .and .u64 30 31 = 30 := by decide
  have hr := rot_or x 2 30 (by decide) (by decide) (by decide)
  go_enter Try.func206, Try.ntmps206
  go_wp2_with fail
  go_ret
  exact ⟨ret_int hr, rfl⟩
theorem rot2 (x : UInt32) (w : World) :
    Calls Try.prog 205 #[.int .u32 (u32I x), .int .i64 2] w fun e w' => e = .returned (.int .u32 (u32I (rotr x 2))) ∧ w' = w := by
  go_enter Try.func205, Try.ntmps205
  go_wp2_with (go_at_call 206; refine (rotl2 _ _).mono ?_; rintro e w' ⟨rfl, hw⟩; subst hw)
  go_ret
  exact ⟨rfl, rfl⟩
theorem rotl6 (x : UInt32) (w : World) :
    Calls Try.prog 206 #[.int .u32 (u32I x), .int .i64 26] w fun e w' => e = .returned (.int .u32 (u32I (rotr x 6))) ∧ w' = w := by
  obtain ⟨h0, h1⟩ := u32I_bd x
  have hb : bits .and .u64 26 31 = 26 := by decide
  have hr := rot_or x 6 26 (by decide) (by decide) (by decide)
  go_enter Try.func206, Try.ntmps206
  go_wp2_with fail
  go_ret
  exact ⟨ret_int hr, rfl⟩
theorem rot6 (x : UInt32) (w : World) :
    Calls Try.prog 205 #[.int .u32 (u32I x), .int .i64 6] w fun e w' => e = .returned (.int .u32 (u32I (rotr x 6))) ∧ w' = w := by
  go_enter Try.func205, Try.ntmps205
  go_wp2_with (go_at_call 206; refine (rotl6 _ _).mono ?_; rintro e w' ⟨rfl, hw⟩; subst hw)
  go_ret
  exact ⟨rfl, rfl⟩
theorem rotl7 (x : UInt32) (w : World) :
    Calls Try.prog 206 #[.int .u32 (u32I x), .int .i64 25] w fun e w' => e = .returned (.int .u32 (u32I (rotr x 7))) ∧ w' = w := by
  obtain ⟨h0, h1⟩ := u32I_bd x
  have hb : bits .and .u64 25 31 = 25 := by decide
  have hr := rot_or x 7 25 (by decide) (by decide) (by decide)
  go_enter Try.func206, Try.ntmps206
  go_wp2_with fail
  go_ret
  exact ⟨ret_int hr, rfl⟩
theorem rot7 (x : UInt32) (w : World) :
    Calls Try.prog 205 #[.int .u32 (u32I x), .int .i64 7] w fun e w' => e = .returned (.int .u32 (u32I (rotr x 7))) ∧ w' = w := by
  go_enter Try.func205, Try.ntmps205
  go_wp2_with (go_at_call 206; refine (rotl7 _ _).mono ?_; rintro e w' ⟨rfl, hw⟩; subst hw)
  go_ret
  exact ⟨rfl, rfl⟩
theorem rotl11 (x : UInt32) (w : World) :
    Calls Try.prog 206 #[.int .u32 (u32I x), .int .i64 21] w fun e w' => e = .returned (.int .u32 (u32I (rotr x 11))) ∧ w' = w := by
  obtain ⟨h0, h1⟩ := u32I_bd x
  have hb : bits .and .u64 21 31 = 21 := by decide
  have hr := rot_or x 11 21 (by decide) (by decide) (by decide)
  go_enter Try.func206, Try.ntmps206
  go_wp2_with fail
  go_ret
  exact ⟨ret_int hr, rfl⟩
theorem rot11 (x : UInt32) (w : World) :
    Calls Try.prog 205 #[.int .u32 (u32I x), .int .i64 11] w fun e w' => e = .returned (.int .u32 (u32I (rotr x 11))) ∧ w' = w := by
  go_enter Try.func205, Try.ntmps205
  go_wp2_with (go_at_call 206; refine (rotl11 _ _).mono ?_; rintro e w' ⟨rfl, hw⟩; subst hw)
  go_ret
  exact ⟨rfl, rfl⟩
theorem rotl13 (x : UInt32) (w : World) :
    Calls Try.prog 206 #[.int .u32 (u32I x), .int .i64 19] w fun e w' => e = .returned (.int .u32 (u32I (rotr x 13))) ∧ w' = w := by
  obtain ⟨h0, h1⟩ := u32I_bd x
  have hb : bits .and .u64 19 31 = 19 := by decide
  have hr := rot_or x 13 19 (by decide) (by decide) (by decide)
  go_enter Try.func206, Try.ntmps206
  go_wp2_with fail
  go_ret
  exact ⟨ret_int hr, rfl⟩
theorem rot13 (x : UInt32) (w : World) :
    Calls Try.prog 205 #[.int .u32 (u32I x), .int .i64 13] w fun e w' => e = .returned (.int .u32 (u32I (rotr x 13))) ∧ w' = w := by
  go_enter Try.func205, Try.ntmps205
  go_wp2_with (go_at_call 206; refine (rotl13 _ _).mono ?_; rintro e w' ⟨rfl, hw⟩; subst hw)
  go_ret
  exact ⟨rfl, rfl⟩
theorem rotl17 (x : UInt32) (w : World) :
    Calls Try.prog 206 #[.int .u32 (u32I x), .int .i64 15] w fun e w' => e = .returned (.int .u32 (u32I (rotr x 17))) ∧ w' = w := by
  obtain ⟨h0, h1⟩ := u32I_bd x
  have hb : bits .and .u64 15 31 = 15 := by decide
  have hr := rot_or x 17 15 (by decide) (by decide) (by decide)
  go_enter Try.func206, Try.ntmps206
  go_wp2_with fail
  go_ret
  exact ⟨ret_int hr, rfl⟩
theorem rot17 (x : UInt32) (w : World) :
    Calls Try.prog 205 #[.int .u32 (u32I x), .int .i64 17] w fun e w' => e = .returned (.int .u32 (u32I (rotr x 17))) ∧ w' = w := by
  go_enter Try.func205, Try.ntmps205
  go_wp2_with (go_at_call 206; refine (rotl17 _ _).mono ?_; rintro e w' ⟨rfl, hw⟩; subst hw)
  go_ret
  exact ⟨rfl, rfl⟩
theorem rotl18 (x : UInt32) (w : World) :
    Calls Try.prog 206 #[.int .u32 (u32I x), .int .i64 14] w fun e w' => e = .returned (.int .u32 (u32I (rotr x 18))) ∧ w' = w := by
  obtain ⟨h0, h1⟩ := u32I_bd x
  have hb : bits .and .u64 14 31 = 14 := by decide
  have hr := rot_or x 18 14 (by decide) (by decide) (by decide)
  go_enter Try.func206, Try.ntmps206
  go_wp2_with fail
  go_ret
  exact ⟨ret_int hr, rfl⟩
theorem rot18 (x : UInt32) (w : World) :
    Calls Try.prog 205 #[.int .u32 (u32I x), .int .i64 18] w fun e w' => e = .returned (.int .u32 (u32I (rotr x 18))) ∧ w' = w := by
  go_enter Try.func205, Try.ntmps205
  go_wp2_with (go_at_call 206; refine (rotl18 _ _).mono ?_; rintro e w' ⟨rfl, hw⟩; subst hw)
  go_ret
  exact ⟨rfl, rfl⟩
theorem rotl19 (x : UInt32) (w : World) :
    Calls Try.prog 206 #[.int .u32 (u32I x), .int .i64 13] w fun e w' => e = .returned (.int .u32 (u32I (rotr x 19))) ∧ w' = w := by
  obtain ⟨h0, h1⟩ := u32I_bd x
  have hb : bits .and .u64 13 31 = 13 := by decide
  have hr := rot_or x 19 13 (by decide) (by decide) (by decide)
  go_enter Try.func206, Try.ntmps206
  go_wp2_with fail
  go_ret
  exact ⟨ret_int hr, rfl⟩
theorem rot19 (x : UInt32) (w : World) :
    Calls Try.prog 205 #[.int .u32 (u32I x), .int .i64 19] w fun e w' => e = .returned (.int .u32 (u32I (rotr x 19))) ∧ w' = w := by
  go_enter Try.func205, Try.ntmps205
  go_wp2_with (go_at_call 206; refine (rotl19 _ _).mono ?_; rintro e w' ⟨rfl, hw⟩; subst hw)
  go_ret
  exact ⟨rfl, rfl⟩
theorem rotl22 (x : UInt32) (w : World) :
    Calls Try.prog 206 #[.int .u32 (u32I x), .int .i64 10] w fun e w' => e = .returned (.int .u32 (u32I (rotr x 22))) ∧ w' = w := by
  obtain ⟨h0, h1⟩ := u32I_bd x
  have hb : bits .and .u64 10 31 = 10 := by decide
  have hr := rot_or x 22 10 (by decide) (by decide) (by decide)
  go_enter Try.func206, Try.ntmps206
  go_wp2_with fail
  go_ret
  exact ⟨ret_int hr, rfl⟩
theorem rot22 (x : UInt32) (w : World) :
    Calls Try.prog 205 #[.int .u32 (u32I x), .int .i64 22] w fun e w' => e = .returned (.int .u32 (u32I (rotr x 22))) ∧ w' = w := by
  go_enter Try.func205, Try.ntmps205
  go_wp2_with (go_at_call 206; refine (rotl22 _ _).mono ?_; rintro e w' ⟨rfl, hw⟩; subst hw)
  go_ret
  exact ⟨rfl, rfl⟩
theorem rotl25 (x : UInt32) (w : World) :
    Calls Try.prog 206 #[.int .u32 (u32I x), .int .i64 7] w fun e w' => e = .returned (.int .u32 (u32I (rotr x 25))) ∧ w' = w := by
  obtain ⟨h0, h1⟩ := u32I_bd x
  have hb : bits .and .u64 7 31 = 7 := by decide
  have hr := rot_or x 25 7 (by decide) (by decide) (by decide)
  go_enter Try.func206, Try.ntmps206
  go_wp2_with fail
  go_ret
  exact ⟨ret_int hr, rfl⟩
theorem rot25 (x : UInt32) (w : World) :
    Calls Try.prog 205 #[.int .u32 (u32I x), .int .i64 25] w fun e w' => e = .returned (.int .u32 (u32I (rotr x 25))) ∧ w' = w := by
  go_enter Try.func205, Try.ntmps205
  go_wp2_with (go_at_call 206; refine (rotl25 _ _).mono ?_; rintro e w' ⟨rfl, hw⟩; subst hw)
  go_ret
  exact ⟨rfl, rfl⟩
end Go.Proofs.Ytkocpihfdpahpaa
