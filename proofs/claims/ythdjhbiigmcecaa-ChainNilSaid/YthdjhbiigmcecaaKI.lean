/- Texts of this proof, one behind the other: ShaF, ShaN, KnP10, ChnL, Kn10, UndP, OpenQ. -/
import Derived.Test.YthdjhbiigmcecaaQS
import Derived.Test.YthdjhbiigmcecaaQU
import Derived.Test.YthdjhbiigmcecaaKA
import Derived.Test.YthdjhbiigmcecaaKG
import Derived.Test.YthdjhbiigmcecaaShelf
import Derived.Deep.CutRange
import Derived.Test.YthdjhbiigmcecaaKH
import Derived.Test.YthdjhbiigmcecaaQL
set_option linter.unusedVariables false
set_option linter.unusedSimpArgs false
/- SHA-256 in lanes: names of headers without operations, many at once, by great numbers that the kernel reckons with. -/
namespace Go.Proofs.Ythdjhbiigmcecaa

/-- n lanes of 64 bits -/
def lan : Nat → (Nat → Nat) → Nat
  | 0, _ => 0
  | n + 1, f => f 0 + 2 ^ 64 * lan n fun i => f (i + 1)
theorem lan_congr {n : Nat} {f g : Nat → Nat} (h : ∀ i, i < n → f i = g i) : lan n f = lan n g := by
  induction n generalizing f g with
  | zero => rfl
  | succ n ih =>
    unfold lan
    rw [h 0 (by omega), ih fun i hi => h (i + 1) (by omega)]
theorem lan_add (n : Nat) (f g : Nat → Nat) : Nat.add (lan n f) (lan n g) = lan n fun i => f i + g i := by
  show lan n f + lan n g = _
  induction n generalizing f g with
  | zero => rfl
  | succ n ih =>
    unfold lan
    rw [← ih]
    dsimp only
    omega
theorem lan_mul (n c : Nat) (f : Nat → Nat) : Nat.mul (lan n f) c = lan n fun i => f i * c := by
  show lan n f * c = _
  induction n generalizing f with
  | zero => simp [lan]
  | succ n ih =>
    unfold lan
    rw [← ih, Nat.add_mul, Nat.mul_assoc]
theorem two_bit (op : Nat → Nat → Nat) (b : Bool → Bool → Bool) (hb : ∀ x y i, (op x y).testBit i = b (x.testBit i) (y.testBit i)) (hlt : ∀ x y n, x < 2 ^ n → y < 2 ^ n → op x y < 2 ^ n) {a c : Nat} (ha : a < 2 ^ 64) (hc : c < 2 ^ 64) (A C : Nat) :
    op (a + 2 ^ 64 * A) (c + 2 ^ 64 * C) = op a c + 2 ^ 64 * op A C := by
  apply Nat.eq_of_testBit_eq
  intro i
  rw [hb, Nat.add_comm a, Nat.add_comm c, Nat.add_comm (op a c), Nat.testBit_two_pow_mul_add _ ha, Nat.testBit_two_pow_mul_add _ hc, Nat.testBit_two_pow_mul_add _ (hlt _ _ _ ha hc)]
  split
  · rw [hb]
  · rw [hb]
theorem lan_bit (op : Nat → Nat → Nat) (b : Bool → Bool → Bool) (hb : ∀ x y i, (op x y).testBit i = b (x.testBit i) (y.testBit i)) (hlt : ∀ x y n, x < 2 ^ n → y < 2 ^ n → op x y < 2 ^ n) (h0 : op 0 0 = 0) {n : Nat} {f g : Nat → Nat} (hf : ∀ i, i < n → f i < 2 ^ 64) (hg : ∀ i, i < n → g i < 2 ^ 64) :
    op (lan n f) (lan n g) = lan n fun i => op (f i) (g i) := by
  induction n generalizing f g with
  | zero => exact h0
  | succ n ih =>
    unfold lan
    rw [two_bit op b hb hlt (hf 0 (by omega)) (hg 0 (by omega)), ih (fun i hi => hf _ (by omega)) (fun i hi => hg _ (by omega))]
theorem lan_and {n : Nat} {f g : Nat → Nat} (hf : ∀ i, i < n → f i < 2 ^ 64) (hg : ∀ i, i < n → g i < 2 ^ 64) : Nat.land (lan n f) (lan n g) = lan n fun i => Nat.land (f i) (g i) :=
  lan_bit Nat.land and (fun x y i => Nat.testBit_and x y i) (fun x y n hx _ => Nat.and_lt_two_pow _ (by assumption)) rfl hf hg
theorem lan_xor {n : Nat} {f g : Nat → Nat} (hf : ∀ i, i < n → f i < 2 ^ 64) (hg : ∀ i, i < n → g i < 2 ^ 64) : Nat.xor (lan n f) (lan n g) = lan n fun i => Nat.xor (f i) (g i) :=
  lan_bit Nat.xor xor (fun x y i => Nat.testBit_xor x y i) (fun x y n hx hy => Nat.xor_lt_two_pow hx hy) rfl hf hg
/-- shifted, and cut to 32 bits -/
theorem two_shift {a m k : Nat} (ha : a < 2 ^ 64) (hm : m < 2 ^ 32) (hk : k ≤ 32) (A M : Nat) :
    Nat.land (Nat.shiftRight (a + 2 ^ 64 * A) k) (m + 2 ^ 64 * M) = Nat.land (Nat.shiftRight a k) m + 2 ^ 64 * Nat.land (Nat.shiftRight A k) M := by
  apply Nat.eq_of_testBit_eq
  intro i
  have hm64 : m < 2 ^ 64 := Nat.lt_trans hm (by decide)
  have hl : Nat.land (Nat.shiftRight a k) m < 2 ^ 64 := Nat.and_lt_two_pow _ hm64
  show ((a + 2 ^ 64 * A) >>> k &&& (m + 2 ^ 64 * M)).testBit i = _
  rw [Nat.testBit_and, Nat.testBit_shiftRight, Nat.add_comm a, Nat.add_comm m, Nat.add_comm (Nat.land _ _), Nat.testBit_two_pow_mul_add _ ha, Nat.testBit_two_pow_mul_add _ hm64, Nat.testBit_two_pow_mul_add _ hl]
  by_cases hi : i < 64
  · rw [if_pos hi, if_pos hi]
    show _ = (a >>> k &&& m).testBit i
    rw [Nat.testBit_and, Nat.testBit_shiftRight]
    by_cases h2 : i < 32
    · rw [if_pos (by omega)]
    · have : m.testBit i = false := Nat.testBit_lt_two_pow (Nat.lt_of_lt_of_le hm (Nat.pow_le_pow_right (by decide) (by omega)))
      rw [this, Bool.and_false, Bool.and_false]
  · rw [if_neg hi, if_neg hi, if_neg (by omega)]
    show _ = (A >>> k &&& M).testBit (i - 64)
    rw [Nat.testBit_and, Nat.testBit_shiftRight, show k + i - 64 = k + (i - 64) by omega]
theorem lan_shift {n k : Nat} {f g : Nat → Nat} (hf : ∀ i, i < n → f i < 2 ^ 64) (hg : ∀ i, i < n → g i < 2 ^ 32) (hk : k ≤ 32) : Nat.land (Nat.shiftRight (lan n f) k) (lan n g) = lan n fun i => Nat.land (Nat.shiftRight (f i) k) (g i) := by
  induction n generalizing f g with
  | zero => simp [lan]
  | succ n ih =>
    unfold lan
    rw [two_shift (hf 0 (by omega)) (hg 0 (by omega)) hk, ih (fun i hi => hf _ (by omega)) (fun i hi => hg _ (by omega))]
/-! what the kernel reckons -/
/-- a number, reckoned now -/
@[reducible] def sq {α : Type} (x : Nat) (k : Nat → α) : α := bif Nat.beq x 0 then k 0 else k x
theorem sq_eq {α : Type} (x : Nat) (k : Nat → α) : sq x k = k x := by
  unfold sq
  cases h : Nat.beq x 0 with
  | true => rw [Nat.eq_of_beq_eq_true h]; rfl
  | false => rfl
def rotF (M D k : Nat) : Nat := Nat.land (Nat.shiftRight D k) M
def twiceF (x : Nat) : Nat := Nat.mul x 4294967297
def big1F (M D : Nat) : Nat := Nat.xor (Nat.xor (rotF M D 6) (rotF M D 11)) (rotF M D 25)
def big0F (M D : Nat) : Nat := Nat.xor (Nat.xor (rotF M D 2) (rotF M D 13)) (rotF M D 22)
def sm0F (M D x : Nat) : Nat := Nat.xor (Nat.xor (rotF M D 7) (rotF M D 18)) (rotF M x 3)
def sm1F (M D x : Nat) : Nat := Nat.xor (Nat.xor (rotF M D 17) (rotF M D 19)) (rotF M x 10)
def chF (M e f g : Nat) : Nat := Nat.xor (Nat.land e f) (Nat.land g (Nat.xor e M))
def majF (a b c : Nat) : Nat := Nat.xor (Nat.xor (Nat.land a b) (Nat.land a c)) (Nat.land b c)
def t1F (M kk w e f g h : Nat) : Nat := Nat.add (Nat.add (Nat.add (Nat.add h (big1F M (twiceF e))) (chF M e f g)) kk) w
def t2F (M a b c : Nat) : Nat := Nat.add (big0F M (twiceF a)) (majF a b c)
structure N8 where
  a : Nat
  b : Nat
  c : Nat
  d : Nat
  e : Nat
  f : Nat
  g : Nat
  h : Nat
def rndsF (U M : Nat) : List Nat → List Nat → Nat → Nat → Nat → Nat → Nat → Nat → Nat → Nat → N8
  | k :: ks, w :: ws, a, b, c, d, e, f, g, h =>
    sq (t1F M (Nat.mul U k) w e f g h) fun t1 => sq (Nat.land (Nat.add t1 (t2F M a b c)) M) fun na => sq (Nat.land (Nat.add d t1) M) fun ne => rndsF U M ks ws na a b c ne e f g
  | _, _, a, b, c, d, e, f, g, h => ⟨a, b, c, d, e, f, g, h⟩
def nextF (M : Nat) : List Nat → Nat
  | _ :: x1 :: _ :: _ :: _ :: _ :: x6 :: _ :: _ :: _ :: _ :: _ :: _ :: _ :: x14 :: x15 :: _ => Nat.land (Nat.add (Nat.add (Nat.add (sm1F M (twiceF x1) x1) x6) (sm0F M (twiceF x14) x14)) x15) M
  | _ => 0
def schF (M : Nat) : Nat → List Nat → List Nat
  | 0, l => l
  | n + 1, l => sq (nextF M l) fun w => schF M n (w :: l)
/-- one block: words from the last on -/
def blkF (U M : Nat) (ks hs ws : List Nat) : N8 :=
  match hs with
  | [h0, h1, h2, h3, h4, h5, h6, h7] =>
    match rndsF U M ks (schF M 48 ws).reverse (Nat.mul U h0) (Nat.mul U h1) (Nat.mul U h2) (Nat.mul U h3) (Nat.mul U h4) (Nat.mul U h5) (Nat.mul U h6) (Nat.mul U h7) with
    | ⟨a, b, c, d, e, f, g, h⟩ => ⟨Nat.land (Nat.add (Nat.mul U h0) a) M, Nat.land (Nat.add (Nat.mul U h1) b) M, Nat.land (Nat.add (Nat.mul U h2) c) M, Nat.land (Nat.add (Nat.mul U h3) d) M, Nat.land (Nat.add (Nat.mul U h4) e) M, Nat.land (Nat.add (Nat.mul U h5) f) M, Nat.land (Nat.add (Nat.mul U h6) g) M, Nat.land (Nat.add (Nat.mul U h7) h) M⟩
  | _ => ⟨0, 0, 0, 0, 0, 0, 0, 0⟩
def ksF : List Nat := [
  0x428a2f98, 0x71374491, 0xb5c0fbcf, 0xe9b5dba5, 0x3956c25b, 0x59f111f1, 0x923f82a4, 0xab1c5ed5,
  0xd807aa98, 0x12835b01, 0x243185be, 0x550c7dc3, 0x72be5d74, 0x80deb1fe, 0x9bdc06a7, 0xc19bf174,
  0xe49b69c1, 0xefbe4786, 0x0fc19dc6, 0x240ca1cc, 0x2de92c6f, 0x4a7484aa, 0x5cb0a9dc, 0x76f988da,
  0x983e5152, 0xa831c66d, 0xb00327c8, 0xbf597fc7, 0xc6e00bf3, 0xd5a79147, 0x06ca6351, 0x14292967,
  0x27b70a85, 0x2e1b2138, 0x4d2c6dfc, 0x53380d13, 0x650a7354, 0x766a0abb, 0x81c2c92e, 0x92722c85,
  0xa2bfe8a1, 0xa81a664b, 0xc24b8b70, 0xc76c51a3, 0xd192e819, 0xd6990624, 0xf40e3585, 0x106aa070,
  0x19a4c116, 0x1e376c08, 0x2748774c, 0x34b0bcb5, 0x391c0cb3, 0x4ed8aa4a, 0x5b9cca4f, 0x682e6ff3,
  0x748f82ee, 0x78a5636f, 0x84c87814, 0x8cc70208, 0x90befffa, 0xa4506ceb, 0xbef9a3f7, 0xc67178f2]
def hsF : List Nat := [0x6a09e667, 0xbb67ae85, 0x3c6ef372, 0xa54ff53a, 0x510e527f, 0x9b05688c, 0x1f83d9ab, 0x5be0cd19]
/-- the words of a header without operations: of its parent and its epoch (below 65536) -/
def hdwF (U : Nat) (p : N8) (e : Nat) : List Nat :=
  match p with
  | ⟨a, b, c, d, x, f, g, h⟩ =>
    let lo := Nat.mul U 65535
    let j := fun u v => Nat.add (Nat.mul (Nat.land u lo) 65536) (Nat.land (Nat.shiftRight v 16) lo)
    [Nat.mul U 376, 0, 0, 0, Nat.add (Nat.mul e 65536) (Nat.mul U 128), 0, Nat.mul (Nat.land h lo) 65536, j g h, j f g, j x f, j d x, j c d, j b c, j a b, Nat.add (Nat.mul U 0x65720000) (Nat.land (Nat.shiftRight a 16) lo), Nat.mul U 0x68656164]
theorem u32_lt64 (x : UInt32) : x.toNat < 2 ^ 64 := Nat.lt_trans x.toNat_lt (by decide)
/-- n words in lanes -/
def wl (n : Nat) (x : Nat → UInt32) : Nat := lan n fun i => (x i).toNat
theorem wl_congr {n : Nat} {x y : Nat → UInt32} (h : ∀ i, i < n → x i = y i) : wl n x = wl n y := lan_congr fun i hi => by rw [h i hi]
def mkM (n : Nat) : Nat := wl n fun _ => 4294967295
def mkU (n : Nat) : Nat := wl n fun _ => 1
theorem wl_const (n : Nat) (k : UInt32) : Nat.mul (mkU n) k.toNat = wl n fun _ => k := by
  unfold mkU wl
  rw [lan_mul]
  exact lan_congr fun i _ => by simp
theorem wl_mask (n : Nat) (f : Nat → Nat) (hf : ∀ i, i < n → f i < 2 ^ 64) : Nat.land (lan n f) (mkM n) = wl n fun i => UInt32.ofNat (f i) := by
  unfold mkM wl
  rw [lan_and hf (fun _ _ => by show (4294967295 : UInt32).toNat < 2 ^ 64; decide)]
  refine lan_congr fun i _ => ?_
  show f i &&& (4294967295 : UInt32).toNat = _
  rw [show (4294967295 : UInt32).toNat = 2 ^ 32 - 1 from rfl, Nat.and_two_pow_sub_one_eq_mod, UInt32.toNat_ofNat']
theorem wl_xor (n : Nat) (x y : Nat → UInt32) : Nat.xor (wl n x) (wl n y) = wl n fun i => x i ^^^ y i := by
  unfold wl
  rw [lan_xor (fun _ _ => u32_lt64 _) (fun _ _ => u32_lt64 _)]
  exact lan_congr fun i _ => (UInt32.toNat_xor _ _).symm
theorem wl_and (n : Nat) (x y : Nat → UInt32) : Nat.land (wl n x) (wl n y) = wl n fun i => x i &&& y i := by
  unfold wl
  rw [lan_and (fun _ _ => u32_lt64 _) (fun _ _ => u32_lt64 _)]
  exact lan_congr fun i _ => (UInt32.toNat_and _ _).symm
theorem wl_shift (n k : Nat) (x : Nat → UInt32) (hk : k < 32) : rotF (mkM n) (wl n x) k = wl n fun i => x i >>> UInt32.ofNat k := by
  unfold rotF mkM wl
  rw [lan_shift (fun _ _ => u32_lt64 _) (fun _ _ => by show (4294967295 : UInt32).toNat < 2 ^ 32; decide) (by omega)]
  refine lan_congr fun i _ => ?_
  show (x i).toNat >>> k &&& (4294967295 : UInt32).toNat = _
  rw [show (4294967295 : UInt32).toNat = 2 ^ 32 - 1 from rfl, Nat.and_two_pow_sub_one_eq_mod, UInt32.toNat_shiftRight, UInt32.toNat_ofNat', Nat.mod_eq_of_lt (show k < 2 ^ 32 by omega), Nat.mod_eq_of_lt hk]
  refine Nat.mod_eq_of_lt (Nat.lt_of_le_of_lt (Nat.shiftRight_le _ _) (x i).toNat_lt)
theorem rot_nat {x k : Nat} (hx : x < 2 ^ 32) (hk : k < 32) : (x * 4294967297) >>> k &&& 4294967295 = x >>> k ||| x <<< (32 - k) % 2 ^ 32 := by
  apply Nat.eq_of_testBit_eq
  intro i
  rw [show (4294967295 : Nat) = 2 ^ 32 - 1 from rfl, Nat.and_two_pow_sub_one_eq_mod, Nat.testBit_mod_two_pow, Nat.testBit_shiftRight, Nat.testBit_or, Nat.testBit_mod_two_pow, Nat.testBit_shiftRight, Nat.testBit_shiftLeft, show x * 4294967297 = 2 ^ 32 * x + x by omega, Nat.testBit_two_pow_mul_add _ hx]
  by_cases hi : i < 32
  · by_cases h2 : k + i < 32
    · simp [hi, h2, show ¬ (32 - k ≤ i) by omega]
    · have : x.testBit (k + i) = false := Nat.testBit_lt_two_pow (Nat.lt_of_lt_of_le hx (Nat.pow_le_pow_right (by decide) (by omega)))
      simp [hi, h2, this, show 32 - k ≤ i by omega, show k + i - 32 = i - (32 - k) by omega]
  · have : x.testBit (k + i) = false := Nat.testBit_lt_two_pow (Nat.lt_of_lt_of_le hx (Nat.pow_le_pow_right (by decide) (by omega)))
    simp [hi, this]
theorem wl_rot (n k : Nat) (x : Nat → UInt32) (h0 : 0 < k) (hk : k < 32) : rotF (mkM n) (twiceF (wl n x)) k = wl n fun i => rotr (x i) (UInt32.ofNat k) := by
  unfold rotF mkM twiceF wl
  rw [lan_mul, lan_shift (fun i _ => ?_) (fun _ _ => by show (4294967295 : UInt32).toNat < 2 ^ 32; decide) (by omega)]
  · refine lan_congr fun i _ => ?_
    show ((x i).toNat * 4294967297) >>> k &&& 4294967295 = (rotr (x i) (UInt32.ofNat k)).toNat
    unfold rotr
    rw [rot_nat (x i).toNat_lt hk, UInt32.toNat_or, UInt32.toNat_shiftRight, UInt32.toNat_shiftLeft, UInt32.toNat_sub, UInt32.toNat_ofNat', Nat.mod_eq_of_lt (show k < 2 ^ 32 by omega), Nat.mod_eq_of_lt hk,
      show (32 : UInt32).toNat = 32 from rfl, show (2 ^ 32 - k + 32) % 2 ^ 32 % 32 = 32 - k by omega]
  · have := (x i).toNat_lt
    omega
theorem u32_not (x : UInt32) : x ^^^ 4294967295 = ~~~x := by
  apply UInt32.toNat_inj.1
  apply Nat.eq_of_testBit_eq
  intro i
  rw [UInt32.toNat_xor, Nat.testBit_xor, show (4294967295 : UInt32).toNat = 2 ^ 32 - 1 from rfl, Nat.testBit_two_pow_sub_one, UInt32.toNat_not, show UInt32.size - 1 - x.toNat = 2 ^ 32 - (x.toNat + 1) by have := x.toNat_lt; show 4294967296 - 1 - x.toNat = _; omega, Nat.testBit_two_pow_sub_succ x.toNat_lt]
  by_cases h : i < 32
  · simp [h]
  · have : x.toNat.testBit i = false := Nat.testBit_lt_two_pow (Nat.lt_of_lt_of_le x.toNat_lt (Nat.pow_le_pow_right (by decide) (by omega)))
    simp [h, this]
theorem big1_l (n : Nat) (x : Nat → UInt32) : big1F (mkM n) (twiceF (wl n x)) = wl n fun i => rotr (x i) 6 ^^^ rotr (x i) 11 ^^^ rotr (x i) 25 := by
  unfold big1F
  rw [wl_rot n 6 x (by decide) (by decide), wl_rot n 11 x (by decide) (by decide), wl_rot n 25 x (by decide) (by decide), wl_xor, wl_xor]
  rfl
theorem big0_l (n : Nat) (x : Nat → UInt32) : big0F (mkM n) (twiceF (wl n x)) = wl n fun i => rotr (x i) 2 ^^^ rotr (x i) 13 ^^^ rotr (x i) 22 := by
  unfold big0F
  rw [wl_rot n 2 x (by decide) (by decide), wl_rot n 13 x (by decide) (by decide), wl_rot n 22 x (by decide) (by decide), wl_xor, wl_xor]
  rfl
theorem sm0_l (n : Nat) (x : Nat → UInt32) : sm0F (mkM n) (twiceF (wl n x)) (wl n x) = wl n fun i => sig0 (x i) := by
  unfold sm0F
  rw [wl_rot n 7 x (by decide) (by decide), wl_rot n 18 x (by decide) (by decide), wl_shift n 3 x (by decide), wl_xor, wl_xor]
  rfl
theorem sm1_l (n : Nat) (x : Nat → UInt32) : sm1F (mkM n) (twiceF (wl n x)) (wl n x) = wl n fun i => sig1 (x i) := by
  unfold sm1F
  rw [wl_rot n 17 x (by decide) (by decide), wl_rot n 19 x (by decide) (by decide), wl_shift n 10 x (by decide), wl_xor, wl_xor]
  rfl
theorem ch_l (n : Nat) (e f g : Nat → UInt32) : chF (mkM n) (wl n e) (wl n f) (wl n g) = wl n fun i => (e i &&& f i) ^^^ (g i &&& ~~~ e i) := by
  unfold chF mkM
  rw [wl_xor, wl_and, wl_and, wl_xor]
  refine wl_congr fun i _ => ?_
  rw [u32_not]
theorem maj_l (n : Nat) (a b c : Nat → UInt32) : majF (wl n a) (wl n b) (wl n c) = wl n fun i => (a i &&& b i) ^^^ (a i &&& c i) ^^^ (b i &&& c i) := by
  unfold majF
  rw [wl_and, wl_and, wl_and, wl_xor, wl_xor]
/-- the state in lanes -/
structure SL (n : Nat) (s : Nat → S8) (a b c d e f g h : Nat) : Prop where
  a : a = wl n fun i => (s i).a
  b : b = wl n fun i => (s i).b
  c : c = wl n fun i => (s i).c
  d : d = wl n fun i => (s i).d
  e : e = wl n fun i => (s i).e
  f : f = wl n fun i => (s i).f
  g : g = wl n fun i => (s i).g
  h : h = wl n fun i => (s i).h
theorem wl_sum (n : Nat) (x y : Nat → UInt32) : Nat.add (wl n x) (wl n y) = lan n fun i => (x i).toNat + (y i).toNat := by
  unfold wl
  exact lan_add _ _ _
theorem one_l {n : Nat} {s : Nat → S8} {a b c d e f g h : Nat} (hs : SL n s a b c d e f g h) (k : UInt32) (w : Nat → UInt32) :
    t1F (mkM n) (Nat.mul (mkU n) k.toNat) (wl n w) e f g h = lan n fun i => (s i).h.toNat + (rotr (s i).e 6 ^^^ rotr (s i).e 11 ^^^ rotr (s i).e 25).toNat + (((s i).e &&& (s i).f) ^^^ ((s i).g &&& ~~~ (s i).e)).toNat + k.toNat + (w i).toNat := by
  unfold t1F
  rw [hs.e, hs.f, hs.g, hs.h, big1_l, ch_l, wl_const, wl_sum]
  unfold wl
  rw [lan_add, lan_add, lan_add]
theorem two_l {n : Nat} {s : Nat → S8} {a b c d e f g h : Nat} (hs : SL n s a b c d e f g h) :
    t2F (mkM n) a b c = lan n fun i => (rotr (s i).a 2 ^^^ rotr (s i).a 13 ^^^ rotr (s i).a 22).toNat + (((s i).a &&& (s i).b) ^^^ ((s i).a &&& (s i).c) ^^^ ((s i).b &&& (s i).c)).toNat := by
  unfold t2F
  rw [hs.a, hs.b, hs.c, big0_l, maj_l, wl_sum]
theorem rnd_l {n : Nat} {s : Nat → S8} {a b c d e f g h : Nat} (hs : SL n s a b c d e f g h) (k : UInt32) (w : Nat → UInt32) :
    SL n (fun i => shaRnd k (w i) (s i)) (Nat.land (Nat.add (t1F (mkM n) (Nat.mul (mkU n) k.toNat) (wl n w) e f g h) (t2F (mkM n) a b c)) (mkM n)) a b c (Nat.land (Nat.add d (t1F (mkM n) (Nat.mul (mkU n) k.toNat) (wl n w) e f g h)) (mkM n)) e f g := by
  refine ⟨?_, hs.a, hs.b, hs.c, ?_, hs.e, hs.f, hs.g⟩
  · rw [one_l hs, two_l hs, lan_add, wl_mask]
    · refine wl_congr fun i _ => ?_
      show _ = shaOne k (w i) (s i) + shaTwo (s i)
      unfold shaOne shaTwo
      rw [← UInt32.toNat_inj]
      simp only [UInt32.toNat_ofNat', UInt32.toNat_add]
      omega
    · intro i _
      have h1 := (s i).h.toNat_lt
      have h2 := (rotr (s i).e 6 ^^^ rotr (s i).e 11 ^^^ rotr (s i).e 25).toNat_lt
      have h3 := (((s i).e &&& (s i).f) ^^^ ((s i).g &&& ~~~ (s i).e)).toNat_lt
      have h4 := k.toNat_lt
      have h5 := (w i).toNat_lt
      have h6 := (rotr (s i).a 2 ^^^ rotr (s i).a 13 ^^^ rotr (s i).a 22).toNat_lt
      have h7 := (((s i).a &&& (s i).b) ^^^ ((s i).a &&& (s i).c) ^^^ ((s i).b &&& (s i).c)).toNat_lt
      omega
  · rw [one_l hs, hs.d]
    unfold wl
    rw [lan_add, wl_mask]
    · refine wl_congr fun i _ => ?_
      show _ = (s i).d + shaOne k (w i) (s i)
      unfold shaOne
      rw [← UInt32.toNat_inj]
      simp only [UInt32.toNat_ofNat', UInt32.toNat_add]
      omega
    · intro i _
      have h1 := (s i).h.toNat_lt
      have h2 := (rotr (s i).e 6 ^^^ rotr (s i).e 11 ^^^ rotr (s i).e 25).toNat_lt
      have h3 := (((s i).e &&& (s i).f) ^^^ ((s i).g &&& ~~~ (s i).e)).toNat_lt
      have h4 := k.toNat_lt
      have h5 := (w i).toNat_lt
      have h6 := (s i).d.toNat_lt
      show (s i).d.toNat + _ < _
      omega
/-- rounds from t on -/
def rndsS (ks : List UInt32) (ws : List UInt32) (s : S8) : S8 := (ks.zip ws).foldl (fun s kw => shaRnd kw.1 kw.2 s) s
theorem rnds_l {n : Nat} : ∀ (ks : List UInt32) (ws : List (Nat → UInt32)) (s : Nat → S8) (a b c d e f g h : Nat), SL n s a b c d e f g h →
    ∃ r, rndsF (mkU n) (mkM n) (ks.map (·.toNat)) (ws.map (wl n)) a b c d e f g h = r ∧ SL n (fun i => rndsS ks (ws.map fun w => w i) (s i)) r.a r.b r.c r.d r.e r.f r.g r.h
  | [], ws, s, a, b, c, d, e, f, g, h, hs => ⟨_, rfl, by simpa [rndsF, rndsS] using hs⟩
  | k :: ks, [], s, a, b, c, d, e, f, g, h, hs => ⟨_, rfl, by simpa [rndsF, rndsS] using hs⟩
  | k :: ks, w :: ws, s, a, b, c, d, e, f, g, h, hs => by
    obtain ⟨r, h1, h2⟩ := rnds_l ks ws _ _ _ _ _ _ _ _ _ (rnd_l hs k w)
    refine ⟨r, ?_, h2⟩
    rw [← h1]
    simp only [List.map_cons, rndsF, sq_eq]
theorem shaK_range : shaK = (List.range 64).map kOf := by decide +kernel
theorem shaComp_fold (m : List UInt8) (s : S8) : ∀ t, ((List.range t).map fun j => (kOf j, sch m j)).foldl (fun s kw => shaRnd kw.1 kw.2 s) s = shaComp m s t
  | 0 => rfl
  | t + 1 => by
    rw [List.range_succ, List.map_append, List.foldl_append, shaComp_fold m s t]
    rfl
theorem rndsS_comp (m : List UInt8) (s : S8) : rndsS shaK ((List.range 64).map (sch m)) s = shaComp m s 64 := by
  unfold rndsS
  rw [shaK_range, List.zip_map', shaComp_fold]
def ksN : List Nat := shaK.map (·.toNat)
theorem ksF_eq : ksF = ksN := by decide +kernel
theorem range_rev (r : Nat) : (List.range (r + 16)).reverse = (r + 15) :: (r + 14) :: (r + 13) :: (r + 12) :: (r + 11) :: (r + 10) :: (r + 9) :: (r + 8) :: (r + 7) :: (r + 6) :: (r + 5) :: (r + 4) :: (r + 3) :: (r + 2) :: (r + 1) :: r :: (List.range r).reverse := by
  simp [List.range_succ]
theorem next_l {n r : Nat} (m : Nat → List UInt8) (hr : 16 ≤ r) : nextF (mkM n) ((List.range r).reverse.map fun t => wl n fun i => sch (m i) t) = wl n fun i => sch (m i) r := by
  obtain ⟨q, rfl⟩ : ∃ q, r = q + 16 := ⟨r - 16, by omega⟩
  rw [range_rev]
  simp only [List.map_cons, nextF]
  rw [sm1_l, sm0_l, wl_sum]
  unfold wl
  rw [lan_add, lan_add, wl_mask]
  · refine wl_congr fun i _ => ?_
    rw [sch_high (m i) (q + 16) (by omega), show q + 16 - 2 = q + 14 by omega, show q + 16 - 7 = q + 9 by omega, show q + 16 - 15 = q + 1 by omega, show q + 16 - 16 = q by omega, ← UInt32.toNat_inj]
    simp only [UInt32.toNat_ofNat', UInt32.toNat_add]
    omega
  · intro i _
    have h1 := (sig1 (sch (m i) (q + 14))).toNat_lt
    have h2 := (sch (m i) (q + 9)).toNat_lt
    have h3 := (sig0 (sch (m i) (q + 1))).toNat_lt
    have h4 := (sch (m i) q).toNat_lt
    dsimp only
    omega
theorem sch_l {n : Nat} (m : Nat → List UInt8) : ∀ (k r : Nat), 16 ≤ r → schF (mkM n) k ((List.range r).reverse.map fun t => wl n fun i => sch (m i) t) = (List.range (r + k)).reverse.map fun t => wl n fun i => sch (m i) t
  | 0, _, _ => rfl
  | k + 1, r, hr => by
    have ih := sch_l (n := n) m k (r + 1) (by omega)
    rw [List.range_succ, List.reverse_append, List.reverse_singleton, List.singleton_append, List.map_cons] at ih
    unfold schF
    rw [sq_eq, next_l m hr, ih, show r + 1 + k = r + (k + 1) by omega]
theorem add_mask (n : Nat) (x y : Nat → UInt32) : Nat.land (Nat.add (wl n x) (wl n y)) (mkM n) = wl n fun i => x i + y i := by
  rw [wl_sum, wl_mask]
  · refine wl_congr fun i _ => ?_
    rw [← UInt32.toNat_inj]
    simp only [UInt32.toNat_ofNat', UInt32.toNat_add]
  · intro i _
    have h1 := (x i).toNat_lt
    have h2 := (y i).toNat_lt
    omega
theorem wl_lit (n k : Nat) (x : UInt32) (h : x.toNat = k) : Nat.mul (mkU n) k = wl n fun _ => x := h ▸ wl_const n x
theorem blk_gen {n : Nat} (m : Nat → List UInt8) (ws ks : List Nat) (hk : ks = shaK.map (·.toNat)) (hw : ws = (List.range 16).reverse.map fun t => wl n fun i => sch (m i) t) (s : S8) {h0 h1 h2 h3 h4 h5 h6 h7 : Nat} (e0 : s.a.toNat = h0) (e1 : s.b.toNat = h1) (e2 : s.c.toNat = h2) (e3 : s.d.toNat = h3) (e4 : s.e.toNat = h4) (e5 : s.f.toNat = h5) (e6 : s.g.toNat = h6) (e7 : s.h.toNat = h7) :
    ∃ r, blkF (mkU n) (mkM n) ks [h0, h1, h2, h3, h4, h5, h6, h7] ws = r ∧ SL n (fun i => shaBlk s (m i)) r.a r.b r.c r.d r.e r.f r.g r.h := by
  have hsch : (schF (mkM n) 48 ws).reverse = ((List.range 64).map fun t => fun i => sch (m i) t).map (wl n) := by
    rw [hw, sch_l m 48 16 (Nat.le_refl _), ← List.map_reverse, List.reverse_reverse, List.map_map]
    rfl
  have q : SL n (fun _ => s) (Nat.mul (mkU n) h0) (Nat.mul (mkU n) h1) (Nat.mul (mkU n) h2) (Nat.mul (mkU n) h3) (Nat.mul (mkU n) h4) (Nat.mul (mkU n) h5) (Nat.mul (mkU n) h6) (Nat.mul (mkU n) h7) :=
    ⟨wl_lit n _ _ e0, wl_lit n _ _ e1, wl_lit n _ _ e2, wl_lit n _ _ e3, wl_lit n _ _ e4, wl_lit n _ _ e5, wl_lit n _ _ e6, wl_lit n _ _ e7⟩
  obtain ⟨⟨a, b, c, d, e, f, g, h⟩, hr, hs⟩ := rnds_l shaK ((List.range 64).map fun t => fun i => sch (m i) t) _ _ _ _ _ _ _ _ _ q
  have hcomp : ∀ i, rndsS shaK (((List.range 64).map fun t => fun i => sch (m i) t).map fun w => w i) s = shaComp (m i) s 64 := fun i => by
    rw [List.map_map]
    exact rndsS_comp (m i) s
  simp only [hcomp] at hs
  unfold blkF
  simp only
  rw [hsch, hk, hr]
  refine ⟨_, rfl, ?_, ?_, ?_, ?_, ?_, ?_, ?_, ?_⟩
  · show Nat.land (Nat.add (Nat.mul (mkU n) h0) a) (mkM n) = _
    rw [hs.a, q.a, add_mask]
    rfl
  · show Nat.land (Nat.add (Nat.mul (mkU n) h1) b) (mkM n) = _
    rw [hs.b, q.b, add_mask]
    rfl
  · show Nat.land (Nat.add (Nat.mul (mkU n) h2) c) (mkM n) = _
    rw [hs.c, q.c, add_mask]
    rfl
  · show Nat.land (Nat.add (Nat.mul (mkU n) h3) d) (mkM n) = _
    rw [hs.d, q.d, add_mask]
    rfl
  · show Nat.land (Nat.add (Nat.mul (mkU n) h4) e) (mkM n) = _
    rw [hs.e, q.e, add_mask]
    rfl
  · show Nat.land (Nat.add (Nat.mul (mkU n) h5) f) (mkM n) = _
    rw [hs.f, q.f, add_mask]
    rfl
  · show Nat.land (Nat.add (Nat.mul (mkU n) h6) g) (mkM n) = _
    rw [hs.g, q.g, add_mask]
    rfl
  · show Nat.land (Nat.add (Nat.mul (mkU n) h7) h) (mkM n) = _
    rw [hs.h, q.h, add_mask]
    rfl
theorem blk_l {n : Nat} (m : Nat → List UInt8) (ws : List Nat) (hw : ws = (List.range 16).reverse.map fun t => wl n fun i => sch (m i) t) :
    ∃ r, blkF (mkU n) (mkM n) ksF hsF ws = r ∧ SL n (fun i => shaBlk shaH (m i)) r.a r.b r.c r.d r.e r.f r.g r.h :=
  blk_gen m ws ksF ksF_eq hw shaH rfl rfl rfl rfl rfl rfl rfl rfl
/-! a header without operations -/
def hdwT (p : S8) (e : Nat) : List UInt8 := [104, 101, 97, 100, 101, 114] ++ shaOut p ++ be 8 e ++ [0]
theorem be4_eq (x : UInt32) : be4 x = [UInt8.ofNat (x.toNat / 16777216), UInt8.ofNat (x.toNat / 65536), UInt8.ofNat (x.toNat / 256), UInt8.ofNat x.toNat] := by
  simp [be4, be, Nat.div_div_eq_div_mul]
theorem be8_eq (e : Nat) (he : e < 65536) : be 8 e = [0, 0, 0, 0, 0, 0, UInt8.ofNat (e / 256), UInt8.ofNat e] := by
  simp only [be, List.nil_append, List.cons_append, Nat.div_div_eq_div_mul, Nat.reduceMul]
  rw [show e / 72057594037927936 = 0 by omega, show e / 281474976710656 = 0 by omega, show e / 1099511627776 = 0 by omega, show e / 4294967296 = 0 by omega, show e / 16777216 = 0 by omega, show e / 65536 = 0 by omega]
  rfl
theorem hdw_pad (p : S8) (e : Nat) (he : e < 65536) : shaPad (hdwT p e) = [104, 101, 97, 100, 101, 114] ++ shaOut p ++ [0, 0, 0, 0, 0, 0, UInt8.ofNat (e / 256), UInt8.ofNat e, 0, 128, 0, 0, 0, 0, 0, 0, 0, 0, 0, 0, 0, 0, 0, 0, 1, 120] := by
  have hl : (hdwT p e).length = 47 := by simp [hdwT, shaOut_length, be_length]
  unfold shaPad
  rw [hl, show shaZeros 47 = 8 from rfl]
  unfold hdwT
  rw [be8_eq e he, show be 8 (47 * 8) = [0, 0, 0, 0, 0, 0, 1, 120] by decide]
  simp [List.append_assoc, List.replicate]
theorem four (a b c d : UInt8) : numOf [a, b, c, d] = a.toNat * 16777216 + b.toNat * 65536 + c.toNat * 256 + d.toNat := by
  simp only [numOf, List.foldl_cons, List.foldl_nil]
  omega
/-- the words, from the last on -/
def hdwS (p : S8) (e : Nat) : List UInt32 :=
  let j := fun (u v : UInt32) => UInt32.ofNat (u.toNat % 65536 * 65536 + v.toNat / 65536)
  [376, 0, 0, 0, UInt32.ofNat (e * 65536 + 128), 0, UInt32.ofNat (p.h.toNat % 65536 * 65536), j p.g p.h, j p.f p.g, j p.e p.f, j p.d p.e, j p.c p.d, j p.b p.c, j p.a p.b, UInt32.ofNat (0x65720000 + p.a.toNat / 65536), 0x68656164]
theorem byte_nat (n : Nat) : (UInt8.ofNat n).toNat = n % 256 := UInt8.toNat_ofNat'
theorem cons_eq {α : Type} {a b : α} {l m : List α} (h : a = b) (k : l = m) : a :: l = b :: m := by rw [h, k]
theorem hdwS_eq (p : S8) (e : Nat) (he : e < 65536) : hdwS p e = (List.range 16).reverse.map fun t => sch (shaPad (hdwT p e)) t := by
  rw [hdw_pad p e he, show (List.range 16).reverse = [15, 14, 13, 12, 11, 10, 9, 8, 7, 6, 5, 4, 3, 2, 1, 0] from rfl]
  simp only [List.map_cons, List.map_nil]
  repeat rw [sch_low _ _ (by decide)]
  unfold wd shaOut S8.list hdwS
  have ha := p.a.toNat_lt
  have hb := p.b.toNat_lt
  have hc := p.c.toNat_lt
  have hd := p.d.toNat_lt
  have he' := p.e.toNat_lt
  have hf := p.f.toNat_lt
  have hg := p.g.toNat_lt
  have hh := p.h.toNat_lt
  simp only [List.flatMap_cons, List.flatMap_nil, be4_eq, List.cons_append, List.nil_append, Nat.reduceMul, List.drop_succ_cons, List.drop_zero, List.take_succ_cons, List.take_zero, four, byte_nat]
  generalize p.a.toNat = a at *
  generalize p.b.toNat = b at *
  generalize p.c.toNat = c at *
  generalize p.d.toNat = d at *
  generalize p.e.toNat = x at *
  generalize p.f.toNat = f at *
  generalize p.g.toNat = g at *
  generalize p.h.toNat = h at *
  refine cons_eq rfl (cons_eq rfl (cons_eq rfl (cons_eq rfl (cons_eq ?_ (cons_eq rfl (cons_eq ?_ (cons_eq ?_ (cons_eq ?_ (cons_eq ?_ (cons_eq ?_ (cons_eq ?_ (cons_eq ?_ (cons_eq ?_ (cons_eq ?_ (cons_eq rfl rfl)))))))))))))))
  all_goals refine congrArg UInt32.ofNat ?_
  all_goals try simp only [show (104 : UInt8).toNat = 104 from rfl, show (101 : UInt8).toNat = 101 from rfl, show (97 : UInt8).toNat = 97 from rfl, show (100 : UInt8).toNat = 100 from rfl, show (114 : UInt8).toNat = 114 from rfl, show (0 : UInt8).toNat = 0 from rfl, show (128 : UInt8).toNat = 128 from rfl]
  all_goals omega
theorem sch_words (p : S8) (e : Nat) (he : e < 65536) : ∀ m, m = shaPad (hdwT p e) → sch m 15 = 376 ∧ sch m 14 = 0 ∧ sch m 13 = 0 ∧ sch m 12 = 0 ∧ sch m 11 = UInt32.ofNat (e * 65536 + 128) ∧ sch m 10 = 0 ∧ sch m 9 = UInt32.ofNat (p.h.toNat % 65536 * 65536) ∧
    sch m 8 = UInt32.ofNat (p.g.toNat % 65536 * 65536 + p.h.toNat / 65536) ∧ sch m 7 = UInt32.ofNat (p.f.toNat % 65536 * 65536 + p.g.toNat / 65536) ∧ sch m 6 = UInt32.ofNat (p.e.toNat % 65536 * 65536 + p.f.toNat / 65536) ∧ sch m 5 = UInt32.ofNat (p.d.toNat % 65536 * 65536 + p.e.toNat / 65536) ∧
    sch m 4 = UInt32.ofNat (p.c.toNat % 65536 * 65536 + p.d.toNat / 65536) ∧ sch m 3 = UInt32.ofNat (p.b.toNat % 65536 * 65536 + p.c.toNat / 65536) ∧ sch m 2 = UInt32.ofNat (p.a.toNat % 65536 * 65536 + p.b.toNat / 65536) ∧ sch m 1 = UInt32.ofNat (0x65720000 + p.a.toNat / 65536) ∧ sch m 0 = 0x68656164 := by
  rintro m rfl
  have h := hdwS_eq p e he
  rw [show (List.range 16).reverse = [15, 14, 13, 12, 11, 10, 9, 8, 7, 6, 5, 4, 3, 2, 1, 0] from rfl] at h
  unfold hdwS at h
  simp only [List.map_cons, List.map_nil, List.cons.injEq, and_true] at h
  obtain ⟨q1, q2, q3, q4, q5, q6, q7, q8, q9, q10, q11, q12, q13, q14, q15, q16⟩ := h
  exact ⟨q1.symm, q2.symm, q3.symm, q4.symm, q5.symm, q6.symm, q7.symm, q8.symm, q9.symm, q10.symm, q11.symm, q12.symm, q13.symm, q14.symm, q15.symm, q16.symm⟩
theorem wl_zero (n : Nat) : 0 = wl n fun _ => 0 := by
  have := wl_const n 0
  rw [← this]
  rfl
theorem wl_of (n : Nat) (f : Nat → Nat) (hf : ∀ i, i < n → f i < 2 ^ 32) : lan n f = wl n fun i => UInt32.ofNat (f i) := lan_congr fun i hi => by
  rw [UInt32.toNat_ofNat', Nat.mod_eq_of_lt (hf i hi)]
theorem lanU (n k : Nat) : Nat.mul (mkU n) k = lan n fun _ => k := by
  unfold mkU wl
  rw [lan_mul]
  exact lan_congr fun i _ => by show 1 * k = k; omega
theorem low_l (n : Nat) (x : Nat → UInt32) : Nat.land (wl n x) (Nat.mul (mkU n) 65535) = lan n fun i => (x i).toNat % 65536 := by
  rw [lanU]
  unfold wl
  rw [lan_and (fun _ _ => u32_lt64 _) (fun _ _ => by decide)]
  refine lan_congr fun i _ => ?_
  show (x i).toNat &&& (2 ^ 16 - 1) = _
  rw [Nat.and_two_pow_sub_one_eq_mod]
theorem high_l (n : Nat) (x : Nat → UInt32) : Nat.land (Nat.shiftRight (wl n x) 16) (Nat.mul (mkU n) 65535) = lan n fun i => (x i).toNat / 65536 := by
  rw [lanU]
  unfold wl
  rw [lan_shift (fun _ _ => u32_lt64 _) (fun _ _ => by decide) (by decide)]
  refine lan_congr fun i _ => ?_
  show (x i).toNat >>> 16 &&& (2 ^ 16 - 1) = _
  rw [Nat.and_two_pow_sub_one_eq_mod, Nat.shiftRight_eq_div_pow]
  have := (x i).toNat_lt
  omega
theorem join_l (n : Nat) (x y : Nat → UInt32) : Nat.add (Nat.mul (Nat.land (wl n x) (Nat.mul (mkU n) 65535)) 65536) (Nat.land (Nat.shiftRight (wl n y) 16) (Nat.mul (mkU n) 65535)) = wl n fun i => UInt32.ofNat ((x i).toNat % 65536 * 65536 + (y i).toNat / 65536) := by
  rw [low_l, high_l, lan_mul, lan_add, wl_of]
  intro i _
  have := (y i).toNat_lt
  omega
theorem hdw_l {n : Nat} (s : Nat → S8) (e : Nat → Nat) (he : ∀ i, i < n → e i < 65536) {a b c d x f g h : Nat} (hs : SL n s a b c d x f g h) :
    hdwF (mkU n) ⟨a, b, c, d, x, f, g, h⟩ (lan n e) = (List.range 16).reverse.map fun t => wl n fun i => sch (shaPad (hdwT (s i) (e i))) t := by
  rw [show (List.range 16).reverse = [15, 14, 13, 12, 11, 10, 9, 8, 7, 6, 5, 4, 3, 2, 1, 0] from rfl]
  simp only [List.map_cons, List.map_nil]
  have hw := fun i hi => sch_words (s i) (e i) (he i hi) _ rfl
  unfold hdwF
  simp only
  rw [hs.a, hs.b, hs.c, hs.d, hs.e, hs.f, hs.g, hs.h, join_l, join_l, join_l, join_l, join_l, join_l, join_l]
  refine cons_eq ?_ (cons_eq ?_ (cons_eq ?_ (cons_eq ?_ (cons_eq ?_ (cons_eq ?_ (cons_eq ?_ (cons_eq ?_ (cons_eq ?_ (cons_eq ?_ (cons_eq ?_ (cons_eq ?_ (cons_eq ?_ (cons_eq ?_ (cons_eq ?_ (cons_eq ?_ rfl)))))))))))))))
  · rw [wl_lit n 376 376 rfl]; exact wl_congr fun i hi => (hw i hi).1.symm
  · rw [wl_zero n]; exact wl_congr fun i hi => (hw i hi).2.1.symm
  · rw [wl_zero n]; exact wl_congr fun i hi => (hw i hi).2.2.1.symm
  · rw [wl_zero n]; exact wl_congr fun i hi => (hw i hi).2.2.2.1.symm
  · rw [lanU, lan_mul, lan_add, wl_of]
    · exact wl_congr fun i hi => (hw i hi).2.2.2.2.1.symm
    · intro i hi
      have := he i hi
      omega
  · rw [wl_zero n]; exact wl_congr fun i hi => (hw i hi).2.2.2.2.2.1.symm
  · rw [low_l, lan_mul, wl_of]
    · exact wl_congr fun i hi => (hw i hi).2.2.2.2.2.2.1.symm
    · intro i _
      omega
  · exact wl_congr fun i hi => (hw i hi).2.2.2.2.2.2.2.1.symm
  · exact wl_congr fun i hi => (hw i hi).2.2.2.2.2.2.2.2.1.symm
  · exact wl_congr fun i hi => (hw i hi).2.2.2.2.2.2.2.2.2.1.symm
  · exact wl_congr fun i hi => (hw i hi).2.2.2.2.2.2.2.2.2.2.1.symm
  · exact wl_congr fun i hi => (hw i hi).2.2.2.2.2.2.2.2.2.2.2.1.symm
  · exact wl_congr fun i hi => (hw i hi).2.2.2.2.2.2.2.2.2.2.2.2.1.symm
  · exact wl_congr fun i hi => (hw i hi).2.2.2.2.2.2.2.2.2.2.2.2.2.1.symm
  · rw [high_l, lanU, lan_add, wl_of]
    · exact wl_congr fun i hi => (hw i hi).2.2.2.2.2.2.2.2.2.2.2.2.2.2.1.symm
    · intro i _
      have := (s i).a.toNat_lt
      omega
  · rw [wl_lit n 0x68656164 0x68656164 rfl]; exact wl_congr fun i hi => (hw i hi).2.2.2.2.2.2.2.2.2.2.2.2.2.2.2.symm
/-- a name's words -/
def hname (p : S8) (e : Nat) : S8 := shaBlk shaH (shaPad (hdwT p e))
theorem hname_l {n : Nat} (s : Nat → S8) (e : Nat → Nat) (he : ∀ i, i < n → e i < 65536) {a b c d x f g h : Nat} (hs : SL n s a b c d x f g h) :
    ∃ r, blkF (mkU n) (mkM n) ksF hsF (hdwF (mkU n) ⟨a, b, c, d, x, f, g, h⟩ (lan n e)) = r ∧ SL n (fun i => hname (s i) (e i)) r.a r.b r.c r.d r.e r.f r.g r.h :=
  blk_l (fun i => shaPad (hdwT (s i) (e i))) _ (hdw_l s e he hs)
end Go.Proofs.Ythdjhbiigmcecaa

/- Names of headers without operations: by words, and in lanes. -/
namespace Go.Proofs.Ythdjhbiigmcecaa

theorem hdrMay_bare {h : Hdr} (h0 : h.ops = []) (h1 : 1 ≤ h.epoch.toNat) (h2 : h.epoch.toNat < 65536) : hdrMay h = true := by
  unfold hdrMay
  rw [h0]
  simp
  omega
theorem hdName_bare {h : Hdr} {p : S8} {e : Nat} (h0 : h.ops = []) (hp : h.parent.1 = shaOut p) (he : h.epoch.toNat = e) (h1 : 1 ≤ e) (h2 : e < 65536) : (hdName h).1 = shaOut (hname p e) := by
  have hm : hdrMay h = true := hdrMay_bare h0 (by omega) (by omega)
  have ht : nmText h = hdwT p e := by
    unfold nmText hdBytes hdwT
    rw [h0, hp, he]
    simp
  have hl : (shaPad (hdwT p e)).length = 64 := by
    rw [hdw_pad p e h2]
    simp [shaOut_length]
  unfold hdName
  rw [if_pos hm, ht]
  unfold shaSum hname
  simp only
  rw [shaRun_long _ _ (by omega), List.take_of_length_le (by omega), List.drop_of_length_le (by omega), shaRun_short _ _ (by simp)]
theorem u8_nat {a b : Nat} (h : UInt8.ofNat a = UInt8.ofNat b) : a % 256 = b % 256 := by
  have := congrArg UInt8.toNat h
  rwa [byte_nat, byte_nat] at this
/-- names of unlike first words are unlike -/
theorem shaOut_a {s t : S8} (h : shaOut s = shaOut t) : s.a = t.a := by
  unfold shaOut S8.list at h
  simp only [List.flatMap_cons, be4_eq, List.cons_append, List.nil_append, List.cons.injEq] at h
  obtain ⟨q1, q2, q3, q4, -⟩ := h
  have h1 := u8_nat q1
  have h2 := u8_nat q2
  have h3 := u8_nat q3
  have h4 := u8_nat q4
  have hs := s.a.toNat_lt
  have ht := t.a.toNat_lt
  exact UInt32.toNat_inj.1 (by omega)
/-- one alone, reckoned -/
theorem wl_one (x : Nat → UInt32) : wl 1 x = (x 0).toNat := by
  unfold wl lan lan
  simp
theorem hname_one (p : S8) (e : Nat) (he : e < 65536) : ∃ r, blkF 1 4294967295 ksF hsF (hdwF 1 ⟨p.a.toNat, p.b.toNat, p.c.toNat, p.d.toNat, p.e.toNat, p.f.toNat, p.g.toNat, p.h.toNat⟩ e) = r ∧
    (hname p e).a.toNat = r.a ∧ (hname p e).b.toNat = r.b ∧ (hname p e).c.toNat = r.c ∧ (hname p e).d.toNat = r.d ∧ (hname p e).e.toNat = r.e ∧ (hname p e).f.toNat = r.f ∧ (hname p e).g.toNat = r.g ∧ (hname p e).h.toNat = r.h := by
  obtain ⟨r, h1, h2⟩ := hname_l (n := 1) (fun _ => p) (fun _ => e) (fun _ _ => he) (a := p.a.toNat) (b := p.b.toNat) (c := p.c.toNat) (d := p.d.toNat) (x := p.e.toNat) (f := p.f.toNat) (g := p.g.toNat) (h := p.h.toNat)
    ⟨(wl_one fun _ => p.a).symm, (wl_one fun _ => p.b).symm, (wl_one fun _ => p.c).symm, (wl_one fun _ => p.d).symm, (wl_one fun _ => p.e).symm, (wl_one fun _ => p.f).symm, (wl_one fun _ => p.g).symm, (wl_one fun _ => p.h).symm⟩
  have hU : mkU 1 = 1 := wl_one _
  have hM : mkM 1 = 4294967295 := wl_one _
  have hE : lan 1 (fun _ => e) = e := by unfold lan lan; simp
  rw [hU, hM, hE] at h1
  refine ⟨r, h1, ?_⟩
  have q := h2
  rw [q.a, q.b, q.c, q.d, q.e, q.f, q.g, q.h, wl_one, wl_one, wl_one, wl_one, wl_one, wl_one, wl_one, wl_one]
  exact ⟨rfl, rfl, rfl, rfl, rfl, rfl, rfl, rfl⟩
end Go.Proofs.Ythdjhbiigmcecaa

/- The names of landmarklaw10.known, reckoned. -/
namespace Go.Proofs.Ythdjhbiigmcecaa

def nm1 : S8 := ⟨16777216, 0, 0, 0, 0, 0, 0, 0⟩
def nm1H : Hash := ⟨1 :: List.replicate 31 0, by simp⟩
theorem nm1_out : nm1H.1 = shaOut nm1 := by decide +kernel
def n8L (r : N8) : List Nat := [r.a, r.b, r.c, r.d, r.e, r.f, r.g, r.h]
theorem kn1 : n8L (blkF 1 4294967295 ksF hsF (hdwF 1 ⟨16777216, 0, 0, 0, 0, 0, 0, 0⟩ 7)) = [64128975, 736020416, 3726047156, 4150195627, 4141587366, 1544206514, 1518640299, 2593121992] := by decide +kernel
theorem kn2 : n8L (blkF 1 4294967295 ksF hsF (hdwF 1 ⟨64128975, 736020416, 3726047156, 4150195627, 4141587366, 1544206514, 1518640299, 2593121992⟩ 9)) = [1676725952, 2259209839, 3860034329, 200100354, 404195973, 4020226498, 4184840341, 3783425187] := by decide +kernel
def nm2 : S8 := ⟨64128975, 736020416, 3726047156, 4150195627, 4141587366, 1544206514, 1518640299, 2593121992⟩
theorem nm2_eq : hname nm1 7 = nm2 := by
  obtain ⟨r, h0, ha, hb, hc, hd, he, hf, hg, hh⟩ := hname_one nm1 7 (by decide)
  have hk := kn1
  rw [show blkF 1 4294967295 ksF hsF (hdwF 1 ⟨16777216, 0, 0, 0, 0, 0, 0, 0⟩ 7) = r from h0] at hk
  simp only [n8L, List.cons.injEq, and_true] at hk
  obtain ⟨a1, a2, a3, a4, a5, a6, a7, a8⟩ := hk
  rw [a1] at ha
  rw [a2] at hb
  rw [a3] at hc
  rw [a4] at hd
  rw [a5] at he
  rw [a6] at hf
  rw [a7] at hg
  rw [a8] at hh
  generalize hname nm1 7 = s at *
  cases s
  simp only at ha hb hc hd he hf hg hh
  unfold nm2
  rw [S8.mk.injEq]
  exact ⟨UInt32.toNat_inj.1 ha, UInt32.toNat_inj.1 hb, UInt32.toNat_inj.1 hc, UInt32.toNat_inj.1 hd, UInt32.toNat_inj.1 he, UInt32.toNat_inj.1 hf, UInt32.toNat_inj.1 hg, UInt32.toNat_inj.1 hh⟩
theorem nm3_a : (hname nm2 9).a.toNat = 1676725952 := by
  obtain ⟨r, h0, ha, -⟩ := hname_one nm2 9 (by decide)
  have hk := kn2
  rw [show blkF 1 4294967295 ksF hsF (hdwF 1 ⟨64128975, 736020416, 3726047156, 4150195627, 4141587366, 1544206514, 1518640299, 2593121992⟩ 9) = r from h0] at hk
  simp only [n8L, List.cons.injEq, and_true] at hk
  rw [ha, hk.1]
/-- the two headers -/
def hd1 : Hdr := ⟨nm1H, 7, []⟩
def hd2 : Hdr := ⟨hdName hd1, 9, []⟩
theorem hd1_name : (hdName hd1).1 = shaOut nm2 := by
  rw [hdName_bare (h := hd1) (p := nm1) (e := 7) rfl nm1_out rfl (by decide) (by decide), nm2_eq]
theorem hd2_name : (hdName hd2).1 = shaOut (hname nm2 9) :=
  hdName_bare (h := hd2) (p := nm2) (e := 9) rfl hd1_name rfl (by decide) (by decide)
theorem nm_ne12 : nm1H ≠ hdName hd1 := fun e => by
  have := congrArg Subtype.val e
  rw [nm1_out, hd1_name] at this
  have := shaOut_a this
  revert this
  decide
theorem nm_ne13 : nm1H ≠ hdName hd2 := fun e => by
  have := congrArg Subtype.val e
  rw [nm1_out, hd2_name] at this
  have := congrArg UInt32.toNat (shaOut_a this)
  rw [nm3_a] at this
  revert this
  decide
theorem nm_ne23 : hdName hd1 ≠ hdName hd2 := fun e => by
  have := congrArg Subtype.val e
  rw [hd1_name, hd2_name] at this
  have := congrArg UInt32.toNat (shaOut_a this)
  rw [nm3_a] at this
  revert this
  decide
/-! the chain of both -/
def kC0 : List Blk := chNew ⟨5, nm1H⟩
def kC1 : List Blk := kC0 ++ [⟨⟨7, hdName hd1⟩, hd1, some 0⟩]
def kC2 : List Blk := kC1 ++ [⟨⟨9, hdName hd2⟩, hd2, some 1⟩]
theorem kchk1 : chCheck kC0 hd1 = (⟨7, hdName hd1⟩, 0) := by
  have h1 : hdrMay hd1 = true := hdrMay_bare rfl (by decide) (by decide)
  have h2 : chAt kC0 (hdName hd1) = none := by simp [chAt, kC0, chNew, nm_ne12]
  have h3 : chAt kC0 hd1.parent = some 0 := by simp [chAt, kC0, chNew, hd1]
  unfold chCheck
  rw [if_pos h1, h2, h3]
  rfl
theorem kadd1 : chAdd kC0 hd1 = kC1 := by
  have h3 : chAt kC0 hd1.parent = some 0 := by simp [chAt, kC0, chNew, hd1]
  unfold chAdd
  rw [kchk1, if_pos rfl, h3]
  rfl
theorem kchk2 : chCheck kC1 hd2 = (⟨9, hdName hd2⟩, 0) := by
  have h1 : hdrMay hd2 = true := hdrMay_bare rfl (by decide) (by decide)
  have h2 : chAt kC1 (hdName hd2) = none := by simp [chAt, kC1, kC0, chNew, nm_ne13, nm_ne23]
  have h3 : chAt kC1 hd2.parent = some 1 := by
    have := nm_ne12
    simp [chAt, kC1, kC0, chNew, hd2, List.findIdx?_cons, this]
  unfold chCheck
  rw [if_pos h1, h2, h3]
  rfl
theorem kadd2 : chAdd kC1 hd2 = kC2 := by
  have h3 : chAt kC1 hd2.parent = some 1 := by
    have := nm_ne12
    simp [chAt, kC1, kC0, chNew, hd2, List.findIdx?_cons, this]
  unfold chAdd
  rw [kchk2, if_pos rfl, h3]
  rfl
theorem kat2 : chAt kC2 (hdName hd2) = some 2 := by
  have h1 := nm_ne13
  have h2 := nm_ne23
  simp [chAt, kC2, kC1, kC0, chNew, List.findIdx?_cons, h1, h2]
theorem kok0 : ChnOk kC0 := chNew_ok _
theorem kok1 : ChnOk kC1 := kadd1 ▸ chAdd_ok kok0 hd1
theorem kok2 : ChnOk kC2 := kadd2 ▸ chAdd_ok kok1 hd2
theorem kpth : pth kC2 2 = [2, 1, 0] := by
  have e1 : parAt kC2 2 = some 1 := rfl
  have e2 : parAt kC2 1 = some 0 := rfl
  have e3 : parAt kC2 0 = none := rfl
  rw [pth_par kok2 e1, pth_par kok2 e2, pth_root e3]
theorem kbk : bk kC2 8 2 = 1 := by
  have e1 : parAt kC2 2 = some 1 := rfl
  rw [bk_par kok2 e1 (by decide), bk_le (by decide)]
end Go.Proofs.Ythdjhbiigmcecaa

/- (*Chain).Path: the checkpoints from the anchor on. -/
namespace Go.Proofs.Ythdjhbiigmcecaa
open Go.RowKit

abbrev PtsR (w : World) (s : Sl) (l : List Pt) : Prop := SlR 33 (fun cs p => cs = pointA p) w s l
theorem PtsR.keep' {w w' : World} {s : Sl} {l : List Pt} (h : PtsR w s l) (hb : Below w.heap.size w w') : PtsR w' s l := SlR.keep h hb fun _ _ h => h
abbrev OwnPt (w : World) (E : Nat) (v : Value) (l : List Pt) : Prop := OwnC w E 33 v l.length (flatC pointA l)
theorem ptA_size (p : Pt) : (pointA p).size = 33 := by simp
theorem ptA_one (x : Pt) : ∀ u ∈ (pointA x).toList, u.oneCell' = true := by
  have h := onePoint x
  intro u hu
  rw [Array.all_eq_true_iff_forall_mem] at h
  exact h u (Array.mem_toList_iff.1 hu)
theorem info_ptl : (Try.prog.info? 26).map (fun i => (i.zero, i.size, i.bytes)) = some (some (.agg (pointA zeroPt)), 33, 40) := by kernel_rfl
def bsPt (parts : Array (Nat × Value)) : Sem Value := Instr.buildSlice 89 1 parts
theorem fold_bsPt (parts : Array (Nat × Value)) : Instr.buildSlice 89 1 parts = bsPt parts := rfl
theorem bsPt_one (p : Pt) (w : World) : (bsPt #[(0, .agg (pointA p))]).run Try.prog w = .ok (.slice (some ⟨w.heap.size, 0, none⟩) 1 1) (w.alloc (.cells (pointA p) 26)) := by
  obtain ⟨i0, hi, hy0, hy1, hy2⟩ := info_parts info_ptl
  exact run_buildSlice_one (P := Try.prog) w (t := 89) (e := 26) (xs := pointA p) Try.underlying89 hi hy0 hy1 (by simp [Value.cells]) (by omega) (by omega) (by simp)
def appPt (args : Array Value) : Sem Value := Builtin.append_ #[89, 89] 89 args
theorem fold_appPt (args : Array Value) : Builtin.append_ #[89, 89] 89 args = appPt args := rfl
/-- one more, made on the spot -/
theorem run_appPt {W : World} {B : Nat} {s : Sl} {l : List Pt} (h : OwnPt W B s.v l) (hB : B ≤ W.heap.size) (hl : l.length ≤ 1000000) (x : Pt) : ∃ (s' : Sl) (W' : World), (appPt #[s.v, .slice (some ⟨W.heap.size, 0, none⟩) 1 1]).run Try.prog (W.alloc (.cells (pointA x) 26)) = .ok s'.v W' ∧ OwnPt W' B s'.v (l ++ [x]) ∧
    Below B W W' := by
  obtain ⟨i0, hi, hy0, hy1, hy2⟩ := info_parts info_ptl
  obtain ⟨s', W', h1, h2, h3, -⟩ := run_append_one pointA ptA_size (P := Try.prog) (W.alloc (.cells (pointA x) 26)) 89 ptA_one B 26 i0 _ 40 Try.underlying89 hi hy0 hy1 hy2 (by simp [Value.cells]) s.v l (h.keep (bel_a _ _)) W.heap.size 1 x (heap_alloc_new W _) hl (by omega) (by simp; omega)
  exact ⟨s', W', h1, h2, bel_grown h3 ((bel_a W _).mono hB) (by simp; omega) fun k hk => (OwnC.lt h k hk).1⟩
theorem OwnPt.one (W : World) {B : Nat} (hB : B ≤ W.heap.size) (x : Pt) : OwnPt (W.alloc (.cells (pointA x) 26)) B (⟨some ⟨W.heap.size, 0, none⟩, 1, 1⟩ : Sl).v [x] := by
  refine ⟨by simp [flatC], .inr ⟨W.heap.size, 1, rfl, hB, by simp, Nat.le_refl _, by simp [maxLen], fun k hk => ?_, fun k _ => frozen_of_row _ _ _ _ _ (heap_alloc_new W _), fun k u hu => ?_⟩⟩
  · have hk' : k < (pointA x).size := by simp; omega
    rw [cell_of_row _ _ _ _ _ _ (heap_alloc_new W _), Array.getElem?_eq_getElem hk']
    rfl
  · rw [cell_of_row _ _ _ _ _ _ (heap_alloc_new W _)]
    rw [flatC_one] at hu
    simpa using hu
/-! slices.Reverse -/
def encPt (p : Pt) : List Value := (pointA p).toList
instance : Inhabited Pt := ⟨zeroPt⟩
theorem encPt_length (p : Pt) : (encPt p).length = 33 := by simp [encPt]
theorem flatPt_get (d : List Pt) (t : Nat) (h : t < d.length * 33) : (Go.Sort.flatK encPt 33 d.toArray)[t]? = (flatC pointA d)[t]? := by
  have h1 : t / 33 < d.length := by omega
  have h2 := flatC_get pointA ptA_size d (t / 33) (t % 33) h1 (by omega)
  rw [show t / 33 * 33 + t % 33 = t by omega] at h2
  rw [h2]
  have hs : t < (Go.Sort.flatK encPt 33 d.toArray).size := by simpa using h
  have h3 := Go.Sort.get_flatK encPt 33 d.toArray t (by simpa using h)
  have h5 : t % 33 < (pointA d[t / 33]).size := by simp; omega
  rw [Array.getElem!_eq_getD, Array.getD_eq_getD_getElem?, Array.getElem?_eq_getElem hs, Option.getD_some] at h3
  rw [Array.getElem?_eq_getElem hs, h3, Array.getElem?_eq_getElem h5]
  simp [encPt, h1]
  rw [Array.getElem?_eq_getElem h5, Option.getD_some]
theorem holds_pts {w : World} {B g n c : Nat} {d : List Pt} (h : OwnC w B 33 (.slice (some ⟨g, 0, none⟩) n c) d.length (flatC pointA d)) : Go.Sort.HoldsK encPt 33 w g 0 d.toArray := by
  rcases h.2 with ⟨e, _⟩ | ⟨g', cap, e, h1, h2, h3, h4, h5, h6, h7⟩
  · cases e
  · cases e
    intro t ht
    have ht' : t < d.length * 33 := by simpa using ht
    have hc : t < c * 33 := by omega
    rw [Nat.zero_add]
    refine ⟨h7 t _ ?_, h6 t hc⟩
    rw [← flatPt_get d t ht', Array.getElem!_eq_getD, Array.getD_eq_getD_getElem?, Array.getElem?_eq_getElem ht]
    rfl
theorem pts_of_holds {w : World} {g n c : Nat} {d : List Pt} (hn : n = d.length) (hc : n ≤ c) (h : Go.Sort.HoldsK encPt 33 w g 0 d.toArray) : PtsR w ⟨some ⟨g, 0, none⟩, n, c⟩ d := by
  refine ⟨hn, hc, fun _ => ⟨g, 0, rfl, fun i hi => ⟨_, row?_of_cells (by simp) (by decide) fun j hj => ?_, rfl⟩⟩⟩
  simp at hj
  have := (h.cell (i := i) (c := j) (by simpa using hi) hj).1
  rw [show 0 + i * 33 + j = 0 + i * 33 + j from rfl] at this
  rw [this]
  have hj' : j < (pointA d[i]).size := by simp; omega
  simp [encPt, hi]
  rw [Array.getElem?_eq_getElem hj', Option.getD_some]
theorem grownBy_putK {w : World} {g n : Nat} (d : Array Pt) : w.grownBy (Go.Sort.putRowK encPt 33 (Go.Sort.ahead w n) g 0 d) (some g) := by
  unfold Go.Sort.putRowK
  refine ⟨rfl, rfl, rfl, by simp [Go.Sort.putRow, Go.Sort.mapBlock, Go.Sort.ahead], fun k hk hne => ?_⟩
  have : g ≠ k := fun e => hne (by rw [e])
  simp [Go.Sort.putRow, Go.Sort.mapBlock, Go.Sort.ahead, Array.getElem?_modify, this]
theorem reverse_c {w : World} {B g n c : Nat} {d : List Pt} (h : OwnC w B 33 (.slice (some ⟨g, 0, none⟩) n c) d.length (flatC pointA d)) (hl : d.length ≤ 100000) :
    Calls Try.prog 126 #[.slice (some ⟨g, 0, none⟩) n c] w fun e w' => e = .returned (.tuple #[]) ∧ PtsR w' ⟨some ⟨g, 0, none⟩, n, c⟩ d.reverse ∧ w.grownBy w' (some g) := by
  have hH := holds_pts h
  obtain ⟨rfl, hcap, hg⟩ : n = d.length ∧ n ≤ c ∧ g < w.heap.size := by
    rcases h.2 with ⟨e, _⟩ | ⟨g', cap, e, h1, h2, h3, _⟩
    · cases e
    · cases e; exact ⟨rfl, h3, h2⟩
  have hc := Try.slices_Reverse 33 Try.isAgg26 Try.sizeOf26 encPt encPt_length ptA_one g 0 c d.toArray w hH (by simp; omega)
  rw [List.size_toArray] at hc
  refine hc.mono ?_
  rintro e w' ⟨rfl, n, rfl⟩
  refine ⟨rfl, ?_, grownBy_putK _⟩
  have h2 : Go.Sort.HoldsK encPt 33 (Go.Sort.putRowK encPt 33 (Go.Sort.ahead w n) g 0 d.toArray.reverse) g 0 d.toArray.reverse := by
    exact Go.Sort.holdsK_putRowK encPt 33 _ g 0 d.toArray d.toArray.reverse (Go.Sort.holdsK_ahead encPt 33 w n g 0 _ hH) (by simp)
  rw [List.reverse_toArray] at h2 ⊢
  exact pts_of_holds (by simp) hcap h2
def ptAt (C : List Blk) (j : Nat) : Pt := ((C[j]?).map (·.p)).getD zeroPt
theorem ptAt_of {C : List Blk} {j : Nat} {b : Blk} (h : C[j]? = some b) : ptAt C j = b.p := by simp [ptAt, h]
theorem ups_pos {C : List Blk} (hok : ChnOk C) {j : Nat} (hj : j < C.length) : ((ups C).getD j [])[0]? = parAt C j := by
  have h : j < (ups C).length := by rw [ups_length]; exact hj
  have h2 : (ups C)[j]? = some ((ups C).getD j []) := by
    rw [List.getD_eq_getElem?_getD, List.getElem?_eq_getElem h]
    rfl
  exact ups_zero hok h2
theorem ups_nil {C : List Blk} (hok : ChnOk C) {j : Nat} (hj : j < C.length) : ((ups C).getD j []).length = 0 ↔ parAt C j = none := by
  have h := ups_pos hok hj
  rw [← h]
  cases (ups C).getD j [] <;> simp
theorem OwnPt.block {w : World} {B : Nat} {s : Sl} {l : List Pt} (h : OwnPt w B s.v l) (hl : l ≠ []) : ∃ g, s.a = some ⟨g, 0, none⟩ ∧ B ≤ g := by
  rcases h.2 with ⟨_, hn⟩ | ⟨g, cap, e, h1, _⟩
  · exact absurd (List.eq_nil_of_length_eq_zero hn) hl
  · have := congrArg (fun v => match v with | .slice a _ _ => a | _ => none) e
    exact ⟨g, this, h1⟩
attribute [local go_sem ↓] fold_bsPt fold_appPt
set_option maxRecDepth 100000 in
set_option maxHeartbeats 1600000 in
theorem chpath_some {W : World} {cb ab ac mb : Nat} {G : List GB} {C : List Blk} (h : ChV W cb ab ac mb G C) (hok : ChnOk C) {n : Hash} {i : Nat} (hi : chAt C n = some i) :
    Calls Try.prog 54 #[ptrV cb, .agg (hashA n)] W fun e w' => ∃ s : Sl, e = .returned (.tuple #[s.v, .int .i64 0]) ∧ PtsR w' s ((pth C i).reverse.map (ptAt C)) ∧ Below W.heap.size W w' := by
  have hil := chAt_lt hi
  have hclen := hok.len
  have hO := Lib.hid hok
  obtain ⟨b, hb⟩ : ∃ b, C[i]? = some b := ⟨_, List.getElem?_eq_getElem hil⟩
  have hB0 : Below W.heap.size W (W.alloc (.cells (hashA n) 24)) := bel_a _ _
  have hz0 : (W.alloc (.cells (hashA n) 24)).heap.size = W.heap.size + 1 := by simp
  have hrow0 : row? (W.alloc (.cells (hashA n) 24)) W.heap.size 0 32 = some (hashA n) := by rw [row?_new]; simp
  have h0 := h.keep hB0
  obtain ⟨x, hx⟩ := h.box hb
  have HT := chfind_some h0 hi hx
  have hI := Lib.hid h
  clear h hok
  unfold ptrV at HT ⊢
  go_enter Try.func54, Try.ntmps54
  go_upto_region 1 with fail
  generalize W.alloc (.cells (hashA n) 24) = w0 at *
  go_wp2_with fail
  refine HT.mono ?_
  clear HT
  rintro e w1 ⟨rfl, hb1⟩
  have hz1 := hb1.size
  have hB1 := hB0.trans (hb1.mono (by omega))
  have h1 := Lib.hid (h0.keep hb1)
  obtain ⟨-, -, -, rp, -, -⟩ := h1.out.cells hx hb
  have hbs := bsPt_one b.p w1
  have hone := Lib.hid (OwnPt.one w1 hB1.size b.p)
  have h2 := Lib.hid (h1.out.keep (bel_a w1 (.cells (pointA b.p) 26)))
  have hB2 := Lib.hid (hB1.trans ((bel_a w1 (.cells (pointA b.p) 26)).mono hB1.size))
  have hpb := ptAt_of hb
  have hx0 := Lib.hid hx
  clear h0 h1 hb1 hB0 hB1 hrow0
  go_wp2_with fail
  generalize w1.alloc (.cells (pointA b.p) 26) = w2 at *
  go_loopw [6, 8] (fun q u w' => ∃ (j : Nat) (y : GB) (s : Sl) (l : List Nat), q = .pointer (some ⟨y.b, 0, none⟩) ∧ u = s.v ∧ Hid (G[j]? = some y) ∧ Hid (j < C.length) ∧ Hid (pth C i = l ++ pthO C (parAt C j)) ∧ Hid (OwnPt w' W.heap.size s.v (l.map (ptAt C))) ∧ Hid (l.length + j ≤ i + 1 ∧ 0 < l.length) ∧ Hid (ChV w' cb ab ac mb G C) ∧ Hid (Below W.heap.size W w')) (fun _ u _ => 5000 - slLen u)
  case atStart =>
    refine ⟨i, x, ⟨some ⟨w1.heap.size, 0, none⟩, 1, 1⟩, [i], rfl, rfl, hx0, Lib.hid hil, Lib.hid (pth_step hO.out i), Lib.hid ?_, Lib.hid (by simp; omega), h2, hB2⟩
    simpa [hpb] using hone.out
  case round =>
    obtain ⟨j, y, s, l, rfl, rfl, hy, hjl, hp, ho, hl, hV, hB⟩ := hrel
    obtain ⟨bj, hbj⟩ : ∃ b, C[j]? = some b := ⟨_, List.getElem?_eq_getElem hjl.out⟩
    obtain ⟨-, xu, -, -, -, -⟩ := hV.out.cells hy.out hbj
    have hU := hV.out.up j y bj hy.out hbj
    have hu0 := ups_pos hO.out hjl.out
    have hun := ups_nil hO.out hjl.out
    obtain ⟨u, hu⟩ : ∃ u, u = (ups C).getD j [] := ⟨_, rfl⟩
    rw [← hu] at hU hu0 hun
    have hsn : s.n = l.length := by
      have := (rows_of_own pointA ptA_size (by omega) ho.out).1
      rw [List.length_map] at this
      exact this
    have hn := hU.1
    obtain ⟨yb, yg, ⟨ua, un, uc⟩, yc⟩ := y
    simp only at hn xu
    subst hn
    dsimp only [Sl.v] at xu
    clear hu
    cases hpar : parAt C j with
    | none =>
      have hul : u.length = 0 := hun.2 hpar
      rw [hul] at xu
      have hp2 : pth C i = l := by rw [hp.out, hpar]; simp [pthO]
      have hne : l.map (ptAt C) ≠ [] := by
        have hl2 := hl.out.2
        intro e
        have hl3 := congrArg List.length e
        rw [List.length_map, List.length_nil] at hl3
        omega
      obtain ⟨g, hsa, hgW⟩ := OwnPt.block ho.out hne
      obtain ⟨sa, sn, sc⟩ := s
      simp only at hsa hsn
      subst hsa hsn
      have HR := reverse_c (show OwnC wr W.heap.size 33 (.slice (some ⟨g, 0, none⟩) l.length sc) (l.map (ptAt C)).length (flatC pointA (l.map (ptAt C))) from ho.out) (by rw [List.length_map]; have := hl.out.1; omega)
      have hBr := Lib.hid hB
      have hpl := Lib.hid hp2
      clear hp ho hV hU hu0 hun hbj hp2 hpar hul
      dsimp only [Sl.v]
      go_wp2_with fail
      (with_reducible refine HR.mono ?_)
      clear HR
      rintro e w3 ⟨rfl, hr3, hg3⟩
      have hB3 := Lib.hid (hBr.out.grown hg3 hBr.out.size fun k hk => by cases hk; exact hgW)
      rw [← List.map_reverse] at hr3
      replace hr3 := Lib.hid hr3
      clear hg3
      go_wp2_with fail
      go_ret2
      exact ⟨⟨some ⟨g, 0, none⟩, l.length, sc⟩, rfl, by rw [hpl.out]; exact hr3.out, hB3.out⟩
    | some q =>
      have hqj := (parAt_some hO.out hpar).1
      rw [hpar] at hu0
      have hul : u.length ≠ 0 := fun e => by rw [hun.1 e] at hpar; cases hpar
      obtain ⟨bu, ou, e1, hbu, hcu⟩ := ints_at hU (by omega)
      have e2 := congrArg Sl.a e1
      simp only at e2
      subst e2
      clear e1
      have hcq := hcu 0 (by omega)
      clear hcu
      have hq0 : u[0]'(by omega) = q := by
        have := hu0
        rw [List.getElem?_eq_getElem (by omega)] at this
        injection this
      rw [hq0] at hcq
      have hql : q < C.length := by have := hjl.out; omega
      obtain ⟨bq, hbq⟩ : ∃ b, C[q]? = some b := ⟨_, List.getElem?_eq_getElem hql⟩
      obtain ⟨yq, hyq⟩ := hV.out.box hbq
      obtain ⟨-, -, -, rpq, -, -⟩ := hV.out.cells hyq hbq
      have c0 := hV.out.c0
      have ca := hV.out.arr q yq hyq
      unfold ptrV at ca
      have hpq := ptAt_of hbq
      have hstep := Lib.hid (show pth C i = (l ++ [q]) ++ pthO C (parAt C q) by
        rw [hp.out, hpar]
        simp only [pthO]
        rw [pth_step hO.out q, List.append_assoc]
        rfl)
      have hyq' := Lib.hid hyq
      have hql' := Lib.hid hql
      have hl2 := Lib.hid (show (l ++ [q]).length + q ≤ i + 1 ∧ 0 < (l ++ [q]).length by
        have := hl.out
        simp
        omega)
      have hbs := fun k => bsPt_one bq.p (wr.drewN k)
      have hap := fun k => run_appPt (W := wr.drewN k) (s := s) (l := l.map (ptAt C)) (B := W.heap.size) (OwnC.keep ho.out (below_drewN (Below.refl _ _) k)) hB.out.size (by rw [List.length_map]; have := hl.out.1; omega) bq.p
      have r0 := fun k => (show (wr.drewN k).cell? ⟨cb, 0, none⟩ = _ from c0)
      have r1 := fun k => (show (wr.drewN k).cell? ⟨ab, q, none⟩ = _ from ca)
      have r2 := fun k => (show (wr.drewN k).cell? ⟨yb, 67, none⟩ = _ from xu)
      have r3 := fun k => (show (wr.drewN k).cell? ⟨bu, ou, none⟩ = _ from hcq)
      have r4 := fun k => (show row? (wr.drewN k) yq.b 0 33 = _ from rpq)
      have u0 : (0 : Int) < (u.length : Int) := by omega
      have q0 : (0 : Int) ≤ (q : Int) := by omega
      have q1 : (q : Int) < (C.length : Int) := by omega
      have hlm := Lib.hid (show l.length ≤ 4097 by have := hl.out; omega)
      have hsn' := Lib.hid hsn
      clear hp hU hu0 hun hbj hpar hq0 hbu hyq hql hbq hsn
      go_upto_region 6 with fail
      go_quiet (fail)
      obtain ⟨s2, w5, hrun, ho2, hB5⟩ := hap nq
      have hbs1 := hbs nq
      have r41 := r4 nq
      have hB6 := Lib.hid (show Below W.heap.size W w5 from (below_drewN hB.out nq).trans hB5)
      have hV5 := Lib.hid (hI.out.keep hB6.out)
      have hs2n := Lib.hid (show s2.n = l.length + 1 by
        have := (rows_of_own pointA ptA_size (by omega) ho2).1
        simpa using this)
      clear hap hbs r0 r1 r2 r3 r4
      generalize wr.drewN nq = w4 at *
      go_wp2_with fail
      go_roundw
      case rel => exact ⟨q, yq, s2, l ++ [q], rfl, rfl, hyq', hql', hstep, Lib.hid (by rw [List.map_append]; simpa [hpq] using ho2), hl2, hV5, hB6⟩
      case measure =>
        have h1 := hsn'.out
        have h2 := hlm.out
        have h3 := hs2n.out
        simp only [slLen, Sl.v]
        omega
end Go.Proofs.Ythdjhbiigmcecaa

/- Contract: landmarklaw10.known. -/
namespace Go.Proofs.Ythdjhbiigmcecaa
open Go.RowKit

theorem ChR.at_c {B : Nat} {T : Nat → Nat} {W : World} {cb : Nat} {C : List Blk} (h : ChR B T W cb C) (hok : ChnOk C) (n : Hash) (e : UInt64) :
    Calls Try.prog 48 #[ptrV cb, .agg (hashA n), .int .u64 (e.toNat : Int)] W fun r w' => r = .returned (.tuple #[.agg (pointA (chAtE C n e).1), .int .i64 (chAtE C n e).2]) ∧ Below W.heap.size W w' := by
  obtain ⟨sA, mb, G, hM⟩ := h
  obtain ⟨ab, -, -, hv⟩ := hM.view hok.pos
  exact chat_c hv hok n e
theorem ChR.path_c {B : Nat} {T : Nat → Nat} {W : World} {cb : Nat} {C : List Blk} (h : ChR B T W cb C) (hok : ChnOk C) {n : Hash} {i : Nat} (hi : chAt C n = some i) :
    Calls Try.prog 54 #[ptrV cb, .agg (hashA n)] W fun e w' => ∃ s : Sl, e = .returned (.tuple #[s.v, .int .i64 0]) ∧ PtsR w' s ((pth C i).reverse.map (ptAt C)) ∧ Below W.heap.size W w' := by
  obtain ⟨sA, mb, G, hM⟩ := h
  obtain ⟨ab, -, -, hv⟩ := hM.view hok.pos
  exact chpath_some hv hok hi
def bldNm (parts : Array (Nat × Value)) : Sem Value := Instr.build 24 parts
theorem fold_bldNm (parts : Array (Nat × Value)) : Instr.build 24 parts = bldNm parts := rfl
theorem nm_lit1 : (hashA zeroHash).setIfInBounds 0 (.int .u8 1) = hashA nm1H := by
  unfold hashA nm1H zeroHash
  rfl
theorem run_bldNm (W : World) : (bldNm #[(0, .int .u8 1)]).run Try.prog W = .ok (.agg (hashA nm1H)) W := by
  unfold bldNm
  go_simp
  first | (rw [nm_lit1, if_neg (fun h => by have := congrArg Array.size h; simp at this)]; simp) | (rw [zero_hash, nm_lit1]) | (rw [nm_lit1])
def bldPt (parts : Array (Nat × Value)) : Sem Value := Instr.build 26 parts
theorem fold_bldPt (parts : Array (Nat × Value)) : Instr.build 26 parts = bldPt parts := rfl
theorem run_bldPt (n : Hash) (W : World) : (bldPt #[(0, .int .u64 5), (1, .agg (hashA n))]).run Try.prog W = .ok (.agg (pointA ⟨5, n⟩)) W := by
  unfold bldPt
  go_simp
  rw [if_neg (fun h => by have := congrArg Array.size h; simp at this)]
  have h := pointA_set_epoch zeroPt 5
  rw [show (.int .u64 ((5 : UInt64).toNat : Int) : Value) = .int .u64 5 from rfl] at h
  rw [h, splice_point_name]
  rfl
theorem hdr_set_ep10 (g : GHeader) (e : UInt64) : (headerA g).setIfInBounds 32 (.int .u64 (e.toNat : Int)) = headerA { g with epoch := e } := by
  unfold headerA
  rw [Array.setIfInBounds_append_right (by simp)]
  simp
def bldHd (parts : Array (Nat × Value)) : Sem Value := Instr.build 49 parts
theorem fold_bldHd (parts : Array (Nat × Value)) : Instr.build 49 parts = bldHd parts := rfl
theorem run_bldHd (n : Hash) (e : UInt64) (W : World) : (bldHd #[(0, .agg (hashA n)), (1, .int .u64 (e.toNat : Int))]).run Try.prog W = .ok (.agg (headerA ⟨n, e, ⟨none, 0, 0⟩⟩)) W := by
  unfold bldHd
  go_simp
  rw [fold0_splice _ _ 32 (by simp) (by simp), splice_header_parent, if_neg (by simp), hdr_set_ep10]
  rfl
theorem bare_r (W : World) (n : Hash) (e : UInt64) : HdrR W ⟨n, e, ⟨none, 0, 0⟩⟩ ⟨n, e, []⟩ := ⟨rfl, rfl, rfl, Nat.le_refl _, fun h => absurd rfl h⟩
theorem bare_fits (n : Hash) (e : UInt64) : HdrFits ⟨n, e, []⟩ := ⟨Nat.zero_le _, fun o ho => by cases ho⟩
theorem MutS.ge {B : Nat} {T : Nat → Nat} {W W' : World} {cb : Nat} {C : List Blk} (h : ChR B T W cb C) (ha : Asd (MutS T) W W') {E : Nat} (hE : E ≤ B) (hW : E ≤ W.heap.size) : Below E W W' :=
  ha.below hW fun k hk hm => Nat.le_trans hE (h.tB k hk hm.1)
theorem chAtE_of {C : List Blk} {n : Hash} {i : Nat} {e : UInt64} {b : Blk} {k : Nat} (h : chAt C n = some i) (h0 : ¬ e.toNat < epAt C 0) (hk : bk C e.toNat i = k) (hb : C[k]? = some b) : chAtE C n e = (b.p, 0) := by
  unfold chAtE
  rw [h]
  simp only [if_neg h0]
  rw [hk, hb]
  rfl
theorem kC2_0 : kC2[0]? = some ⟨⟨5, nm1H⟩, zeroHdr, none⟩ := by simp [kC2, kC1, kC0, chNew]
theorem kC2_1 : kC2[1]? = some ⟨⟨7, hdName hd1⟩, hd1, some 0⟩ := by simp [kC2, kC1, kC0, chNew]
theorem kC2_2 : kC2[2]? = some ⟨⟨9, hdName hd2⟩, hd2, some 1⟩ := by simp [kC2, kC1, kC0, chNew]
theorem kpts : ([2, 1, 0] : List Nat).reverse.map (ptAt kC2) = [⟨5, nm1H⟩, ⟨7, hdName hd1⟩, ⟨9, hdName hd2⟩] := by
  simp only [List.reverse_cons, List.reverse_nil, List.nil_append, List.cons_append, List.map_cons, List.map_nil]
  rw [ptAt_of kC2_0, ptAt_of kC2_1, ptAt_of kC2_2]
theorem kate0 : ¬ (8 : UInt64).toNat < epAt kC2 0 := by
  rw [epAt_of kC2_0]
  decide
theorem kate1 : bk kC2 (8 : UInt64).toNat 2 = 1 := by
  rw [show (8 : UInt64).toNat = 8 from rfl]
  exact kbk
theorem kate : chAtE kC2 (hdName hd2) 8 = (⟨7, hdName hd1⟩, 0) := chAtE_of kat2 kate0 kate1 kC2_1
theorem known10_facts : ∃ (n1 n2 : Hash) (h1 h2 : Hdr) (C0 C1 C2 : List Blk), C0 = chNew ⟨5, nm1H⟩ ∧ h1 = ⟨nm1H, 7, []⟩ ∧ h2 = ⟨n1, 9, []⟩ ∧ ChnOk C0 ∧ ChnOk C1 ∧ ChnOk C2 ∧ chCheck C0 h1 = (⟨7, n1⟩, 0) ∧ chAdd C0 h1 = C1 ∧ chCheck C1 h2 = (⟨9, n2⟩, 0) ∧ chAdd C1 h2 = C2 ∧
    chAtE C2 n2 8 = (⟨7, n1⟩, 0) ∧ chAt C2 n2 = some 2 ∧ (pth C2 2).reverse.map (ptAt C2) = [⟨5, nm1H⟩, ⟨7, n1⟩, ⟨9, n2⟩] :=
  ⟨hdName hd1, hdName hd2, hd1, hd2, kC0, kC1, kC2, rfl, rfl, rfl, kok0, kok1, kok2, kchk1, kadd1, kchk2, kadd2, kate, kat2, by rw [kpth]; exact kpts⟩
attribute [local go_sem ↓] fold_bldNm fold_bldPt fold_bldHd
set_option maxRecDepth 100000 in
set_option maxHeartbeats 1600000 in
theorem known10_c (w : World) : Calls Try.prog 31 #[] w fun e w' => e = .returned (.bool true) ∧ Below w.heap.size w w' := by
  obtain ⟨n1, n2, hd1, hd2, C0, C1, C2, hC0e, hh1e, hh2e, kok0, kok1, kok2, kchk1, kadd1, kchk2, kadd2, kate, kat2, kpts⟩ := known10_facts
  have hn1 := run_bldNm
  generalize nm1H = n0 at *
  have hp1 := run_bldPt n0
  have hh1 : ∀ W, (bldHd #[(0, .agg (hashA n0)), (1, .int .u64 7)]).run Try.prog W = .ok (.agg (headerA ⟨n0, 7, ⟨none, 0, 0⟩⟩)) W := run_bldHd n0 7
  have hh2 : ∀ W, (bldHd #[(0, .agg (hashA (n1))), (1, .int .u64 9)]).run Try.prog W = .ok (.agg (headerA ⟨n1, 9, ⟨none, 0, 0⟩⟩)) W := run_bldHd (n1) 9
  have HN := chnew_c ⟨5, n0⟩ w (by show (5 : UInt64).toNat ≤ _; decide)
  replace hC0e := Lib.hid hC0e
  replace hh1e := Lib.hid hh1e
  replace hh2e := Lib.hid hh2e
  replace kok0 := Lib.hid kok0
  replace kok1 := Lib.hid kok1
  replace kok2 := Lib.hid kok2
  replace kchk1 := Lib.hid kchk1
  replace kchk2 := Lib.hid kchk2
  replace kadd1 := Lib.hid kadd1
  replace kadd2 := Lib.hid kadd2
  replace kate := Lib.hid kate
  replace kat2 := Lib.hid kat2
  replace kpts := Lib.hid kpts
  go_enter Try.func31, Try.ntmps31
  go_wp2_with fail
  (with_reducible refine HN.mono ?_)
  clear HN
  rintro e w1 ⟨cb, rfl, hcb, ⟨T0, hC0⟩, hb1⟩
  have HA := chadd_c (show ChR w.heap.size T0 w1 cb C0 by rw [hC0e.out]; exact hC0) kok0.out (g := ⟨n0, 7, ⟨none, 0, 0⟩⟩) (h := hd1) (by rw [hh1e.out]; exact bare_r _ _ _) (by rw [hh1e.out]; exact bare_fits _ _)
  rw [kchk1.out, kadd1.out] at HA
  have hz1 := hb1.size
  go_wp2_with fail
  (with_reducible refine HA.mono ?_)
  clear HA
  rintro e w2 ⟨rfl, ⟨T1, hC1a, -⟩, hA1⟩
  have hC1 := hC1a.retag (T' := fun k => if k < w2.heap.size then T1 k else 0) fun k hk => if_pos hk
  clear hC1a
  have hb2 := hb1.trans (MutS.ge hC0 hA1 (Nat.le_refl _) hz1)
  have hz2 := hb2.size
  clear hC0 hA1 hb1
  go_upto_region 5 with fail
  obtain ⟨w3, hw3, hrow3, -, hB3, hz3⟩ := box_row w2 (pointA zeroPt) (pointA ⟨7, n1⟩) 26 33 (by omega) (by simp) (by simp)
  rw [← hw3]
  clear hw3
  have hC3 := hC1.keep hB3
  obtain ⟨b3, hb3⟩ : ∃ b, b = w2.heap.size := ⟨_, rfl⟩
  rw [← hb3] at hrow3 ⊢
  have hBw3 := hb2.trans (hB3.mono hz2)
  have hrn3 := row_part hrow3 1 32 (by omega)
  have en3 : (pointA ⟨7, n1⟩).extract 1 33 = hashA (n1) := by simp
  rw [en3, Nat.zero_add] at hrn3
  have HA := chadd_c hC3 kok1.out (g := ⟨n1, 9, ⟨none, 0, 0⟩⟩) (h := hd2) (by rw [hh2e.out]; exact bare_r _ _ _) (by rw [hh2e.out]; exact bare_fits _ _)
  rw [kchk2.out, kadd2.out] at HA
  replace hb3 := Lib.hid hb3
  clear hC1 hB3 en3
  go_wp2_with fail
  (with_reducible refine HA.mono ?_)
  clear HA
  rintro e w4 ⟨rfl, ⟨T2, hC4, -⟩, hA4⟩
  have hB4 := MutS.ge hC3 hA4 (Nat.le_refl _) (by omega)
  have hBw4 := hBw3.trans hB4
  have hm3 : ¬ MutS (fun k => if k < w2.heap.size then T1 k else 0) b3 := fun q => q.1 (if_neg (by have := hb3.out; omega))
  have hrow34 := hA4.row hm3 hrow3
  have hz4 := hA4.size
  clear hA4 hC3 hrow3 hrn3
  go_upto_region 6 with fail
  obtain ⟨w5, hw5, hrow5, -, hB5, hz5⟩ := box_row w4 (pointA zeroPt) (pointA ⟨9, n2⟩) 26 33 (by omega) (by simp) (by simp)
  rw [← hw5]
  clear hw5
  have hC5 := hC4.keep hB5
  obtain ⟨b5, hb5⟩ : ∃ b, b = w4.heap.size := ⟨_, rfl⟩
  rw [← hb5] at hrow5 ⊢
  have hBw5 := hBw4.trans (hB5.mono (by omega))
  have hrn5 := row_part hrow5 1 32 (by omega)
  have en5 : (pointA ⟨9, n2⟩).extract 1 33 = hashA (n2) := by simp
  rw [en5, Nat.zero_add] at hrn5
  have hrow35 := (row?_below _ _ _ hB5 (by have := hb3.out; omega)).trans hrow34
  have HT := hC5.at_c kok2.out (n2) 8
  rw [show (((8 : UInt64).toNat : Int)) = 8 from rfl, kate.out] at HT
  replace hb5 := Lib.hid hb5
  clear hC4 hB5 en5 hrow34
  go_wp2_with fail
  (with_reducible refine HT.mono ?_)
  clear HT
  rintro e w6 ⟨rfl, hB6⟩
  have hC6 := hC5.keep hB6
  have hBw6 := hBw5.trans (hB6.mono (by omega))
  have hz6 := hB6.size
  have hrow36 := (row?_below _ _ _ hB6 (by have := hb3.out; omega)).trans hrow35
  have hrow56 := (row?_below _ _ _ hB6 (by have := hb5.out; omega)).trans hrow5
  have hrn56 := (row?_below _ _ _ hB6 (by have := hb5.out; omega)).trans hrn5
  clear hC5 hB6 hrow35 hrow5 hrn5
  go_upto_region 7 with fail
  obtain ⟨w7, hw7, hrow7, -, hB7, hz7⟩ := box_row w6 (pointA zeroPt) (pointA ⟨7, n1⟩) 26 33 (by omega) (by simp) (by simp)
  rw [← hw7]
  clear hw7
  have hC7 := hC6.keep hB7
  obtain ⟨b7, hb7⟩ : ∃ b, b = w6.heap.size := ⟨_, rfl⟩
  rw [← hb7] at hrow7 ⊢
  have hBw7 := hBw6.trans (hB7.mono (by omega))
  have hrow37 := (row?_below _ _ _ hB7 (by have := hb3.out; omega)).trans hrow36
  have hrow57 := (row?_below _ _ _ hB7 (by have := hb5.out; omega)).trans hrow56
  have hrn57 := (row?_below _ _ _ hB7 (by have := hb5.out; omega)).trans hrn56
  have HP := hC7.path_c kok2.out kat2.out
  rw [kpts.out] at HP
  replace hb7 := Lib.hid hb7
  clear hC6 hB7 hrow36 hrow56 hrn56
  go_wp2_with fail
  (with_reducible refine HP.mono ?_)
  clear HP
  rintro e w8 ⟨⟨sa, sn, sc⟩, he, hp8, hB8⟩
  replace he : e = .returned (.tuple #[.slice sa sn sc, .int .i64 0]) := he
  subst he
  obtain rfl : sn = 3 := hp8.1
  have hrow38 := (row?_below _ _ _ hB8 (by have := hb3.out; omega)).trans hrow37
  have hrow58 := (row?_below _ _ _ hB8 (by have := hb5.out; omega)).trans hrow57
  have hrow78 := (row?_below _ _ _ hB8 (by have := hb7.out; omega)).trans hrow7
  have hBw8 := hBw7.trans (hB8.mono (by omega))
  obtain ⟨pb, po, e0, hc⟩ := hp8.2.2 (by simp)
  obtain ⟨c1, r1, rfl⟩ := hc 1 (by simp)
  obtain ⟨c2, r2, rfl⟩ := hc 2 (by simp)
  simp only at e0
  subst e0
  have r1' : row? w8 pb (po + 33) 33 = some (pointA ⟨7, n1⟩) := r1
  have r2' : row? w8 pb (po + 66) 33 = some (pointA ⟨9, n2⟩) := r2
  have x0 := cell_of_row? hrow38 0 (by omega)
  have x1 : w8.cell? ⟨b3, 0, none⟩ = some (.int .u64 7) := by simpa using x0
  have f1 := fun k => show row? (w8.drewN k) pb (po + 33) 33 = _ from r1'
  have f2 := fun k => show row? (w8.drewN k) pb (po + 66) 33 = _ from r2'
  have f3 := fun k => show row? (w8.drewN k) b3 0 33 = _ from hrow38
  have f5 := fun k => show row? (w8.drewN k) b5 0 33 = _ from hrow58
  have f7 := fun k => show row? (w8.drewN k) b7 0 33 = _ from hrow78
  have f8 := fun k => show (w8.drewN k).cell? ⟨b3, 0, none⟩ = _ from x1
  clear r1 r2 r1' r2' x0 x1 hc hp8 hrow38 hrow58 hrow78 hrow37 hrow57 hrow7 hrn57
  go_upto_region 8 with fail
  go_quiet (fail)
  go_wp2_with fail
  go_ret
  exact ⟨rfl, below_drewN hBw8 _⟩
end Go.Proofs.Ythdjhbiigmcecaa

/- What the laws of chain read: the document's rows, paths, what stands at an epoch; helpers of their walks. -/
namespace Go.Proofs.Ythdjhbiigmcecaa
open Go.RowKit

/-- the document's chain, as it is read -/
structure DocV (W : World) (cr rb cap : Nat) (C : List Blk) : Prop where
  c0 : W.cell? ⟨cr, 0, none⟩ = some (.slice (some ⟨rb, 0, none⟩) C.length cap)
  lt : rb < W.heap.size
  row : ∀ i (hi : i < C.length), row? W rb (i * 68) 68 = some (rblkA C[i].p ⟨C[i].h.parent, C[i].h.epoch, ⟨none, 0, 0⟩⟩ none) ∨ ∃ g q, row? W rb (i * 68) 68 = some (rblkA C[i].p g q)
theorem DocV.clt {W : World} {cr rb cap : Nat} {C : List Blk} (h : DocV W cr rb cap C) : cr < W.heap.size := lt_of_cell h.c0
theorem DocV.keep {W W' : World} {cr rb cap : Nat} {C : List Blk} (h : DocV W cr rb cap C) (hb : Below W.heap.size W W') : DocV W' cr rb cap C :=
  ⟨(hb.cell (p := ⟨cr, 0, none⟩) h.clt).trans h.c0, Nat.lt_of_lt_of_le h.lt hb.size, fun i hi => by
    rw [row?_below _ _ _ hb h.lt]
    exact h.row i hi⟩
theorem DocV.at {W : World} {cr rb cap : Nat} {C : List Blk} (h : DocV W cr rb cap C) {i : Nat} (hi : i < C.length) :
    row? W rb (i * 68) 33 = some (pointA C[i].p) ∧ row? W rb (i * 68 + 1) 32 = some (hashA C[i].p.name) ∧ W.cell? ⟨rb, i * 68, none⟩ = some (.int .u64 (C[i].p.epoch.toNat : Int)) := by
  rcases h.row i hi with q | ⟨g, q, hq⟩
  · obtain ⟨h1, h2, h3, -⟩ := rblk_cells q
    exact ⟨h1, h2, h3⟩
  · obtain ⟨h1, h2, h3, -⟩ := rblk_cells hq
    exact ⟨h1, h2, h3⟩
theorem Both.view {w0 B W} {T : Nat → Nat} {cb cr : Nat} {C D : List Blk} (h : Both w0 B T W cb cr C D) : ∃ rb cap, DocV W cr rb cap D := by
  obtain ⟨rb, cap, G, hR, -⟩ := h.doc
  refine ⟨rb, cap, hR.c0, hR.lt, fun i hi => ?_⟩
  obtain ⟨x, -, hrw, -⟩ := hR.at hi
  exact .inr ⟨_, _, hrw⟩
/-- a call, a box, what comes of the call put into the box -/
structure HAt (W0 : World) (p : Pt) (L : List Bool) (V : List Value) (w : World) : Prop where
  bel : Below W0.heap.size W0 w
  box : L.getD 1 false = true → ∃ b, V.getD 1 undef = .pointer (some ⟨b, 0, none⟩) ∧ W0.heap.size ≤ b ∧ b < w.heap.size ∧ there w b 0 33 ∧ (L.getD 2 false = true → row? w b 0 33 = some (pointA p))
section
variable {W0 w w' : World} {p : Pt} {l0 l1 l2 : Bool} {v0 v1 v2 : Value}
theorem HAt.zero (V : List Value) : HAt W0 p [false, false, false] V W0.drew := ⟨(Below.refl _ _).drew, fun q => by cases q⟩
theorem HAt.call (h : HAt W0 p [l0, l1, l2] [v0, v1, v2] w) (hb : Below w.heap.size w w') (v : Value) : HAt W0 p [true, l1, l2] [v, v1, v2] w' := by
  refine ⟨h.bel.trans (hb.mono h.bel.size), fun q => ?_⟩
  obtain ⟨b, h1, h2, h3, h4, h5⟩ := h.box q
  exact ⟨b, h1, h2, Nat.lt_of_lt_of_le h3 hb.size, there_below hb h3 h4, fun r => (row?_below _ _ _ hb h3).trans (h5 r)⟩
theorem HAt.alloc (h : HAt W0 p [l0, l1, l2] [v0, v1, v2] w) (h2 : l2 = false) (t : TypeId) : HAt W0 p [l0, true, l2] [v0, .pointer (some ⟨w.heap.size, 0, none⟩), v2] (w.alloc (.cells (pointA zeroPt) t)) := by
  refine ⟨h.bel.trans ((bel_a _ _).mono h.bel.size), fun _ => ⟨w.heap.size, rfl, h.bel.size, by simp, there_new _ _ _ _ _ (by simp), fun r => ?_⟩⟩
  rw [h2] at r
  cases r
theorem HAt.put (h : HAt W0 p [l0, l1, l2] [v0, v1, v2] w) (h1 : l1 = true) {b : Nat} (e : v1 = .pointer (some ⟨b, 0, none⟩)) : there w b 0 33 ∧ HAt W0 p [l0, l1, true] [v0, v1, undef] (putRow w b 0 (pointA p)) := by
  obtain ⟨b', q1, q2, q3, q4, q5⟩ := h.box h1
  have q1' : v1 = .pointer (some ⟨b', 0, none⟩) := q1
  rw [e] at q1'
  have hb : b = b' := by
    injection q1' with q1'
    injection q1' with q1'
    injection q1'
  subst hb
  refine ⟨q4, below_put h.bel q2 _ _, fun _ => ⟨b, q1, q2, by rw [size_put]; exact q3, by rw [there_put']; exact q4, fun _ => row?_put_same _ _ _ _ _ (by simp) (by omega) q4⟩⟩
end
end Go.Proofs.Ythdjhbiigmcecaa

/- Acts, numbers and hashes among the arguments, opened. -/
namespace Go.Proofs.Ythdjhbiigmcecaa
open Go.ChangeShapes Go.WideShapes Go.ChangeAt Go.RowKit

section
variable {H : Type} {enc : TypeId × Value → H} {w : World} {base : Nat} {spare : Nat → Bool} {held : Bool}
end
end Go.Proofs.Ythdjhbiigmcecaa
