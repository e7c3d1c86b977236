/- Texts of this proof, one behind the other: ShaC, ShaR2, ShaR3, ShaR4, ShaR5. -/
import Derived.Test.YthdjhbiigmcecaaQS
import Derived.Test.YthdjhbiigmcecaaQA
import Derived.Test.YthdjhbiigmcecaaQB
import Derived.Deep.RegionHeld3
import Derived.Deep.CutRange
import Derived.Test.YthdjhbiigmcecaaQT
import Derived.Test.YthdjhbiigmcecaaQC
import Derived.Lib.AppendZerosOnto
set_option linter.unusedVariables false
set_option linter.unusedSimpArgs false
/- The document's constants of SHA-256, plainly: primes, and roots by digits of 16 bits. -/
namespace Go.Proofs.Ythdjhbiigmcecaa

/-! primes -/
def prStep (l : List Nat) (n : Nat) : List Nat := if l.all (fun p => n % p != 0) then l ++ [n] else l
/-- the primes below k + 2 -/
def prTo : Nat → List Nat
  | 0 => []
  | k + 1 => prStep (prTo k) (k + 2)
theorem prStep_len (l : List Nat) (n : Nat) : l.length ≤ (prStep l n).length ∧ (prStep l n).length ≤ l.length + 1 := by
  unfold prStep
  split <;> simp
theorem prTo_mono (k : Nat) : ∀ j, k ≤ j → (prTo k).length ≤ (prTo j).length := by
  intro j hj
  induction j with
  | zero => obtain rfl : k = 0 := by omega
            exact Nat.le_refl _
  | succ j ih =>
    by_cases h : k = j + 1
    · subst h
      exact Nat.le_refl _
    · exact Nat.le_trans (ih (by omega)) (prStep_len _ _).1
def p64 : List Nat := [2, 3, 5, 7, 11, 13, 17, 19, 23, 29, 31, 37, 41, 43, 47, 53, 59, 61, 67, 71, 73, 79, 83, 89, 97, 101, 103, 107, 109, 113, 127, 131, 137, 139, 149, 151, 157, 163, 167, 173, 179, 181, 191, 193, 197, 199, 211, 223, 227, 229, 233, 239, 241, 251, 257, 263, 269, 271, 277, 281, 283, 293, 307, 311]
set_option maxRecDepth 100000 in
theorem prTo_310 : prTo 310 = p64 := by decide +kernel
set_option maxRecDepth 100000 in
theorem prTo_309 : (prTo 309).length = 63 := by decide +kernel
theorem prTo_low (k : Nat) (h : k < 310) : (prTo k).length < 64 := by
  have := prTo_mono k 309 (by omega)
  rw [prTo_309] at this
  omega
theorem prTo_ge (k : Nat) : ∀ p ∈ prTo k, 2 ≤ p ∧ p ≤ k + 1 := by
  induction k with
  | zero => intro p hp; cases hp
  | succ k ih =>
    intro p hp
    simp only [prTo, prStep] at hp
    split at hp
    · rcases List.mem_append.1 hp with hp | hp
      · have := ih p hp
        omega
      · have := List.mem_singleton.1 hp
        omega
    · have := ih p hp
      omega

/-! numbers by digits of 16 bits, the lowest first -/
def wval (d : List Nat) : Nat := d.foldr (fun x a => x + 65536 * a) 0
def Wide (d : List Nat) : Prop := d.length = 12 ∧ ∀ x ∈ d, x < 65536
theorem wval_cons (x : Nat) (d : List Nat) : wval (x :: d) = x + 65536 * wval d := rfl
theorem wval_append (a b : List Nat) : wval (a ++ b) = wval a + 65536 ^ a.length * wval b := by
  induction a with
  | nil => simp [wval]
  | cons x a ih =>
    rw [List.cons_append, wval_cons, wval_cons, ih, List.length_cons, Nat.pow_succ, Nat.mul_add, ← Nat.mul_assoc, Nat.mul_comm 65536 (65536 ^ a.length), Nat.add_assoc]
theorem wval_lt (d : List Nat) (h : ∀ x ∈ d, x < 65536) : wval d < 65536 ^ d.length := by
  induction d with
  | nil => simp [wval]
  | cons x d ih =>
    have h1 := ih fun y hy => h y (List.mem_cons_of_mem _ hy)
    have h2 := h x (List.mem_cons_self ..)
    rw [wval_cons, List.length_cons, Nat.pow_succ]
    omega
theorem wval_set (d : List Nat) (j x : Nat) (h : j < d.length) : wval (d.set j x) + d[j] * 65536 ^ j = wval d + x * 65536 ^ j := by
  induction d generalizing j with
  | nil => simp at h
  | cons y d ih =>
    cases j with
    | zero => simp only [List.set_cons_zero, wval_cons, List.getElem_cons_zero, Nat.pow_zero, Nat.mul_one]; omega
    | succ j =>
      simp only [List.set_cons_succ, wval_cons, List.getElem_cons_succ]
      have := ih j (by simpa using h)
      rw [Nat.pow_succ]
      have e1 : d[j]'(by simpa using h) * (65536 ^ j * 65536) = 65536 * (d[j]'(by simpa using h) * 65536 ^ j) := by rw [← Nat.mul_assoc, Nat.mul_comm]
      have e2 : x * (65536 ^ j * 65536) = 65536 * (x * 65536 ^ j) := by rw [← Nat.mul_assoc, Nat.mul_comm]
      rw [e1, e2]
      omega
theorem wval_take_succ (d : List Nat) (k : Nat) (h : k < d.length) : wval (d.take (k + 1)) = wval (d.take k) + d[k] * 65536 ^ k := by
  rw [List.take_succ_eq_append_getElem h, wval_append]
  simp only [wval, List.foldr_cons, List.foldr_nil, Nat.mul_zero, Nat.add_zero, List.length_take]
  rw [Nat.min_eq_left (Nat.le_of_lt h), Nat.mul_comm]
/-- one step of the inner loop -/
theorem times_step {p : List Nat} {i k c x y V0 T s : Nat} (hj : i + k < p.length) (hs : s = p[i + k] + x * y + c)
    (hinv : wval p + c * 65536 ^ (i + k) = V0 + x * 65536 ^ i * T) :
    wval (p.set (i + k) (s % 65536)) + s / 65536 * 65536 ^ (i + (k + 1)) = V0 + x * 65536 ^ i * (T + y * 65536 ^ k) := by
  have h1 := wval_set p (i + k) (s % 65536) hj
  have h2 : s = 65536 * (s / 65536) + s % 65536 := (Nat.div_add_mod s 65536).symm
  have h3 : s * 65536 ^ (i + k) = s / 65536 * 65536 ^ (i + (k + 1)) + s % 65536 * 65536 ^ (i + k) := by
    have : s * 65536 ^ (i + k) = (65536 * (s / 65536) + s % 65536) * 65536 ^ (i + k) := by rw [← h2]
    rw [this, Nat.add_mul, ← Nat.add_assoc i k 1, Nat.pow_succ, Nat.mul_comm 65536 (s / 65536), Nat.mul_assoc, Nat.mul_comm 65536 (65536 ^ (i + k))]
  have h4 : s * 65536 ^ (i + k) = p[i + k] * 65536 ^ (i + k) + x * y * 65536 ^ (i + k) + c * 65536 ^ (i + k) := by rw [hs, Nat.add_mul, Nat.add_mul]
  have h5 : x * 65536 ^ i * (T + y * 65536 ^ k) = x * 65536 ^ i * T + x * y * 65536 ^ (i + k) := by
    rw [Nat.mul_add, Nat.pow_add]
    congr 1
    rw [Nat.mul_assoc x, Nat.mul_assoc x, ← Nat.mul_assoc (65536 ^ i), Nat.mul_comm (65536 ^ i) y, Nat.mul_assoc y]
  rw [h5]
  omega
theorem times_bound {a b c d : Nat} (ha : a < 65536) (hb : b < 65536) (hc : c < 65536) (hd : d < 65536) : d + a * b + c < 4294967296 ∧ (d + a * b + c) / 65536 < 65536 := by
  have h : a * b ≤ 65535 * 65535 := Nat.mul_le_mul (by omega) (by omega)
  omega
/-- the end of the inner loop -/
theorem times_row {p b : List Nat} {i c x V0 : Nat} (hb : b.length = 12) (hi : i ≤ 12) (hinv : wval p + c * 65536 ^ (i + (12 - i)) = V0 + x * 65536 ^ i * wval (b.take (12 - i))) :
    wval p % 65536 ^ 12 = (V0 + x * 65536 ^ i * wval b) % 65536 ^ 12 := by
  have e : wval b = wval (b.take (12 - i)) + 65536 ^ (12 - i) * wval (b.drop (12 - i)) := by
    have := wval_append (b.take (12 - i)) (b.drop (12 - i))
    rw [List.take_append_drop] at this
    rw [this, List.length_take, hb, Nat.min_eq_left (by omega)]
  have h12 : 65536 ^ i * 65536 ^ (12 - i) = 65536 ^ 12 := by rw [← Nat.pow_add, show i + (12 - i) = 12 by omega]
  rw [show i + (12 - i) = 12 by omega] at hinv
  have e2 : V0 + x * 65536 ^ i * wval b = wval p + c * 65536 ^ 12 + 65536 ^ 12 * (x * wval (b.drop (12 - i))) := by
    rw [e, Nat.mul_add, ← Nat.add_assoc, ← hinv, ← h12]
    congr 1
    rw [Nat.mul_assoc x, ← Nat.mul_assoc (65536 ^ i), h12, ← Nat.mul_assoc x, ← Nat.mul_assoc, Nat.mul_comm x]
  rw [e2, Nat.add_mul_mod_self_left, Nat.add_mul_mod_self_right]
theorem times_next {a b : List Nat} {i V : Nat} (hi : i < a.length) (h : V % 65536 ^ 12 = (wval (a.take i) * wval b) % 65536 ^ 12) :
    (V + a[i] * 65536 ^ i * wval b) % 65536 ^ 12 = (wval (a.take (i + 1)) * wval b) % 65536 ^ 12 := by
  rw [wval_take_succ a i hi, Nat.add_mul, Nat.add_mod, h, ← Nat.add_mod]
/-- which number is above -/
theorem above_at {a b : List Nat} (ha : Wide a) (hb : Wide b) (i : Nat) (hi : i < 12) (hhi : ∀ j (h1 : j < a.length) (h2 : j < b.length), i < j → a[j] = b[j]) (hne : a[i]'(by rw [ha.1]; exact hi) ≠ b[i]'(by rw [hb.1]; exact hi)) :
    (b[i]'(by rw [hb.1]; exact hi) < a[i]'(by rw [ha.1]; exact hi)) ↔ wval b < wval a := by
  have hla := ha.1
  have hlb := hb.1
  have split : ∀ d : List Nat, (hd : d.length = 12) → wval d = wval (d.take i) + 65536 ^ i * (d[i]'(by omega) + 65536 * wval (d.drop (i + 1))) := fun d hd => by
    have := wval_append (d.take i) (d.drop i)
    rw [List.take_append_drop, List.length_take, hd, Nat.min_eq_left (by omega)] at this
    rw [this, List.drop_eq_getElem_cons (by omega), wval_cons]
  have htop : a.drop (i + 1) = b.drop (i + 1) := by
    apply List.ext_getElem (by simp [hla, hlb])
    intro j h1 h2
    simp only [List.length_drop] at h1
    rw [List.getElem_drop, List.getElem_drop]
    exact hhi _ _ _ (by omega)
  have lt : ∀ d : List Nat, Wide d → wval (d.take i) < 65536 ^ i := fun d hd => by
    have := wval_lt (d.take i) fun x hx => hd.2 x (List.mem_of_mem_take hx)
    rw [List.length_take, hd.1, Nat.min_eq_left (by omega)] at this
    exact this
  have la := lt a ha
  have lb := lt b hb
  rw [split a hla, split b hlb, htop]
  generalize a[i]'(by omega) = x at *
  generalize b[i]'(by omega) = y at *
  generalize wval (b.drop (i + 1)) = t at *
  generalize wval (a.take i) = u at *
  generalize wval (b.take i) = v at *
  generalize 65536 ^ i = B at *
  constructor
  · intro h
    have : B * (y + 65536 * t) + B ≤ B * (x + 65536 * t) := by rw [← Nat.mul_succ]; exact Nat.mul_le_mul_left _ (by omega)
    omega
  · intro h
    rcases Nat.lt_or_ge y x with h' | h'
    · exact h'
    · have h3 : x < y := by omega
      have : B * (x + 65536 * t) + B ≤ B * (y + 65536 * t) := by rw [← Nat.mul_succ]; exact Nat.mul_le_mul_left _ (by omega)
      omega
theorem wide_ext {a b : List Nat} (ha : Wide a) (hb : Wide b) (h : ∀ j (h1 : j < a.length) (h2 : j < b.length), a[j] = b[j]) : a = b :=
  List.ext_getElem (by rw [ha.1, hb.1]) fun j h1 h2 => h j h1 h2
/-- a number's digits -/
def digitsL (n : Nat) : List Nat := [n % 65536, n / 65536 % 65536, n / 4294967296 % 65536, n / 281474976710656 % 65536, 0, 0, 0, 0, 0, 0, 0, 0]
theorem digitsL_wide (n : Nat) : Wide (digitsL n) := by
  refine ⟨rfl, fun x hx => ?_⟩
  simp only [digitsL, List.mem_cons, List.not_mem_nil, or_false] at hx
  rcases hx with rfl | rfl | rfl | rfl | rfl | rfl | rfl | rfl | rfl | rfl | rfl | rfl <;> omega
theorem digitsL_val (n : Nat) (h : n < 18446744073709551616) : wval (digitsL n) = n := by
  simp only [digitsL, wval, List.foldr_cons, List.foldr_nil]
  omega
/-- the search of a root -/
def frLoop (P power : Nat) : Nat → Nat → Nat
  | 0, root => root
  | b + 1, root => frLoop P power b (if (root + 2 ^ b) ^ power ≤ P then root + 2 ^ b else root)
def frac (p power : Nat) : Nat := frLoop (p * 2 ^ (32 * power)) power 38 0 % 4294967296
set_option maxRecDepth 100000 in
theorem frac_k : p64.map (fun p => frac p 3) = shaK.map UInt32.toNat := by decide +kernel
set_option maxRecDepth 100000 in
theorem frac_h : (p64.take 8).map (fun p => frac p 2) = shaH.list.map UInt32.toNat := by decide +kernel
end Go.Proofs.Ythdjhbiigmcecaa

/- Contracts of the document's numbers by digits: times, above, digits, fraction. -/
namespace Go.Proofs.Ythdjhbiigmcecaa
open Go.RowKit

def wideA (d : List Nat) : Array Value := (d.map fun (x : Nat) => Value.int .u64 (x : Int)).toArray
theorem wideA_size (d : List Nat) : (wideA d).size = d.length := by simp [wideA]
theorem wideA_one (d : List Nat) : oneCells (wideA d) := by simp [oneCells, wideA, Value.oneCell']
theorem wideA_at (d : List Nat) (i : Nat) (h : i < d.length) : (wideA d)[i]? = some (.int .u64 (d[i] : Int)) := by
  unfold wideA
  rw [List.getElem?_toArray, List.getElem?_map, List.getElem?_eq_getElem h]
  rfl
theorem wideA_set (d : List Nat) (i x : Nat) : (wideA d).setIfInBounds i (.int .u64 (x : Int)) = wideA (d.set i x) := by
  unfold wideA
  rw [List.setIfInBounds_toArray, List.map_set]
def zeros12 : List Nat := List.replicate 12 0
theorem zeros12_wide : Wide zeros12 := ⟨rfl, fun x hx => by rw [List.eq_of_mem_replicate hx]; omega⟩
theorem zeros12_val : wval zeros12 = 0 := by decide
theorem Wide.set {d : List Nat} (h : Wide d) (i x : Nat) (hx : x < 65536) : Wide (d.set i x) :=
  ⟨by rw [List.length_set]; exact h.1, fun y hy => by
    rcases List.mem_or_eq_of_mem_set hy with hy | rfl
    · exact h.2 y hy
    · exact hx⟩
theorem Wide.at {d : List Nat} (h : Wide d) (i : Nat) (hi : i < 12) : d[i]'(by rw [h.1]; exact hi) < 65536 := h.2 _ (List.getElem_mem _)
theorem zero_wide : #[.int .u64 0, .int .u64 0, .int .u64 0, .int .u64 0, .int .u64 0, .int .u64 0, .int .u64 0, .int .u64 0, .int .u64 0, .int .u64 0, .int .u64 0, .int .u64 0] = wideA zeros12 := rfl
theorem load_w12_s (x : Value) : Instr.loadAt 267 x = loadAgg 267 x := rfl
theorem load_w12 (w : World) (b off : Nat) (h : (row? w b off 12).isSome = true) : (loadAgg 267 (.pointer (some ⟨b, off, none⟩))).run Try.prog w = .ok (.agg ((row? w b off 12).getD #[])) w := run_loadAgg Try.isAgg267 Try.sizeOf267 w b off h
theorem store_w12_s (x v : Value) : Instr.storeAt 267 x v = storeAgg 267 x v := rfl
theorem info_w12 : (Try.prog.info? 267).map (·.size) = some 12 := by kernel_rfl
theorem store_w12 (w : World) (b off : Nat) (xs : Array Value) (hn : xs.size = 12) (h1 : oneCells xs) (ht : there w b off 12) : (storeAgg 267 (.pointer (some ⟨b, off, none⟩)) (.agg xs)).run Try.prog w = .ok () (putRow w b off xs) := run_storeAgg info_w12 w b off xs hn h1 ht
attribute [go_sem ↓] load_w12_s store_w12_s
attribute [go_sem] load_w12 store_w12 zero_wide
theorem row?_of_heap {w : World} {b : Nat} {cs : Array Value} {t : TypeId} {n : Nat} (h : w.heap[b]? = some (.cells cs t (0, 0))) (hn : cs.size = n) : row? w b 0 n = some cs := by
  unfold row?
  rw [h]
  simp only [Nat.zero_add]
  rw [if_pos (by omega)]
  subst hn
  simp
theorem times_res : Try.f204.results = #[.cell 4 267] := by kernel_rfl
set_option maxRecDepth 100000 in
set_option maxHeartbeats 3200000 in
theorem times_c (a b : List Nat) (ha : Wide a) (hb : Wide b) (w : World) :
    Calls Try.prog 204 #[.agg (wideA a), .agg (wideA b)] w fun e w' => ∃ p, e = .returned (.agg (wideA p)) ∧ Wide p ∧ wval p = (wval a * wval b) % 65536 ^ 12 ∧ Below w.heap.size w w' := by
  have hoa := wideA_one a
  have hob := wideA_one b
  have hsa := (wideA_size a).trans ha.1
  have hsb := (wideA_size b).trans hb.1
  obtain ⟨W0, hW0⟩ : ∃ W0, W0 = (((w.alloc (.cells (wideA a) 267)).alloc (.cells (wideA b) 267)).alloc (.cells (wideA zeros12) 267)).alloc (.cells (wideA zeros12) 267) := ⟨_, rfl⟩
  have hB0 : Below w.heap.size w W0 := by rw [hW0]; (repeat' (first | (with_reducible exact Below.refl _ _) | (with_reducible assumption) | (with_reducible refine bel_trans (by assumption) ?_ ?_) | (with_reducible refine bel_grown (by assumption) ?_ ?_ ?_) | (with_reducible refine Below.alloc ?_ ?_ _) | (with_reducible refine Below.drew ?_) | (with_reducible refine below_drewN ?_ _) | (with_reducible refine Below.setCell ?_ ?_ _) | (with_reducible refine below_put ?_ ?_ _ _) | (with_reducible exact Nat.le_refl _) | omega | (with_reducible refine Nat.le_trans ?_ (Below.size (by assumption))) | (with_reducible refine Nat.le_trans ?_ (World.grownBy.size (by assumption))) | (simp only [World.size_alloc, World.size_setCell, World.size_drew, size_drewN]; omega) | (simp only [World.size_alloc, World.size_setCell, World.size_drew, size_drewN, size_put]; omega) | (intro k hk; simp [Value.ownBlock] at hk; done) | (intro k hk; simp [Value.ownBlock] at hk; omega) | (simp [size_drewN] at *; omega)))
  have hs0 : W0.heap.size = w.heap.size + 4 := by rw [hW0]; simp
  have hA0 : W0.heap[w.heap.size]? = some (.cells (wideA a) 267 (0, 0)) := by
    rw [hW0]
    exact (Below.block (B := w.heap.size + 1) (by (repeat' (first | (with_reducible exact Below.refl _ _) | (with_reducible assumption) | (with_reducible refine bel_trans (by assumption) ?_ ?_) | (with_reducible refine bel_grown (by assumption) ?_ ?_ ?_) | (with_reducible refine Below.alloc ?_ ?_ _) | (with_reducible refine Below.drew ?_) | (with_reducible refine below_drewN ?_ _) | (with_reducible refine Below.setCell ?_ ?_ _) | (with_reducible refine below_put ?_ ?_ _ _) | (with_reducible exact Nat.le_refl _) | omega | (with_reducible refine Nat.le_trans ?_ (Below.size (by assumption))) | (with_reducible refine Nat.le_trans ?_ (World.grownBy.size (by assumption))) | (simp only [World.size_alloc, World.size_setCell, World.size_drew, size_drewN]; omega) | (simp only [World.size_alloc, World.size_setCell, World.size_drew, size_drewN, size_put]; omega) | (intro k hk; simp [Value.ownBlock] at hk; done) | (intro k hk; simp [Value.ownBlock] at hk; omega) | (simp [size_drewN] at *; omega))) : Below (w.heap.size + 1) (w.alloc (.cells (wideA a) 267)) _) _ (by omega)).trans (heap_alloc_new w _)
  have hb0 : W0.heap[w.heap.size + 1]? = some (.cells (wideA b) 267 (0, 0)) := by
    rw [hW0]
    refine (Below.block (B := w.heap.size + 1 + 1) (by (repeat' (first | (with_reducible exact Below.refl _ _) | (with_reducible assumption) | (with_reducible refine bel_trans (by assumption) ?_ ?_) | (with_reducible refine bel_grown (by assumption) ?_ ?_ ?_) | (with_reducible refine Below.alloc ?_ ?_ _) | (with_reducible refine Below.drew ?_) | (with_reducible refine below_drewN ?_ _) | (with_reducible refine Below.setCell ?_ ?_ _) | (with_reducible refine below_put ?_ ?_ _ _) | (with_reducible exact Nat.le_refl _) | omega | (with_reducible refine Nat.le_trans ?_ (Below.size (by assumption))) | (with_reducible refine Nat.le_trans ?_ (World.grownBy.size (by assumption))) | (simp only [World.size_alloc, World.size_setCell, World.size_drew, size_drewN]; omega) | (simp only [World.size_alloc, World.size_setCell, World.size_drew, size_drewN, size_put]; omega) | (intro k hk; simp [Value.ownBlock] at hk; done) | (intro k hk; simp [Value.ownBlock] at hk; omega) | (simp [size_drewN] at *; omega))) : Below (w.heap.size + 1 + 1) ((w.alloc (.cells (wideA a) 267)).alloc (.cells (wideA b) 267)) _) _ (by omega)).trans ?_
    have := heap_alloc_new (w.alloc (.cells (wideA a) 267)) (.cells (wideA b) 267)
    simpa using this
  have hR0 : W0.heap[w.heap.size + 2]? = some (.cells (wideA zeros12) 267 (0, 0)) := by
    rw [hW0]
    refine (Below.block (B := w.heap.size + 1 + 1 + 1) (by (repeat' (first | (with_reducible exact Below.refl _ _) | (with_reducible assumption) | (with_reducible refine bel_trans (by assumption) ?_ ?_) | (with_reducible refine bel_grown (by assumption) ?_ ?_ ?_) | (with_reducible refine Below.alloc ?_ ?_ _) | (with_reducible refine Below.drew ?_) | (with_reducible refine below_drewN ?_ _) | (with_reducible refine Below.setCell ?_ ?_ _) | (with_reducible refine below_put ?_ ?_ _ _) | (with_reducible exact Nat.le_refl _) | omega | (with_reducible refine Nat.le_trans ?_ (Below.size (by assumption))) | (with_reducible refine Nat.le_trans ?_ (World.grownBy.size (by assumption))) | (simp only [World.size_alloc, World.size_setCell, World.size_drew, size_drewN]; omega) | (simp only [World.size_alloc, World.size_setCell, World.size_drew, size_drewN, size_put]; omega) | (intro k hk; simp [Value.ownBlock] at hk; done) | (intro k hk; simp [Value.ownBlock] at hk; omega) | (simp [size_drewN] at *; omega))) : Below (w.heap.size + 1 + 1 + 1) (((w.alloc (.cells (wideA a) 267)).alloc (.cells (wideA b) 267)).alloc (.cells (wideA zeros12) 267)) _) _ (by omega)).trans ?_
    have := heap_alloc_new ((w.alloc (.cells (wideA a) 267)).alloc (.cells (wideA b) 267)) (.cells (wideA zeros12) 267)
    simpa using this
  have hP0 : W0.heap[w.heap.size + 3]? = some (.cells (wideA zeros12) 267 (0, 0)) := by
    rw [hW0]
    have := heap_alloc_new (((w.alloc (.cells (wideA a) 267)).alloc (.cells (wideA b) 267)).alloc (.cells (wideA zeros12) 267)) (.cells (wideA zeros12) 267)
    simpa using this
  have hV0 : Hid (wval zeros12 % 65536 ^ 12 = (wval (a.take 0) * wval b) % 65536 ^ 12) := Lib.hid (by rw [zeros12_val, List.take_zero]; show 0 % _ = (0 * _) % _; rw [Nat.zero_mul])
  replace hB0 := Lib.hid hB0
  replace hA0 := Lib.hid hA0
  replace hb0 := Lib.hid hb0
  replace hR0 := Lib.hid hR0
  replace hP0 := Lib.hid hP0
  have hza := Lib.hid ha
  have hzb := Lib.hid hb
  go_enter Try.func204, Try.ntmps204
  go_wp2_with fail
  rw [← hW0]
  clear hW0 hoa hob hsa hsb
  go_loopw [6, 7, 8, 9] (fun i _ _ _ W => ∃ (k : Nat) (p : List Nat), k ≤ 12 ∧ i = .int .i64 k ∧ Hid (Wide p) ∧ Hid (wval p % 65536 ^ 12 = (wval (a.take k) * wval b) % 65536 ^ 12) ∧ Hid (W.heap[w.heap.size + 3]? = some (.cells (wideA p) 267 (0, 0))) ∧ Hid (Below (w.heap.size + 3) W0 W)) (fun i _ _ _ _ => 12 - (intOf i).toNat)
  case atStart => exact ⟨0, zeros12, Nat.zero_le _, rfl, Lib.hid zeros12_wide, hV0, hP0, Lib.hid (Below.refl _ _)⟩
  case round =>
    clear hV0 hP0
    obtain ⟨k, p0, hk, rfl, hp0, hV, hP, hB⟩ := hrel
    by_cases hkx : k < 12
    · have ka : k < a.length := by rw [ha.1]; exact hkx
      have hnext := Lib.hid (fun V => times_next (a := a) (b := b) (i := k) (V := V) ka)
      have hx := ha.at k hkx
      have hca := (cell_of_row W0 w.heap.size k _ _ _ hA0.out).trans (wideA_at a k ka)
      generalize hax : a[k] = x at *
      clear hax
      have j0 : (0 : Int) ≤ (k : Int) := by omega
      have j1 : (k : Int) < 12 := by omega
      have hx0 : (0 : Int) ≤ (x : Int) := by omega
      have hx1 : (x : Int) < 65536 := by omega
      generalize wr = w1 at *
      go_wp2_with fail
      go_loopw [7, 8, 9] (fun c i _ W => ∃ (kk cc : Nat) (p : List Nat), k + kk ≤ 12 ∧ i = .int .i64 kk ∧ c = .int .u64 (cc : Int) ∧ cc < 65536 ∧ Hid (Wide p) ∧ Hid (wval p + cc * 65536 ^ (k + kk) = wval p0 + x * 65536 ^ k * wval (b.take kk)) ∧ Hid (W.heap[w.heap.size + 3]? = some (.cells (wideA p) 267 (0, 0))) ∧ Hid (Below (w.heap.size + 3) W0 W)) (fun _ i _ _ => 12 - (intOf i).toNat)
      case atStart => exact ⟨0, 0, p0, by omega, rfl, rfl, by omega, hp0, Lib.hid (by simp [wval]), hP, hB⟩
      case round =>
        clear hB hP
        obtain ⟨kk, cc, p, hkk, rfl, rfl, hcc, hp, hI, hP, hB⟩ := hrel
        by_cases hkx2 : k + kk < 12
        · have kb : kk < b.length := by rw [hb.1]; omega
          have kp : k + kk < p.length := by rw [hp.out.1]; exact hkx2
          have hy := hb.at kk (by omega)
          have hz := hp.out.at (k + kk) hkx2
          have hcb := (cell_of_row W0 (w.heap.size + 1) kk _ _ _ hb0.out).trans (wideA_at b kk kb)
          have hcp := (cell_of_row wr (w.heap.size + 3) (k + kk) _ _ _ hP.out).trans (wideA_at p (k + kk) kp)
          have hfp := frozen_of_row wr (w.heap.size + 3) (k + kk) _ _ hP.out
          have hca' := (hB.out.cell (p := ⟨w.heap.size, k, none⟩) (by show w.heap.size < _; omega)).trans hca
          have hcb' := (hB.out.cell (p := ⟨w.heap.size + 1, kk, none⟩) (by show w.heap.size + 1 < _; omega)).trans hcb
          have htk := Lib.hid (wval_take_succ b kk kb)
          have hst := Lib.hid (fun y s (hs : s = p[k + kk] + x * y + cc) => times_step (p := p) (i := k) (k := kk) (c := cc) (x := x) (y := y) (V0 := wval p0) (T := wval (b.take kk)) (s := s) kp hs hI.out)
          have hset := Lib.hid (fun s : Nat => heap_set wr (w.heap.size + 3) (k + kk) _ _ (.int .u64 ((s % 65536 : Nat) : Int)) hP.out)
          generalize b[kk] = y at *
          generalize p[k + kk] = z at *
          obtain ⟨hs1, hs2⟩ := times_bound hx hy hcc hz
          obtain ⟨s, hs⟩ : ∃ s, s = z + x * y + cc := ⟨_, rfl⟩
          rw [← hs] at hs1 hs2
          have hxy : (x : Int) * (y : Int) = ((x * y : Nat) : Int) := (Int.natCast_mul x y).symm
          have hxy2 := Lib.hid hxy
          have hxl : x * y ≤ 4294967295 := by have := Nat.mul_le_mul (show x ≤ 65535 by omega) (show y ≤ 65535 by omega); omega
          have e1 : IntKind.u64.wrap ((x : Int) * (y : Int)) = ((x * y : Nat) : Int) := by rw [hxy, IntKind.wrap_u64]; omega
          have e2 : IntKind.u64.wrap ((z : Int) + ((x * y : Nat) : Int)) = ((z + x * y : Nat) : Int) := by rw [IntKind.wrap_u64]; omega
          have e3 : IntKind.u64.wrap (((z + x * y : Nat) : Int) + (cc : Int)) = (s : Int) := by rw [IntKind.wrap_u64]; omega
          have i0 : (0 : Int) ≤ (kk : Int) := by omega
          have i1 : (kk : Int) < 12 := by omega
          have i2 : (k : Int) + (kk : Int) < 12 := by omega
          have i3 : IntKind.i64.wrap ((k : Int) + (kk : Int)) = (k : Int) + (kk : Int) := IntWalk.i64_in _ (by omega)
          have i4 : ((k : Int) + (kk : Int)).toNat = k + kk := by omega
          have i5 : (0 : Int) ≤ (k : Int) + (kk : Int) := by omega
          clear hxy hs1 hx hy hz hcc
          have c1 := fun n => (cell_drewN wr n ⟨w.heap.size, k, none⟩).trans hca'
          have c2 := fun n => (cell_drewN wr n ⟨w.heap.size + 1, kk, none⟩).trans hcb'
          have c3 := fun n => (cell_drewN wr n ⟨w.heap.size + 3, k + kk, none⟩).trans hcp
          go_upto_region 9 with fail
          go_quiet (fail)
          have e4 : (z : Int) + (x : Int) * (y : Int) + (cc : Int) = (s : Int) := by rw [hxy2.out, hs]; omega
          rw [e4]
          have hI2 := Lib.hid (hst.out y s hs)
          rw [← Nat.add_assoc] at hI2
          have hpw := Lib.hid (hp.out.set (k + kk) (s % 65536) (Nat.mod_lt _ (by omega)))
          have hset2 := Lib.hid ((hset.out s).trans (by rw [wideA_set] : _ = some (Obj.cells (wideA (p.set (k + kk) (s % 65536))) 267 (0, 0))))
          have hB2 := Lib.hid (show Below (w.heap.size + 3) W0 ((wr.drewN nq).setCell ⟨w.heap.size + 3, k + kk, none⟩ (.int .u64 ((s % 65536 : Nat) : Int))) from Below.setCell (hB.out.trans ((below_drewN (Below.refl wr.heap.size wr) nq).mono (by have := hB.out.size; omega))) (Nat.le_refl _) _)
          have hs65 := hs2
          have s0 : (0 : Int) ≤ (s : Int) := by omega
          have hmod : ((s % 65536 : Nat) : Int) = (s : Int) % 65536 := by omega
          have hdiv : ((s / 65536 : Nat) : Int) = (s : Int) / 65536 := by omega
          rw [hmod] at hset2 hB2
          clear hs e1 e2 e3 e4 c1 c2 c3 hca' hcb' hst hset hp hI hP hB hmod hs2 hxl
          replace hdiv := Lib.hid hdiv
          replace hxy2 := hxy2
          go_wp2_with fail
          go_roundw
          case rel => exact ⟨kk + 1, s / 65536, p.set (k + kk) (s % 65536), by omega, by go_num, by rw [hdiv.out], hs65, hpw, by rw [htk.out]; exact hI2, hset2, hB2⟩
          case measure => (first | omega | (simp [intOf]; done) | (simp [intOf]; omega))
        · obtain rfl : kk = 12 - k := by omega
          have hV2 := Lib.hid (show wval p % 65536 ^ 12 = (wval (a.take (k + 1)) * wval b) % 65536 ^ 12 from by
            rw [← hnext.out (wval p0) hV.out]
            exact times_row hb.1 (by omega) hI.out)
          have i2 : ¬ (k : Int) + ((12 - k : Nat) : Int) < 12 := by omega
          clear hI hV hnext
          go_wp2_with fail
          go_roundw
          case rel => exact ⟨k + 1, p, by omega, by go_num, hp, hV2, hP, hB⟩
          case measure => (first | omega | (simp [intOf]; done) | (simp [intOf]; omega))
    · obtain rfl : k = 12 := by omega
      have hrow : row? wr (w.heap.size + 3) 0 12 = some (wideA p0) := row?_of_heap hP.out (by rw [wideA_size]; exact hp0.out.1)
      have hth : there wr (w.heap.size + 2) 0 12 := there_below hB.out (by omega) (there_block hR0.out (by rw [wideA_size]; decide))
      have ho := wideA_one p0
      have hsz : (wideA p0).size = 12 := by rw [wideA_size]; exact hp0.out.1
      have hfin := Lib.hid (show wval p0 = (wval a * wval b) % 65536 ^ 12 from by
        have h1 := hV.out
        rw [List.take_of_length_le (by rw [ha.1]; omega)] at h1
        rw [← h1]
        have := wval_lt p0 hp0.out.2
        rw [hp0.out.1] at this
        exact (Nat.mod_eq_of_lt this).symm)
      clear hP hV
      go_wp2_with fail
      have hrr : row? (putRow wr (w.heap.size + 1 + 1) 0 (wideA p0)) (w.heap.size + 1 + 1) 0 12 = some (wideA p0) := row?_put_same _ _ _ _ _ hsz (by omega) hth
      refine ret_row Try.isAgg267 Try.sizeOf267 times_res (x := .pointer (some ⟨w.heap.size + 1 + 1, 0, none⟩)) (w.heap.size + 1 + 1) 0 rfl rfl (by rw [hrr]; rfl) rfl ?_
      rw [hrr]
      exact ⟨p0, rfl, hp0.out, hfin.out, by have h1 := hB0.out; have h2 := hB.out.mono (show w.heap.size ≤ w.heap.size + 3 by omega); (repeat' (first | (with_reducible exact Below.refl _ _) | (with_reducible assumption) | (with_reducible refine bel_trans (by assumption) ?_ ?_) | (with_reducible refine bel_grown (by assumption) ?_ ?_ ?_) | (with_reducible refine Below.alloc ?_ ?_ _) | (with_reducible refine Below.drew ?_) | (with_reducible refine below_drewN ?_ _) | (with_reducible refine Below.setCell ?_ ?_ _) | (with_reducible refine below_put ?_ ?_ _ _) | (with_reducible exact Nat.le_refl _) | omega | (with_reducible refine Nat.le_trans ?_ (Below.size (by assumption))) | (with_reducible refine Nat.le_trans ?_ (World.grownBy.size (by assumption))) | (simp only [World.size_alloc, World.size_setCell, World.size_drew, size_drewN]; omega) | (simp only [World.size_alloc, World.size_setCell, World.size_drew, size_drewN, size_put]; omega) | (intro k hk; simp [Value.ownBlock] at hk; done) | (intro k hk; simp [Value.ownBlock] at hk; omega) | (simp [size_drewN] at *; omega)))⟩

set_option maxRecDepth 100000 in
set_option maxHeartbeats 3200000 in
theorem above_c (a b : List Nat) (ha : Wide a) (hb : Wide b) (w : World) :
    Calls Try.prog 205 #[.agg (wideA a), .agg (wideA b)] w fun e w' => e = .returned (.bool (decide (wval b < wval a))) ∧ Below w.heap.size w w' := by
  have hoa := wideA_one a
  have hob := wideA_one b
  have hsa := (wideA_size a).trans ha.1
  have hsb := (wideA_size b).trans hb.1
  obtain ⟨W0, hW0⟩ : ∃ W0, W0 = (w.alloc (.cells (wideA a) 267)).alloc (.cells (wideA b) 267) := ⟨_, rfl⟩
  have hB0 : Below w.heap.size w W0 := by rw [hW0]; (repeat' (first | (with_reducible exact Below.refl _ _) | (with_reducible assumption) | (with_reducible refine bel_trans (by assumption) ?_ ?_) | (with_reducible refine bel_grown (by assumption) ?_ ?_ ?_) | (with_reducible refine Below.alloc ?_ ?_ _) | (with_reducible refine Below.drew ?_) | (with_reducible refine below_drewN ?_ _) | (with_reducible refine Below.setCell ?_ ?_ _) | (with_reducible refine below_put ?_ ?_ _ _) | (with_reducible exact Nat.le_refl _) | omega | (with_reducible refine Nat.le_trans ?_ (Below.size (by assumption))) | (with_reducible refine Nat.le_trans ?_ (World.grownBy.size (by assumption))) | (simp only [World.size_alloc, World.size_setCell, World.size_drew, size_drewN]; omega) | (simp only [World.size_alloc, World.size_setCell, World.size_drew, size_drewN, size_put]; omega) | (intro k hk; simp [Value.ownBlock] at hk; done) | (intro k hk; simp [Value.ownBlock] at hk; omega) | (simp [size_drewN] at *; omega)))
  have hs0 : W0.heap.size = w.heap.size + 2 := by rw [hW0]; simp
  have hA0 : W0.heap[w.heap.size]? = some (.cells (wideA a) 267 (0, 0)) := by
    rw [hW0]
    exact (Below.block (B := w.heap.size + 1) (by (repeat' (first | (with_reducible exact Below.refl _ _) | (with_reducible assumption) | (with_reducible refine bel_trans (by assumption) ?_ ?_) | (with_reducible refine bel_grown (by assumption) ?_ ?_ ?_) | (with_reducible refine Below.alloc ?_ ?_ _) | (with_reducible refine Below.drew ?_) | (with_reducible refine below_drewN ?_ _) | (with_reducible refine Below.setCell ?_ ?_ _) | (with_reducible refine below_put ?_ ?_ _ _) | (with_reducible exact Nat.le_refl _) | omega | (with_reducible refine Nat.le_trans ?_ (Below.size (by assumption))) | (with_reducible refine Nat.le_trans ?_ (World.grownBy.size (by assumption))) | (simp only [World.size_alloc, World.size_setCell, World.size_drew, size_drewN]; omega) | (simp only [World.size_alloc, World.size_setCell, World.size_drew, size_drewN, size_put]; omega) | (intro k hk; simp [Value.ownBlock] at hk; done) | (intro k hk; simp [Value.ownBlock] at hk; omega) | (simp [size_drewN] at *; omega))) : Below (w.heap.size + 1) (w.alloc (.cells (wideA a) 267)) _) _ (by omega)).trans (heap_alloc_new w _)
  have hb0 : W0.heap[w.heap.size + 1]? = some (.cells (wideA b) 267 (0, 0)) := by
    rw [hW0]
    have := heap_alloc_new (w.alloc (.cells (wideA a) 267)) (.cells (wideA b) 267)
    simpa using this
  replace hB0 := Lib.hid hB0
  replace hA0 := Lib.hid hA0
  replace hb0 := Lib.hid hb0
  go_enter Try.func205, Try.ntmps205
  go_wp2_with fail
  rw [← hW0]
  clear hW0 hoa hob hsa hsb
  go_loopw [5] (fun i W => ∃ (z : Int) (k : Nat), i = .int .i64 z ∧ k ≤ 12 ∧ Hid (z = (k : Int) - 1) ∧ Hid (∀ j (h1 : j < a.length) (h2 : j < b.length), k ≤ j → a[j] = b[j]) ∧ Hid (Below W0.heap.size W0 W)) (fun i _ => (intOf i + 1).toNat)
  case atStart => exact ⟨11, 12, rfl, Nat.le_refl _, Lib.hid rfl, Lib.hid (fun j h1 _ h3 => by rw [ha.1] at h1; omega), Lib.hid (Below.refl _ _)⟩
  case round =>
    obtain ⟨z, k, rfl, hk, hz, hE, hB⟩ := hrel
    by_cases hkx : 0 < k
    · obtain ⟨m, rfl⟩ : ∃ m, k = m + 1 := ⟨k - 1, by omega⟩
      obtain rfl : z = (m : Int) := by have := hz.out; omega
      have ma : m < a.length := by rw [ha.1]; omega
      have mb : m < b.length := by rw [hb.1]; omega
      have hca := ((hB.out.cell (p := ⟨w.heap.size, m, none⟩) (by show w.heap.size < _; omega)).trans ((cell_of_row W0 w.heap.size m _ _ _ hA0.out).trans (wideA_at a m ma)))
      have hcb := ((hB.out.cell (p := ⟨w.heap.size + 1, m, none⟩) (by show w.heap.size + 1 < _; omega)).trans ((cell_of_row W0 (w.heap.size + 1) m _ _ _ hb0.out).trans (wideA_at b m mb)))
      have hat := Lib.hid (above_at ha hb m (by omega) (fun j h1 h2 h3 => hE.out j h1 h2 (by omega)))
      have hstep := Lib.hid (show a[m] = b[m] → ∀ j (h1 : j < a.length) (h2 : j < b.length), m ≤ j → a[j] = b[j] from fun e j h1 h2 h3 => by
        by_cases hj : j = m
        · subst hj
          exact e
        · exact hE.out j h1 h2 (by omega))
      have j0 : (0 : Int) ≤ (m : Int) := by omega
      have j1 : (m : Int) < 12 := by omega
      generalize a[m] = x at *
      generalize b[m] = y at *
      have c1 := fun n => (cell_drewN wr n ⟨w.heap.size, m, none⟩).trans hca
      have c2 := fun n => (cell_drewN wr n ⟨w.heap.size + 1, m, none⟩).trans hcb
      have hBn := fun n => Lib.hid (hB.out.trans ((below_drewN (Below.refl wr.heap.size wr) n).mono hB.out.size))
      by_cases hxy : x = y
      · have hne : ((x : Int) != (y : Int)) = false := by rw [hxy]; simp
        have hst := Lib.hid (hstep.out hxy)
        clear hstep hat hxy hE hz
        go_wp2_with fail
        go_quiet (fail)
        go_wp2_with fail
        go_roundw
        case rel => exact ⟨(m : Int) - 1, m, rfl, by omega, Lib.hid rfl, hst, hBn _⟩
        case measure => (first | (simp [intOf]; done) | (simp [intOf]; omega))
      · have hne : ((x : Int) != (y : Int)) = true := by rw [bne_iff_ne]; omega
        have hd := Lib.hid (show decide (y < x) = decide (wval b < wval a) from decide_eq_decide.2 (hat.out hxy))
        clear hstep hat hE hz
        go_wp2_with fail
        go_quiet (fail)
        go_wp2_with fail
        go_quiet (fail)
        go_wp2_with fail
        go_ret
        exact ⟨congrArg (fun b => Ending.returned (.bool b)) hd.out, by have := hB0.out; have := hB.out; (repeat' (first | (with_reducible exact Below.refl _ _) | (with_reducible assumption) | (with_reducible refine bel_trans (by assumption) ?_ ?_) | (with_reducible refine bel_grown (by assumption) ?_ ?_ ?_) | (with_reducible refine Below.alloc ?_ ?_ _) | (with_reducible refine Below.drew ?_) | (with_reducible refine below_drewN ?_ _) | (with_reducible refine Below.setCell ?_ ?_ _) | (with_reducible refine below_put ?_ ?_ _ _) | (with_reducible exact Nat.le_refl _) | omega | (with_reducible refine Nat.le_trans ?_ (Below.size (by assumption))) | (with_reducible refine Nat.le_trans ?_ (World.grownBy.size (by assumption))) | (simp only [World.size_alloc, World.size_setCell, World.size_drew, size_drewN]; omega) | (simp only [World.size_alloc, World.size_setCell, World.size_drew, size_drewN, size_put]; omega) | (intro k hk; simp [Value.ownBlock] at hk; done) | (intro k hk; simp [Value.ownBlock] at hk; omega) | (simp [size_drewN] at *; omega)))⟩
    · obtain rfl : k = 0 := by omega
      obtain rfl : z = -1 := by have := hz.out; omega
      have hEq : a = b := wide_ext ha hb (fun j h1 h2 => hE.out j h1 h2 (Nat.zero_le _))
      have hd := Lib.hid (show false = decide (wval b < wval a) by rw [hEq]; exact (decide_eq_false (Nat.lt_irrefl _)).symm)
      clear hE hz hEq
      go_wp2_with fail
      go_ret
      exact ⟨congrArg (fun b => Ending.returned (.bool b)) hd.out, by have := hB0.out; have := hB.out; (repeat' (first | (with_reducible exact Below.refl _ _) | (with_reducible assumption) | (with_reducible refine bel_trans (by assumption) ?_ ?_) | (with_reducible refine bel_grown (by assumption) ?_ ?_ ?_) | (with_reducible refine Below.alloc ?_ ?_ _) | (with_reducible refine Below.drew ?_) | (with_reducible refine below_drewN ?_ _) | (with_reducible refine Below.setCell ?_ ?_ _) | (with_reducible refine below_put ?_ ?_ _ _) | (with_reducible exact Nat.le_refl _) | omega | (with_reducible refine Nat.le_trans ?_ (Below.size (by assumption))) | (with_reducible refine Nat.le_trans ?_ (World.grownBy.size (by assumption))) | (simp only [World.size_alloc, World.size_setCell, World.size_drew, size_drewN]; omega) | (simp only [World.size_alloc, World.size_setCell, World.size_drew, size_drewN, size_put]; omega) | (intro k hk; simp [Value.ownBlock] at hk; done) | (intro k hk; simp [Value.ownBlock] at hk; omega) | (simp [size_drewN] at *; omega)))⟩

/-- the first k digits, the rest nought -/
def digK (n k : Nat) : List Nat := (digitsL n).take k ++ List.replicate (12 - k) 0
theorem digits_res : Try.f203.results = #[.cell 2 267] := by kernel_rfl
set_option maxRecDepth 100000 in
set_option maxHeartbeats 3200000 in
theorem digits_c (n : Nat) (hn : n < 18446744073709551616) (w : World) :
    Calls Try.prog 203 #[.int .u64 (n : Int)] w fun e w' => e = .returned (.agg (wideA (digitsL n))) ∧ Below w.heap.size w w' := by
  obtain ⟨W0, hW0⟩ : ∃ W0, W0 = (w.alloc (.cells (wideA zeros12) 267)).alloc (.cells (wideA zeros12) 267) := ⟨_, rfl⟩
  have hB0 : Below w.heap.size w W0 := by rw [hW0]; (repeat' (first | (with_reducible exact Below.refl _ _) | (with_reducible assumption) | (with_reducible refine bel_trans (by assumption) ?_ ?_) | (with_reducible refine bel_grown (by assumption) ?_ ?_ ?_) | (with_reducible refine Below.alloc ?_ ?_ _) | (with_reducible refine Below.drew ?_) | (with_reducible refine below_drewN ?_ _) | (with_reducible refine Below.setCell ?_ ?_ _) | (with_reducible refine below_put ?_ ?_ _ _) | (with_reducible exact Nat.le_refl _) | omega | (with_reducible refine Nat.le_trans ?_ (Below.size (by assumption))) | (with_reducible refine Nat.le_trans ?_ (World.grownBy.size (by assumption))) | (simp only [World.size_alloc, World.size_setCell, World.size_drew, size_drewN]; omega) | (simp only [World.size_alloc, World.size_setCell, World.size_drew, size_drewN, size_put]; omega) | (intro k hk; simp [Value.ownBlock] at hk; done) | (intro k hk; simp [Value.ownBlock] at hk; omega) | (simp [size_drewN] at *; omega)))
  have hs0 : W0.heap.size = w.heap.size + 2 := by rw [hW0]; simp
  have hR0 : there W0 w.heap.size 0 12 := by
    rw [hW0]
    exact there_old _ _ _ _ _ (by simp) (there_new _ _ _ _ _ (by rw [wideA_size]; decide))
  have hP0 : W0.heap[w.heap.size + 1]? = some (.cells (wideA (digK n 0)) 267 (0, 0)) := by
    rw [hW0, show digK n 0 = zeros12 from rfl]
    have := heap_alloc_new (w.alloc (.cells (wideA zeros12) 267)) (.cells (wideA zeros12) 267)
    simpa using this
  have n0 : (0 : Int) ≤ (n : Int) := by omega
  have hdn := Lib.hid (digitsL_wide n)
  replace hB0 := Lib.hid hB0
  replace hR0 := Lib.hid hR0
  replace hP0 := Lib.hid hP0
  replace hn := Lib.hid hn
  go_enter Try.func203, Try.ntmps203
  go_wp2_with fail
  rw [← hW0]
  clear hW0
  go_loopw [4] (fun i W => ∃ z : Int, i = .int .i64 z ∧ 0 ≤ z ∧ z ≤ 4 ∧ Hid (W.heap[w.heap.size + 1]? = some (.cells (wideA (digK n z.toNat)) 267 (0, 0))) ∧ Hid (Below (w.heap.size + 1) W0 W)) (fun i _ => 4 - (intOf i).toNat)
  case atStart => exact ⟨0, rfl, by omega, by omega, hP0, Lib.hid (Below.refl _ _)⟩
  case round =>
    clear hP0
    obtain ⟨z, rfl, hz0, hz4, hP, hB⟩ := hrel
    by_cases hzx : z < 4
    · have q0 := cell_of_row wr (w.heap.size + 1) 0 _ _ _ hP.out
      have q1 := cell_of_row wr (w.heap.size + 1) 1 _ _ _ hP.out
      have q2 := cell_of_row wr (w.heap.size + 1) 2 _ _ _ hP.out
      have q3 := cell_of_row wr (w.heap.size + 1) 3 _ _ _ hP.out
      have f0 := frozen_of_row wr (w.heap.size + 1) 0 _ _ hP.out
      have f1 := frozen_of_row wr (w.heap.size + 1) 1 _ _ hP.out
      have f2 := frozen_of_row wr (w.heap.size + 1) 2 _ _ hP.out
      have f3 := frozen_of_row wr (w.heap.size + 1) 3 _ _ hP.out
      have hl : (digK n z.toNat).length = 12 := by
        rcases (show z = 0 ∨ z = 1 ∨ z = 2 ∨ z = 3 by omega) with rfl | rfl | rfl | rfl <;> rfl
      rw [wideA_at _ _ (by omega)] at q0 q1 q2 q3
      have hset := Lib.hid (fun (i x : Nat) => (heap_set wr (w.heap.size + 1) i _ _ (.int .u64 (x : Int)) hP.out).trans (by rw [wideA_set] : _ = some (Obj.cells (wideA ((digK n z.toNat).set i x)) 267 (0, 0))))
      have hBs := Lib.hid (fun (i x : Nat) => ((show Below (w.heap.size + 1) W0 (wr.setCell ⟨w.heap.size + 1, i, none⟩ (.int .u64 (x : Int))) from Below.setCell hB.out (Nat.le_refl _) _)))
      generalize (digK n z.toNat)[0] = v0 at *
      generalize (digK n z.toNat)[1] = v1 at *
      generalize (digK n z.toNat)[2] = v2 at *
      generalize (digK n z.toNat)[3] = v3 at *
      clear hB hP hl
      rcases (show z = 0 ∨ z = 1 ∨ z = 2 ∨ z = 3 by omega) with rfl | rfl | rfl | rfl
      all_goals clear hz0 hz4
      all_goals clear hzx
      all_goals
        go_wp2_with fail
        go_roundw
        case rel =>
          first
            | exact ⟨1, rfl, by omega, by omega, Lib.hid (hset.out 0 (n % 65536)), Lib.hid (hBs.out 0 (n % 65536))⟩
            | exact ⟨2, rfl, by omega, by omega, Lib.hid (hset.out 1 (n / 65536 % 65536)), Lib.hid (hBs.out 1 (n / 65536 % 65536))⟩
            | exact ⟨3, rfl, by omega, by omega, Lib.hid (hset.out 2 (n / 4294967296 % 65536)), Lib.hid (hBs.out 2 (n / 4294967296 % 65536))⟩
            | exact ⟨4, rfl, by omega, by omega, Lib.hid (hset.out 3 (n / 281474976710656 % 65536)), Lib.hid (hBs.out 3 (n / 281474976710656 % 65536))⟩
        case measure => (first | (simp [intOf]; done) | (simp [intOf]; omega))
    · obtain rfl : z = 4 := by omega
      have hrow : row? wr (w.heap.size + 1) 0 12 = some (wideA (digitsL n)) := row?_of_heap hP.out (by rw [wideA_size]; rfl)
      have hth : there wr w.heap.size 0 12 := there_below hB.out (by omega) hR0.out
      have ho := wideA_one (digitsL n)
      have hsz : (wideA (digitsL n)).size = 12 := by rw [wideA_size]; rfl
      clear hP hn hdn
      obtain ⟨dg, hdg⟩ : ∃ dg, dg = digitsL n := ⟨_, rfl⟩
      rw [← hdg] at hrow ho hsz
      replace hdg := Lib.hid hdg
      go_wp2_with fail
      have hrr : row? (putRow wr w.heap.size 0 (wideA dg)) w.heap.size 0 12 = some (wideA dg) := row?_put_same _ _ _ _ _ hsz (by omega) hth
      refine ret_row Try.isAgg267 Try.sizeOf267 digits_res (x := .pointer (some ⟨w.heap.size, 0, none⟩)) w.heap.size 0 rfl rfl (by rw [hrr]; rfl) rfl ?_
      rw [hrr]
      exact ⟨by rw [← hdg.out]; rfl, by have h1 := hB0.out; have h2 := hB.out.mono (show w.heap.size ≤ w.heap.size + 1 by omega); (repeat' (first | (with_reducible exact Below.refl _ _) | (with_reducible assumption) | (with_reducible refine bel_trans (by assumption) ?_ ?_) | (with_reducible refine bel_grown (by assumption) ?_ ?_ ?_) | (with_reducible refine Below.alloc ?_ ?_ _) | (with_reducible refine Below.drew ?_) | (with_reducible refine below_drewN ?_ _) | (with_reducible refine Below.setCell ?_ ?_ _) | (with_reducible refine below_put ?_ ?_ _ _) | (with_reducible exact Nat.le_refl _) | omega | (with_reducible refine Nat.le_trans ?_ (Below.size (by assumption))) | (with_reducible refine Nat.le_trans ?_ (World.grownBy.size (by assumption))) | (simp only [World.size_alloc, World.size_setCell, World.size_drew, size_drewN]; omega) | (simp only [World.size_alloc, World.size_setCell, World.size_drew, size_drewN, size_put]; omega) | (intro k hk; simp [Value.ownBlock] at hk; done) | (intro k hk; simp [Value.ownBlock] at hk; omega) | (simp [size_drewN] at *; omega)))⟩

theorem pow_small (v i : Nat) (hv : v ≤ 274877906944) (hi : i ≤ 3) : v ^ i < 65536 ^ 12 := by
  have h1 : v ^ i ≤ 274877906944 ^ i := Nat.pow_le_pow_left hv i
  have h2 : 274877906944 ^ i ≤ 274877906944 ^ 3 := Nat.pow_le_pow_right (by omega) hi
  have h3 : (274877906944 : Nat) ^ 3 < 65536 ^ 12 := by decide
  omega
theorem frLoop_step (P pw j root : Nat) : frLoop P pw (j + 1) root = frLoop P pw j (if (root + 2 ^ j) ^ pw ≤ P then root + 2 ^ j else root) := rfl
theorem most_val (p k : Nat) (hk : k < 12) : wval (zeros12.set k p) = p * 65536 ^ k := by
  have hl : k < zeros12.length := hk
  have := wval_set zeros12 k p hl
  rw [zeros12_val] at this
  have h0 : zeros12[k]'hl = 0 := List.getElem_replicate ..
  rw [h0] at this
  omega
theorem most_wide (p k : Nat) (hp : p < 65536) : Wide (zeros12.set k p) := zeros12_wide.set k p hp
theorem pow_65536 (pw : Nat) : 65536 ^ (2 * pw) = 2 ^ (32 * pw) := by
  rw [show (65536 : Nat) = 2 ^ 16 from rfl, ← Nat.pow_mul]
  congr 1
  omega
set_option maxRecDepth 100000 in
set_option maxHeartbeats 6400000 in
theorem fraction_c (p pw : Nat) (hp : p < 65536) (h2 : 2 ≤ pw) (h3 : pw ≤ 3) (w : World) :
    Calls Try.prog 169 #[.int .u64 (p : Int), .int .i64 (pw : Int)] w fun e w' => e = .returned (.int .u32 ((frac p pw : Nat) : Int)) ∧ Below w.heap.size w w' := by
  have hMv := Lib.hid (show wval (zeros12.set (2 * pw) p) = p * 2 ^ (32 * pw) from by rw [most_val _ _ (by omega), pow_65536])
  have hMw := Lib.hid (most_wide p (2 * pw) hp)
  have hfr := Lib.hid (show frac p pw = frLoop (p * 2 ^ (32 * pw)) pw 38 0 % 4294967296 from rfl)
  obtain ⟨W0, hW0⟩ : ∃ W0, W0 = w.alloc (.cells ((wideA zeros12).setIfInBounds (2 * pw) (.int .u64 (p : Int))) 267) := ⟨_, rfl⟩
  have hB0 : Below w.heap.size w W0 := by rw [hW0]; (repeat' (first | (with_reducible exact Below.refl _ _) | (with_reducible assumption) | (with_reducible refine bel_trans (by assumption) ?_ ?_) | (with_reducible refine bel_grown (by assumption) ?_ ?_ ?_) | (with_reducible refine Below.alloc ?_ ?_ _) | (with_reducible refine Below.drew ?_) | (with_reducible refine below_drewN ?_ _) | (with_reducible refine Below.setCell ?_ ?_ _) | (with_reducible refine below_put ?_ ?_ _ _) | (with_reducible exact Nat.le_refl _) | omega | (with_reducible refine Nat.le_trans ?_ (Below.size (by assumption))) | (with_reducible refine Nat.le_trans ?_ (World.grownBy.size (by assumption))) | (simp only [World.size_alloc, World.size_setCell, World.size_drew, size_drewN]; omega) | (simp only [World.size_alloc, World.size_setCell, World.size_drew, size_drewN, size_put]; omega) | (intro k hk; simp [Value.ownBlock] at hk; done) | (intro k hk; simp [Value.ownBlock] at hk; omega) | (simp [size_drewN] at *; omega)))
  have hM0 : W0.heap[w.heap.size]? = some (.cells (wideA (zeros12.set (2 * pw) p)) 267 (0, 0)) := by
    rw [hW0, ← wideA_set]
    exact heap_alloc_new w _
  have hs0 : W0.heap.size = w.heap.size + 1 := by rw [hW0]; simp
  generalize zeros12.set (2 * pw) p = most at *
  generalize hPP : p * 2 ^ (32 * pw) = P at *
  clear hPP
  generalize frac p pw = fr at *
  have j0 : (0 : Int) ≤ (pw : Int) := by omega
  have j1 : (pw : Int) ≤ 3 := by omega
  have j2 : (2 : Int) ≤ (pw : Int) := by omega
  have j3 : (2 * (pw : Int)).toNat = 2 * pw := by omega
  have j4 : 2 * (pw : Int) < 12 := by omega
  have j5 : (0 : Int) ≤ 2 * (pw : Int) := by omega
  have y0 := cell_of_row (w.alloc (.cells (wideA zeros12) 267)) w.heap.size (2 * pw) _ _ _ (heap_alloc_new w _)
  have g0 := frozen_of_row (w.alloc (.cells (wideA zeros12) 267)) w.heap.size (2 * pw) _ _ (heap_alloc_new w _)
  rw [wideA_at _ _ (by show 2 * pw < 12; omega)] at y0
  replace hB0 := Lib.hid hB0
  replace hM0 := Lib.hid hM0
  go_enter Try.func169, Try.ntmps169
  go_wp2_with fail
  rw [← hW0]
  clear hW0 j0 j3 j4 j5 y0 g0
  go_loopw [6, 7, 8, 9, 10] (fun rt i _ _ _ W => ∃ (m root : Nat) (z : Int), i = .int .i64 z ∧ Hid (z = (m : Int) - 1) ∧ m ≤ 38 ∧ rt = .int .u64 (root : Int) ∧ Hid (root + 2 ^ m ≤ 2 ^ 38) ∧ Hid (frLoop P pw m root = frLoop P pw 38 0) ∧ Hid (Below W0.heap.size W0 W)) (fun _ i _ _ _ _ => (intOf i + 1).toNat)
  case atStart => exact ⟨38, 0, 37, rfl, Lib.hid (by omega), Nat.le_refl _, rfl, Lib.hid (by omega), Lib.hid rfl, Lib.hid (Below.refl _ _)⟩
  case round =>
    obtain ⟨m, root, z, rfl, hz, hm, rfl, hroot, hfl, hB⟩ := hrel
    by_cases hmx : 0 < m
    · obtain ⟨j, rfl⟩ : ∃ j, m = j + 1 := ⟨m - 1, by omega⟩
      obtain rfl : z = (j : Int) := by have := hz.out; omega
      have hst := hfl.out
      rw [frLoop_step] at hst
      have hrt := hroot.out
      rw [Nat.pow_succ] at hrt
      have hq0 : 0 < 2 ^ j := Nat.pow_pos (by omega)
      have hpw : (2 : Int) ^ j = ((2 ^ j : Nat) : Int) := by rw [Int.natCast_pow]; rfl
      have hj37 : j ≤ 37 := by omega
      obtain ⟨q, hq⟩ : ∃ q, q = 2 ^ j := ⟨_, rfl⟩
      rw [← hq] at hst hrt hq0 hpw
      have hqj := Lib.hid hq
      clear hq
      obtain ⟨v, hv⟩ : ∃ v, v = root + q := ⟨_, rfl⟩
      have hv38 : v ≤ 274877906944 := by omega
      have hD := fun W => digits_c v (by omega) W
      have hdw := digitsL_wide v
      have hdv := digitsL_val v (by omega)
      have hvc : (v : Int) = (root : Int) + (q : Int) := by omega
      rw [hvc] at hD
      have q0 : (0 : Int) ≤ (j : Int) := by omega
      have q1 : (j : Int) ≤ 37 := by omega
      have q2 : (0 : Int) ≤ (root : Int) := by omega
      have q3 : (root : Int) + (q : Int) ≤ 274877906944 := by omega
      have q4 : (0 : Int) ≤ (q : Int) := by omega
      have q5 : (q : Int) ≤ 274877906944 := by omega
      rw [← hv] at hst
      obtain ⟨dg, hdg⟩ : ∃ dg, dg = digitsL v := ⟨_, rfl⟩
      rw [← hdg] at hD hdw hdv
      have ho := wideA_one dg
      have hsz := (wideA_size dg).trans hdw.1
      replace hdg := Lib.hid hdg
      replace hst := Lib.hid hst
      replace hvc := Lib.hid hvc
      replace hv := Lib.hid hv
      replace hdv := Lib.hid hdv
      replace hdw := Lib.hid hdw
      replace hrt := Lib.hid hrt
      clear hz hroot hfl hmx
      go_wp2_with fail
      refine (hD _).mono ?_
      rintro e w2 ⟨rfl, hb2⟩
      have hB2 := Lib.hid (hB.out.trans (hb2.mono hB.out.size))
      clear hD
      have ht8 := there_new w2 (wideA zeros12) 267 0 12 (by rw [wideA_size]; decide)
      have hrX : row? (putRow (w2.alloc (.cells (wideA zeros12) 267)) w2.heap.size 0 (wideA dg)) w2.heap.size 0 12 = some (wideA dg) := row?_put_same _ _ _ _ _ hsz (by omega) ht8
      go_upto_region 8 with fail
      obtain ⟨w3, hw3⟩ : ∃ w3, w3 = putRow (w2.alloc (.cells (wideA zeros12) 267)) w2.heap.size 0 (wideA dg) := ⟨_, rfl⟩
      have hz3 : w3.heap.size = w2.heap.size + 1 := by rw [hw3, size_put]; simp
      have hB3 := Lib.hid (show Below W0.heap.size W0 w3 from by have := hB2.out; rw [hw3]; (repeat' (first | (with_reducible exact Below.refl _ _) | (with_reducible assumption) | (with_reducible refine bel_trans (by assumption) ?_ ?_) | (with_reducible refine bel_grown (by assumption) ?_ ?_ ?_) | (with_reducible refine Below.alloc ?_ ?_ _) | (with_reducible refine Below.drew ?_) | (with_reducible refine below_drewN ?_ _) | (with_reducible refine Below.setCell ?_ ?_ _) | (with_reducible refine below_put ?_ ?_ _ _) | (with_reducible exact Nat.le_refl _) | omega | (with_reducible refine Nat.le_trans ?_ (Below.size (by assumption))) | (with_reducible refine Nat.le_trans ?_ (World.grownBy.size (by assumption))) | (simp only [World.size_alloc, World.size_setCell, World.size_drew, size_drewN]; omega) | (simp only [World.size_alloc, World.size_setCell, World.size_drew, size_drewN, size_put]; omega) | (intro k hk; simp [Value.ownBlock] at hk; done) | (intro k hk; simp [Value.ownBlock] at hk; omega) | (simp [size_drewN] at *; omega))))
      have hX3 : row? w3 w2.heap.size 0 12 = some (wideA dg) := by rw [hw3]; exact hrX
      have hlx : w2.heap.size < w3.heap.size := by omega
      have hxb0 : W0.heap.size ≤ w2.heap.size := hB2.out.size
      rw [← hw3]
      clear hw3 hrX ht8 hB2 hb2 hz3
      generalize w2.heap.size = xb at *
      have ht9 := there_new w3 (wideA zeros12) 267 0 12 (by rw [wideA_size]; decide)
      have hrY : row? (putRow (w3.alloc (.cells (wideA zeros12) 267)) w3.heap.size 0 (wideA dg)) w3.heap.size 0 12 = some (wideA dg) := row?_put_same _ _ _ _ _ hsz (by omega) ht9
      have hne : ¬ xb = w3.heap.size := by omega
      go_upto_region 9 with fail
      obtain ⟨w4, hw4⟩ : ∃ w4, w4 = putRow (w3.alloc (.cells (wideA zeros12) 267)) w3.heap.size 0 (wideA dg) := ⟨_, rfl⟩
      obtain ⟨yb, hyb⟩ : ∃ yb, yb = w3.heap.size := ⟨_, rfl⟩
      have hY4 : row? w4 yb 0 12 = some (wideA dg) := by rw [hw4, hyb]; exact hrY
      have hT4 : there w4 yb 0 12 := by rw [hw4, hyb]; exact there_put _ _ _ _ _ _ _ ht9
      have hb34 : Below w3.heap.size w3 w4 := by rw [hw4]; (repeat' (first | (with_reducible exact Below.refl _ _) | (with_reducible assumption) | (with_reducible refine bel_trans (by assumption) ?_ ?_) | (with_reducible refine bel_grown (by assumption) ?_ ?_ ?_) | (with_reducible refine Below.alloc ?_ ?_ _) | (with_reducible refine Below.drew ?_) | (with_reducible refine below_drewN ?_ _) | (with_reducible refine Below.setCell ?_ ?_ _) | (with_reducible refine below_put ?_ ?_ _ _) | (with_reducible exact Nat.le_refl _) | omega | (with_reducible refine Nat.le_trans ?_ (Below.size (by assumption))) | (with_reducible refine Nat.le_trans ?_ (World.grownBy.size (by assumption))) | (simp only [World.size_alloc, World.size_setCell, World.size_drew, size_drewN]; omega) | (simp only [World.size_alloc, World.size_setCell, World.size_drew, size_drewN, size_put]; omega) | (intro k hk; simp [Value.ownBlock] at hk; done) | (intro k hk; simp [Value.ownBlock] at hk; omega) | (simp [size_drewN] at *; omega)))
      have hX4 : row? w4 xb 0 12 = some (wideA dg) := (row?_below _ _ _ hb34 hlx).trans hX3
      have hB4 := Lib.hid (hB3.out.trans (hb34.mono hB3.out.size))
      have hlx4 : xb < yb := by omega
      have hW0x : W0.heap.size ≤ xb := hxb0
      rw [← hw4, ← hyb]
      clear hw4 hrY ht9 hb34 hyb hX3 hB3 hne hlx
      go_wp2_with fail
      -- the power
      go_loopw [10] (fun i W => ∃ (k : Nat) (d : List Nat), 1 ≤ k ∧ k ≤ pw ∧ i = .int .i64 k ∧ Hid (Wide d ∧ wval d = v ^ k) ∧ row? W yb 0 12 = some (wideA d) ∧ there W yb 0 12 ∧ row? W xb 0 12 = some (wideA dg) ∧ Hid (Below W0.heap.size W0 W) ∧ yb < W.heap.size) (fun i _ => pw - (intOf i).toNat)
      case atStart => exact ⟨1, dg, Nat.le_refl _, by omega, rfl, Lib.hid ⟨hdw.out, by rw [hdv.out, Nat.pow_one]⟩, hY4, hT4, hX4, hB4, lt_of_row hY4⟩
      case round =>
        clear hY4 hT4 hX4 hB4
        obtain ⟨k, d, hk1, hkp, rfl, hd, hY, hT, hX, hBk, hly⟩ := hrel
        have k0 : (0 : Int) ≤ (k : Int) := by omega
        have hsd := (wideA_size d).trans hd.out.1.1
        have hod := wideA_one d
        by_cases hkx : k < pw
        · have k1 : (k : Int) < (pw : Int) := by omega
          have k3 : (k : Int) ≤ 3 := by omega
          have HT := fun W => times_c d dg hd.out.1 hdw.out W
          have hpk := Lib.hid (show (wval d * wval dg) % 65536 ^ 12 = v ^ (k + 1) by
            rw [hd.out.2, hdv.out, ← Nat.pow_succ]
            exact Nat.mod_eq_of_lt (pow_small v (k + 1) hv38 (by omega)))
          go_wp2_with fail
          (with_reducible refine (HT _).mono ?_)
          clear HT
          rintro e w5 ⟨p5, rfl, hp5, hv5, hb5⟩
          have hop := wideA_one p5
          have hsp := (wideA_size p5).trans hp5.1
          have hY5 := (row?_below _ 0 12 hb5 hly).trans hY
          have hT5 := there_below hb5 hly hT
          have hX5 := (row?_below _ 0 12 hb5 (by omega : xb < wr.heap.size)).trans hX
          have hl5 : yb < w5.heap.size := Nat.lt_of_lt_of_le hly hb5.size
          have hB5 := hBk.out.trans (hb5.mono hBk.out.size)
          have hY6 : row? (putRow w5 yb 0 (wideA p5)) yb 0 12 = some (wideA p5) := row?_put_same _ _ _ _ _ hsp (by omega) hT5
          have hT6 : there (putRow w5 yb 0 (wideA p5)) yb 0 12 := there_put _ _ _ _ _ _ _ hT5
          have hX6 : row? (putRow w5 yb 0 (wideA p5)) xb 0 12 = some (wideA dg) := (row?_put_far _ _ _ _ _ _ _ (by omega)).trans hX5
          have hB6 := Lib.hid (show Below W0.heap.size W0 (putRow w5 yb 0 (wideA p5)) from below_put hB5 (by omega) _ _)
          have hl6 : yb < (putRow w5 yb 0 (wideA p5)).heap.size := by rw [size_put]; exact hl5
          have hd6 := Lib.hid (show Wide p5 ∧ wval p5 = v ^ (k + 1) from ⟨hp5, hv5.trans hpk.out⟩)
          clear hb5 hY hT hX hBk hd hY5 hX5 hB5
          go_wp2_with fail
          go_roundw
          case rel => exact ⟨k + 1, p5, by omega, by omega, by go_num, hd6, hY6, hT6, hX6, hB6, hl6⟩
          case measure => (first | (simp [intOf]; done) | (simp [intOf]; omega))
        · obtain rfl : k = pw := by omega
          have HA := fun W => above_c d most hd.out.1 hMw.out W
          rw [hMv.out, hd.out.2] at HA
          have hM4 : row? wr w.heap.size 0 12 = some (wideA most) := (row?_below _ 0 12 hBk.out (by omega)).trans (row?_of_heap hM0.out ((wideA_size most).trans hMw.out.1))
          clear hdw hdv hd hX hT
          go_wp2_with fail
          (with_reducible refine (HA _).mono ?_)
          clear HA
          rintro e w5 ⟨rfl, hb5⟩
          have hB5 := Lib.hid (hBk.out.trans (hb5.mono hBk.out.size))
          clear hb5 hBk hY hM4
          by_cases hle : v ^ k ≤ P
          · have hdd : decide (P < v ^ k) = false := decide_eq_false (by omega)
            have hst2 := Lib.hid (show frLoop P k j v = frLoop P k 38 0 by have := hst.out; rwa [if_pos hle] at this)
            have hrr := Lib.hid (show v + 2 ^ j ≤ 2 ^ 38 from by have := hrt.out; have := hv.out; have := hqj.out; omega)
            clear hst hle
            go_wp2_with fail
            go_roundw
            case rel => exact ⟨j, v, (j : Int) - 1, rfl, Lib.hid rfl, by omega, congrArg (Value.int .u64) hvc.out.symm, hrr, hst2, hB5⟩
            case measure => (first | (simp [intOf]; done) | (simp [intOf]; omega))
          · have hdd : decide (P < v ^ k) = true := decide_eq_true (by omega)
            have hst2 := Lib.hid (show frLoop P k j root = frLoop P k 38 0 by have := hst.out; rwa [if_neg hle] at this)
            have hrr := Lib.hid (show root + 2 ^ j ≤ 2 ^ 38 from by have := hrt.out; have := hqj.out; omega)
            clear hst hle
            go_wp2_with fail
            go_roundw
            case rel => exact ⟨j, root, (j : Int) - 1, rfl, Lib.hid rfl, by omega, rfl, hrr, hst2, hB5⟩
            case measure => (first | (simp [intOf]; done) | (simp [intOf]; omega))
    · obtain rfl : m = 0 := by omega
      obtain rfl : z = -1 := by have := hz.out; omega
      have hre : root % 4294967296 = fr := by rw [hfr.out, ← hfl.out]; rfl
      have hx : (root : Int) % 4294967296 = (fr : Int) := by omega
      have q0 : (0 : Int) ≤ (root : Int) := by omega
      clear hre
      clear hfl hfr hroot hz
      go_wp2_with fail
      go_ret
      exact ⟨rfl, hB0.out.trans (hB.out.mono hB0.out.size)⟩
end Go.Proofs.Ythdjhbiigmcecaa

/- Contracts of the document's SHA-256: primes, Begin, rot, followed. -/
namespace Go.Proofs.Ythdjhbiigmcecaa
open Go.RowKit

/-- a number of 64 bits, one cell -/
def u64A (n : Nat) : Array Value := #[.int .u64 (n : Int)]
theorem u64A_size (n : Nat) : (u64A n).size = 1 := rfl
theorem u64A_onecell (n : Nat) : ∀ u ∈ (u64A n).toList, u.oneCell' = true := by
  intro u hu
  simp [u64A] at hu
  subst hu
  rfl
theorem info_u64 : (Try.prog.info? 22).map (fun i => (i.zero, i.size, i.bytes)) = some (some (.int .u64 0), 1, 8) := by kernel_rfl
def bs64 (n : Nat) (parts : Array (Nat × Value)) : Sem Value := Instr.buildSlice 241 n parts
theorem fold_bs64 (n : Nat) (parts : Array (Nat × Value)) : Instr.buildSlice 241 n parts = bs64 n parts := rfl
theorem bs_64 (x : Nat) (w : World) : (bs64 1 #[(0, .int .u64 (x : Int))]).run Try.prog w = .ok (.slice (some ⟨w.heap.size, 0, none⟩) 1 1) (w.alloc (.cells (u64A x) 22)) := by
  obtain ⟨i0, hi, hy0, hy1, hy2⟩ := info_parts info_u64
  exact run_buildSlice_one w Try.underlying241 hi hy0 hy1 (by simp [Value.cells]) (by omega) (by omega) _ (by simp [Value.cells])
def app64 (args : Array Value) : Sem Value := Builtin.append_ #[241, 241] 241 args
theorem fold_app64 (args : Array Value) : Builtin.append_ #[241, 241] 241 args = app64 args := rfl
attribute [local go_sem ↓] fold_bs64 fold_app64

theorem prAll_take (l : List Nat) (f : Nat → Bool) (j : Nat) (hj : j < l.length) : (l.take (j + 1)).all f = ((l.take j).all f && f l[j]) := by
  rw [List.take_succ_eq_append_getElem hj, List.all_append]
  simp
set_option maxRecDepth 100000 in
set_option maxHeartbeats 3200000 in
theorem primes_c (w : World) :
    Calls Try.prog 168 #[] w fun e w' => ∃ s : Sl, e = .returned s.v ∧ OwnC w' w.heap.size 1 s.v p64.length (flatC u64A p64) ∧ Below w.heap.size w w' := by
  obtain ⟨i0', hi, hy0, hy1, hy2⟩ := info_parts info_u64
  go_enter Try.func168, Try.ntmps168
  go_wp2_with fail
  go_loopw [1, 2, 3, 4] (fun l n _ _ W => ∃ (k : Nat) (s : Sl), k ≤ 310 ∧ l = s.v ∧ n = .int .u64 ((k : Int) + 2) ∧ Hid (OwnC W w.heap.size 1 s.v (prTo k).length (flatC u64A (prTo k))) ∧ Hid (Below w.heap.size w W)) (fun _ n _ _ _ => 320 - (intOf n).toNat)
  case atStart => exact ⟨0, ⟨none, 0, 0⟩, by omega, rfl, rfl, Lib.hid (OwnC.nil _ _ _), Lib.hid (Below.refl _ _)⟩
  case round =>
    obtain ⟨k, s, hk, rfl, rfl, hown, hB⟩ := hrel
    have hrows := rows_of_own u64A u64A_size (by omega) hown.out
    obtain ⟨sa, sn, sc⟩ := s
    have hn : sn = (prTo k).length := hrows.1
    subst hn
    by_cases hkx : k < 310
    · have hlow := prTo_low k hkx
      have hstep : prTo (k + 1) = prStep (prTo k) (k + 2) := rfl
      have hge := prTo_ge k
      obtain ⟨l2, hle⟩ : ∃ l2, l2 = prTo (k + 1) := ⟨_, rfl⟩
      rw [← hle] at hstep
      replace hle := Lib.hid hle
      generalize prTo k = l at *
      have q0 : (l.length : Int) < 64 := by omega
      have q1 : (0 : Int) ≤ (l.length : Int) := by omega
      have q2 : (0 : Int) ≤ (k : Int) := by omega
      have q3 : (k : Int) < 310 := by omega
      replace hstep := Lib.hid hstep
      have hB1 := Lib.hid (Below.refl wr.heap.size wr)
      dsimp only [Sl.v] at hown ⊢
      go_wp2_with fail
      go_loopw [3, 4] (fun p i W => ∃ j : Nat, j ≤ l.length ∧ i = .int .i64 (j : Int) ∧ p = .bool ((l.take j).all (fun x => (k + 2) % x != 0)) ∧ Hid (Below wr.heap.size wr W)) (fun _ i _ => l.length - (intOf i).toNat)
      case atStart => exact ⟨0, by omega, rfl, rfl, hB1⟩
      case round =>
        clear hB1
        obtain ⟨j, hj, rfl, rfl, hB2⟩ := hrel
        have j0 : (0 : Int) ≤ (j : Int) := by omega
        by_cases hjx : j < l.length
        · obtain ⟨b, off, hsv, hlt, hcell⟩ := hrows.at (by omega)
          injection hsv with hsa hsc
          subst hsa
          obtain ⟨cs, hrow, rfl⟩ := hcell j hjx
          have hc1 := cell_of_row? hrow 0 (by omega)
          rw [Nat.mul_one, Nat.add_zero] at hc1
          have hc : wr.cell? ⟨b, off + j, none⟩ = some (.int .u64 (l[j] : Int)) := (hB2.out.cell (p := ⟨b, off + j, none⟩) hlt).trans hc1
          clear hc1 hrow hcell
          have hx2 := hge l[j] (List.getElem_mem _)
          have hall := Lib.hid (prAll_take l (fun x => (k + 2) % x != 0) j hjx)
          generalize l[j] = x at *
          have x1 : ¬ (x : Int) = 0 := by omega
          have j1 : (j : Int) < (l.length : Int) := by omega
          have e : ((k : Int) + 2) % (x : Int) = (((k + 2) % x : Nat) : Int) := by rw [Int.natCast_emod]; rfl
          by_cases hd : (k + 2) % x = 0
          · have hm : (((k : Int) + 2) % (x : Int) == 0) = true := by rw [e, hd]; rfl
            have hl := Lib.hid (show false = (l.take (j + 1)).all (fun x => (k + 2) % x != 0) from by rw [hall.out, hd]; simp)
            clear e hall hge
            go_wp2_with fail
            go_roundw
            case rel => exact ⟨j + 1, by omega, by go_num, congrArg Value.bool hl.out, hB2⟩
            case measure => (first | (simp [intOf]; done) | (simp [intOf]; omega))
          · have hm : (((k : Int) + 2) % (x : Int) == 0) = false := by rw [e]; simp; omega
            have hl := Lib.hid (show (l.take j).all (fun x => (k + 2) % x != 0) = (l.take (j + 1)).all (fun x => (k + 2) % x != 0) from by rw [hall.out]; simp [hd])
            clear e hall hge
            go_wp2_with fail
            go_roundw
            case rel => exact ⟨j + 1, by omega, by go_num, congrArg Value.bool hl.out, hB2⟩
            case measure => (first | (simp [intOf]; done) | (simp [intOf]; omega))
        · obtain rfl : j = l.length := by omega
          have hown2 := hown.out.keep hB2.out
          rw [List.take_length]
          have hB3 := Lib.hid (hB.out.trans (hB2.out.mono hB.out.size))
          have hbase : w.heap.size ≤ (wr.alloc (.cells (u64A (k + 2)) 22)).heap.size := by
            have := hB3.out.size
            simp
            omega
          by_cases hall : l.all (fun x => (k + 2) % x != 0) = true
          · have hl2 : l2 = l ++ [k + 2] := by rw [hstep.out, prStep, if_pos hall]
            rw [hall]
            obtain ⟨s5, x5, hrun, hown5, hg5, hob5⟩ := run_append_one (P := Try.prog) u64A u64A_size (wr.alloc (.cells (u64A (k + 2)) 22)) 241 u64A_onecell w.heap.size 22 i0' _ 8 Try.underlying241 hi hy0 hy1 hy2 (by simp [Value.cells]) _ l (hown2.keep ((Below.refl _ wr).alloc (Nat.le_refl _) _)) wr.heap.size 1 (k + 2) (heap_alloc_new wr _) (by omega) (by omega) hbase
            rw [← hl2] at hown5
            have hb5 := Lib.hid (show Below w.heap.size w x5 from (hB3.out.alloc hB3.out.size _).grown hg5 hbase (fun b hb => (hown2.lt b hb).1))
            have hbs : (bs64 1 #[(0, .int .u64 ((k : Int) + 2))]).run Try.prog wr = .ok (.slice (some ⟨wr.heap.size, 0, none⟩) 1 1) (wr.alloc (.cells (u64A (k + 2)) 22)) := bs_64 (k + 2) wr
            obtain ⟨s5a, s5n, s5c⟩ := s5
            rw [fold_app64] at hrun
            replace hrun := hrun.trans (rfl : _ = Result.ok (Value.slice s5a s5n s5c) x5)
            replace hown5 := Lib.hid hown5
            clear hown hown2 hB hB2 hB3 hrows hg5 hob5 hbase hall hge
            go_wp2_with fail
            go_roundw
            case rel => exact ⟨k + 1, ⟨s5a, s5n, s5c⟩, by omega, rfl, by go_num, Lib.hid (by rw [← hle.out]; exact hown5.out), hb5⟩
            case measure => (first | (simp [intOf]; done) | (simp [intOf]; omega))
          · have hl2 : l2 = l := by rw [hstep.out, prStep, if_neg hall]
            have hall2 : l.all (fun x => (k + 2) % x != 0) = false := by simpa using hall
            rw [hall2]
            replace hown2 := Lib.hid hown2
            clear hown hB hB2 hrows hbase hall hge hi hy0 hy1 hy2
            go_wp2_with fail
            go_roundw
            case rel => exact ⟨k + 1, ⟨sa, l.length, sc⟩, by omega, rfl, by go_num, Lib.hid (by rw [← hle.out]; rw [hl2]; exact hown2.out), hB3⟩
            case measure => (first | (simp [intOf]; done) | (simp [intOf]; omega))
    · obtain rfl : k = 310 := by omega
      rw [prTo_310] at hown hrows ⊢
      have hp : p64.length = 64 := rfl
      rw [hp] at hown ⊢
      clear hrows
      go_wp2_with fail
      go_ret
      exact ⟨⟨sa, 64, sc⟩, rfl, hown.out, hB.out⟩

end Go.Proofs.Ythdjhbiigmcecaa

/- Contracts of the document's SHA-256: Begin. -/
namespace Go.Proofs.Ythdjhbiigmcecaa
open Go.RowKit

/-- the words found up to the i-th -/
def begL (i : Nat) : List UInt32 := shaH.list.take i ++ List.replicate (8 - i) 0 ++ shaK.take i ++ List.replicate (64 - i) 0
def begA (l : List UInt32) : Array Value := (l.map u32V).toArray
/-- all words: the start's and the constants -/
def begAll : List UInt32 := shaH.list ++ shaK
set_option maxRecDepth 100000 in
theorem begL_all : begL 64 = begAll := by decide +kernel
set_option maxRecDepth 100000 in
theorem begL_len : ∀ i < 65, (begL i).length = 72 := by decide +kernel
set_option maxRecDepth 100000 in
theorem begL_low : ∀ i < 8, ((begL i).set (8 + i) (kOf i)).set i (shaH.at i) = begL (i + 1) := by decide +kernel
set_option maxRecDepth 100000 in
theorem begL_high : ∀ i < 64, 8 ≤ i → (begL i).set (8 + i) (kOf i) = begL (i + 1) := by decide +kernel
theorem map_eq_get {α β γ : Type} (f : α → γ) (g : β → γ) (l : List α) (m : List β) (h : l.map f = m.map g) (i : Nat) (h1 : i < l.length) (h2 : i < m.length) : f l[i] = g m[i] := by
  have := congrArg (fun l => l[i]?) h
  simpa [h1, h2] using this
theorem p64_len : p64.length = 64 := rfl
theorem p64_frac_k (i : Nat) (hi : i < 64) : frac (p64[i]'(by rw [p64_len]; exact hi)) 3 = (kOf i).toNat := by
  rw [kOf_eq i hi]
  exact map_eq_get _ _ _ _ frac_k i _ _
theorem take_get {α : Type} (l : List α) (n i : Nat) (h : i < l.length) (hn : i < n) : (l.take n)[i]'(by rw [List.length_take]; omega) = l[i] := List.getElem_take
theorem p64_frac_h (i : Nat) (hi : i < 8) : frac (p64[i]'(by rw [p64_len]; omega)) 2 = (shaH.at i).toNat := by
  rw [← S8.at_eq _ i hi, ← take_get p64 8 i (by rw [p64_len]; omega) hi]
  exact map_eq_get (fun p => frac p 2) UInt32.toNat _ _ frac_h i _ _
theorem p64_small : ∀ p ∈ p64, p < 65536 := by decide +kernel
theorem begA_size (l : List UInt32) : (begA l).size = l.length := by simp [begA]
theorem begA_one (l : List UInt32) : oneCells (begA l) := by simp [oneCells, begA, u32V, Value.oneCell']
theorem begA_set (l : List UInt32) (i : Nat) (x : UInt32) : (begA l).setIfInBounds i (u32V x) = begA (l.set i x) := by
  simp [begA, List.map_set]
theorem load_bg_s (x : Value) : Instr.loadAt 160 x = loadAgg 160 x := rfl
theorem load_bg (w : World) (b off : Nat) (h : (row? w b off 72).isSome = true) : (loadAgg 160 (.pointer (some ⟨b, off, none⟩))).run Try.prog w = .ok (.agg ((row? w b off 72).getD #[])) w := run_loadAgg Try.isAgg160 Try.sizeOf160 w b off h
theorem store_bg_s (x v : Value) : Instr.storeAt 160 x v = storeAgg 160 x v := rfl
theorem info_bg : (Try.prog.info? 160).map (·.size) = some 72 := by kernel_rfl
theorem store_bg (w : World) (b off : Nat) (xs : Array Value) (hn : xs.size = 72) (h1 : oneCells xs) (ht : there w b off 72) : (storeAgg 160 (.pointer (some ⟨b, off, none⟩)) (.agg xs)).run Try.prog w = .ok () (putRow w b off xs) := run_storeAgg info_bg w b off xs hn h1 ht
def begZ : Array Value := begA (begL 0)
theorem zero_bg : Try.zeroCells160 = begZ := by kernel_rfl
attribute [local go_sem] load_bg store_bg
attribute [local go_sem ↓] load_bg_s store_bg_s zero_bg
theorem Begin_res : Try.f98.results = #[.cell 0 160] := by kernel_rfl

theorem begA_at (l : List UInt32) (i : Nat) (h : i < l.length) : (begA l)[i]? = some (u32V l[i]) := by
  simp [begA, h]
set_option maxRecDepth 100000 in
set_option maxHeartbeats 3200000 in
theorem begin_c (w : World) :
    Calls Try.prog 98 #[] w fun e w' => e = .returned (.agg (begA begAll)) ∧ Below w.heap.size w w' := by
  go_enter Try.func98, Try.ntmps98
  go_wp2_with fail
  refine (primes_c _).mono ?_
  rintro e w2 ⟨sl, rfl, hown, hb2⟩
  have hB2 := Lib.hid (show Below w.heap.size w w2 from by (repeat' (first | (with_reducible exact Below.refl _ _) | (with_reducible assumption) | (with_reducible refine bel_trans (by assumption) ?_ ?_) | (with_reducible refine bel_grown (by assumption) ?_ ?_ ?_) | (with_reducible refine Below.alloc ?_ ?_ _) | (with_reducible refine Below.drew ?_) | (with_reducible refine below_drewN ?_ _) | (with_reducible refine Below.setCell ?_ ?_ _) | (with_reducible refine below_put ?_ ?_ _ _) | (with_reducible exact Nat.le_refl _) | omega | (with_reducible refine Nat.le_trans ?_ (Below.size (by assumption))) | (with_reducible refine Nat.le_trans ?_ (World.grownBy.size (by assumption))) | (simp only [World.size_alloc, World.size_setCell, World.size_drew, size_drewN]; omega) | (simp only [World.size_alloc, World.size_setCell, World.size_drew, size_drewN, size_put]; omega) | (intro k hk; simp [Value.ownBlock] at hk; done) | (intro k hk; simp [Value.ownBlock] at hk; omega) | (simp [size_drewN] at *; omega))))
  have hz2 : (w.heap.size + 1) + 1 ≤ w2.heap.size := by have := hb2.size; simpa using this
  have hT2 : there w2 w.heap.size 0 72 := by
    have h1 := there_new w begZ 160 0 72 (by decide)
    have h2 := there_old _ (.cells begZ 160) _ _ _ (by simp) h1
    exact there_below hb2 (by simp; omega) h2
  have hP2 : w2.heap[w.heap.size + 1]? = some (.cells (begA (begL 0)) 160 (0, 0)) := by
    have h1 := heap_alloc_new (w.alloc (.cells begZ 160)) (.cells begZ 160)
    rw [hb2.block _ (by simp)]
    rw [show (w.alloc (.cells begZ 160)).heap.size = w.heap.size + 1 from by simp] at h1
    exact h1
  obtain ⟨b, off, hsl, hlt, hcell⟩ := (rows_of_own u64A u64A_size (by omega) hown).at (by rw [p64_len]; omega)
  have hbge : (w.heap.size + 1) + 1 ≤ b := by
    have := (hown.lt b (by rw [hsl]; rfl)).1
    simpa using this
  obtain ⟨sa, sn, sc⟩ := sl
  injection hsl with h1 h2
  subst h1 h2
  rw [p64_len] at hown ⊢
  clear hown hb2
  have hcell2 := Lib.hid hcell
  clear hcell
  replace hT2 := Lib.hid hT2
  replace hP2 := Lib.hid hP2
  dsimp only [Sl.v]
  go_wp2_with fail
  go_loopw [3] (fun i W => ∃ j : Nat, j ≤ 64 ∧ i = .int .i64 (j : Int) ∧ Hid (W.heap[w.heap.size + 1]? = some (.cells (begA (begL j)) 160 (0, 0))) ∧ Hid (Below (w.heap.size + 1) w2 W) ∧ Hid (W.heap[b]? = w2.heap[b]?)) (fun i _ => 64 - (intOf i).toNat)
  case atStart => exact ⟨0, by omega, rfl, hP2, Lib.hid (Below.refl _ _), Lib.hid rfl⟩
  case round =>
    clear hP2
    obtain ⟨j, hj, rfl, hP, hB, hbk⟩ := hrel
    have j0 : (0 : Int) ≤ (j : Int) := by omega
    by_cases hjx : j < 64
    · have j1 : (j : Int) < 64 := by omega
      obtain ⟨cs, hrow, rfl⟩ := hcell2.out j (by rw [p64_len]; exact hjx)
      have hc1 := cell_of_row? hrow 0 (by omega)
      rw [Nat.mul_one, Nat.add_zero] at hc1
      have hc : wr.cell? ⟨b, off + j, none⟩ = some (.int .u64 ((p64[j]'(by rw [p64_len]; exact hjx) : Nat) : Int)) := (World.cell?_of_block (a := ⟨b, off + j, none⟩) hbk.out).trans hc1
      have hx := p64_small _ (List.getElem_mem (by rw [p64_len]; exact hjx : j < p64.length))
      have hF3 := fun W => fraction_c (p64[j]'(by rw [p64_len]; exact hjx)) 3 hx (by omega) (by omega) W
      rw [p64_frac_k j hjx] at hF3
      have hF2 := fun W => fraction_c (p64[j]'(by rw [p64_len]; exact hjx)) 2 hx (by omega) (by omega) W
      obtain ⟨x, hx0⟩ : ∃ x, x = p64[j]'(by rw [p64_len]; exact hjx) := ⟨_, rfl⟩
      have hf2 : Hid (j < 8 → frac x 2 = (shaH.at j).toNat) := Lib.hid (fun h => by rw [hx0]; exact p64_frac_h j h)
      rw [← hx0] at hF3 hF2 hc
      replace hx0 := Lib.hid hx0
      clear hc1 hrow hx
      go_wp2_with fail
      refine (hF3 _).mono ?_
      rintro e w5 ⟨rfl, hb5⟩
      have hlt1 : w.heap.size + 1 < wr.heap.size := lt_of_block hP.out
      have hP5 := (hb5.block _ hlt1).trans hP.out
      have hB5 := hB.out.trans (hb5.mono (by omega))
      have hbw : b < wr.heap.size := by
        have := hB.out.size
        omega
      have hbk5 := (hb5.block _ hbw).trans hbk.out
      have hl72 := begL_len j (by omega)
      have y0 := (cell_of_row w5 (w.heap.size + 1) (8 + j) _ _ _ hP5).trans (begA_at (begL j) (8 + j) (by rw [hl72]; omega))
      have g0 := frozen_of_row w5 (w.heap.size + 1) (8 + j) _ _ hP5
      obtain ⟨w6, hw6⟩ : ∃ w6, w6 = w5.setCell ⟨w.heap.size + 1, 8 + j, none⟩ (.int .u32 (((kOf j).toNat : Nat) : Int)) := ⟨_, rfl⟩
      have hP6 : w6.heap[w.heap.size + 1]? = some (.cells (begA ((begL j).set (8 + j) (kOf j))) 160 (0, 0)) := by
        rw [hw6, ← begA_set]
        exact heap_set w5 (w.heap.size + 1) (8 + j) _ _ (u32V (kOf j)) hP5
      have hB6 : Below (w.heap.size + 1) w2 w6 := by
        rw [hw6]
        exact hB5.setCell (p := ⟨w.heap.size + 1, 8 + j, none⟩) (Nat.le_refl _) _
      have hbk6 : w6.heap[b]? = w2.heap[b]? := by
        rw [hw6]
        exact (heap_setCell_other w5 ⟨w.heap.size + 1, 8 + j, none⟩ b _ (by show b ≠ w.heap.size + 1; omega)).trans hbk5
      clear hF3 hP hB hbk hb5 hP5 hB5 hbk5 hc hlt1 hbw
      go_upto_region 7 with fail
      rw [← hw6]
      clear hw6 y0 g0
      by_cases h8 : j < 8
      · have j8 : (j : Int) < 8 := by omega
        rw [hf2.out h8] at hF2
        obtain ⟨cs, hrow, rfl⟩ := hcell2.out j (by rw [p64_len]; exact hjx)
        have hc1 := cell_of_row? hrow 0 (by omega)
        rw [Nat.mul_one, Nat.add_zero] at hc1
        have hc : w6.cell? ⟨b, off + j, none⟩ = some (.int .u64 ((x : Nat) : Int)) := by
          rw [hx0.out]
          exact (World.cell?_of_block (a := ⟨b, off + j, none⟩) hbk6).trans hc1
        have hlow := begL_low j h8
        have hl72' : ((begL j).set (8 + j) (kOf j)).length = 72 := by rw [List.length_set]; exact hl72
        generalize (begL j).set (8 + j) (kOf j) = bl at *
        clear hrow hc1
        go_wp2_with fail
        refine (hF2 _).mono ?_
        rintro e w7 ⟨rfl, hb7⟩
        have hP7 := (hb7.block _ (lt_of_block hP6)).trans hP6
        have hB7 := hB6.trans (hb7.mono (by have := lt_of_block hP6; omega))
        have hbk7 := (hb7.block _ (by have := hB6.size; omega)).trans hbk6
        have y0 := (cell_of_row w7 (w.heap.size + 1) j _ _ _ hP7).trans (begA_at bl j (by rw [hl72']; omega))
        have g0 := frozen_of_row w7 (w.heap.size + 1) j _ _ hP7
        obtain ⟨w8, hw8⟩ : ∃ w8, w8 = w7.setCell ⟨w.heap.size + 1, j, none⟩ (.int .u32 (((shaH.at j).toNat : Nat) : Int)) := ⟨_, rfl⟩
        have hP8 : w8.heap[w.heap.size + 1]? = some (.cells (begA (begL (j + 1))) 160 (0, 0)) := by
          rw [hw8, ← hlow, ← begA_set]
          exact heap_set w7 (w.heap.size + 1) j _ _ (u32V (shaH.at j)) hP7
        have hB8 : Below (w.heap.size + 1) w2 w8 := by
          rw [hw8]
          exact hB7.setCell (p := ⟨w.heap.size + 1, j, none⟩) (Nat.le_refl _) _
        have hbk8 : w8.heap[b]? = w2.heap[b]? := by
          rw [hw8]
          exact (heap_setCell_other w7 ⟨w.heap.size + 1, j, none⟩ b _ (by show b ≠ w.heap.size + 1; omega)).trans hbk7
        clear hF2 hb7 hP7 hB7 hbk7 hP6 hB6 hbk6 hc hf2
        go_wp2_with fail
        rw [← hw8]
        clear hw8 y0 g0
        go_roundw
        case rel => exact ⟨j + 1, by omega, by go_num, Lib.hid hP8, Lib.hid hB8, Lib.hid hbk8⟩
        case measure => (first | (simp [intOf]; done) | (simp [intOf]; omega))
      · have j8 : ¬ (j : Int) < 8 := by omega
        rw [begL_high j hjx (by omega)] at hP6
        clear hF2 hf2
        go_wp2_with fail
        go_roundw
        case rel => exact ⟨j + 1, by omega, by go_num, Lib.hid hP6, Lib.hid hB6, Lib.hid hbk6⟩
        case measure => (first | (simp [intOf]; done) | (simp [intOf]; omega))
    · obtain rfl : j = 64 := by omega
      have hP2 := hP.out
      rw [begL_all] at hP2
      have hsz : (begA begAll).size = 72 := by rw [begA_size]; rfl
      have ho := begA_one begAll
      have hrow : row? wr (w.heap.size + 1) 0 72 = some (begA begAll) := row?_of_heap hP2 hsz
      have hth : there wr w.heap.size 0 72 := there_below hB.out (by omega) hT2.out
      clear hP hP2 hbk hcell2
      obtain ⟨ba, hba⟩ : ∃ ba, ba = begA begAll := ⟨_, rfl⟩
      rw [← hba] at hsz ho hrow
      replace hba := Lib.hid hba
      go_wp2_with fail
      have hrr : row? (putRow wr w.heap.size 0 ba) w.heap.size 0 72 = some ba := row?_put_same _ _ _ _ _ hsz (by omega) hth
      refine ret_row Try.isAgg160 Try.sizeOf160 Begin_res (x := .pointer (some ⟨w.heap.size, 0, none⟩)) w.heap.size 0 rfl rfl (by rw [hrr]; rfl) rfl ?_
      rw [hrr]
      exact ⟨by rw [← hba.out]; rfl, by have h1 := hB2.out; have h2 := hB.out.mono (show w.heap.size ≤ w.heap.size + 1 by omega); (repeat' (first | (with_reducible exact Below.refl _ _) | (with_reducible assumption) | (with_reducible refine bel_trans (by assumption) ?_ ?_) | (with_reducible refine bel_grown (by assumption) ?_ ?_ ?_) | (with_reducible refine Below.alloc ?_ ?_ _) | (with_reducible refine Below.drew ?_) | (with_reducible refine below_drewN ?_ _) | (with_reducible refine Below.setCell ?_ ?_ _) | (with_reducible refine below_put ?_ ?_ _ _) | (with_reducible exact Nat.le_refl _) | omega | (with_reducible refine Nat.le_trans ?_ (Below.size (by assumption))) | (with_reducible refine Nat.le_trans ?_ (World.grownBy.size (by assumption))) | (simp only [World.size_alloc, World.size_setCell, World.size_drew, size_drewN]; omega) | (simp only [World.size_alloc, World.size_setCell, World.size_drew, size_drewN, size_put]; omega) | (intro k hk; simp [Value.ownBlock] at hk; done) | (intro k hk; simp [Value.ownBlock] at hk; omega) | (simp [size_drewN] at *; omega)))⟩
end Go.Proofs.Ythdjhbiigmcecaa

/- Contracts of the document's SHA-256: rot, followed. -/
namespace Go.Proofs.Ythdjhbiigmcecaa
open Go.RowKit

theorem rot_sum (x : UInt32) (n k : Nat) (hn : n < 32) (hk : k < 32) (hnk : n + k = 32) (h : (32 : UInt32) - UInt32.ofNat n = UInt32.ofNat k) :
    u32I x / ((2 ^ n : Nat) : Int) + u32I x * ((2 ^ k : Nat) : Int) % 4294967296 = u32I (rotr x (UInt32.ofNat n)) := by
  have hlt := x.toNat_lt
  have hA : u32I x * ((2 ^ k : Nat) : Int) % 4294967296 = ((x.toNat * 2 ^ k % 4294967296 : Nat) : Int) := by unfold u32I; rw [Int.natCast_emod, Int.natCast_mul]; rfl
  have hB : u32I x / ((2 ^ n : Nat) : Int) = ((x.toNat / 2 ^ n : Nat) : Int) := by unfold u32I; rw [Int.natCast_ediv]
  have hb : x.toNat / 2 ^ n < 2 ^ k := by
    rw [Nat.div_lt_iff_lt_mul (Nat.pow_pos (by omega)), ← Nat.pow_add, show k + n = 32 by omega]
    omega
  have ha : x.toNat * 2 ^ k % 4294967296 % 2 ^ k = 0 := by
    rw [Nat.mod_mod_of_dvd _ (by rw [show (4294967296 : Nat) = 2 ^ 32 from rfl]; exact Nat.pow_dvd_pow 2 (by omega))]
    exact Nat.mul_mod_left _ _
  have hk32 : 2 ^ k ≤ 2 ^ 32 := Nat.pow_le_pow_right (by omega) (by omega)
  rw [← rot_or x n k hn hk h, hA, hB, u32_or_nat _ _ (Nat.mod_lt _ (by omega)) (by omega), nat_join k _ _ ha hb]
  omega
theorem rrot2 (x : UInt32) (w : World) :
    Calls Try.prog 171 #[.int .u32 (u32I x), .int .u64 2] w fun e w' => e = .returned (.int .u32 (u32I (rotr x 2))) ∧ w = w' := by
  obtain ⟨h0, h1⟩ := u32I_bd x
  have hr : u32I x / 4 + u32I x * 1073741824 % 4294967296 = u32I (rotr x 2) := rot_sum x 2 30 (by decide) (by decide) (by decide) (by decide)
  obtain ⟨h2, h3⟩ := u32I_bd (rotr x 2)
  generalize u32I (rotr x 2) = r at *
  go_enter Try.func171, Try.ntmps171
  go_wp2_with fail
  go_ret
  exact ⟨rfl, rfl⟩
theorem rrot6 (x : UInt32) (w : World) :
    Calls Try.prog 171 #[.int .u32 (u32I x), .int .u64 6] w fun e w' => e = .returned (.int .u32 (u32I (rotr x 6))) ∧ w = w' := by
  obtain ⟨h0, h1⟩ := u32I_bd x
  have hr : u32I x / 64 + u32I x * 67108864 % 4294967296 = u32I (rotr x 6) := rot_sum x 6 26 (by decide) (by decide) (by decide) (by decide)
  obtain ⟨h2, h3⟩ := u32I_bd (rotr x 6)
  generalize u32I (rotr x 6) = r at *
  go_enter Try.func171, Try.ntmps171
  go_wp2_with fail
  go_ret
  exact ⟨rfl, rfl⟩
theorem rrot7 (x : UInt32) (w : World) :
    Calls Try.prog 171 #[.int .u32 (u32I x), .int .u64 7] w fun e w' => e = .returned (.int .u32 (u32I (rotr x 7))) ∧ w = w' := by
  obtain ⟨h0, h1⟩ := u32I_bd x
  have hr : u32I x / 128 + u32I x * 33554432 % 4294967296 = u32I (rotr x 7) := rot_sum x 7 25 (by decide) (by decide) (by decide) (by decide)
  obtain ⟨h2, h3⟩ := u32I_bd (rotr x 7)
  generalize u32I (rotr x 7) = r at *
  go_enter Try.func171, Try.ntmps171
  go_wp2_with fail
  go_ret
  exact ⟨rfl, rfl⟩
theorem rrot11 (x : UInt32) (w : World) :
    Calls Try.prog 171 #[.int .u32 (u32I x), .int .u64 11] w fun e w' => e = .returned (.int .u32 (u32I (rotr x 11))) ∧ w = w' := by
  obtain ⟨h0, h1⟩ := u32I_bd x
  have hr : u32I x / 2048 + u32I x * 2097152 % 4294967296 = u32I (rotr x 11) := rot_sum x 11 21 (by decide) (by decide) (by decide) (by decide)
  obtain ⟨h2, h3⟩ := u32I_bd (rotr x 11)
  generalize u32I (rotr x 11) = r at *
  go_enter Try.func171, Try.ntmps171
  go_wp2_with fail
  go_ret
  exact ⟨rfl, rfl⟩
theorem rrot13 (x : UInt32) (w : World) :
    Calls Try.prog 171 #[.int .u32 (u32I x), .int .u64 13] w fun e w' => e = .returned (.int .u32 (u32I (rotr x 13))) ∧ w = w' := by
  obtain ⟨h0, h1⟩ := u32I_bd x
  have hr : u32I x / 8192 + u32I x * 524288 % 4294967296 = u32I (rotr x 13) := rot_sum x 13 19 (by decide) (by decide) (by decide) (by decide)
  obtain ⟨h2, h3⟩ := u32I_bd (rotr x 13)
  generalize u32I (rotr x 13) = r at *
  go_enter Try.func171, Try.ntmps171
  go_wp2_with fail
  go_ret
  exact ⟨rfl, rfl⟩
theorem rrot17 (x : UInt32) (w : World) :
    Calls Try.prog 171 #[.int .u32 (u32I x), .int .u64 17] w fun e w' => e = .returned (.int .u32 (u32I (rotr x 17))) ∧ w = w' := by
  obtain ⟨h0, h1⟩ := u32I_bd x
  have hr : u32I x / 131072 + u32I x * 32768 % 4294967296 = u32I (rotr x 17) := rot_sum x 17 15 (by decide) (by decide) (by decide) (by decide)
  obtain ⟨h2, h3⟩ := u32I_bd (rotr x 17)
  generalize u32I (rotr x 17) = r at *
  go_enter Try.func171, Try.ntmps171
  go_wp2_with fail
  go_ret
  exact ⟨rfl, rfl⟩
theorem rrot18 (x : UInt32) (w : World) :
    Calls Try.prog 171 #[.int .u32 (u32I x), .int .u64 18] w fun e w' => e = .returned (.int .u32 (u32I (rotr x 18))) ∧ w = w' := by
  obtain ⟨h0, h1⟩ := u32I_bd x
  have hr : u32I x / 262144 + u32I x * 16384 % 4294967296 = u32I (rotr x 18) := rot_sum x 18 14 (by decide) (by decide) (by decide) (by decide)
  obtain ⟨h2, h3⟩ := u32I_bd (rotr x 18)
  generalize u32I (rotr x 18) = r at *
  go_enter Try.func171, Try.ntmps171
  go_wp2_with fail
  go_ret
  exact ⟨rfl, rfl⟩
theorem rrot19 (x : UInt32) (w : World) :
    Calls Try.prog 171 #[.int .u32 (u32I x), .int .u64 19] w fun e w' => e = .returned (.int .u32 (u32I (rotr x 19))) ∧ w = w' := by
  obtain ⟨h0, h1⟩ := u32I_bd x
  have hr : u32I x / 524288 + u32I x * 8192 % 4294967296 = u32I (rotr x 19) := rot_sum x 19 13 (by decide) (by decide) (by decide) (by decide)
  obtain ⟨h2, h3⟩ := u32I_bd (rotr x 19)
  generalize u32I (rotr x 19) = r at *
  go_enter Try.func171, Try.ntmps171
  go_wp2_with fail
  go_ret
  exact ⟨rfl, rfl⟩
theorem rrot22 (x : UInt32) (w : World) :
    Calls Try.prog 171 #[.int .u32 (u32I x), .int .u64 22] w fun e w' => e = .returned (.int .u32 (u32I (rotr x 22))) ∧ w = w' := by
  obtain ⟨h0, h1⟩ := u32I_bd x
  have hr : u32I x / 4194304 + u32I x * 1024 % 4294967296 = u32I (rotr x 22) := rot_sum x 22 10 (by decide) (by decide) (by decide) (by decide)
  obtain ⟨h2, h3⟩ := u32I_bd (rotr x 22)
  generalize u32I (rotr x 22) = r at *
  go_enter Try.func171, Try.ntmps171
  go_wp2_with fail
  go_ret
  exact ⟨rfl, rfl⟩
theorem rrot25 (x : UInt32) (w : World) :
    Calls Try.prog 171 #[.int .u32 (u32I x), .int .u64 25] w fun e w' => e = .returned (.int .u32 (u32I (rotr x 25))) ∧ w = w' := by
  obtain ⟨h0, h1⟩ := u32I_bd x
  have hr : u32I x / 33554432 + u32I x * 128 % 4294967296 = u32I (rotr x 25) := rot_sum x 25 7 (by decide) (by decide) (by decide) (by decide)
  obtain ⟨h2, h3⟩ := u32I_bd (rotr x 25)
  generalize u32I (rotr x 25) = r at *
  go_enter Try.func171, Try.ntmps171
  go_wp2_with fail
  go_ret
  exact ⟨rfl, rfl⟩

/-! append(o, make([]byte, n)...) -/
section
variable {P : Program} (w : World)
theorem zeroCells_u8 (n : Nat) : Builtin.zeroCells #[.int .u8 0] n = (List.replicate n (Value.int .u8 0)).toArray := by
  apply Array.ext
  · simp [Builtin.zeroCells]
  · intro i h1 h2
    simp [Builtin.zeroCells, Nat.mod_one]
theorem run_append_room_zeros (t tx ty e : TypeId) (i : TypeInfo) (ht : P.underlying t = some (.slice e)) (htn : P.underlying tx = some (.int .i64)) (hi : P.info? e = some i) (hz : i.zero = some (.int .u8 0)) (hsize : i.size = 1) (hby : i.bytes = 1)
    (b off sLen sCap n : Nat) (hn : n < 1000000)
    (hroom : sLen + n ≤ sCap) (hc : ∀ j, j < n → (w.cell? ⟨b, off + sLen + j, none⟩).isSome = true) (hf : ∀ j, j < n → w.frozen? ⟨b, off + sLen + j, none⟩ = false) :
    (Builtin.append_ #[t, tx] ty #[.slice (some ⟨b, off, none⟩) sLen sCap, .int .i64 (n : Int)]).run P w = .ok (.slice (some ⟨b, off, none⟩) (sLen + n) sCap) (w.setCells b (off + sLen) (List.replicate n (Value.int .u8 0))) := by
  have hst := run_storeCells_cells (P := P) b (off + sLen) (List.replicate n (Value.int .u8 0)) 0 w (by simpa using hc) (by simpa using hf) (fun u hu => by rw [List.eq_of_mem_replicate hu]; rfl)
  simp only [Nat.add_zero] at hst
  have hw : IntKind.i64.wrap (n : Int) = n := by rw [IntKind.wrap_i64]; omega
  have hneg : ¬ ((n : Int) < 0) := by omega
  have h48i : ¬ (281474976710656 < (n : Int)) := by omega
  by_cases h0 : n = 0
  · subst h0
    have hw0 : IntKind.i64.wrap 0 = 0 := by decide
    simp at hst hroom
    simp [hw0, Builtin.append_, run_underlying ht, run_underlying htn, sizeOf, typeInfo, zeroValue, hi, hz, asInt, asIntOf, hw, hsize, hby, hroom, Addr.add_lit, hst]
  · simp [Builtin.append_, run_underlying ht, run_underlying htn, sizeOf, typeInfo, zeroValue, hi, hz, asInt, asIntOf, hw, hsize, hby, h0, hneg, h48i, hroom, Addr.add_lit, hst, zeroCells_u8, Value.cells]
/-- one that grows or stays: zeros behind what is the call's own -/
theorem run_append_zerosC (base : Nat) (t tx ty e : TypeId) (i : TypeInfo) (ht : P.underlying t = some (.slice e)) (htn : P.underlying tx = some (.int .i64)) (hi : P.info? e = some i) (hz : i.zero = some (.int .u8 0)) (hsize : i.size = 1) (hby : i.bytes = 1)
    (s : Sl) (l : List UInt8) (hown : Own w base s.v l) (m : Nat) (hm : m < 1000000) (hl : l.length < 1000000000000) (hne : s.a.isSome = true) (hbase : base ≤ w.heap.size) :
    ∃ (s' : Sl) (w' : World), (Builtin.append_ #[t, tx] ty #[s.v, .int .i64 (m : Int)]).run P w = .ok s'.v w' ∧ Own w' base s'.v (l ++ List.replicate m 0) ∧ w.grownBy w' s.v.ownBlock ∧ (s'.v.ownBlock = s.v.ownBlock ∨ s'.v.ownBlock = some w.heap.size) := by
  obtain ⟨sa, sn, sc⟩ := s
  have hmap : (l ++ List.replicate m 0).map byteV = l.map byteV ++ List.replicate m (Value.int .u8 0) := by simp [byteV]
  rcases hown.2 with ⟨h0, _⟩ | ⟨g, cap, hv, hbg, hglt, hnc, hcm, hc, hf, hx⟩
  · injection h0 with h0
    subst h0
    cases hne
  · injection hv with h1 h2 h3
    subst h1 h2 h3
    dsimp only at hnc hcm hc hf hx
    have hlen : (l ++ List.replicate m 0).length = l.length + m := by simp
    by_cases hroom : l.length + m ≤ sc
    · have hr := run_append_room_zeros (P := P) w t tx ty e i ht htn hi hz hsize hby g 0 l.length sc m hm hroom (fun j hj => hc _ (by omega)) (fun j hj => hf _ (by omega))
      rw [Nat.zero_add] at hr
      have hnl : (List.replicate m (Value.int .u8 0)).length = m := by simp
      generalize hnews : List.replicate m (Value.int .u8 0) = news at *
      have hin := World.cell?_setCells_in g news l.length w (fun j hj => hc _ (by omega))
      have hsz := setCells_size g news l.length w
      have hblk := fun b hb => setCells_far g news l.length w b hb
      have hmisc := setCells_misc g news l.length w
      refine ⟨⟨some ⟨g, 0, none⟩, l.length + m, sc⟩, _, hr, ?_, ⟨hmisc.1, hmisc.2.1, hmisc.2.2, by rw [hsz]; exact Nat.le_refl _, fun k _ hk => hblk k (fun e => hk (by rw [e]; rfl))⟩, .inl rfl⟩
      refine ⟨by rw [List.length_map, Nat.mul_one], .inr ⟨g, sc, by rw [hlen], hbg, by rw [hsz]; exact hglt, by rw [hlen]; exact hroom, hcm, fun j hj => ?_, fun j hj => by rw [World.frozen?_setCells]; exact hf j hj, fun j u hu => ?_⟩⟩
      · by_cases hin' : l.length ≤ j ∧ j < l.length + news.length
        · have := hin (j - l.length) (by omega)
          rw [show l.length + (j - l.length) = j by omega] at this
          rw [this]; rfl
        · rw [World.cell?_setCells_out g news _ w _ (fun _ _ => by simp only; omega)]
          exact hc j hj
      · rw [hmap] at hu
        have hj : j < (l.map byteV).length + news.length := by
          rcases Nat.lt_or_ge j ((l.map byteV).length + news.length) with h | h
          · exact h
          · rw [List.getElem?_eq_none (by simpa using h)] at hu; cases hu
        rw [List.length_map] at hj
        by_cases hjx : j < l.length
        · rw [List.getElem?_append_left (by rw [List.length_map]; exact hjx)] at hu
          rw [World.cell?_setCells_out g news _ w _ (fun _ _ => by simp only; omega)]
          exact hx j u hu
        · rw [List.getElem?_append_right (by rw [List.length_map]; omega), List.length_map] at hu
          have hjl : j - l.length < news.length := by omega
          have := hin (j - l.length) hjl
          rw [show l.length + (j - l.length) = j by omega] at this
          rw [this, ← hu, List.getElem?_eq_getElem hjl]
    · have hold : (Builtin.firstCells i.size l.length (.slice (some ⟨g, 0, none⟩) l.length sc)).run P w.drew = .ok (l.map byteV).toArray w.drew := by
        exact run_firstCells_some (P := P) w.drew i.size l.length ⟨g, 0, none⟩ l.length sc (l.map byteV) (by simp [hsize]) (fun j u hu => by
          have hadd : (⟨g, 0, none⟩ : Addr).add j = ⟨g, j, none⟩ := by unfold Addr.add; split <;> simp_all
          rw [hadd]; exact hx j u hu)
      have hr := Lib.run_append_grow_zeros (P := P) w t tx ty e i _ .i64 .i64 ht htn hi hz (some ⟨g, 0, none⟩) l.length sc (l.map byteV) hold m (by omega) (by omega) (by omega) (by omega) (by rw [hby]; omega) (growslice_fits (by omega) (by rw [hby]; omega))
      rw [show (Value.int IntKind.u8 0).cells = #[.int .u8 0] from rfl, zeroCells_u8 m] at hr
      have hge := grownCap_ge w (l.length + m) sc e
      have hcm2 : grownCap w (l.length + m) sc e ≤ maxLen := grownCap_le_maxLen w (l.length + m) sc e (by simp only [maxLen]; omega)
      refine ⟨⟨some ⟨w.heap.size, 0, none⟩, l.length + m, grownCap w (l.length + m) sc e⟩, _, hr, ?_, ⟨rfl, rfl, rfl, by simp, fun k hk _ => Below.heap_alloc w.drew _ k hk⟩, .inr rfl⟩
      refine OwnC.of_row (e := e) ⟨by rw [List.length_map, Nat.mul_one], .inr ⟨w.heap.size, _, _, by rw [hlen], hbase, heap_alloc_new w.drew _, by rw [hlen]; exact hge, hcm2, ?_, ?_⟩⟩
      · simp only [Array.size_append, List.size_toArray, size_zeroCells, List.length_map, List.length_replicate, List.length_cons, List.length_nil]
        omega
      · rw [hmap]
        simp only [Array.toList_append]
        exact List.take_left' (by simp)
end

theorem own_some {w : World} {base : Nat} {s : Sl} {l : List UInt8} (h : Own w base s.v l) (h0 : 0 < l.length) : s.a.isSome = true := by
  rcases h.2 with ⟨_, h1⟩ | ⟨g, cap, hv, _⟩
  · omega
  · injection hv with h1
    rw [h1]
    rfl
set_option maxRecDepth 100000 in
set_option maxHeartbeats 1600000 in
theorem followed_c (s : Sl) (m : List UInt8) (w : World) (hs : BytesR w s m) (hl : m.length ≤ 1000000000) :
    Calls Try.prog 170 #[s.v] w fun e w' => ∃ s' : Sl, e = .returned s'.v ∧ Own w' w.heap.size s'.v (shaPad m) ∧ Below w.heap.size w w' := by
  obtain ⟨i0, hi, hy0, hy1, hy2⟩ := info_parts info_u8
  obtain ⟨sa, sn, sc⟩ := s
  obtain rfl : sn = m.length := hs.1
  have Hs := Lib.hid hs
  clear hs
  show Calls Try.prog 170 #[.slice sa m.length sc] w _
  go_enter Try.func170, Try.ntmps170
  go_upto_region 2 with fail
  obtain ⟨z, hz⟩ : ∃ z, z = shaZeros m.length := ⟨_, rfl⟩
  have hz64 : z < 64 := by rw [hz]; exact Nat.mod_lt _ (by omega)
  have hzi : (119 - (m.length : Int) % 64) % 64 = (z : Int) := by rw [hz]; unfold shaZeros; omega
  rw [hzi]
  replace hz := Lib.hid hz
  clear hzi
  have hbz : w.heap.size ≤ w.heap.size := Nat.le_refl _
  have hb7 : byteV 128 = .int .u8 128 := rfl
  have hl2 : ([] : List UInt8).length + m.length ≤ 140737488355328 := by simp; omega
  have hl3 : m.length + [(128 : UInt8)].length ≤ 140737488355328 := by simp; omega
  go_upto_region 3 with (first
    | (at_builtin; refine wpList_append_bytes _ rfl (.const _) (.tmp 10) _ (by rfl) w.heap.size 5 i0 _ Try.underlying32 hi hy0 hy1 hy2 rfl _ [] rfl (Own.nil _ _) ⟨sa, m.length, sc⟩ m rfl Hs.out hl2 hbz ?_; intro v1 w4 o1 g1 e1; have o1 : Own w4 w.heap.size v1 m := o1; have hz4 := g1.size; have hz4' : w.heap.size ≤ (w4.alloc (.cells #[.int .u8 128] 5)).heap.size := by (simp; omega))
    | (at_builtin; refine wpList_append_bytes _ rfl (.tmp 11) (.tmp 12) _ (by rfl) w.heap.size 5 i0 _ Try.underlying32 hi hy0 hy1 hy2 rfl _ m rfl (o1.keep (bel_a _ _)) ⟨some ⟨w4.heap.size, 0, none⟩, 1, 1⟩ [128] (by rfl) (BytesR.one _ _ _ _ _ rfl hb7) hl3 hz4' ?_; intro v2' w5 o2 g2 e2; obtain ⟨⟨s5a, s5n, s5c⟩, rfl⟩ := o2.slice; dsimp only [Sl.v]))
  have b4 : Below w.heap.size w w4 := bel_grown g1 (Below.refl _ _) (Nat.le_refl _) (fun k hk => by cases hk)
  have B5 : Below w.heap.size w w5 := bel_grown g2 (b4.trans ((bel_a w4 _).mono hz4)) hz4' (fun k hk => (o1.lt k hk).1)
  have hla : (m ++ [(128 : UInt8)]).length = m.length + 1 := by simp
  obtain ⟨s6, w6, hr6, o6, g6, e6⟩ := run_append_zerosC (P := Try.prog) w5 w.heap.size 32 3 32 5 i0 Try.underlying32 Try.underlying3 hi hy0 hy1 hy2 ⟨s5a, s5n, s5c⟩ (m ++ [128]) o2 z (by omega) (by omega) (own_some o2 (by omega)) B5.size
  have B6 : Below w.heap.size w w6 := bel_grown g6 B5 B5.size (fun k hk => (o2.lt k hk).1)
  have hlb : (m ++ [128] ++ List.replicate z (0 : UInt8)).length = m.length + 1 + z := by simp; omega
  generalize hL : m ++ [128] ++ List.replicate z (0 : UInt8) = L at *
  replace hL := Lib.hid hL
  obtain ⟨s6a, s6n, s6c⟩ := s6
  clear b4 B5 g1 g2 e1 e2 o1 o2 hz4 hz4' hl2 hl3 hbz hb7 hla g6 e6
  dsimp only [Sl.v] at hr6 o6
  go_upto_region 4 with (at_builtin; refine Lib.wpList_append_run _ rfl (.tmp 14) (.tmp 15) 32 3 rfl _ _ rfl rfl _ _ hr6 ?_)
  clear hr6
  have HP := fun W => rput_c 8 (m.length * 8) W (by omega) (by omega) (by omega)
  have hmul : ((m.length * 8 : Nat) : Int) = (m.length : Int) * 8 := by omega
  rw [hmul] at HP
  clear hmul
  have he8 := be_length 8 (m.length * 8)
  have hPd : shaPad m = L ++ be 8 (m.length * 8) := by rw [← hL.out, hz.out]; rfl
  replace hPd := Lib.hid hPd
  generalize be 8 (m.length * 8) = B8 at *
  have hl4 : L.length + B8.length ≤ 140737488355328 := by omega
  have hb6 := B6.size
  go_wp2_with fail
  refine (HP _).mono ?_
  rintro e w7 ⟨v7, rfl, o7, hb7⟩
  clear HP
  obtain ⟨⟨s7a, s7n, s7c⟩, rfl⟩ := o7.slice
  have r7 := o7.reads
  have o67 := o6.keep hb7
  have B7 : Below w.heap.size w w7 := B6.trans (hb7.mono hb6)
  have hb7s := B7.size
  clear o7 hb7 B6 o6 o1
  dsimp only [Sl.v]
  go_wp2_with (at_builtin; refine wpList_append_bytes _ rfl (.tmp 17) (.tmp 22) _ (by rfl) w.heap.size 5 i0 _ Try.underlying32 hi hy0 hy1 hy2 rfl _ L rfl o67 ⟨s7a, s7n, s7c⟩ B8 rfl r7 hl4 hb7s ?_; intro v8 w8 o8 g8 e8)
  have B9 : Below w.heap.size w w8 := bel_grown g8 B7 hb7s (fun k hk => (o67.lt k hk).1)
  obtain ⟨⟨s8a, s8n, s8c⟩, rfl⟩ := o8.slice
  rw [← hPd.out] at o8
  go_ret
  exact ⟨⟨s8a, s8n, s8c⟩, rfl, o8, B9⟩
end Go.Proofs.Ythdjhbiigmcecaa
