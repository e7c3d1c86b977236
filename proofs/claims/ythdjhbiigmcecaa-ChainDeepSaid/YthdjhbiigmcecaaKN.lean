/- Texts of this proof, one behind the other: DeepF, DeepG1, DeepG2, DeepG3, DeepP. -/
import Derived.Test.YthdjhbiigmcecaaKI
set_option linter.unusedVariables false
set_option linter.unusedSimpArgs false
/- Names of two branches, reckoned in lanes: all are unlike. -/
namespace Go.Proofs.Ythdjhbiigmcecaa

/-! what the kernel reckons -/
/-- a number is unlike all of a list, in each lane -/
def freeF (T M x : Nat) : List Nat → Bool
  | [] => true
  | y :: l => bif Nat.beq (Nat.land (Nat.add (Nat.xor x y) M) T) T then freeF T M x l else false
/-- those of a list are unlike each other, and unlike all of another one -/
def pairF (T M : Nat) (m : List Nat) : List Nat → Bool
  | [] => true
  | x :: l => bif freeF T M x l then (bif freeF T M x m then pairF T M m l else false) else false
def packN (q : Nat) : List Nat → Nat → Nat
  | [], acc => acc
  | x :: l, acc => sq (Nat.add (Nat.shiftLeft acc q) x) fun a => packN q l a
def pk401 (q x : Nat) (l : List Nat) : Nat := Nat.add x (Nat.shiftLeft (packN q l 0) 64)
def inF (M x : Nat) : Bool := Nat.beq (Nat.land x M) x
def shF (K p x r : Nat) : Bool := Nat.beq x (Nat.add p (Nat.shiftLeft (Nat.mod r K) 64))
def okF (M K : Nat) (P r : N8) : Bool :=
  inF M P.a && inF M P.b && inF M P.c && inF M P.d && inF M P.e && inF M P.f && inF M P.g && inF M P.h &&
    shF K 16777216 P.a r.a && shF K 0 P.b r.b && shF K 0 P.c r.c && shF K 0 P.d r.d && shF K 0 P.e r.e && shF K 0 P.f r.f && shF K 0 P.g r.g && shF K 0 P.h r.h
def lanesF (v : Nat) (l : List N8) : List Nat := l.flatMap fun r => (List.range v).map fun j => Nat.land (Nat.shiftRight r.a (Nat.mul 64 j)) 18446744073709551615
def headN : List N8 → N8
  | r :: _ => r
  | [] => ⟨0, 0, 0, 0, 0, 0, 0, 0⟩
/-- v segments of w names (v = w = 20), m branches (401) of y names (100) -/
def deepG (v w m y s q g : Nat) (P : N8) : Bool :=
  sq (mkU v) fun U => sq (Nat.mul U 4294967295) fun M => sq (lan v fun j => 1 + j * (20 * g)) fun E => sq (Nat.mul U g) fun G => sq (Nat.pow 2 s) fun K =>
  (fun R : List N8 =>
    bif okF M K P (headN R) then
      sq (mkU m) fun V => sq (Nat.mul V 4294967295) fun N => sq (Nat.mul V 4294967296) fun T =>
      sq (pk401 q 1 ((List.range w).reverse.map fun t => Nat.add E (Nat.mul G (t + 1)))) fun E2 =>
      sq (pk401 q 16777216 (R.map (·.a))) fun a => sq (pk401 q 0 (R.map (·.b))) fun b => sq (pk401 q 0 (R.map (·.c))) fun c => sq (pk401 q 0 (R.map (·.d))) fun d =>
      sq (pk401 q 0 (R.map (·.e))) fun e => sq (pk401 q 0 (R.map (·.f))) fun f => sq (pk401 q 0 (R.map (·.g))) fun x => sq (pk401 q 0 (R.map (·.h))) fun h =>
      (fun mains : List Nat => bif pairF 4294967296 4294967295 [] mains then pairF T N (mains.map fun y => Nat.mul V y) ((namesF V N (Nat.mul V (g + 1)) y ⟨a, b, c, d, e, f, x, h⟩ E2 []).map (·.a)) else false) (16777216 :: lanesF v R)
    else false) (namesF U M G w P E [])

/-! what it tells -/
theorem freeF_out {T M x : Nat} : ∀ {l : List Nat}, freeF T M x l = true → ∀ y ∈ l, Nat.land (Nat.add (Nat.xor x y) M) T = T
  | [], _, y, hy => by cases hy
  | z :: l, h, y, hy => by
    unfold freeF at h
    cases hb : Nat.beq (Nat.land (Nat.add (Nat.xor x z) M) T) T with
    | false => rw [hb] at h; cases h
    | true =>
      rw [hb] at h
      rcases List.mem_cons.1 hy with rfl | hy
      · exact Nat.eq_of_beq_eq_true hb
      · exact freeF_out h y hy
theorem pairF_out {T M : Nat} {m : List Nat} : ∀ {l : List Nat}, pairF T M m l = true → l.Pairwise (fun x y => Nat.land (Nat.add (Nat.xor x y) M) T = T) ∧ ∀ x ∈ l, ∀ y ∈ m, Nat.land (Nat.add (Nat.xor x y) M) T = T
  | [], _ => ⟨List.Pairwise.nil, fun x hx => by cases hx⟩
  | z :: l, h => by
    unfold pairF at h
    cases h1 : freeF T M z l with
    | false => rw [h1] at h; cases h
    | true =>
      rw [h1] at h
      cases h2 : freeF T M z m with
      | false => rw [h2] at h; cases h
      | true =>
        rw [h2] at h
        obtain ⟨q1, q2⟩ := pairF_out h
        refine ⟨List.Pairwise.cons (fun y hy => freeF_out h1 y hy) q1, fun x hx y hy => ?_⟩
        rcases List.mem_cons.1 hx with rfl | hx
        · exact freeF_out h2 y hy
        · exact q2 x hx y hy
theorem one_ne {x y : Nat} (h : Nat.land (Nat.add (Nat.xor x y) 4294967295) 4294967296 = 4294967296) : x ≠ y := by
  rintro rfl
  have e : Nat.xor x x = 0 := Nat.xor_self x
  rw [e] at h
  revert h
  decide
theorem lanes_ne {n : Nat} {x y : Nat → UInt32} (h : Nat.land (Nat.add (Nat.xor (wl n x) (wl n y)) (Nat.mul (mkU n) 4294967295)) (Nat.mul (mkU n) 4294967296) = Nat.mul (mkU n) 4294967296) : ∀ i, i < n → x i ≠ y i := by
  rw [wl_xor, lanU, lanU] at h
  have h1 : Nat.add (wl n fun i => x i ^^^ y i) (lan n fun _ => 4294967295) = lan n fun i => (x i ^^^ y i).toNat + 4294967295 := by
    unfold wl
    rw [lan_add]
  rw [h1, lan_and (fun i _ => by have := (x i ^^^ y i).toNat_lt; omega) (fun _ _ => by decide)] at h
  have h2 := lan_inj (n := n) (f := fun i => Nat.land ((x i ^^^ y i).toNat + 4294967295) 4294967296) (g := fun _ => 4294967296) (fun i _ => Nat.and_lt_two_pow _ (by decide)) (fun _ _ => by decide) h
  intro i hi e
  have h3 := h2 i hi
  rw [e, UInt32.xor_self] at h3
  revert h3
  decide
theorem lan_lt {n : Nat} : ∀ {f : Nat → Nat}, (∀ i, i < n → f i < 2 ^ 64) → lan n f < 2 ^ (64 * n) := by
  induction n with
  | zero => intro f _; simp [lan]
  | succ n ih =>
    intro f hf
    have h0 := hf 0 (by omega)
    have h1 := ih (f := fun i => f (i + 1)) fun i hi => hf (i + 1) (by omega)
    unfold lan
    rw [show 64 * (n + 1) = 64 + 64 * n by omega, Nat.pow_add]
    have h2 : lan n (fun i => f (i + 1)) + 1 ≤ 2 ^ (64 * n) := h1
    have h3 := Nat.mul_le_mul_left (2 ^ 64) h2
    rw [Nat.mul_add] at h3
    omega
theorem lan_of : ∀ {n X : Nat}, X < 2 ^ (64 * n) → ∃ f : Nat → Nat, (∀ i, i < n → f i < 2 ^ 64) ∧ X = lan n f
  | 0, X, h => ⟨fun _ => 0, fun _ h => by omega, by simp [lan] at h ⊢; omega⟩
  | n + 1, X, h => by
    rw [show 64 * (n + 1) = 64 + 64 * n by omega, Nat.pow_add] at h
    obtain ⟨f, hf, hX⟩ := lan_of (n := n) (X := X / 2 ^ 64) (Nat.div_lt_of_lt_mul h)
    refine ⟨fun i => match i with | 0 => X % 2 ^ 64 | i + 1 => f i, fun i hi => ?_, ?_⟩
    · cases i with
      | zero => exact Nat.mod_lt _ (by decide)
      | succ i => exact hf i (by omega)
    · unfold lan
      simp only
      rw [← hX]
      exact (Nat.mod_add_div X (2 ^ 64)).symm
theorem inF_out {n X : Nat} (h : inF (mkM n) X = true) : ∃ x : Nat → UInt32, X = wl n x := by
  have h1 : Nat.land X (mkM n) = X := Nat.eq_of_beq_eq_true h
  have h2 : X < 2 ^ (64 * n) := by
    have h3 : X ≤ mkM n := by
      have : X &&& mkM n ≤ mkM n := Nat.and_le_right
      have e : X &&& mkM n = X := h1
      rwa [e] at this
    exact Nat.lt_of_le_of_lt h3 (lan_lt fun _ _ => u32_lt64 _)
  obtain ⟨f, hf, rfl⟩ := lan_of h2
  exact ⟨_, h1.symm.trans (wl_mask n f hf)⟩
theorem lan_mod : ∀ (m k : Nat) (f : Nat → Nat), (∀ i, i < m + k → f i < 2 ^ 64) → lan (m + k) f % 2 ^ (64 * m) = lan m f
  | 0, k, f, _ => by simp [lan, Nat.mod_one]
  | m + 1, k, f, hf => by
    have ih := lan_mod m k (fun i => f (i + 1)) fun i hi => hf (i + 1) (by omega)
    have h0 := hf 0 (by omega)
    rw [show m + 1 + k = (m + k) + 1 by omega]
    unfold lan
    rw [show 64 * (m + 1) = 64 + 64 * m by omega, Nat.pow_add, Nat.mod_mul, Nat.add_mul_mod_self_left, Nat.mod_eq_of_lt h0, Nat.add_mul_div_left _ _ (by decide), Nat.div_eq_of_lt h0, Nat.zero_add, ih]
theorem npow (x k : Nat) : Nat.pow x k = x ^ k := rfl
theorem lan_succ (n : Nat) (f : Nat → Nat) : lan (n + 1) f = f 0 + 2 ^ 64 * lan n fun i => f (i + 1) := rfl
theorem concat_l : ∀ (n m : Nat) (f h : Nat → Nat), lan n f + 2 ^ (64 * n) * lan m h = lan (n + m) fun i => if i < n then f i else h (i - n)
  | 0, m, f, h => by simp [lan]
  | n + 1, m, f, h => by
    have ih := concat_l n m (fun i => f (i + 1)) h
    rw [show n + 1 + m = (n + m) + 1 by omega, lan_succ, lan_succ, show 64 * (n + 1) = 64 + 64 * n by omega, Nat.pow_add, Nat.mul_assoc, Nat.add_assoc, ← Nat.mul_add, ih, if_pos (by omega)]
    congr 2
    refine lan_congr fun i _ => ?_
    simp only [Nat.add_lt_add_iff_right]
    split
    · rfl
    · congr 1
      omega
theorem concat_q {q n : Nat} (hq : q = 64 * n) (m : Nat) (f h : Nat → Nat) : lan n f + 2 ^ q * lan m h = lan (n + m) fun i => if i < n then f i else h (i - n) := by
  rw [hq]
  exact concat_l n m f h
theorem mod_q {q m : Nat} (hq : q = 64 * m) (k : Nat) (f : Nat → Nat) (hf : ∀ i, i < m + k → f i < 2 ^ 64) : lan (m + k) f % 2 ^ q = lan m f := by
  rw [hq]
  exact lan_mod m k f hf
theorem nadd (x y : Nat) : Nat.add x y = x + y := rfl
theorem shift_l (x k : Nat) : Nat.shiftLeft x k = 2 ^ k * x := by
  show x <<< k = _
  rw [Nat.shiftLeft_eq, Nat.mul_comm]
theorem shF_out {u v K s : Nat} (hv : v = u + 1) (hs : s = 64 * u) (hK : K = 2 ^ s) {p : UInt32} {x r : Nat → UInt32} (h : shF K p.toNat (wl v x) (wl v r) = true) : x 0 = p ∧ ∀ j, j < u → x (j + 1) = r j := by
  subst hv
  have h1 : wl (u + 1) x = Nat.add p.toNat (Nat.shiftLeft (Nat.mod (wl (u + 1) r) K) 64) := Nat.eq_of_beq_eq_true h
  rw [shift_l, hK] at h1
  replace h1 : wl (u + 1) x = p.toNat + 2 ^ 64 * (wl (u + 1) r % 2 ^ s) := h1
  have h2 : wl (u + 1) r % 2 ^ s = lan u fun i => (r i).toNat := mod_q hs 1 _ fun _ _ => u32_lt64 _
  rw [h2] at h1
  have h3 : wl (u + 1) x = (x 0).toNat + 2 ^ 64 * lan u fun i => (x (i + 1)).toNat := rfl
  rw [h3] at h1
  have hx := u32_lt64 (x 0)
  have hp := u32_lt64 p
  have e0 : (x 0).toNat = p.toNat := by omega
  have e1 : (lan u fun i => (x (i + 1)).toNat) = lan u fun i => (r i).toNat := by omega
  refine ⟨UInt32.toNat_inj.1 e0, fun j hj => ?_⟩
  exact UInt32.toNat_inj.1 (lan_inj (n := u) (fun _ _ => u32_lt64 _) (fun _ _ => u32_lt64 _) e1 j hj)
theorem nmS_add (s : S8) (e g k : Nat) : ∀ l, nmS s e g (k + l) = nmS (nmS s e g k) (e + k * g) g l
  | 0 => rfl
  | l + 1 => by
    show hname (nmS s e g (k + l)) (e + (k + l + 1) * g) = hname (nmS (nmS s e g k) (e + k * g) g l) (e + k * g + (l + 1) * g)
    rw [nmS_add s e g k l]
    congr 1
    rw [show k + l + 1 = k + (l + 1) by omega, Nat.add_mul]
    omega
/-- the long branch's names, and the other one's -/
def MM (g k : Nat) : S8 := nmS nm1 1 g k
def OO (g a k : Nat) : S8 := nmS (MM g a) (1 + a * g) (g + 1) k
theorem packN_l {v q : Nat} (hv : v = 20) (hq : q = 64 * v) (F : Nat → Nat → Nat) : ∀ (k n : Nat), packN q ((List.range k).reverse.map fun t => lan v (F t)) (lan (v * n) fun i => F (k + i / 20) (i % 20)) = lan (v * (n + k)) fun i => F (i / 20) (i % 20)
  | 0, n => by
    simp only [List.range_zero, List.reverse_nil, List.map_nil, packN, Nat.zero_add, Nat.add_zero]
  | k + 1, n => by
    rw [List.range_succ, List.reverse_append, List.reverse_singleton, List.singleton_append, List.map_cons]
    unfold packN
    rw [sq_eq]
    have e : Nat.add (Nat.shiftLeft (lan (v * n) fun i => F (k + 1 + i / 20) (i % 20)) q) (lan v (F k)) = lan (v * (n + 1)) fun i => F (k + i / 20) (i % 20) := by
      rw [shift_l, nadd, Nat.add_comm, concat_q hq, show v + v * n = v * (n + 1) by rw [Nat.mul_add, Nat.mul_one, Nat.add_comm]]
      refine lan_congr fun i _ => ?_
      split
      · rename_i h
        rw [show i / 20 = 0 by omega, show i % 20 = i by omega, Nat.add_zero]
      · rename_i h
        rw [hv, show k + 1 + (i - 20) / 20 = k + i / 20 by omega, show (i - 20) % 20 = i % 20 by omega]
    rw [e, packN_l hv hq F k (n + 1), show n + 1 + k = n + (k + 1) by omega]
/-- which of the long branch begins lane i -/
def idx (i : Nat) : Nat := if i = 0 then 0 else 20 * ((i - 1) % 20) + (i - 1) / 20 + 1
theorem idx_has {a : Nat} (ha : a ≤ 400) : ∃ i, i < 401 ∧ idx i = a := by
  by_cases h : a = 0
  · exact ⟨0, by omega, by rw [h]; rfl⟩
  · refine ⟨1 + 20 * ((a - 1) % 20) + (a - 1) / 20, by omega, ?_⟩
    unfold idx
    rw [if_neg (by omega)]
    omega
theorem pk401_l {v w m q : Nat} (hv : v = 20) (hm : m = v * (0 + w) + 1) (hq : q = 64 * v) (x : Nat) (F : Nat → Nat) (h0 : x = F 0) : pk401 q x ((List.range w).reverse.map fun t => lan v fun j => F (20 * j + t + 1)) = lan m fun i => F (idx i) := by
  have h := packN_l hv hq (fun t j => F (20 * j + t + 1)) w 0
  have h1 : (lan (v * 0) fun i => (fun t j => F (20 * j + t + 1)) (w + i / 20) (i % 20)) = 0 := rfl
  rw [h1] at h
  unfold pk401
  rw [h, shift_l, h0, hm, lan_succ, nadd]
  congr 1
theorem lane_out {v : Nat} {x : Nat → UInt32} {j : Nat} (hj : j < v) : Nat.land (Nat.shiftRight (wl v x) (Nat.mul 64 j)) 18446744073709551615 = (x j).toNat := by
  have h := lan_get (n := v) (f := fun i => (x i).toNat) (fun _ _ => u32_lt64 _) hj
  show (wl v x) >>> (64 * j) &&& (2 ^ 64 - 1) = _
  rw [Nat.and_two_pow_sub_one_eq_mod, Nat.shiftRight_eq_div_pow]
  exact h
theorem lanesF_l (v w : Nat) (F : Nat → S8) : lanesF v ((List.range w).reverse.map fun t => n8l v fun j => F (20 * j + t + 1)) = ((List.range w).reverse.flatMap fun t => (List.range v).map fun j => 20 * j + t + 1).map fun a => (F a).a.toNat := by
  unfold lanesF
  rw [List.flatMap_map, List.map_flatMap]
  congr 1
  funext t
  rw [List.map_map]
  refine List.map_congr_left fun j hj => ?_
  exact lane_out (x := fun j => (F (20 * j + t + 1)).a) (List.mem_range.1 hj)
theorem pair_map {α β : Type} {R : β → β → Prop} {f : α → β} {l : List α} (hR : ∀ x y, R x y → x ≠ y) (h : (l.map f).Pairwise R) {x y : α} (hx : x ∈ l) (hy : y ∈ l) (hne : x ≠ y) : f x ≠ f y := by
  have h' := List.pairwise_map.1 h
  obtain ⟨i, hi, rfl⟩ := List.getElem_of_mem hx
  obtain ⟨j, hj, rfl⟩ := List.getElem_of_mem hy
  have hij : i ≠ j := fun e => by subst e; exact hne rfl
  rcases Nat.lt_or_gt_of_ne hij with q | q
  · exact hR _ _ (List.pairwise_iff_getElem.1 h' i j hi hj q)
  · exact fun e => hR _ _ (List.pairwise_iff_getElem.1 h' j i hj hi q) e.symm
/-- all names are unlike, by their first words -/
structure DeepOk (g : Nat) : Prop where
  main : ∀ i j, i ≤ 400 → j ≤ 400 → i ≠ j → (MM g i).a ≠ (MM g j).a
  mix : ∀ a k i, a ≤ 400 → 1 ≤ k → k ≤ 100 → i ≤ 400 → (OO g a k).a ≠ (MM g i).a
  oth : ∀ a k l, a ≤ 400 → 1 ≤ k → k ≤ 100 → 1 ≤ l → l ≤ 100 → k ≠ l → (OO g a k).a ≠ (OO g a l).a
def mainL (v w : Nat) : List Nat := 0 :: (List.range w).reverse.flatMap fun t => (List.range v).map fun j => 20 * j + t + 1
theorem mainL_has {v w a : Nat} (hv : v = 20) (hw : w = 20) (ha : a ≤ 400) : a ∈ mainL v w := by
  subst hv hw
  unfold mainL
  by_cases h : a = 0
  · rw [h]; exact List.mem_cons_self ..
  · refine List.mem_cons_of_mem _ (List.mem_flatMap.2 ⟨(a - 1) % 20, List.mem_reverse.2 (List.mem_range.2 (by omega)), List.mem_map.2 ⟨(a - 1) / 20, List.mem_range.2 (by omega), by omega⟩⟩)
theorem n8l_congr {n : Nat} {s t : Nat → S8} (h : ∀ i, i < n → s i = t i) : n8l n s = n8l n t := by
  unfold n8l
  rw [wl_congr fun i hi => congrArg S8.a (h i hi), wl_congr fun i hi => congrArg S8.b (h i hi), wl_congr fun i hi => congrArg S8.c (h i hi), wl_congr fun i hi => congrArg S8.d (h i hi), wl_congr fun i hi => congrArg S8.e (h i hi), wl_congr fun i hi => congrArg S8.f (h i hi), wl_congr fun i hi => congrArg S8.g (h i hi), wl_congr fun i hi => congrArg S8.h (h i hi)]
theorem names_hd {v : Nat} (R : List N8) (w : Nat) (F : Nat → N8) (h : R = (List.range (w + 1)).reverse.map F) : headN R = F w := by
  rw [h, List.range_succ, List.reverse_append, List.reverse_singleton, List.singleton_append, List.map_cons]
  rfl
set_option maxHeartbeats 1600000 in
theorem deep_ok {u v w m y s q g : Nat} {P : N8} (hu : u = 19) (hv : v = u + 1) (hw : w = 20) (hm : m = v * (0 + w) + 1) (hy : y = 100) (hs : s = 64 * u) (hq : q = 64 * v) (hg : g ≤ 9) (h : deepG v w m y s q g P = true) : DeepOk g := by
  have hv20 : v = 20 := by omega
  have hm401 : m = 401 := by rw [hm, hv20, hw]
  obtain ⟨pa, pb, pc, pd, pe, pf, pg, ph⟩ := P
  unfold deepG at h
  simp only [sq_eq] at h
  have hM : Nat.mul (mkU v) 4294967295 = mkM v := wl_lit v _ 4294967295 rfl
  have hN : Nat.mul (mkU m) 4294967295 = mkM m := wl_lit m _ 4294967295 rfl
  obtain ⟨K, hK⟩ : ∃ K, K = Nat.pow 2 s := ⟨_, rfl⟩
  rw [hM, hN, ← hK, lanU v g] at h
  rw [npow] at hK
  obtain ⟨R, hR⟩ : ∃ R, R = namesF (mkU v) (mkM v) (lan v fun _ => g) w ⟨pa, pb, pc, pd, pe, pf, pg, ph⟩ (lan v fun j => 1 + j * (20 * g)) [] := ⟨_, rfl⟩
  rw [← hR] at h
  cases hok : okF (mkM v) K ⟨pa, pb, pc, pd, pe, pf, pg, ph⟩ (headN R) with
  | false => rw [hok] at h; cases h
  | true =>
    rw [hok] at h
    simp only [cond_true] at h
    unfold okF at hok
    simp only [Bool.and_eq_true] at hok
    obtain ⟨⟨⟨⟨⟨⟨⟨⟨⟨⟨⟨⟨⟨⟨⟨i1, i2⟩, i3⟩, i4⟩, i5⟩, i6⟩, i7⟩, i8⟩, s1⟩, s2⟩, s3⟩, s4⟩, s5⟩, s6⟩, s7⟩, s8⟩ := hok
    obtain ⟨xa, hxa⟩ := inF_out (n := v) (X := pa) i1
    obtain ⟨xb, hxb⟩ := inF_out (n := v) (X := pb) i2
    obtain ⟨xc, hxc⟩ := inF_out (n := v) (X := pc) i3
    obtain ⟨xd, hxd⟩ := inF_out (n := v) (X := pd) i4
    obtain ⟨xe, hxe⟩ := inF_out (n := v) (X := pe) i5
    obtain ⟨xf, hxf⟩ := inF_out (n := v) (X := pf) i6
    obtain ⟨xg, hxg⟩ := inF_out (n := v) (X := pg) i7
    obtain ⟨xh, hxh⟩ := inF_out (n := v) (X := ph) i8
    clear i1 i2 i3 i4 i5 i6 i7 i8
    subst hxa hxb hxc hxd hxe hxf hxg hxh
    obtain ⟨sP, hsP⟩ : ∃ sP : Nat → S8, sP = fun j => ⟨xa j, xb j, xc j, xd j, xe j, xf j, xg j, xh j⟩ := ⟨_, rfl⟩
    have hP : (⟨wl v xa, wl v xb, wl v xc, wl v xd, wl v xe, wl v xf, wl v xg, wl v xh⟩ : N8) = n8l v fun i => nmS (sP i) (1 + i * (20 * g)) g 0 := by rw [hsP]; rfl
    have hnl := names_l (n := v) sP (fun i => 1 + i * (20 * g)) (fun _ => g) w 0 [] (fun i hi => by
      have h1 : i * (20 * g) ≤ 19 * (20 * 9) := Nat.mul_le_mul (by omega) (Nat.mul_le_mul_left _ hg)
      have h2 : (0 + w) * g ≤ 20 * 9 := Nat.mul_le_mul (by omega) hg
      omega)
    have hE0 : (fun i => 1 + i * (20 * g) + 0 * g) = fun j => 1 + j * (20 * g) := funext fun i => by omega
    rw [hE0, ← hP, ← hR, List.append_nil] at hnl
    have hhead : headN R = n8l v fun i => nmS (sP i) (1 + i * (20 * g)) g 20 := by
      have h1 := names_hd (v := v) R 19 (fun t => n8l v fun i => nmS (sP i) (1 + i * (20 * g)) g (0 + 1 + t)) (by rw [hnl, hw])
      exact h1
    rw [hhead] at s1 s2 s3 s4 s5 s6 s7 s8
    have t1 := shF_out hv hs hK (p := 16777216) (x := xa) (r := fun i => (nmS (sP i) (1 + i * (20 * g)) g 20).a) s1
    have t2 := shF_out hv hs hK (p := 0) (x := xb) (r := fun i => (nmS (sP i) (1 + i * (20 * g)) g 20).b) s2
    have t3 := shF_out hv hs hK (p := 0) (x := xc) (r := fun i => (nmS (sP i) (1 + i * (20 * g)) g 20).c) s3
    have t4 := shF_out hv hs hK (p := 0) (x := xd) (r := fun i => (nmS (sP i) (1 + i * (20 * g)) g 20).d) s4
    have t5 := shF_out hv hs hK (p := 0) (x := xe) (r := fun i => (nmS (sP i) (1 + i * (20 * g)) g 20).e) s5
    have t6 := shF_out hv hs hK (p := 0) (x := xf) (r := fun i => (nmS (sP i) (1 + i * (20 * g)) g 20).f) s6
    have t7 := shF_out hv hs hK (p := 0) (x := xg) (r := fun i => (nmS (sP i) (1 + i * (20 * g)) g 20).g) s7
    have t8 := shF_out hv hs hK (p := 0) (x := xh) (r := fun i => (nmS (sP i) (1 + i * (20 * g)) g 20).h) s8
    clear s1 s2 s3 s4 s5 s6 s7 s8 hhead
    have hz : sP 0 = nm1 := by
      rw [hsP]
      simp only [t1.1, t2.1, t3.1, t4.1, t5.1, t6.1, t7.1, t8.1]
      rfl
    have hst : ∀ j, j < u → sP (j + 1) = nmS (sP j) (1 + j * (20 * g)) g 20 := fun j hj => by
      have e : sP (j + 1) = ⟨xa (j + 1), xb (j + 1), xc (j + 1), xd (j + 1), xe (j + 1), xf (j + 1), xg (j + 1), xh (j + 1)⟩ := by rw [hsP]
      rw [e, t1.2 j hj, t2.2 j hj, t3.2 j hj, t4.2 j hj, t5.2 j hj, t6.2 j hj, t7.2 j hj, t8.2 j hj]
    clear t1 t2 t3 t4 t5 t6 t7 t8
    have hseg : ∀ j, j < v → sP j = MM g (20 * j) := by
      intro j
      induction j with
      | zero => intro _; rw [hz]; rfl
      | succ j ih =>
        intro hj
        rw [hst j (by omega), ih (by omega)]
        unfold MM
        rw [show 20 * (j + 1) = 20 * j + 20 by omega, nmS_add nm1 1 g (20 * j) 20, show j * (20 * g) = 20 * j * g by rw [Nat.mul_left_comm, Nat.mul_assoc]]
    have hRM : R = (List.range w).reverse.map fun t => n8l v fun j => MM g (20 * j + t + 1) := by
      rw [hnl]
      refine List.map_congr_left fun t _ => n8l_congr fun j hj => ?_
      rw [hseg j hj]
      unfold MM
      rw [show 20 * j + t + 1 = 20 * j + (0 + 1 + t) by omega, nmS_add nm1 1 g (20 * j) (0 + 1 + t), show j * (20 * g) = 20 * j * g by rw [Nat.mul_left_comm, Nat.mul_assoc]]
    clear hnl hR hst hz hseg hP hE0
    have hE2 : pk401 q 1 ((List.range w).reverse.map fun t => Nat.add (lan v fun j => 1 + j * (20 * g)) (Nat.mul (lan v fun _ => g) (t + 1))) = lan m fun i => 1 + idx i * g := by
      have e : ((List.range w).reverse.map fun t => Nat.add (lan v fun j => 1 + j * (20 * g)) (Nat.mul (lan v fun _ => g) (t + 1))) = (List.range w).reverse.map fun t => lan v fun j => 1 + (20 * j + t + 1) * g := List.map_congr_left fun t _ => by
        rw [lan_mul, lan_add]
        refine lan_congr fun j _ => ?_
        rw [show 20 * j + t + 1 = 20 * j + (t + 1) by omega, Nat.add_mul, Nat.mul_comm g, Nat.mul_left_comm, Nat.mul_assoc]
        omega
      rw [e]
      exact pk401_l hv20 hm hq 1 (fun a => 1 + a * g) (by omega)
    have hwd : ∀ (wd : S8 → UInt32) (vv : N8 → Nat), (∀ n s, vv (n8l n s) = wl n fun i => wd (s i)) → ∀ x, x = (wd nm1).toNat → pk401 q x (R.map vv) = wl m fun i => wd (MM g (idx i)) := fun wd vv hvv x hx => by
      have e : R.map vv = (List.range w).reverse.map fun t => lan v fun j => (wd (MM g (20 * j + t + 1))).toNat := by
        rw [hRM, List.map_map]
        exact List.map_congr_left fun t _ => hvv _ _
      rw [e]
      exact pk401_l hv20 hm hq x (fun a => (wd (MM g a)).toNat) (by rw [hx]; rfl)
    rw [hE2, hwd S8.a (·.a) (fun _ _ => rfl) 16777216 rfl, hwd S8.b (·.b) (fun _ _ => rfl) 0 rfl, hwd S8.c (·.c) (fun _ _ => rfl) 0 rfl, hwd S8.d (·.d) (fun _ _ => rfl) 0 rfl, hwd S8.e (·.e) (fun _ _ => rfl) 0 rfl, hwd S8.f (·.f) (fun _ _ => rfl) 0 rfl, hwd S8.g (·.g) (fun _ _ => rfl) 0 rfl, hwd S8.h (·.h) (fun _ _ => rfl) 0 rfl] at h
    have hmains : (16777216 :: lanesF v R) = (mainL v w).map fun a => (MM g a).a.toNat := by
      rw [hRM, lanesF_l v w (MM g)]
      rfl
    rw [hmains] at h
    have hnl2 := names_l (n := m) (fun i => MM g (idx i)) (fun i => 1 + idx i * g) (fun _ => g + 1) y 0 [] (fun i hi => by
      have h0 : idx i ≤ 400 := by
        unfold idx
        split <;> omega
      have h1 : idx i * g ≤ 400 * 9 := Nat.mul_le_mul h0 hg
      have h2 : (0 + y) * (g + 1) ≤ 100 * 10 := Nat.mul_le_mul (by omega) (by omega)
      omega)
    have hP2 : (n8l m fun i => nmS (MM g (idx i)) (1 + idx i * g) (g + 1) 0) = ⟨wl m fun i => (MM g (idx i)).a, wl m fun i => (MM g (idx i)).b, wl m fun i => (MM g (idx i)).c, wl m fun i => (MM g (idx i)).d, wl m fun i => (MM g (idx i)).e, wl m fun i => (MM g (idx i)).f, wl m fun i => (MM g (idx i)).g, wl m fun i => (MM g (idx i)).h⟩ := rfl
    have hE3 : (fun i => 1 + idx i * g + 0 * (g + 1)) = fun i => 1 + idx i * g := funext fun i => by omega
    rw [hP2, hE3, List.append_nil, ← lanU] at hnl2
    rw [hnl2] at h
    cases hp1 : pairF 4294967296 4294967295 [] ((mainL v w).map fun a => (MM g a).a.toNat) with
    | false => rw [hp1] at h; cases h
    | true =>
      rw [hp1] at h
      simp only [cond_true] at h
      have hother : (((List.range y).reverse.map fun t => n8l m fun i => nmS (MM g (idx i)) (1 + idx i * g) (g + 1) (0 + 1 + t)).map fun r => r.a) = (List.range y).reverse.map fun t => wl m fun i => (OO g (idx i) (0 + 1 + t)).a := by
        rw [List.map_map]
        exact List.map_congr_left fun t _ => rfl
      rw [hother, ← hN] at h
      obtain ⟨p1, p2⟩ := pairF_out h
      obtain ⟨q1, -⟩ := pairF_out hp1
      refine ⟨fun i j hi hj hne => ?_, fun a k i ha h1 h2 hi => ?_, fun a k l ha k1 k2 l1 l2 hne => ?_⟩
      · have := pair_map (fun x y r => one_ne r) q1 (mainL_has hv20 hw hi) (mainL_has hv20 hw hj) hne
        exact fun e => this (by rw [e])
      · obtain ⟨z, hz, hza⟩ := idx_has ha
        have hm1 : (wl m fun i => (OO g (idx i) (0 + 1 + (k - 1))).a) ∈ (List.range y).reverse.map fun t => wl m fun i => (OO g (idx i) (0 + 1 + t)).a := List.mem_map.2 ⟨k - 1, List.mem_reverse.2 (List.mem_range.2 (by omega)), rfl⟩
        have hm2 : Nat.mul (mkU m) (MM g i).a.toNat ∈ ((mainL v w).map fun a => (MM g a).a.toNat).map fun y => Nat.mul (mkU m) y := List.mem_map.2 ⟨_, List.mem_map.2 ⟨i, mainL_has hv20 hw hi, rfl⟩, rfl⟩
        have h3 := p2 _ hm1 _ hm2
        rw [wl_const] at h3
        have h4 := lanes_ne h3 z (by omega)
        rw [hza, show 0 + 1 + (k - 1) = k by omega] at h4
        exact h4
      · obtain ⟨z, hz, hza⟩ := idx_has ha
        have h3 := List.pairwise_map.1 p1
        have hk : k - 1 ∈ (List.range y).reverse := List.mem_reverse.2 (List.mem_range.2 (by omega))
        have hl : l - 1 ∈ (List.range y).reverse := List.mem_reverse.2 (List.mem_range.2 (by omega))
        obtain ⟨i, hi, ei⟩ := List.getElem_of_mem hk
        obtain ⟨j, hj, ej⟩ := List.getElem_of_mem hl
        have hij : i ≠ j := fun e => by subst e; omega
        rcases Nat.lt_or_gt_of_ne hij with qq | qq
        · have h4 := List.pairwise_iff_getElem.1 h3 i j hi hj qq
          rw [ei, ej] at h4
          have h5 := lanes_ne h4 z (by omega)
          rw [hza, show 0 + 1 + (k - 1) = k by omega, show 0 + 1 + (l - 1) = l by omega] at h5
          exact h5
        · have h4 := List.pairwise_iff_getElem.1 h3 j i hj hi qq
          rw [ei, ej] at h4
          have h5 := lanes_ne h4 z (by omega)
          rw [hza, show 0 + 1 + (k - 1) = k by omega, show 0 + 1 + (l - 1) = l by omega] at h5
          exact fun e => h5 e.symm
end Go.Proofs.Ythdjhbiigmcecaa

/- The names of two branches are unlike, at gaps 1 to 3: reckoned by the kernel. -/
namespace Go.Proofs.Ythdjhbiigmcecaa

theorem deep_1 : DeepOk 1 := deep_ok (u := 19) (v := 20) (w := 20) (m := 401) (y := 100) (s := 1216) (q := 1280)
  (P := ⟨0x3ec1bac10000000039ca1ecf00000000ffd2bb1400000000f14ecb6e0000000050bc904b000000003c8bedea00000000af685cbb0000000015bbecb200000000dd1957a800000000a873e31200000000e04e09c70000000065d5db5000000000e7f3fa0400000000f2b5c51d00000000497ee55700000000f4134e5d0000000055c15ac600000000445a23b000000000a0a0c25d0000000001000000,
    0xa0a8463d000000003aa33d7f00000000eab63b9100000000333edeb80000000007447ffd00000000317def3800000000e21e8f6600000000874ecd7c000000006bb8fdbb00000000cb4e810b000000008563d373000000008b61a87600000000c60f542600000000e445debe00000000f17de8a9000000001826e1fe0000000010bf4754000000008a8220fe0000000028c5b0840000000000000000,
    0x2010bf3f00000000fe41274c00000000ba2cd3e1000000009797a76b00000000bebd923d00000000780de6af00000000cfc79f4e00000000dbb944a1000000009410358700000000acbb7aeb00000000d378c6b20000000014cd98b0000000001f7d0144000000009c6aa8b900000000080b6f4c000000004d943fa800000000ae067b3f00000000bcf61c1900000000fd320e0c0000000000000000,
    0xc0dba8610000000042e01dc10000000058a9b0b9000000000005ec0c0000000052a221fc0000000089b094d0000000006e94a6ec00000000b47c268f0000000002d9786700000000487d56010000000092236c5500000000c4f97b3000000000bab4e7ed000000007f9790a700000000a04c40420000000080d3712c000000007d3c1c08000000000b79503200000000937cf25d0000000000000000,
    0x9f77bed7000000001322cf4500000000cd69af0b00000000243638b40000000069564c5a000000000ddc30e800000000b62c8269000000007df03b75000000000392150000000000aee346f00000000094bd00cc00000000a4efa1940000000033f4d4950000000096c4fcf6000000002ed39b470000000033bc176c00000000712da8a2000000000a5dffb6000000002c2e5c5f0000000000000000,
    0x3ffbdda000000000e74522af000000003c9078bf00000000bd0730420000000029babc9600000000d179f15f00000000bcee663700000000733c972c00000000b80be648000000004ef7c7d2000000006fdd4e9200000000b9b96fcd00000000add82f3a00000000b46ae100000000003e13cb00000000006e3e4df2000000003f1f2a8100000000e8aa6ace00000000131b98480000000000000000,
    0xa8bd0f7c000000000e7748eb00000000929cae5b00000000c05f7baf00000000fdb5e34300000000d23bedef0000000022e431090000000068d052de000000000d9df834000000006865031d0000000019f1b9d30000000095c49fd9000000009bb3ea4c000000006cf239e80000000014b263a600000000c74d4b95000000009340bfaa00000000d42cb0b80000000052e6d1aa0000000000000000,
    0x851b851f0000000082ac5e470000000050fae686000000005436e0a3000000005f6562780000000020c4702f00000000331f652a0000000099797ee3000000004aa5df0100000000dab9e6af00000000114b60fb00000000ea714e550000000074e74a9f00000000b022433400000000848b9fdd00000000651f51d000000000e23f947400000000ea95710f00000000c700d84a0000000000000000⟩)
  rfl rfl rfl rfl rfl rfl rfl (by decide) (by decide +kernel)
theorem deep_2 : DeepOk 2 := deep_ok (u := 19) (v := 20) (w := 20) (m := 401) (y := 100) (s := 1216) (q := 1280)
  (P := ⟨0xb321523800000000cbd1022800000000c76e4bdc00000000a08ec4c0000000007bf31f6400000000a003c5dd000000009d5b9e9c00000000ca451c9e0000000030121802000000004b8806d90000000054be24d30000000035639750000000000c2cff5200000000dfd1f0a30000000089d7b85b00000000048e399b00000000f9cec788000000006b2d76170000000096ce66340000000001000000,
    0x56bf39de00000000295ebaa300000000d2098698000000003410e89e00000000e67802d900000000e1f9599c00000000ac95be4400000000f9ca8ea00000000028c468ae00000000aa9f30ff00000000ff6ff8d800000000431c72c6000000006a7e4066000000000a988c2600000000498e0d8e0000000057aadae50000000015d2242d00000000143cf85300000000de8597f00000000000000000,
    0x8f870102000000006000fda300000000dea9e28500000000fa09a33300000000179190f000000000c67f60ce00000000db6ebfac0000000076fcadbc000000008fb90c20000000006f7921ac0000000049ebc9db000000005f88b43e000000007687cb7900000000d5b8a3770000000065fb7c2f0000000067ab0f81000000008f8824ce000000004a8e843700000000b953488d0000000000000000,
    0x116676bf00000000de8c88bc0000000008bf10d300000000e6cc367400000000a7063d0c000000005c6f8af1000000006a4db345000000000da8dc30000000003e1c9005000000004b3f4f7200000000a3bba8b000000000445ccaa3000000000e71dfe000000000684020b6000000003d7c45e00000000049468df300000000deb5dcc1000000005ad424f0000000001280699c0000000000000000,
    0x954898fc0000000021e419fc000000007a831b3500000000c787f4c3000000009c79aa33000000002f304f8b000000000045fe1e0000000091c564cd000000005666632b00000000d3edac76000000004f01da470000000001251e9100000000ac6bf4f300000000e0f933bb000000008cc131c80000000006a0d5e5000000001ebb6df600000000cca49ea000000000be6d8d2c0000000000000000,
    0x3e85cec1000000005610a31000000000b3dbf3c70000000067d67d9400000000e70cc86600000000877ae6f4000000000838f9d10000000087887dae000000008361cdc70000000097944f8a00000000fa8c429d00000000495f9c26000000004adf6b650000000099d0ecbf0000000032f5263300000000ac189d7500000000b1a6ecb100000000511445db00000000016229650000000000000000,
    0x61669dbe00000000b48403220000000053c6f9a200000000052ba15b000000005d7ec116000000009d94a2700000000046739e16000000002b9b21bc000000004b63e27c00000000370a87570000000025b67e01000000004e6c8a7e0000000082894b6500000000842d455700000000f1a9bf30000000009cdd58ae00000000149dfe66000000008c0e8cac00000000933f42e70000000000000000,
    0xfd86450300000000bf61bf9a000000009cc4e366000000006fb7bd3a000000006403b279000000000bdf4bbc000000002f5ab5c80000000003abb76200000000d10003de000000004780c4c8000000001605864600000000f00d758b00000000dd77d1ea00000000ef0969b700000000053f2bdb00000000340749cf00000000dabdd7f8000000008e854aa300000000251df2400000000000000000⟩)
  rfl rfl rfl rfl rfl rfl rfl (by decide) (by decide +kernel)
theorem deep_3 : DeepOk 3 := deep_ok (u := 19) (v := 20) (w := 20) (m := 401) (y := 100) (s := 1216) (q := 1280)
  (P := ⟨0x7389ccce000000003be1e3d30000000048c0b3ef0000000041082df9000000000036c08100000000aa018acc000000003c7b55fa000000003c0e2a6f0000000077c34225000000001ef6d25b000000007e6b31cf000000003ffe91fb00000000425b86a80000000003310405000000008aba623d000000006cdf91a1000000001842fc6700000000fa90476b00000000b136c75e0000000001000000,
    0x2c18f99d00000000322085b90000000082f020df00000000c3b8b8e4000000000b99a058000000009ccef1b700000000aaa91a2800000000bdb2e8df00000000ca52273d00000000b32d7c66000000002f2c26190000000083e795f4000000009a367d1600000000d3952310000000008aa7c7c1000000005643042400000000986dc9fc00000000daf2a839000000009b297d990000000000000000,
    0xdb1890fc00000000bfcdf7b6000000008d5ccabf000000007590a3690000000040fc7d88000000008bb0b7f8000000003a45266700000000a2c82c0d00000000d938e05f000000003833db7500000000f2f10b01000000002e8597fd0000000055a1a9e3000000000911a0c200000000a90f8ce000000000ebb5c0a300000000fcc5d6d30000000049a8f46400000000ff8edee20000000000000000,
    0xd7e837cf000000004dc2dfd000000000d6e40c79000000008765fdc00000000044d23d9b0000000089ac8c7000000000f059a01600000000e6f67b2800000000e5f3a69100000000706fb9ba00000000b798ffb40000000045890734000000000cfc362d00000000c3969fd500000000961a8534000000004e5854ac00000000ab946165000000004ed16af800000000bbe5046a0000000000000000,
    0x36b6d97700000000a356327800000000a22406b700000000855c4e5d0000000076d36307000000005af2660800000000ed19053d000000009790adcb000000006e94896200000000ec71b6930000000002e007ba000000003636545a000000000c41cc6400000000a0d192ea000000004edcad7a00000000681ede720000000084d4474d00000000f533749100000000d4abf1a30000000000000000,
    0x155f7e9e0000000029d723e70000000057d92c5f00000000f5eed14d00000000c395f345000000007cc5c31800000000fc17adb3000000002fd9266200000000503566c4000000004606fc31000000004fc394e6000000008bef2d70000000009dbee4c80000000086a7c6c10000000010e9ec1a000000009df1877100000000ad158a1b0000000028931729000000004224c5430000000000000000,
    0x370cecc50000000081bcd1e4000000001b4429cb00000000b49f917d000000005d3413bf0000000052cd47310000000015215bb80000000026c0722b0000000015c3a27300000000d92747d4000000002216a94100000000903cf14c00000000d8fb38fe000000000b73f53c00000000b53f628e00000000a7ef445900000000dff90eef00000000e05e21050000000029e2dccf0000000000000000,
    0x16a9477900000000982d3b870000000038902d2500000000572cc7300000000073514ba7000000005692a1b20000000007347e9600000000f34f6d2800000000a461fa2200000000da9a3bf00000000059b40dae00000000e63891a200000000804caa7c0000000090e50cba0000000089b07e8400000000f93ba79200000000b86f15a400000000eba2da4100000000104ef7660000000000000000⟩)
  rfl rfl rfl rfl rfl rfl rfl (by decide) (by decide +kernel)
end Go.Proofs.Ythdjhbiigmcecaa

/- The names of two branches are unlike, at gaps 4 to 6: reckoned by the kernel. -/
namespace Go.Proofs.Ythdjhbiigmcecaa

theorem deep_4 : DeepOk 4 := deep_ok (u := 19) (v := 20) (w := 20) (m := 401) (y := 100) (s := 1216) (q := 1280)
  (P := ⟨0xf54b549c00000000b2779c0b000000004328719e00000000d44660f200000000b94a71a300000000362296d4000000008f169fa700000000876ceb5200000000ca905c0200000000bba889cf00000000877a529d00000000d4fb7cd7000000007c519f9f00000000078c2d4f00000000fd55a330000000000eff918a000000004d5d81b7000000003f7cd2dd00000000afce64ec0000000001000000,
    0x984b644900000000d26d7cf400000000de8abfc20000000013963f3600000000b5f4c0980000000065dedb56000000008deb5d1600000000aacca790000000004592ce2f0000000053f6f37a000000006b21383e00000000f7f167160000000019599e91000000005c134503000000008052a2cd00000000294b1f4100000000889fff1b000000002a7dd1b900000000e73d118c0000000000000000,
    0xfe7160dd000000004c0b437800000000386272c9000000002ec766b0000000000ea3ad31000000006d039ce2000000004d4e3cfc000000005598872800000000b16ba466000000001b4575eb000000008e7103f400000000296495da0000000006e0c7ba0000000047559b2300000000467d1ff600000000dbe4610400000000466ad1c10000000063920560000000002ea1d0900000000000000000,
    0x3732a0e9000000000522303400000000c037598400000000db7ab09d00000000eda394d600000000b426a9c60000000007b9c42600000000bddd9e92000000003cb897ff00000000adf6271000000000531c872000000000252e3b9400000000d3b22ba40000000004a36d8b000000006bd3349e00000000d510f6cd000000005d69d765000000006931398f00000000f20f263f0000000000000000,
    0x104e50eb00000000a026cdea0000000021cf694a00000000a590a49a00000000ed18c6270000000075edc9d600000000f9ba6b910000000011a2bd440000000018db363400000000bc7be1fc00000000959dec8100000000e557223b000000005c91a2910000000093bc300700000000719d435800000000455537a00000000090c81539000000007a3b83fc0000000063e8171f0000000000000000,
    0xe51165970000000076a558c1000000005ffa330f00000000eff88061000000004274643900000000d778d64100000000fe8e4ea60000000008fef64a00000000a00185b0000000009cfd0fe1000000006a7f54da0000000089a55e4800000000d0ba5f9a000000003c5c9f7900000000f05bcf7c00000000bea24abc00000000ec0f458700000000637c3df900000000de057e590000000000000000,
    0xd45358bf0000000014761e6a00000000848600d600000000f23f1872000000009756e30300000000dfae745a0000000087fed0ca0000000093361baf000000009713d3cc00000000fd02334c000000004ede616300000000503d1bf600000000c805a3cb00000000d68cd14d0000000062468994000000002d27cd7e0000000081e0d545000000004070c57100000000e9b1b21f0000000000000000,
    0xb9fa94680000000090be578d0000000048b89a160000000029c23a8d000000001c258b07000000000dacd92a00000000c3d3b8e0000000007361f2b1000000003864dd0100000000299bf5610000000041c751f500000000bdd771f10000000024e4133000000000cb26c58c00000000324f466e00000000ad566699000000002bb21fff00000000222a998a00000000f9ce01f10000000000000000⟩)
  rfl rfl rfl rfl rfl rfl rfl (by decide) (by decide +kernel)
theorem deep_5 : DeepOk 5 := deep_ok (u := 19) (v := 20) (w := 20) (m := 401) (y := 100) (s := 1216) (q := 1280)
  (P := ⟨0x8f2576e900000000d42d65530000000076ef198d000000003322037000000000143c24f900000000d88cddb7000000004cc881b90000000063963c280000000040cbcb0400000000d2d57bde000000001a63ffb500000000cfb8e09a00000000eabf7e660000000025e6a729000000001c5cae65000000003b06a8d100000000cbe50889000000001135aaba00000000a2a0f9970000000001000000,
    0x94fe2abe00000000fb28a612000000006061e59000000000e1f74e3f000000003328895e0000000037970ee600000000de296808000000001bb2ed3a000000004dad9eac00000000bb5c21ad00000000c0090d82000000006c3b89a700000000ee1eba560000000066307930000000004453597a00000000e16997fe00000000c6d98bb1000000000bca8917000000000ee5e06e0000000000000000,
    0x3df6aa7b00000000c532dc0600000000e7a917e200000000b38ed3a1000000004ee15aae00000000cc7121cd00000000c3c8f9a100000000f20038fd0000000030058df30000000044093f600000000015127cbe00000000b9ac7149000000009de615e500000000c450c5b60000000082db7cce00000000892ea3ea00000000a8f0bcad00000000f9d95fb100000000d0b5da750000000000000000,
    0xe1d3044400000000df51f33a00000000b8a854db00000000f2dcf9a100000000429f4ee900000000b7512d530000000028d92fc5000000005c4e832000000000e0c89e2100000000bcd383a30000000081d3584e000000000b6a1100000000009645e44e00000000e4994d9c00000000c54cb885000000008bc7bbd300000000ca96509b0000000093a42060000000006d7522900000000000000000,
    0xf1c9a2b000000007c00c3c900000000481bafc8000000009385dd0d00000000ae610187000000006af6b5d5000000004db66e7600000000cfdc07f80000000073c98be8000000002f14dc7c000000001037beff00000000c1afebff00000000116d708f000000001609805600000000fa34e63e000000009456328000000000dc0c4c0800000000576bd02100000000aafe6c960000000000000000,
    0x893dedab0000000054facbf5000000006fb1b900000000003417c8f300000000a0f106e100000000526c13c900000000f384a41a00000000fc1cd0c300000000ab6f9b2500000000c7b2f1f1000000006b69f19400000000d0eec597000000008ca1240200000000ea82c22d0000000051c0304200000000175ebf6a0000000002e1da5d0000000008605dfc00000000745fbd010000000000000000,
    0xf4a1b65100000000c6317ff8000000008a9f127900000000c3057a0300000000d06681f500000000df83d77c000000009a7d1c8c000000006d6945bb00000000f6ea22760000000060a1a30f00000000439672a2000000004af190d300000000f5fa7156000000006f9a167600000000f14e3072000000009eaa1959000000008e9e955a0000000065b2cd9100000000fc0e2ca30000000000000000,
    0xc98963e8000000005e54c31400000000bf5d3e4200000000dc4a9f67000000007e8e5fdd00000000e85a3063000000006ff7087700000000ab89a0bc00000000997aafbe000000005c76726a00000000a4996a2a000000003509e3da0000000012167b1c000000006f44c02100000000ccd5b2af000000003dbb9ef800000000744219ed0000000004458cad00000000ed044f3b0000000000000000⟩)
  rfl rfl rfl rfl rfl rfl rfl (by decide) (by decide +kernel)
theorem deep_6 : DeepOk 6 := deep_ok (u := 19) (v := 20) (w := 20) (m := 401) (y := 100) (s := 1216) (q := 1280)
  (P := ⟨0x363079e0000000008de361b400000000d370efcf00000000c27fe028000000005751a90c000000005adedbd8000000001031e5fd0000000092b980fc00000000fb2c7289000000004798d63400000000acdd460b000000001b8679cb000000008b2236f600000000844b7df4000000007219b3bf00000000c84ddd0d00000000afdacf94000000008bf075ed000000004946311e0000000001000000,
    0x2cd0cd4300000000c958239700000000b622397f0000000069aafab300000000e0ef8fed00000000807d2e750000000072b6270200000000ac90424000000000abc6596c0000000000cb9c15000000004ed4d0a0000000008ad5b0de00000000f945296a00000000d48a957f00000000114b73a100000000d4d6016700000000d9b8742000000000c8690cc50000000020e5cb0b0000000000000000,
    0xd05da33400000000a459cb3a0000000095b4b47900000000c5ed7fec000000005d9eae65000000001c919ee200000000070a7cff00000000febccd3f00000000e4b644c2000000009d9fca220000000029bd051d0000000023fe2b1400000000f9d4e0250000000065f3371c000000008eb4eea700000000de4c00d500000000c48560d300000000705f2227000000006db4b2d20000000000000000,
    0x2fd4e471000000001f16dcbd000000008f40dc6900000000548c465600000000256fd47c00000000e307686c000000006fcd90a000000000411040a100000000eb5b422500000000e3a8b80c000000001ffb622c000000004660e3f8000000000063bdd900000000804c05f9000000001aea44440000000007fced0e00000000dbb810e800000000a1051d35000000008c4e7f580000000000000000,
    0x9944485a00000000cfed3ed40000000065b5e00a00000000023f712a00000000b8aeca14000000008c65290c00000000c8263b5100000000cd89f79800000000a7c5a6e5000000003ff0bfa400000000af3ed48100000000994bd88c000000005ec28f0000000000679b45d600000000257af8100000000044be9d2e0000000001034c4700000000758e6ea5000000008b3942af0000000000000000,
    0x54f57c7100000000451e622800000000cad5ce4b00000000d4093768000000002299fae1000000003bc9055800000000bb47897f000000009d6e9f76000000001649f7ce00000000f37481c80000000074bb3b34000000007948a0f10000000048569d6300000000e51bf607000000002deade3e000000008f3bf7de00000000c44c30510000000073a788d0000000000f6c417c0000000000000000,
    0xc6d66009000000001512b323000000000d02aaa700000000ae51581200000000b90fe0ad000000003603a10600000000ecab007300000000e40667e00000000096b20a3700000000c08dbfad00000000b0812f1a000000000d16835000000000fb125b4200000000cb8bb57c00000000c0bbafd200000000eb893aea00000000692dd92300000000f5757c35000000005e6393f40000000000000000,
    0x3f3e7266000000006a46999600000000a1b12762000000005b69a1fa0000000008c88c88000000008aef062f000000002b091fa1000000008ca2951200000000fb12ce82000000002124fe64000000001ed9feae0000000035c87533000000000d0c0ae500000000f32221960000000012b7805b000000009d6752cf000000003eafb222000000008dc49e08000000001dbea0770000000000000000⟩)
  rfl rfl rfl rfl rfl rfl rfl (by decide) (by decide +kernel)
end Go.Proofs.Ythdjhbiigmcecaa

/- The names of two branches are unlike, at gaps 7 to 9: reckoned by the kernel. -/
namespace Go.Proofs.Ythdjhbiigmcecaa

theorem deep_7 : DeepOk 7 := deep_ok (u := 19) (v := 20) (w := 20) (m := 401) (y := 100) (s := 1216) (q := 1280)
  (P := ⟨0xa49786a800000000c3fdfee00000000027acf7ca000000004e5289ef000000004a08709e000000005945a6da00000000f4a0818000000000cb88b0ad0000000041fd649b0000000009ec6fec000000006df8548400000000f7adadd0000000002a5c51e2000000004d30dfec00000000113deb9d00000000684987d400000000cd54eac200000000a0ab3a7b00000000347c955e0000000001000000,
    0x7f2d18c0000000005e7511560000000049ad99f200000000ad61331600000000e44ea37500000000e3e2e7e500000000098a74b90000000080378bd2000000003422010400000000df91f6c5000000002979f01c0000000041f2da3700000000f5ce8b7a00000000f21c8d3200000000ef6e4d3e000000004845286100000000d6186a9400000000b512f3c600000000fb0f95630000000000000000,
    0x3e58ded2000000009ed2f58d000000007da9142a00000000191768a6000000003190d568000000007f34eaaa00000000223329e1000000005d3ff3fa0000000071afe1fb00000000bbc7356e000000001adfcc1100000000d797458700000000c1ed010b0000000038a0afff00000000f91caddd00000000a4949e7f00000000f3f7aab40000000024b10fff0000000095ddbc300000000000000000,
    0x4f7828720000000070fb2fed000000008ba1c81f00000000121b87030000000028a89e1700000000ba5e422f00000000eb0df7b6000000000a67f9dd000000007287ab4100000000b60aad90000000006fde846300000000bec9860b00000000a07d95d900000000e2338ddf00000000d280d359000000003eedb7b30000000054f4b49c00000000b65866ca0000000054231e4f0000000000000000,
    0x6d9c6999000000008381de52000000003dc3415100000000223b22c8000000007fbfd6e500000000b2d3dfc60000000042c4e1c600000000f0c4fd17000000005f40a01a0000000024d5b25200000000e23596c300000000cafe152c00000000a07b766200000000ed91f840000000006c43462600000000ea3aadd700000000776b132500000000fc913a7f00000000575bd47e0000000000000000,
    0x9ad7491d000000002f2b5ee8000000000e14239d000000000f2c2acc000000005442c8ee00000000d62d8bf000000000f8292459000000002f8bd81100000000ff343cd8000000005bc92d1500000000e8f49464000000002e7d6f1d00000000d460ec58000000008c738f4000000000c770ef6300000000d4b61f2100000000ad27e1fb0000000037c9c60400000000d912b27b0000000000000000,
    0xf4d29c3900000000caf89b8e00000000b86280c3000000007432ca82000000006f04976f00000000a4b70b8700000000e2159150000000009fb406e5000000002753a539000000001607ffd500000000e99da73e000000009819a76a0000000042677dc5000000005210921e00000000f22336f0000000000831d0f9000000003538b0c500000000fa8510d300000000c05b831a0000000000000000,
    0x8b03702800000000aa519aa100000000adad5f82000000006d5ad01c00000000b568b822000000000bc355040000000027f8e2f1000000006e2b144c0000000031db84cb00000000eeb30ea600000000fa64814f00000000ee4da0c1000000000696a3ba0000000091e3010300000000a86fd252000000000f3304de00000000aff9e02d000000005cc11c310000000028a248ec0000000000000000⟩)
  rfl rfl rfl rfl rfl rfl rfl (by decide) (by decide +kernel)
theorem deep_8 : DeepOk 8 := deep_ok (u := 19) (v := 20) (w := 20) (m := 401) (y := 100) (s := 1216) (q := 1280)
  (P := ⟨0x1cf49673000000003d946b53000000008d8e6a10000000006c159424000000008f39865500000000b1d05120000000001a84654200000000786fcc7c00000000911be15500000000949b556c00000000488f521200000000e18e2d880000000081502083000000006084be5500000000baacd14900000000d4334c40000000001ff2292200000000b4f3fac400000000dc6f13310000000001000000,
    0x1894866700000000b64deeb6000000007bb1ff2c00000000fb8b3f2a00000000ff99b86600000000e7c46c78000000007dcb9ec300000000cf03c8c500000000b841fa5600000000429e7fd00000000010b14dc900000000ee7524f700000000ac93930700000000f07c701800000000dcf1346700000000b8d6ef25000000003fe9424000000000314fb0da00000000637a7a890000000000000000,
    0xb91c5cac000000005fb96c05000000009a74811d0000000072de630a00000000fdacc1e900000000faa9b4c300000000a959a315000000007ed4df66000000003a33cbbc00000000a0f365ee00000000505d302400000000ab03a6e500000000737564d8000000004e0ec38c00000000a46bc1e3000000008110107800000000e9ebb79b000000003909450d000000001e62780c0000000000000000,
    0xc9e5aa1e0000000062e4050300000000d1e92a2d00000000d71df58d000000008e1f8d4b00000000d9a7b1420000000097e3ddfc000000008bd8397c0000000053022a5c000000008d1b7c8e00000000930ebea300000000893713ed00000000aeb70f6800000000d4ce32e7000000009600950700000000c532fe1700000000d98e41a800000000b829a0b2000000005904cc4e0000000000000000,
    0x3e06a7b00000000d2a752870000000049d7f21600000000c2beda1c000000009931d07a00000000ea4b0beb000000001e33db2f000000001dfe13d7000000008e042c6f000000002775999f00000000f7c1586000000000b4cfa92c00000000a4aae6340000000088004dbb00000000010a8f28000000000e56724e00000000cd54516100000000a47ed3e000000000c984387d0000000000000000,
    0xc753b8120000000063764d5700000000d112bb0300000000a3263fd30000000075dd9e0e00000000fef58def0000000064418ce100000000dea8fdc1000000002c85731a000000007bb069fb0000000069bd06ac00000000fb268fef00000000bd00a0ec00000000aa833a3c00000000d567dcb9000000008d71890d0000000062070659000000008d0f26c500000000e39320ad0000000000000000,
    0x95295c3b000000001767477b00000000942af681000000005f57931e000000000a44bf32000000009924261300000000910449cf00000000a8029f0b00000000debefea7000000007687aed400000000251c5e5700000000a4a650200000000071b1c907000000009cadfc14000000000d99b9e6000000009cccd836000000000bb61201000000003b44377300000000695477240000000000000000,
    0x65600a32000000006b323bd000000000ad35d98900000000ef32c5fd0000000080597d9f00000000a7881d120000000089e3f5c300000000b7efe11a00000000e44c42b10000000091ca918100000000a1954a2c00000000549fa045000000007fcf94b400000000576d658100000000776ee42600000000e2b704ce0000000019fcfdf2000000005a1a5ce900000000d54378170000000000000000⟩)
  rfl rfl rfl rfl rfl rfl rfl (by decide) (by decide +kernel)
theorem deep_9 : DeepOk 9 := deep_ok (u := 19) (v := 20) (w := 20) (m := 401) (y := 100) (s := 1216) (q := 1280)
  (P := ⟨0x3a0dc4b000000000af0255ab000000008bb76e3e0000000094c64a8800000000c456feea000000009b7615b300000000d284f7bb000000009f71461900000000c282e755000000007619ef5400000000630a09fb00000000279bd8f300000000e276cbc700000000a0eecd610000000026353bb2000000000b18d0ff000000000ae8cc2100000000b853a7b200000000a4f15b240000000001000000,
    0x7345e6be000000003755628500000000bf9a7d7600000000e915113600000000fdacbdee000000004ebc4917000000002c66a0a300000000d46f8cef00000000f457eae400000000752a88db0000000076f72bba000000009a282c2c00000000d1eeb4ff00000000450e26ea000000000933adeb00000000591d1b040000000011d351f800000000765298dc0000000096d250100000000000000000,
    0x51b5c33a000000000ee48442000000009b3e57c300000000ce1b6e43000000007d89a42400000000c6ae002f00000000e2acd06a000000003436c6420000000046b2e6e8000000001581e71200000000ccaecccc00000000659352d900000000333dc1a400000000806d016900000000e8bd291400000000b3c0113e00000000184e4fac00000000080da43300000000764d6da90000000000000000,
    0x489423ca00000000fee69a5a0000000082c28c1d000000006a1cdf99000000007b329ae70000000082c09f7f00000000d300cef600000000df579b13000000007df3793a00000000afdc931b00000000b3f6cd7e00000000ac98ec3100000000117ea9a100000000ba42f1b600000000d75a8cd900000000e3c78ae500000000ea0e3aab00000000ea10cd6d00000000d90d8ccf0000000000000000,
    0xac2efbf10000000064f6f05900000000968411da00000000b20f1b190000000064e6f9cf000000007c4fc199000000003d8a092100000000556c65e900000000b8f4f2eb000000008104e80400000000c85886ce00000000a6503ae1000000006cb6b3a80000000036c62d3000000000328acc22000000008f91e35200000000fb044f4f000000002a324f4d000000003ff6c8d10000000000000000,
    0xb2c31cb500000000e5670651000000005468f6a7000000002996d19d0000000052d36e930000000094c3cd8900000000a726617100000000ec9ed77900000000101933ff00000000fd7fce63000000008835b1ef0000000014d9be6d00000000b9da9d7d00000000aa9d8dc60000000097114b4600000000dae01a8500000000c74a82c700000000df6c931900000000587ff0f80000000000000000,
    0xbff1c00600000000414ba1cc000000003b5f803900000000108118340000000041a2c16b000000001997047d00000000377f4a3d00000000ccc679bb0000000018599bde00000000e77c84ec00000000995a0cfc00000000bccd1062000000008bb51e65000000000ce6ed5000000000bfbe2272000000006fdfd6f9000000000d78bec100000000603bf067000000002b9bffaf0000000000000000,
    0x523ebbf3000000006f942e26000000006378089a00000000dba9f80200000000c5cb6a7600000000f336e9d8000000007a7351b800000000ea589934000000005786996500000000642947c900000000f87ed26a0000000034f1cf5400000000b495145a0000000084a3815700000000f33e813300000000161f870000000000e06e069f0000000046dbbe320000000005e2f3360000000000000000⟩)
  rfl rfl rfl rfl rfl rfl rfl (by decide) (by decide +kernel)
end Go.Proofs.Ythdjhbiigmcecaa

/- ChainDeep, plainly: the chain of two branches, whose ancestors are whose, what stands at an epoch. -/
namespace Go.Proofs.Ythdjhbiigmcecaa

theorem deep_all {g : Nat} (h1 : 1 ≤ g) (h9 : g ≤ 9) : DeepOk g := by
  have h : g = 1 ∨ g = 2 ∨ g = 3 ∨ g = 4 ∨ g = 5 ∨ g = 6 ∨ g = 7 ∨ g = 8 ∨ g = 9 := by omega
  rcases h with rfl | rfl | rfl | rfl | rfl | rfl | rfl | rfl | rfl
  · exact deep_1
  · exact deep_2
  · exact deep_3
  · exact deep_4
  · exact deep_5
  · exact deep_6
  · exact deep_7
  · exact deep_8
  · exact deep_9
def shH (s : S8) : Hash := ⟨shaOut s, shaOut_length s⟩
theorem shH_a {s t : S8} (h : shH s = shH t) : s.a = t.a := shaOut_a (congrArg Subtype.val h)
def mnH (g k : Nat) : Hash := shH (MM g k)
def onH (g a k : Nat) : Hash := shH (OO g a k)
theorem mnH_zero (g : Nat) : mnH g 0 = nm1H := Subtype.ext nm1_out.symm
theorem onH_zero (g a : Nat) : onH g a 0 = mnH g a := rfl
theorem ofNat_small {n : Nat} (h : n < 65536) : (UInt64.ofNat n).toNat = n := by
  rw [UInt64.toNat_ofNat']
  omega
theorem sh_name {s : S8} {e : Nat} (h1 : 1 ≤ e) (h2 : e < 65536) : hdName ⟨shH s, UInt64.ofNat e, []⟩ = shH (hname s e) :=
  Subtype.ext (hdName_bare (h := ⟨shH s, UInt64.ofNat e, []⟩) (p := s) (e := e) rfl rfl (ofNat_small h2) h1 h2)
/-- a block behind another one -/
def dBlk (e : Nat) (n par : Hash) (i : Nat) : Blk := ⟨⟨UInt64.ofNat e, n⟩, ⟨par, UInt64.ofNat e, []⟩, some i⟩
theorem add_bare {C : List Blk} (hok : ChnOk C) {s : S8} {e i : Nat} (h1 : 1 ≤ e) (h2 : e < 65536) (hl : C.length ≤ 4096) (hp : chAt C (shH s) = some i) (he : epAt C i < e) (hn : ∀ b ∈ C, b.p.name ≠ shH (hname s e)) :
    chCheck C ⟨shH s, UInt64.ofNat e, []⟩ = (⟨UInt64.ofNat e, shH (hname s e)⟩, 0) ∧ chAdd C ⟨shH s, UInt64.ofNat e, []⟩ = C ++ [dBlk e (shH (hname s e)) (shH s) i] := by
  have hm : hdrMay ⟨shH s, UInt64.ofNat e, []⟩ = true := hdrMay_bare rfl (by show 1 ≤ (UInt64.ofNat e).toNat; rw [ofNat_small h2]; exact h1) (by show (UInt64.ofNat e).toNat < 65536; rw [ofNat_small h2]; exact h2)
  have hnone : chAt C (hdName ⟨shH s, UInt64.ofNat e, []⟩) = none := by
    rw [sh_name h1 h2]
    unfold chAt
    rw [List.findIdx?_eq_none_iff]
    intro b hb
    simpa using hn b hb
  have hlt : ¬ (UInt64.ofNat e).toNat ≤ epAt C i := by rw [ofNat_small h2]; omega
  have hc : chCheck C ⟨shH s, UInt64.ofNat e, []⟩ = (⟨UInt64.ofNat e, shH (hname s e)⟩, 0) := by
    unfold chCheck
    rw [if_pos hm, hnone]
    simp only [hp, if_neg hlt, if_neg (show ¬ 4096 < C.length by omega), sh_name h1 h2]
  refine ⟨hc, ?_⟩
  unfold chAdd
  rw [hc, if_pos rfl]
  simp only [hp]
  rfl
/-- the long branch -/
def mBlk (g k : Nat) : Blk := if k = 0 then ⟨⟨1, nm1H⟩, zeroHdr, none⟩ else dBlk (1 + k * g) (mnH g k) (mnH g (k - 1)) (k - 1)
def dm (g n : Nat) : List Blk := (List.range (n + 1)).map (mBlk g)
theorem dm_length (g n : Nat) : (dm g n).length = n + 1 := by simp [dm]
theorem dm_get {g n k : Nat} (hk : k ≤ n) : (dm g n)[k]? = some (mBlk g k) := by
  unfold dm
  rw [List.getElem?_map, List.getElem?_range (by omega)]
  rfl
theorem mBlk_name (g k : Nat) : (mBlk g k).p.name = mnH g k := by
  unfold mBlk
  split
  · rename_i h
    rw [h, mnH_zero]
  · rfl
theorem mBlk_epoch {g k : Nat} (h : 1 + k * g < 65536) : (mBlk g k).p.epoch.toNat = 1 + k * g := by
  unfold mBlk
  split
  · rename_i h0
    rw [h0, Nat.zero_mul]
    rfl
  · exact ofNat_small h
theorem dm_zero (g : Nat) : dm g 0 = chNew ⟨1, nm1H⟩ := rfl
theorem small_ep {g k : Nat} (hg : g ≤ 9) (hk : k ≤ 401) : 1 + k * g < 65536 := by
  have : k * g ≤ 401 * 9 := Nat.mul_le_mul hk hg
  omega
theorem dm_ok_add {g : Nat} (h1 : 1 ≤ g) (h9 : g ≤ 9) {n : Nat} (hn : n < 400) (hok : ChnOk (dm g n)) :
    chCheck (dm g n) ⟨mnH g n, UInt64.ofNat (1 + (n + 1) * g), []⟩ = (⟨UInt64.ofNat (1 + (n + 1) * g), mnH g (n + 1)⟩, 0) ∧ chAdd (dm g n) ⟨mnH g n, UInt64.ofNat (1 + (n + 1) * g), []⟩ = dm g (n + 1) := by
  have hD := deep_all h1 h9
  have hat : chAt (dm g n) (mnH g n) = some n := by
    have := chAt_of hok (dm_get (Nat.le_refl n))
    rwa [mBlk_name] at this
  have hep : epAt (dm g n) n < 1 + (n + 1) * g := by
    rw [epAt_of (dm_get (Nat.le_refl n)), mBlk_epoch (small_ep h9 (by omega)), Nat.add_mul]
    omega
  have hnm : shH (hname (MM g n) (1 + (n + 1) * g)) = mnH g (n + 1) := rfl
  obtain ⟨q1, q2⟩ := add_bare hok (s := MM g n) (e := 1 + (n + 1) * g) (i := n) (by omega) (small_ep h9 (by omega)) (by rw [dm_length]; omega) hat hep (fun b hb => by
    obtain ⟨k, hk, rfl⟩ := List.mem_map.1 hb
    have hk' := List.mem_range.1 hk
    rw [mBlk_name, hnm]
    intro e
    exact hD.main k (n + 1) (by omega) (by omega) (by omega) (shH_a e))
  refine ⟨q1, q2.trans ?_⟩
  have hb : mBlk g (n + 1) = dBlk (1 + (n + 1) * g) (mnH g (n + 1)) (mnH g n) n := by
    unfold mBlk
    rw [if_neg (by omega)]
    rfl
  unfold dm
  rw [List.range_succ (n := n + 1), List.map_append, List.map_singleton, hb]
  rfl
theorem dm_ok {g : Nat} (h1 : 1 ≤ g) (h9 : g ≤ 9) : ∀ n, n ≤ 400 → ChnOk (dm g n)
  | 0, _ => by rw [dm_zero]; exact chNew_ok _
  | n + 1, h => by
    have ih := dm_ok h1 h9 n (by omega)
    rw [← (dm_ok_add h1 h9 (by omega) ih).2]
    exact chAdd_ok ih _
/-- the other branch -/
def oEp (g a k : Nat) : Nat := 1 + a * g + k * (g + 1)
def oBlk (g a long k : Nat) : Blk := dBlk (oEp g a k) (onH g a k) (onH g a (k - 1)) (if k = 1 then a else long + k - 1)
def de (g long a n : Nat) : List Blk := dm g long ++ (List.range n).map fun t => oBlk g a long (t + 1)
theorem de_length (g long a n : Nat) : (de g long a n).length = long + 1 + n := by simp [de, dm_length]
theorem de_get {g long a n k : Nat} (hk : k ≤ long) : (de g long a n)[k]? = some (mBlk g k) := by
  unfold de
  rw [List.getElem?_append_left (by rw [dm_length]; omega), dm_get hk]
theorem de_get2 {g long a n k : Nat} (h1 : 1 ≤ k) (hk : k ≤ n) : (de g long a n)[long + k]? = some (oBlk g a long k) := by
  unfold de
  rw [List.getElem?_append_right (by rw [dm_length]; omega), dm_length, List.getElem?_map, List.getElem?_range (by omega)]
  simp only [Option.map_some]
  rw [show long + k - (long + 1) + 1 = k by omega]
theorem oEp_small {g a k : Nat} (hg : g ≤ 9) (ha : a ≤ 400) (hk : k ≤ 100) : oEp g a k < 65536 := by
  have h1 : a * g ≤ 400 * 9 := Nat.mul_le_mul ha hg
  have h2 : k * (g + 1) ≤ 100 * 10 := Nat.mul_le_mul hk (by omega)
  unfold oEp
  omega
theorem de_end {g long a n : Nat} (ha : a ≤ long) : ∃ b, (de g long a n)[if n = 0 then a else long + n]? = some b ∧ b.p.name = onH g a n ∧ b.p.epoch = UInt64.ofNat (oEp g a n) := by
  by_cases h : n = 0
  · subst h
    refine ⟨mBlk g a, by rw [if_pos rfl]; exact de_get ha, ?_, ?_⟩
    · rw [mBlk_name]; rfl
    · unfold mBlk oEp
      split
      · rename_i h0
        rw [h0]
        simp
      · simp [dBlk]
  · rw [if_neg h]
    exact ⟨oBlk g a long n, de_get2 (by omega) (Nat.le_refl _), rfl, rfl⟩
theorem de_ok_add {g long a : Nat} (h1 : 1 ≤ g) (h9 : g ≤ 9) (hl : long ≤ 400) (ha : a ≤ long) {n : Nat} (hn : n < 100) (hok : ChnOk (de g long a n)) :
    chCheck (de g long a n) ⟨onH g a n, UInt64.ofNat (oEp g a (n + 1)), []⟩ = (⟨UInt64.ofNat (oEp g a (n + 1)), onH g a (n + 1)⟩, 0) ∧ chAdd (de g long a n) ⟨onH g a n, UInt64.ofNat (oEp g a (n + 1)), []⟩ = de g long a (n + 1) := by
  have hD := deep_all h1 h9
  obtain ⟨b, hb, hbn, hbe⟩ := de_end (g := g) (n := n) ha
  have hat : chAt (de g long a n) (onH g a n) = some (if n = 0 then a else long + n) := by
    have := chAt_of hok hb
    rwa [hbn] at this
  have hep : epAt (de g long a n) (if n = 0 then a else long + n) < oEp g a (n + 1) := by
    rw [epAt_of hb, hbe, ofNat_small (oEp_small h9 (by omega) (by omega))]
    unfold oEp
    rw [Nat.add_mul n]
    omega
  have hnm : shH (hname (OO g a n) (oEp g a (n + 1))) = onH g a (n + 1) := rfl
  obtain ⟨q1, q2⟩ := add_bare hok (s := OO g a n) (e := oEp g a (n + 1)) (i := if n = 0 then a else long + n) (by unfold oEp; omega) (oEp_small h9 (by omega) (by omega)) (by rw [de_length]; omega) hat hep (fun b hb => by
    rw [hnm]
    unfold de at hb
    rcases List.mem_append.1 hb with hb | hb
    · obtain ⟨k, hk, rfl⟩ := List.mem_map.1 hb
      have hk' := List.mem_range.1 hk
      rw [mBlk_name]
      intro e
      exact hD.mix a (n + 1) k (by omega) (by omega) (by omega) (by omega) (shH_a e).symm
    · obtain ⟨t, ht, rfl⟩ := List.mem_map.1 hb
      have ht' := List.mem_range.1 ht
      intro e
      exact hD.oth a (t + 1) (n + 1) (by omega) (by omega) (by omega) (by omega) (by omega) (by omega) (shH_a e))
  refine ⟨q1, q2.trans ?_⟩
  have hb2 : oBlk g a long (n + 1) = dBlk (oEp g a (n + 1)) (onH g a (n + 1)) (onH g a n) (if n = 0 then a else long + n) := by
    unfold oBlk
    congr 1
    by_cases h : n = 0
    · subst h; rfl
    · rw [if_neg (by omega), if_neg h]
      omega
  unfold de
  rw [List.range_succ, List.map_append, List.map_singleton, hb2, List.append_assoc]
  rfl
theorem de_ok {g long a : Nat} (h1 : 1 ≤ g) (h9 : g ≤ 9) (hl : long ≤ 400) (ha : a ≤ long) : ∀ n, n ≤ 100 → ChnOk (de g long a n)
  | 0, _ => by
    have : de g long a 0 = dm g long := by simp [de]
    rw [this]
    exact dm_ok h1 h9 long hl
  | n + 1, h => by
    have ih := de_ok h1 h9 hl ha n (by omega)
    rw [← (de_ok_add h1 h9 hl ha (by omega) ih).2]
    exact chAdd_ok ih _
/-! paths -/
theorem de_par {g long a n k : Nat} (h0 : 0 < k) (hk : k ≤ long) : parAt (de g long a n) k = some (k - 1) := by
  rw [parAt_of (de_get hk)]
  unfold mBlk
  rw [if_neg (by omega)]
  rfl
theorem de_par2 {g long a n k : Nat} (h0 : 1 ≤ k) (hk : k ≤ n) : parAt (de g long a n) (long + k) = some (if k = 1 then a else long + k - 1) := by
  rw [parAt_of (de_get2 h0 hk)]
  rfl
theorem de_ep {g long a n : Nat} (h9 : g ≤ 9) (hl : long ≤ 400) {k : Nat} (hk : k ≤ long) : epAt (de g long a n) k = 1 + k * g := by
  rw [epAt_of (de_get hk), mBlk_epoch (small_ep h9 (by omega))]
section
variable {g long a n : Nat} (h1 : 1 ≤ g) (h9 : g ≤ 9) (hl : long ≤ 400) (ha : a ≤ long) (hn : n ≤ 100)
include h1 h9 hl ha hn
theorem de_path {k : Nat} (hk : k ≤ long) : (pth (de g long a n) k).reverse = List.range (k + 1) := by
  have hok := de_ok h1 h9 hl ha n hn
  induction k with
  | zero =>
    rw [pth_root hok.root]
    rfl
  | succ k ih =>
    rw [pth_par hok (de_par (by omega) hk), List.reverse_cons, show k + 1 - 1 = k by omega, ih (by omega), ← List.range_succ]
theorem de_path2 : ∀ k, k ≤ n → (pth (de g long a n) (if k = 0 then a else long + k)).reverse = List.range (a + 1) ++ (List.range k).map fun t => long + (t + 1) := by
  have hok := de_ok h1 h9 hl ha n hn
  intro k
  induction k with
  | zero =>
    intro _
    rw [if_pos rfl, de_path h1 h9 hl ha hn ha]
    simp
  | succ k ih =>
    intro hk
    have hp := de_par2 (g := g) (long := long) (a := a) (k := k + 1) (by omega) hk
    have e : (if k + 1 = 1 then a else long + (k + 1) - 1) = if k = 0 then a else long + k := by
      by_cases h : k = 0
      · subst h; rfl
      · rw [if_neg (by omega), if_neg h]
        omega
    rw [e] at hp
    rw [if_neg (by omega), pth_par hok hp, List.reverse_cons, ih (by omega), List.range_succ (n := k), List.map_append, List.append_assoc]
    rfl
theorem de_at {k : Nat} (hk : k ≤ long) : chAt (de g long a n) (mnH g k) = some k := by
  have := chAt_of (de_ok h1 h9 hl ha n hn) (de_get (n := n) (a := a) hk)
  rwa [mBlk_name] at this
theorem de_at2 : chAt (de g long a n) (onH g a n) = some (if n = 0 then a else long + n) := by
  obtain ⟨b, hb, hbn, -⟩ := de_end (g := g) (n := n) ha
  have := chAt_of (de_ok h1 h9 hl ha n hn) hb
  rwa [hbn] at this
theorem deep_under {i k : Nat} (hi : i ≤ long) (hk : k ≤ long) : chUnder (de g long a n) (mnH g i) (mnH g k) = decide (k ≤ i) := by
  unfold chUnder
  rw [de_at h1 h9 hl ha hn hi, de_at h1 h9 hl ha hn hk]
  simp only
  refine decide_eq_decide.2 ?_
  rw [← List.mem_reverse, de_path h1 h9 hl ha hn hi, List.mem_range]
  omega
theorem deep_under2 {i : Nat} (hi : i ≤ long) : chUnder (de g long a n) (onH g a n) (mnH g i) = decide (i ≤ a) := by
  unfold chUnder
  rw [de_at2 h1 h9 hl ha hn, de_at h1 h9 hl ha hn hi]
  simp only
  refine decide_eq_decide.2 ?_
  rw [← List.mem_reverse, de_path2 h1 h9 hl ha hn n (Nat.le_refl _), List.mem_append, List.mem_range, List.mem_map]
  constructor
  · rintro (h | ⟨t, -, h⟩)
    · omega
    · omega
  · intro h
    exact .inl (by omega)
theorem deep_under3 {i : Nat} (hi : i ≤ long) (h0 : 0 < n) : chUnder (de g long a n) (mnH g i) (onH g a n) = false := by
  unfold chUnder
  rw [de_at2 h1 h9 hl ha hn, de_at h1 h9 hl ha hn hi]
  simp only [if_neg (show ¬ n = 0 by omega)]
  refine decide_eq_false ?_
  rw [← List.mem_reverse, de_path h1 h9 hl ha hn hi, List.mem_range]
  omega
/-! what stands at an epoch -/
theorem deep_bk {e : Nat} (he : 1 ≤ e) : ∀ k, k ≤ long → bk (de g long a n) e k = min k ((e - 1) / g) := by
  have hok := de_ok h1 h9 hl ha n hn
  intro k
  induction k with
  | zero =>
    intro _
    rw [bk_root hok.root, Nat.zero_min]
  | succ k ih =>
    intro hk
    have hep := de_ep (a := a) (n := n) h9 hl hk
    by_cases h : 1 + (k + 1) * g ≤ e
    · rw [bk_le (by rw [hep]; exact h)]
      have : k + 1 ≤ (e - 1) / g := (Nat.le_div_iff_mul_le (by omega)).2 (by omega)
      omega
    · rw [bk_par hok (de_par (by omega) hk) (by rw [hep]; omega), show k + 1 - 1 = k by omega, ih (by omega)]
      have : (e - 1) / g < k + 1 := (Nat.div_lt_iff_lt_mul (by omega)).2 (by omega)
      omega
end
end Go.Proofs.Ythdjhbiigmcecaa
