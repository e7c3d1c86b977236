/- The order of checkpoints is the order of their bytes: plain Lean. -/
import Derived.Test.YtbpbnnonialelaaLess
import Derived.Test.YtbpbnnonialelaaCodec1
namespace Go.Proofs.Ytbpbnnonialelaa
open Go.RowKit

theorem bytesLess_dec : ∀ (x y : List UInt8), Op.bytesLess x y = decide (x < y)
  | _, [] => by simp [Op.bytesLess]
  | [], _ :: _ => by simp [Op.bytesLess]
  | a :: x, b :: y => by
    rw [Op.bytesLess, bytesLess_dec x y, Bool.eq_iff_iff]
    simp only [Bool.or_eq_true, Bool.and_eq_true, decide_eq_true_eq, beq_iff_eq, List.cons_lt_cons_iff]
theorem lexC_cmp : ∀ (x y : List UInt8), (lexC x y < 0 ↔ x < y) ∧ (lexC x y = 0 ↔ x = y)
  | [], [] => by simp [lexC]
  | [], _ :: _ => by simp [lexC]
  | _ :: _, [] => by simp [lexC]
  | a :: x, b :: y => by
    have ih := lexC_cmp x y
    rw [lexC]
    rcases Nat.lt_trichotomy a.toNat b.toNat with h | h | h
    · have hc : cmpI (a.toNat : Int) b.toNat = -1 := by unfold cmpI; rw [if_pos (by omega)]
      have hab : a < b := UInt8.lt_iff_toNat_lt.2 h
      rw [hc]
      simp [List.cons_lt_cons_iff, hab]
      intro e
      subst e
      omega
    · have hc : cmpI (a.toNat : Int) b.toNat = 0 := by unfold cmpI; rw [if_neg (by omega), if_neg (by omega)]
      have hab : a = b := UInt8.toNat_inj.1 h
      subst hab
      rw [hc]
      simp [List.cons_lt_cons_iff, ih]
    · have hc : cmpI (a.toNat : Int) b.toNat = 1 := by unfold cmpI; rw [if_neg (by omega), if_pos (by omega)]
      have hab : ¬ a < b := fun h' => by have := UInt8.lt_iff_toNat_lt.1 h'; omega
      have hne : a ≠ b := fun e => by subst e; omega
      rw [hc]
      simp [List.cons_lt_cons_iff, hab, hne]
theorem append_lt {a b x y : List UInt8} (h : a.length = b.length) : a ++ x < b ++ y ↔ a < b ∨ (a = b ∧ x < y) := by
  induction a generalizing b with
  | nil =>
    have : b = [] := List.eq_nil_of_length_eq_zero (by simpa using h.symm)
    subst this
    simp
  | cons c a ih =>
    cases b with
    | nil => simp at h
    | cons d b =>
      have := ih (b := b) (by simpa using h)
      simp only [List.cons_append, List.cons_lt_cons_iff, this, List.cons.injEq]
      constructor
      · rintro (g | ⟨e, g | ⟨h1, h2⟩⟩)
        · exact .inl (.inl g)
        · exact .inl (.inr ⟨e, g⟩)
        · exact .inr ⟨⟨e, h1⟩, h2⟩
      · rintro ((g | ⟨e, g⟩) | ⟨⟨e, h1⟩, h2⟩)
        · exact .inl g
        · exact .inr ⟨e, .inl g⟩
        · exact .inr ⟨e, .inr ⟨h1, h2⟩⟩
theorem ofNat_lt (n m : Nat) : UInt8.ofNat n < UInt8.ofNat m ↔ n % 256 < m % 256 := by
  rw [UInt8.lt_iff_toNat_lt]
  simp
theorem ofNat_eq (n m : Nat) : UInt8.ofNat n = UInt8.ofNat m ↔ n % 256 = m % 256 := by
  rw [← UInt8.toNat_inj]
  simp
theorem be_eq : ∀ (k n m : Nat), n < 256 ^ k → m < 256 ^ k → (be k n = be k m ↔ n = m)
  | 0, n, m, hn, hm => by simp [be]; simp at hn hm; omega
  | k + 1, n, m, hn, hm => by
    have hn' : n / 256 < 256 ^ k := by rw [Nat.pow_succ] at hn; omega
    have hm' : m / 256 < 256 ^ k := by rw [Nat.pow_succ] at hm; omega
    have ih := be_eq k (n / 256) (m / 256) hn' hm'
    rw [be, be]
    constructor
    · intro h
      obtain ⟨h1, h2⟩ := List.append_inj h (by simp [be_length])
      have h3 := ih.1 h1
      have h4 := (ofNat_eq n m).1 (by simpa using h2)
      omega
    · rintro rfl
      rfl
theorem be_lt : ∀ (k n m : Nat), n < 256 ^ k → m < 256 ^ k → (be k n < be k m ↔ n < m)
  | 0, n, m, hn, hm => by simp [be]; simp at hn hm; omega
  | k + 1, n, m, hn, hm => by
    have hn' : n / 256 < 256 ^ k := by rw [Nat.pow_succ] at hn; omega
    have hm' : m / 256 < 256 ^ k := by rw [Nat.pow_succ] at hm; omega
    have ih := be_lt k (n / 256) (m / 256) hn' hm'
    have ihe := be_eq k (n / 256) (m / 256) hn' hm'
    rw [be, be, append_lt (by simp [be_length]), ih, ihe]
    have : [UInt8.ofNat n] < [UInt8.ofNat m] ↔ n % 256 < m % 256 := by
      rw [← ofNat_lt]
      simp [List.cons_lt_cons_iff]
    rw [this]
    omega
theorem epoch_lt (p : Pt) : p.epoch.toNat < 256 ^ 8 := by have := p.epoch.toNat_lt; omega
theorem ptBytes_inj {p q : Pt} : ptBytes p = ptBytes q ↔ p = q := by
  constructor
  · intro h
    obtain ⟨h1, h2⟩ := List.append_inj h (by simp [be_length])
    have h3 := (be_eq 8 _ _ (epoch_lt p) (epoch_lt q)).1 h1
    cases p; cases q
    simp only [Pt.mk.injEq]
    exact ⟨UInt64.toNat_inj.1 h3, Subtype.ext h2⟩
  · rintro rfl
    rfl
/-- is a checkpoint ahead of another one? -/
def ptLt (p q : Pt) : Bool := decide (ptCmp p q < 0)
theorem ptCmp_lt (p q : Pt) : ptCmp p q < 0 ↔ ptBytes p < ptBytes q := by
  unfold ptBytes
  rw [append_lt (by simp [be_length]), be_lt 8 _ _ (epoch_lt p) (epoch_lt q), be_eq 8 _ _ (epoch_lt p) (epoch_lt q), ← (lexC_cmp p.name.1 q.name.1).1]
  unfold ptCmp orI cmpI
  rcases Nat.lt_trichotomy p.epoch.toNat q.epoch.toNat with h | h | h
  · rw [if_pos (show (p.epoch.toNat : Int) < q.epoch.toNat by omega)]
    simp [h]
  · rw [if_neg (show ¬ (p.epoch.toNat : Int) < q.epoch.toNat by omega), if_neg (show ¬ (q.epoch.toNat : Int) < p.epoch.toNat by omega)]
    simp [h]
  · rw [if_neg (show ¬ (p.epoch.toNat : Int) < q.epoch.toNat by omega), if_pos (show (q.epoch.toNat : Int) < p.epoch.toNat by omega)]
    simp
    omega
theorem ptLt_bytes (p q : Pt) : Op.bytesLess (ptBytes p) (ptBytes q) = ptLt p q := by
  rw [bytesLess_dec]
  unfold ptLt
  rw [Bool.eq_iff_iff, decide_eq_true_eq, decide_eq_true_eq, ptCmp_lt]
theorem ptLt_iff (p q : Pt) : ptLt p q = true ↔ ptBytes p < ptBytes q := by
  unfold ptLt
  rw [decide_eq_true_eq, ptCmp_lt]
theorem ptLt_asymm (p q : Pt) (h : ptLt p q = true) : ptLt q p = false := by
  rw [Bool.eq_false_iff]
  intro h2
  rw [ptLt_iff] at h h2
  exact List.lt_asymm h h2
theorem ptLt_irrefl (p : Pt) : ptLt p p = false := by
  rw [Bool.eq_false_iff]
  intro h2
  rw [ptLt_iff] at h2
  exact List.lt_irrefl _ h2
theorem ptLt_tri (p q : Pt) (h1 : ptLt p q = false) (h2 : ptLt q p = false) : p = q := by
  rw [Bool.eq_false_iff, ne_eq, ptLt_iff] at h1 h2
  exact ptBytes_inj.1 (List.le_antisymm (List.not_lt.1 h2) (List.not_lt.1 h1))
theorem ptLt_trans (p q r : Pt) (h1 : ptLt p q = true) (h2 : ptLt q r = true) : ptLt p r = true := by
  rw [ptLt_iff] at *
  exact List.lt_trans h1 h2
end Go.Proofs.Ytbpbnnonialelaa
