/- A chain of checkpoints, each linked to the next one: plain Lean. -/
import Derived.Test.YtlkflddjpkhndaaFPlain
namespace Go.Proofs.Ytlkflddjpkhndaa

/-- rising epochs, none above 2^62 -/
structure Rise (P : List Pt) : Prop where
  may : ∀ i (h : i < P.length), P[i].epoch.toNat ≤ 4611686018427387904
  lt : ∀ i (h : i + 1 < P.length), P[i].epoch.toNat < P[i + 1].epoch.toNat
theorem Rise.lts {P : List Pt} (h : Rise P) (i : Nat) : ∀ (j : Nat) (hj : j < P.length) (hij : i < j), P[i].epoch.toNat < P[j].epoch.toNat := by
  intro j
  induction j with
  | zero => intro _ hij; omega
  | succ j ih =>
    intro hj hij
    have h1 := h.lt j hj
    by_cases hi : i = j
    · subst hi; exact h1
    · have := ih (by omega) (by omega)
      omega
theorem Rise.inj {P : List Pt} (h : Rise P) {i j : Nat} (hi : i < P.length) (hj : j < P.length) (e : P[i].epoch = P[j].epoch) : i = j := by
  rcases Nat.lt_trichotomy i j with hh | hh | hh
  · have := h.lts i j hj hh
    rw [e] at this
    omega
  · exact hh
  · have := h.lts j i hi hh
    rw [e] at this
    omega
theorem Rise.sorted {P : List Pt} (h : Rise P) : P.Pairwise ptLt := List.pairwise_iff_getElem.2 fun i j hi hj hij => .inl (h.lts i j hj hij)
/-- the chain's links -/
def Lk (P : List Pt) (x : Lnk) : Prop := ∃ (i : Nat) (h : i + 1 < P.length), x = ⟨P[i], P[i + 1]⟩
theorem ch_jus {P : List Pt} {A : List Lnk} (h0 : 0 < P.length) (hA : ∀ x, x ∈ A ↔ Lk P x) (q : Pt) : Jus P[0] A q ↔ q ∈ P := by
  constructor
  · intro h
    induction h with
    | anchor => exact List.getElem_mem _
    | step l hl _ _ =>
      obtain ⟨i, hi, rfl⟩ := (hA l).1 hl
      exact List.getElem_mem _
  · intro h
    obtain ⟨i, hi, rfl⟩ := List.mem_iff_getElem.1 h
    clear h
    induction i with
    | zero => exact .anchor
    | succ i ih => exact .step ⟨P[i], P[i + 1]⟩ ((hA _).2 ⟨i, hi, rfl⟩) (ih (by omega))
theorem ch_fin {P : List Pt} {A : List Lnk} (hR : Rise P) (hA : ∀ x, x ∈ A ↔ Lk P x) (i : Nat) (hi : i < P.length) : Fin (P[0]'(by omega)) A P[i] ↔ i = 0 ∨ ∃ h : i + 1 < P.length, P[i + 1].epoch = P[i].epoch + 1 := by
  constructor
  · rintro (h | ⟨l, hl, e, _, hn⟩)
    · exact .inl (hR.inj hi (by omega) (by rw [h]))
    · obtain ⟨k, hk, rfl⟩ := (hA l).1 hl
      have := hR.inj (by omega) hi (congrArg Pt.epoch e)
      subst this
      exact .inr ⟨hk, hn⟩
  · rintro (h | ⟨h, e⟩)
    · subst h
      exact .inl rfl
    · exact .inr ⟨⟨P[i], P[i + 1]⟩, (hA _).2 ⟨i, h, rfl⟩, rfl, (ch_jus (by omega) hA _).2 (List.getElem_mem _), e⟩
end Go.Proofs.Ytlkflddjpkhndaa
