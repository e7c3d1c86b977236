/- Links, numbers and slices of them among the arguments, opened. -/
import Derived.Test.YtlkflddjpkhndaaLaw
import Derived.Test.YtlkflddjpkhndaaGadAll
import Derived.ChangeSlices
import Derived.Deep.Slices
import Derived.ProofKit
import Derived.OpenShut
namespace Go.Proofs.Ytlkflddjpkhndaa
open Go.ChangeShapes Go.WideShapes Go.ChangeAt Go.RowKit

theorem list_of3 {α : Type} {p : Nat → α → Prop} : ∀ (n : Nat), (∀ i, i < n → ∃ y, p i y) → ∃ l : List α, l.length = n ∧ ∀ (i : Nat) (h : i < l.length), p i l[i]
  | 0, _ => ⟨[], rfl, fun i h => absurd h (by simp)⟩
  | n + 1, h => by
    obtain ⟨l, hl, hp⟩ := list_of3 n (fun i hi => h i (by omega))
    obtain ⟨y, hy⟩ := h n (by omega)
    refine ⟨l ++ [y], by simp [hl], fun i hi => ?_⟩
    by_cases hi' : i < l.length
    · rw [List.getElem_append_left hi']
      exact hp i hi'
    · obtain rfl : i = l.length := by simp at hi; omega
      rw [List.getElem_append_right (Nat.le_refl _)]
      simp only [Nat.sub_self, List.getElem_cons_zero]
      rw [hl]
      exact hy
theorem add_none3 (a : Addr) (h : a.spot = none) (i : Nat) : a.add i = ⟨a.block, a.off + i, none⟩ := by
  obtain ⟨b, o, sp⟩ := a
  simp only at h
  subst h
  unfold Addr.add
  split <;> simp_all
theorem row_of_cells3 {w : World} {base : Nat} {a : Addr} {n : Nat} {cs : List Value} (h : w.cells? base a n = some cs) (h0 : 0 < n) : a.spot = none ∧ row? w a.block a.off n = some cs.toArray := by
  obtain ⟨_, hl, hc⟩ := World.cells?_some h
  have h1 := hc 0 h0
  rw [List.getElem?_eq_getElem (by omega), show a.add 0 = a by unfold Addr.add; simp] at h1
  have hs := World.cell?_spot h1
  refine ⟨hs, ?_⟩
  refine row?_of_cells (by simpa using hl) h0 (fun j hj => ?_)
  have h2 := hc j (by simp at hj; omega)
  rw [add_none3 a hs] at h2
  rw [h2]
  simp at hj
  simp [hj]
theorem open_rows3 {H : Type} {P : Program} {enc : TypeId × Value → H} {w : World} {base : Nat} {spare : Nat → Bool} {held : Bool} {t e : TypeId} {k : Nat} (ht : P.underlying t = some (.slice e)) (hk : P.cellsOf e = k) (h0 : 0 < k)
    {α : Type} {R : Array Value → α → Prop} (hR : ∀ fuel cs x, DataW.trod enc P w base spare held fuel e cs = some x → ∃ y, R cs.toArray y)
    {r : Reach} {b0 : Nat} {v : Value} {d : DataW H} {p : List MemPlace} (hv : Value.okWide P w r b0 t v) (h : DataW.Trod enc P w base spare held t v d p) : ∃ (s : Sl) (l : List α), v = s.v ∧ SlR k R w s l := by
  obtain ⟨a0, len0, cap0, rfl⟩ := okWide_slice ht hv
  obtain ⟨fuel, hf⟩ := h
  rcases Go.Deep.open_slice ht hf with ⟨hcs, _⟩ | ⟨a, len, cap, m, n, D, Pl, hcs, _, hl, _, hm, _, hel⟩
  · simp [Value.cells] at hcs
    obtain ⟨rfl, rfl, rfl⟩ := hcs
    exact ⟨⟨none, 0, 0⟩, [], rfl, SlR.nil _ _ _ _ _⟩
  · simp [Value.cells] at hcs
    obtain ⟨rfl, rfl, rfl⟩ := hcs
    rw [hk] at hel
    have hlm : len0 ≤ m := by rw [hm]; split <;> omega
    have hsp : 0 < len0 → a.spot = none := fun hlen => by
      obtain ⟨cs', h1, _⟩ := hel 0 (by omega)
      rw [Nat.zero_mul, show a.add 0 = a by unfold Addr.add; simp] at h1
      exact (row_of_cells3 h1 h0).1
    obtain ⟨l, hll, hp⟩ := list_of3 (p := fun i y => ∃ cs', row? w a.block (a.off + i * k) k = some cs' ∧ R cs' y) len0 (fun i hi => by
      obtain ⟨cs', h1, h2⟩ := hel i (by omega)
      obtain ⟨_, h3⟩ := row_of_cells3 h1 h0
      obtain ⟨y, hy⟩ := hR _ _ _ h2
      refine ⟨y, cs'.toArray, ?_, hy⟩
      rw [add_none3 a (hsp (by omega))] at h3
      exact h3)
    refine ⟨⟨some a, len0, cap0⟩, l, rfl, hll.symm, hl, fun hne => ?_⟩
    have hlen : 0 < len0 := by
      rcases Nat.eq_zero_or_pos len0 with h | h
      · subst h
        exact absurd (List.eq_nil_of_length_eq_zero hll) hne
      · exact h
    have hs' := hsp hlen
    refine ⟨a.block, a.off, ?_, hp⟩
    obtain ⟨b, o, sp⟩ := a
    simp only at hs'
    subst hs'
    rfl
theorem link_cells : Try.prog.cellsOf 28 = 66 := by kernel_rfl
theorem link_under : Try.prog.underlying 28 = some (.struct (Try.prog.fieldsOf 28)) := by kernel_rfl
theorem int_cells3 : Try.prog.cellsOf 3 = 1 := by kernel_rfl

/-- ints and numbers in memory -/
def IntC (cs : Array Value) (x : Int) : Prop := cs = #[.int .i64 x] ∧ -9223372036854775808 ≤ x ∧ x ≤ 9223372036854775807
def U64C (cs : Array Value) (x : UInt64) : Prop := cs = #[.int .u64 (x.toNat : Int)]
section
variable {H : Type} {enc : TypeId × Value → H} {w : World} {base : Nat} {spare : Nat → Bool} {held : Bool} {r : Reach} {b0 : Nat} {v : Value} {d : DataW H} {p : List MemPlace}
theorem open_link_l {fuel : Nat} {cs : List Value} {x : DataW H × List MemPlace} (h : DataW.trod enc Try.prog w base spare held fuel 28 cs = some x) : ∃ l : Lnk, cs = (linkA l).toList := by
  obtain ⟨n, hl, hx⟩ := field_open link_under link_fields h
  obtain ⟨y0, h0⟩ := hx 0 _ _ _ rfl
  obtain ⟨y1, h1⟩ := hx 1 _ _ _ rfl
  rw [link_cells] at hl
  rw [point_cells] at h0 h1
  obtain ⟨a, h2⟩ := open_point_l h0
  obtain ⟨b, h3⟩ := open_point_l h1
  refine ⟨⟨a, b⟩, ?_⟩
  rw [List.drop_zero] at h2
  rw [List.take_of_length_le (by rw [List.length_drop, hl]; decide)] at h3
  rw [← List.take_append_drop 33 cs, h2, h3]
  simp [linkA]
set_option maxRecDepth 100000 in
theorem open_links (hv : Value.okWide Try.prog w r b0 57 v) (h : DataW.Trod enc Try.prog w base spare held 57 v d p) : ∃ (s : Sl) (l : List Lnk), v = s.v ∧ LnksR w s l :=
  open_rows3 Try.underlying57 link_cells (by decide) (fun _ _ _ h => by
    obtain ⟨l, hl⟩ := open_link_l h
    exact ⟨l, by rw [hl]⟩) hv h
set_option maxRecDepth 100000 in
theorem open_is (hv : Value.okWide Try.prog w r b0 48 v) (h : DataW.Trod enc Try.prog w base spare held 48 v d p) : ∃ (s : Sl) (l : List Int), v = s.v ∧ SlR 1 IntC w s l :=
  open_rows3 Try.underlying48 int_cells3 (by decide) (fun _ _ _ h => by
    obtain ⟨n, rfl, _, hw⟩ := DataW.trod_int Try.underlying3 h
    have hb : -9223372036854775808 ≤ n ∧ n ≤ 9223372036854775807 := by simpa [Lit.wf, IntKind.min, IntKind.max, IntKind.signed, IntKind.bits] using hw
    exact ⟨n, rfl, hb.1, hb.2⟩) hv h
set_option maxRecDepth 100000 in
theorem open_us (hv : Value.okWide Try.prog w r b0 47 v) (h : DataW.Trod enc Try.prog w base spare held 47 v d p) : ∃ (s : Sl) (l : List UInt64), v = s.v ∧ SlR 1 U64C w s l :=
  open_rows3 Try.underlying47 u64_cells (by decide) (fun _ _ _ h => by
    obtain ⟨n, rfl⟩ := open_u64 Try.underlying22 h
    exact ⟨n, rfl⟩) hv h
set_option maxRecDepth 100000 in
theorem open_u (hv : Value.okWide Try.prog w r b0 22 v) (h : DataW.Trod enc Try.prog w base spare held 22 v d p) : ∃ n : UInt64, v = .int .u64 (n.toNat : Int) := by
  obtain ⟨x, rfl, rfl, rfl, wx⟩ := open_int Try.underlying22 hv h
  have bx : 0 ≤ x ∧ x ≤ 18446744073709551615 := by simpa [Lit.wf, IntKind.min, IntKind.max, IntKind.signed, IntKind.bits] using wx
  refine ⟨UInt64.ofNat x.toNat, ?_⟩
  have : (UInt64.ofNat x.toNat).toNat = x.toNat := by simp; omega
  rw [this, Int.toNat_of_nonneg bx.1]
end
end Go.Proofs.Ytlkflddjpkhndaa
