/- An api.Header among the arguments, opened: slices of structs, of any size. -/
import Derived.Test.YtbpbnnonialelaaOpenV
import Derived.Test.YtbpbnnonialelaaPut
import Derived.Deep.Slices
namespace Go.Proofs.Ytbpbnnonialelaa
open Go.ChangeShapes Go.WideShapes Go.ChangeAt Go.RowKit

theorem list_of {α : Type} {p : Nat → α → Prop} : ∀ (n : Nat), (∀ i, i < n → ∃ y, p i y) → ∃ l : List α, l.length = n ∧ ∀ (i : Nat) (h : i < l.length), p i l[i]
  | 0, _ => ⟨[], rfl, fun i h => absurd h (by simp)⟩
  | n + 1, h => by
    obtain ⟨l, hl, hp⟩ := list_of n (fun i hi => h i (by omega))
    obtain ⟨y, hy⟩ := h n (by omega)
    refine ⟨l ++ [y], by simp [hl], fun i hi => ?_⟩
    by_cases hi' : i < l.length
    · rw [List.getElem_append_left hi']
      exact hp i hi'
    · obtain rfl : i = l.length := by simp at hi; omega
      rw [List.getElem_append_right (Nat.le_refl _)]
      simp only [Nat.sub_self, List.getElem_cons_zero]
      rw [hl]
      exact hy

theorem add_none (a : Addr) (h : a.spot = none) (i : Nat) : a.add i = ⟨a.block, a.off + i, none⟩ := by
  obtain ⟨b, o, sp⟩ := a
  simp only at h
  subst h
  unfold Addr.add
  split <;> simp_all
theorem add_zero' (a : Addr) : a.add 0 = a := by unfold Addr.add; simp
theorem row_of_cells {w : World} {base : Nat} {a : Addr} {n : Nat} {cs : List Value} (h : w.cells? base a n = some cs) (h0 : 0 < n) : a.spot = none ∧ row? w a.block a.off n = some cs.toArray := by
  obtain ⟨_, hl, hc⟩ := World.cells?_some h
  have h1 := hc 0 h0
  rw [List.getElem?_eq_getElem (by omega), add_zero'] at h1
  have hs := World.cell?_spot h1
  refine ⟨hs, ?_⟩
  refine row?_of_cells (by simpa using hl) h0 (fun j hj => ?_)
  have h2 := hc j (by simp at hj; omega)
  rw [add_none a hs] at h2
  rw [h2]
  simp at hj
  simp [hj]

theorem open_rows {H : Type} {P : Program} {enc : TypeId × Value → H} {w : World} {base : Nat} {spare : Nat → Bool} {held : Bool} {t e : TypeId} {k : Nat} (ht : P.underlying t = some (.slice e)) (hk : P.cellsOf e = k) (h0 : 0 < k)
    {α : Type} {R : Array Value → α → Prop} (hR : ∀ fuel cs x, DataW.trod enc P w base spare held fuel e cs = some x → ∃ y, R cs.toArray y)
    {fuel : Nat} {cs : List Value} {x : DataW H × List MemPlace} (h : DataW.trod enc P w base spare held fuel t cs = some x) : ∃ (s : Sl) (l : List α), cs = [s.v] ∧ SlR k R w s l := by
  rcases Go.Deep.open_slice ht h with ⟨rfl, _⟩ | ⟨a, len, cap, m, n, D, Pl, rfl, _, hl, _, hm, _, hel⟩
  · exact ⟨⟨none, 0, 0⟩, [], rfl, SlR.nil _ _ _ _ _⟩
  · rw [hk] at hel
    have hlm : len ≤ m := by rw [hm]; split <;> omega
    have hsp : 0 < len → a.spot = none := fun hlen => by
      obtain ⟨cs', h1, _⟩ := hel 0 (by omega)
      rw [Nat.zero_mul, add_zero'] at h1
      exact (row_of_cells h1 h0).1
    obtain ⟨l, hll, hp⟩ := list_of (p := fun i y => ∃ cs', row? w a.block (a.off + i * k) k = some cs' ∧ R cs' y) len (fun i hi => by
      obtain ⟨cs', h1, h2⟩ := hel i (by omega)
      obtain ⟨_, h3⟩ := row_of_cells h1 h0
      obtain ⟨y, hy⟩ := hR _ _ _ h2
      refine ⟨y, cs'.toArray, ?_, hy⟩
      rw [add_none a (hsp (by omega))] at h3
      exact h3)
    refine ⟨⟨some a, len, cap⟩, l, rfl, hll.symm, hl, fun hne => ?_⟩
    have hlen : 0 < len := by
      rcases Nat.eq_zero_or_pos len with h | h
      · subst h
        exact absurd (List.eq_nil_of_length_eq_zero hll) hne
      · exact h
    have hs' := hsp hlen
    refine ⟨a.block, a.off, ?_, hp⟩
    obtain ⟨b, o, sp⟩ := a
    simp only at hs'
    subst hs'
    rfl

theorem op_fields : (Try.prog.fieldsOf 54).toList.map (fun f => (f.name, f.type, f.offset)) = [("Kind", 52, 0), ("Key", 27, 1), ("Stake", 22, 33), ("Validator", 3, 34), ("Evidence", 32, 35)] := by kernel_rfl
theorem op_under : Try.prog.underlying 54 = some (.struct (Try.prog.fieldsOf 54)) := by kernel_rfl
theorem header_fields : (Try.prog.fieldsOf 51).toList.map (fun f => (f.name, f.type, f.offset)) = [("Parent", 27, 0), ("Epoch", 22, 32), ("Ops", 49, 33)] := by kernel_rfl
theorem header_under : Try.prog.underlying 51 = some (.struct (Try.prog.fieldsOf 51)) := by kernel_rfl
theorem kind_cells : Try.prog.cellsOf 52 = 1 := by kernel_rfl
theorem evs_cells : Try.prog.cellsOf 32 = 1 := by kernel_rfl
theorem ops_cells : Try.prog.cellsOf 49 = 1 := by kernel_rfl
theorem op_cells : Try.prog.cellsOf 54 = 36 := by kernel_rfl
theorem header_cells : Try.prog.cellsOf 51 = 34 := by kernel_rfl

section
variable {H : Type} {enc : TypeId × Value → H} {w : World} {base : Nat} {spare : Nat → Bool} {held : Bool} {fuel : Nat} {cs : List Value} {x : DataW H × List MemPlace}
theorem drop_cut (cs : List Value) (a n b : Nat) (h : a + n = b) : cs.drop a = (cs.drop a).take n ++ cs.drop b := by
  have := (List.take_append_drop n (cs.drop a)).symm
  rwa [List.drop_drop, h] at this
theorem open_votes_l (h : DataW.trod enc Try.prog w base spare held fuel 32 cs = some x) : ∃ (s : Sl) (l : List Vote), cs = [s.v] ∧ VotesR w s l :=
  open_rows (R := VoteC w) Try.underlying32 vote_cells (by decide) (fun fuel cs x h => by
    obtain ⟨g, v, hc, hv⟩ := open_vote_l h
    exact ⟨v, g, by rw [hc], hv⟩) h
theorem open_op_l (h : DataW.trod enc Try.prog w base spare held fuel 54 cs = some x) : ∃ (g : GOp) (o : Op), cs = (opA g).toList ∧ OpR w g o := by
  obtain ⟨n, hl, hx⟩ := field_open op_under op_fields h
  obtain ⟨y0, h0⟩ := hx 0 _ _ _ rfl
  obtain ⟨y1, h1⟩ := hx 1 _ _ _ rfl
  obtain ⟨y2, h2⟩ := hx 2 _ _ _ rfl
  obtain ⟨y3, h3⟩ := hx 3 _ _ _ rfl
  obtain ⟨y4, h4⟩ := hx 4 _ _ _ rfl
  rw [op_cells] at hl
  rw [kind_cells, List.drop_zero] at h0
  rw [hash_cells] at h1
  rw [u64_cells] at h2
  rw [int_cells] at h3
  rw [evs_cells, List.take_of_length_le (by rw [List.length_drop, hl]; decide)] at h4
  obtain ⟨k, c0⟩ := open_i64 Try.underlying52 h0
  obtain ⟨key, c1⟩ := open_hash Try.underlying27 Try.underlying5 u8_cells hash_cells h1
  obtain ⟨st, c2⟩ := open_u64 Try.underlying22 h2
  obtain ⟨v, c3⟩ := open_i64 Try.underlying3 h3
  obtain ⟨s, l, c4, hs⟩ := open_votes_l h4
  refine ⟨⟨k, key, st, v, s⟩, ⟨k, key, st, v, l⟩, ?_, rfl, rfl, rfl, rfl, hs⟩
  have e1 : cs = cs.take 1 ++ cs.drop 1 := (List.take_append_drop 1 cs).symm
  rw [e1, c0, drop_cut cs 1 32 33 rfl, c1, drop_cut cs 33 1 34 rfl, c2, drop_cut cs 34 1 35 rfl, c3, c4]
  simp [opA]
theorem open_ops_l (h : DataW.trod enc Try.prog w base spare held fuel 49 cs = some x) : ∃ (s : Sl) (l : List Op), cs = [s.v] ∧ OpsR w s l :=
  open_rows (R := OpC w) Try.underlying49 op_cells (by decide) (fun fuel cs x h => by
    obtain ⟨g, v, hc, hv⟩ := open_op_l h
    exact ⟨v, g, by rw [hc], hv⟩) h
theorem open_header_l (h : DataW.trod enc Try.prog w base spare held fuel 51 cs = some x) : ∃ (g : GHeader) (o : Hdr), cs = (headerA g).toList ∧ HdrR w g o := by
  obtain ⟨n, hl, hx⟩ := field_open header_under header_fields h
  obtain ⟨y0, h0⟩ := hx 0 _ _ _ rfl
  obtain ⟨y1, h1⟩ := hx 1 _ _ _ rfl
  obtain ⟨y2, h2⟩ := hx 2 _ _ _ rfl
  rw [header_cells] at hl
  rw [hash_cells, List.drop_zero] at h0
  rw [u64_cells] at h1
  rw [ops_cells, List.take_of_length_le (by rw [List.length_drop, hl]; decide)] at h2
  obtain ⟨pa, c0⟩ := open_hash Try.underlying27 Try.underlying5 u8_cells hash_cells h0
  obtain ⟨ep, c1⟩ := open_u64 Try.underlying22 h1
  obtain ⟨s, l, c2, hs⟩ := open_ops_l h2
  refine ⟨⟨pa, ep, s⟩, ⟨pa, ep, l⟩, ?_, rfl, rfl, hs⟩
  have e1 : cs = cs.take 32 ++ cs.drop 32 := (List.take_append_drop 32 cs).symm
  rw [e1, c0, drop_cut cs 32 1 33 rfl, c1, c2]
  simp [headerA]
end
set_option maxRecDepth 100000 in
theorem open_op {H : Type} {enc : TypeId × Value → H} {w : World} {base : Nat} {spare : Nat → Bool} {held : Bool} {r : Reach} {b0 : Nat} {v : Value} {d : DataW H} {p : List MemPlace} (hv : Value.okWide Try.prog w r b0 54 v) (h : DataW.Trod enc Try.prog w base spare held 54 v d p) :
    ∃ (g : GOp) (u : Op), v = .agg (opA g) ∧ OpR w g u := by
  obtain ⟨cs, rfl, hsz⟩ := okWide_struct op_under hv
  obtain ⟨fuel, hf⟩ := h
  obtain ⟨g, u, hp, hr⟩ := open_op_l hf
  exact ⟨g, u, congrArg Value.agg (Array.ext' (by simpa [Value.cells] using hp)), hr⟩
set_option maxRecDepth 100000 in
theorem open_header {H : Type} {enc : TypeId × Value → H} {w : World} {base : Nat} {spare : Nat → Bool} {held : Bool} {r : Reach} {b0 : Nat} {v : Value} {d : DataW H} {p : List MemPlace} (hv : Value.okWide Try.prog w r b0 51 v) (h : DataW.Trod enc Try.prog w base spare held 51 v d p) :
    ∃ (g : GHeader) (u : Hdr), v = .agg (headerA g) ∧ HdrR w g u := by
  obtain ⟨cs, rfl, hsz⟩ := okWide_struct header_under hv
  obtain ⟨fuel, hf⟩ := h
  obtain ⟨g, u, hp, hr⟩ := open_header_l hf
  exact ⟨g, u, congrArg Value.agg (Array.ext' (by simpa [Value.cells] using hp)), hr⟩
end Go.Proofs.Ytbpbnnonialelaa
