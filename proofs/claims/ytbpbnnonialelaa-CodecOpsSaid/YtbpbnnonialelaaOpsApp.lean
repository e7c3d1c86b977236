/- Slices of operations: their cells as a source of append, and behind an append. -/
import Derived.Test.YtbpbnnonialelaaOpenH
import Derived.Test.YtbpbnnonialelaaRefMay
namespace Go.Proofs.Ytbpbnnonialelaa
open Go.RowKit

/-- the operations' cells, one behind the other -/
def opCells (gs : List GOp) : List Value := (gs.map fun g => (opA g).toList).flatten
theorem opCells_cons (g : GOp) (gs : List GOp) : opCells (g :: gs) = (opA g).toList ++ opCells gs := by simp [opCells]
theorem opCells_append (gs hs : List GOp) : opCells (gs ++ hs) = opCells gs ++ opCells hs := by simp [opCells]
theorem opCells_one (g : GOp) : opCells [g] = (opA g).toList := by simp [opCells]
theorem opCells_length (gs : List GOp) : (opCells gs).length = gs.length * 36 := by
  induction gs with
  | nil => rfl
  | cons g gs ih =>
    rw [opCells_cons, List.length_append, ih]
    simp
    omega
theorem opCells_get : ∀ (gs : List GOp) (i r : Nat) (hi : i < gs.length), r < 36 → (opCells gs)[i * 36 + r]? = (opA gs[i])[r]?
  | [], i, r, hi, _ => absurd hi (by simp)
  | g :: gs, 0, r, _, hr => by
    rw [opCells_cons, List.getElem?_append_left (by simp; omega)]
    simp
  | g :: gs, i + 1, r, hi, hr => by
    have := opCells_get gs i r (by simpa using hi) hr
    rw [opCells_cons, List.getElem?_append_right (by simp; omega)]
    simp only [List.getElem_cons_succ]
    rw [← this]
    congr 1
    simp
    omega
theorem opA_one (g : GOp) : ∀ u ∈ (opA g).toList, u.oneCell' = true := by
  intro u hu
  simp only [opA, hashA, Array.toList_append, List.mem_append, List.mem_cons, List.not_mem_nil, or_false, List.mem_map] at hu
  rcases hu with (rfl | ⟨x, _, rfl⟩) | rfl | rfl | rfl <;> rfl
theorem opCells_oneCell (gs : List GOp) : ∀ u ∈ opCells gs, u.oneCell' = true := by
  intro u hu
  unfold opCells at hu
  obtain ⟨l, hl, hu⟩ := List.mem_flatten.1 hu
  obtain ⟨g, _, rfl⟩ := List.mem_map.1 hl
  exact opA_one g u hu

/-- a slice of operations, with what lies in memory by name -/
theorem ops_rows {w : World} {s : Sl} {l : List Op} (h : OpsR w s l) : ∃ gs : List GOp, gs.length = l.length ∧ (∀ (i : Nat) (h1 : i < gs.length) (h2 : i < l.length), OpR w gs[i] l[i]) ∧
    (l ≠ [] → ∃ b off, s.a = some ⟨b, off, none⟩ ∧ ∀ (i : Nat) (h1 : i < gs.length), row? w b (off + i * 36) 36 = some (opA gs[i])) := by
  by_cases hl : l = []
  · subst hl
    exact ⟨[], rfl, fun i h1 => absurd h1 (by simp), fun h => absurd rfl h⟩
  · obtain ⟨b, off, ha, hc⟩ := h.2.2 hl
    obtain ⟨gs, hgl, hp⟩ := list_of (p := fun i g => row? w b (off + i * 36) 36 = some (opA g) ∧ ∀ h2 : i < l.length, OpR w g l[i]) l.length (fun i hi => by
      obtain ⟨cs, h1, g, rfl, h2⟩ := hc i hi
      exact ⟨g, h1, fun _ => h2⟩)
    exact ⟨gs, hgl, fun i h1 h2 => (hp i h1).2 h2, fun _ => ⟨b, off, ha, fun i h1 => (hp i h1).1⟩⟩

theorem ops_src {P : Program} {w : World} {s : Sl} {l : List Op} {gs : List GOp} {t e : TypeId} (ht : P.underlying t = some (.slice e)) (hs : s.n = l.length) (hgl : gs.length = l.length)
    (hrow : l ≠ [] → ∃ b off, s.a = some ⟨b, off, none⟩ ∧ ∀ (i : Nat) (h1 : i < gs.length), row? w b (off + i * 36) 36 = some (opA gs[i])) : Src P 36 t s.v gs.length (opCells gs) w := by
  obtain ⟨a, n, c⟩ := s
  simp only at hs hrow
  by_cases hl : l = []
  · subst hl
    obtain rfl := List.eq_nil_of_length_eq_zero hgl
    obtain rfl : n = 0 := hs
    refine ⟨.inl ⟨_, ht⟩, fun _ => rfl, ?_, ?_, by simp [opCells], by simp [opCells]⟩ <;> cases a <;> simp [Builtin.firstCells, loadCells, loadCellsFrom, opCells]
  · obtain ⟨b, off, rfl, hc⟩ := hrow hl
    obtain rfl : n = gs.length := by omega
    exact Src.ofSlice w ht ⟨b, off, none⟩ gs.length c (opCells gs) (opCells_length gs) (fun j u hu => by
        have hj : j < gs.length * 36 := by
          rw [← opCells_length]
          exact (List.getElem?_eq_some_iff.1 hu).1
        have hadd : (⟨b, off, none⟩ : Addr).add j = ⟨b, off + j, none⟩ := by unfold Addr.add; split <;> simp_all
        have hd : j / 36 < gs.length := by omega
        have hm : j % 36 < 36 := Nat.mod_lt _ (by omega)
        have h1 := cell_of_row? (hc (j / 36) hd) (j % 36) hm
        have h2 := opCells_get gs (j / 36) (j % 36) hd hm
        have hj2 : j / 36 * 36 + j % 36 = j := by omega
        rw [hj2, hu] at h2
        rw [hadd, show off + j = off + j / 36 * 36 + j % 36 by omega, h1, ← h2]) (opCells_oneCell gs)

/-- operations behind one another, of the call's own -/
def OwnO (base : Nat) (gs : List GOp) (v : Value) (w : World) : Prop := OwnC w base 36 v gs.length (opCells gs)
theorem own_ops {w : World} {base : Nat} {v : Value} {gs : List GOp} {l : List Op} (h : OwnO base gs v w) (hl : gs.length = l.length) (hr : ∀ (i : Nat) (h1 : i < gs.length) (h2 : i < l.length), OpR w gs[i] l[i]) :
    ∃ s : Sl, v = s.v ∧ s.n = l.length ∧ OpsR w s l := by
  obtain ⟨_, h⟩ := h
  rcases h with ⟨rfl, hn⟩ | ⟨g, cap, rfl, _, _, hn, _, _, _, hx⟩
  · have : l = [] := List.eq_nil_of_length_eq_zero (by omega)
    subst this
    exact ⟨⟨none, 0, 0⟩, rfl, rfl, SlR.nil _ _ _ _ _⟩
  · refine ⟨⟨some ⟨g, 0, none⟩, gs.length, cap⟩, rfl, hl, hl, hn, fun _ => ⟨g, 0, rfl, fun i hi => ?_⟩⟩
    have hi' : i < gs.length := by omega
    refine ⟨opA gs[i], ?_, gs[i], rfl, hr i hi' hi⟩
    refine row?_of_cells (by simp) (by omega) (fun j hj => ?_)
    have hj' : j < 36 := by simpa using hj
    have h2 := opCells_get gs i j hi' hj'
    rw [Nat.zero_add]
    refine hx _ _ ?_
    rw [h2, Array.getElem?_eq_getElem hj]
theorem own_ops_at {w : World} {base : Nat} {s : Sl} {gs : List GOp} {l : List Op} (h : OwnO base gs s.v w) (hl : gs.length = l.length) (hr : ∀ (i : Nat) (h1 : i < gs.length) (h2 : i < l.length), OpR w gs[i] l[i]) : s.n = l.length ∧ OpsR w s l := by
  obtain ⟨s', e, h1, h2⟩ := own_ops h hl hr
  obtain ⟨a, n, c⟩ := s
  obtain ⟨a', n', c'⟩ := s'
  injection e with e1 e2 e3
  subst e1 e2 e3
  exact ⟨h1, h2⟩
/-- one operation in new memory -/
def LitO (base : Nat) (g : GOp) (v : Value) (w : World) : Prop := ∃ b, v = .slice (some ⟨b, 0, none⟩) 1 1 ∧ base ≤ b ∧ row? w b 0 36 = some (opA g)
theorem LitO.keep {base : Nat} {g : GOp} {v : Value} {w w' : World} (h : LitO base g v w) (hb : Below w.heap.size w w') : LitO base g v w' := by
  obtain ⟨b, h1, h2, h3⟩ := h
  exact ⟨b, h1, h2, (row?_below _ _ _ hb (lt_of_row h3)).trans h3⟩
theorem OwnO.keep {base : Nat} {gs : List GOp} {v : Value} {w w' : World} (h : OwnO base gs v w) (hb : Below w.heap.size w w') : OwnO base gs v w' := OwnC.keep h hb
theorem LitO.src {P : Program} {g : GOp} {w : World} {b : Nat} {t e : TypeId} (ht : P.underlying t = some (.slice e)) (h : row? w b 0 36 = some (opA g)) : Src P 36 t (.slice (some ⟨b, 0, none⟩) 1 1) 1 (opCells [g]) w :=
  ops_src (s := ⟨some ⟨b, 0, none⟩, 1, 1⟩) (l := [⟨0, zeroHash, 0, 0, []⟩]) (gs := [g]) ht rfl rfl (fun _ => ⟨b, 0, rfl, fun i h1 => by
    obtain rfl : i = 0 := by simp at h1; omega
    simpa using h⟩)
theorem info_op : (Try.prog.info? 54).map (fun i => (i.zero, i.size, i.bytes)) = some (some (.agg (opA ⟨0, zeroHash, 0, 0, ⟨none, 0, 0⟩⟩)), 36, 80) := by kernel_rfl
theorem fold_all (A B : Array Value) (n : Nat) (hn : B.size = n) (h : A.size = n) : Array.foldl (fun cs (x : Value × Nat) => cs.setIfInBounds x.2 x.1) A B.zipIdx 0 n = B := by
  have := fold_splice A B 0 n hn (by omega)
  simp only [Nat.zero_add] at this
  rw [this]
  exact splice_all A B (by omega)
theorem headerA_set_ops (o : GHeader) (a : Option Addr) (n c : Nat) : (headerA o).setIfInBounds 33 (.slice a n c) = headerA { o with ops := ⟨a, n, c⟩ } := by
  rw [set_splice _ _ _ (by simp)]
  exact splice_header_ops' o a n c
attribute [go_sem] fold_all headerA_set_ops
end Go.Proofs.Ytbpbnnonialelaa
