/- Stores of structs and arrays as a whole, for the walk. -/
import Derived.Test.YtlkflddjpkhndaaMem
import Derived.Deep.MidRow
namespace Go.Proofs.Ytlkflddjpkhndaa
open Go.RowKit

/-- the world behind a store of a row of cells -/
def putRow (w : World) (b off : Nat) (xs : Array Value) : World := w.setCells b off xs.toList
/-- cells that may be written -/
def there (w : World) (b off n : Nat) : Prop := w.there b off n

theorem row?_of_cells {w : World} {b off n : Nat} {l : Array Value} (hn : l.size = n) (h0 : 0 < n) (h : ∀ j (hj : j < l.size), w.cell? ⟨b, off + j, none⟩ = some l[j]) : row? w b off n = some l := by
  subst hn
  have hk : ∀ (j : Nat) (hj : j < l.size), ∃ cs t fr, w.heap[b]? = some (.cells cs t fr) ∧ cs[off + j]? = some l[j] := fun j hj => by
    have := h j hj
    simp only [World.cell?] at this
    split at this
    · rename_i cs t fr hg; exact ⟨cs, t, fr, hg, this⟩
    · cases this
  obtain ⟨cs, t, fr, hg, _⟩ := hk 0 h0
  have hc : ∀ (j : Nat) (hj : j < l.size), cs[off + j]? = some l[j] := fun j hj => by
    obtain ⟨cs', t', fr', hg', h'⟩ := hk j hj
    rw [hg] at hg'
    cases hg'
    exact h'
  have hle : off + l.size ≤ cs.size := by
    have := (Array.getElem?_eq_some_iff.1 (hc (l.size - 1) (by omega))).1
    omega
  unfold row?
  rw [hg]
  simp only [hle, if_true, Option.some.injEq]
  apply Array.ext_getElem?
  intro j
  rw [Array.getElem?_extract]
  by_cases hj : j < l.size
  · rw [hc j hj, Array.getElem?_eq_getElem hj]; simp; omega
  · rw [Array.getElem?_eq_none (xs := l) (by omega)]
    have : ¬ j < min (off + l.size) cs.size - off := by omega
    rw [if_neg this]

theorem cell_of_row? {w : World} {b off n : Nat} {l : Array Value} (h : row? w b off n = some l) (j : Nat) (hj : j < n) : w.cell? ⟨b, off + j, none⟩ = l[j]? := by
  obtain ⟨cs, t, fr, hg, hle, rfl⟩ := row?_some h
  rw [cell_of_row w b (off + j) cs t fr hg, Array.getElem?_extract]
  simp [show off + j < off + n by omega]
  omega
theorem row?_length {w : World} {b off n : Nat} {l : Array Value} (h : row? w b off n = some l) : l.size = n := by
  obtain ⟨cs, t, fr, hg, hle, rfl⟩ := row?_some h
  simp; omega

theorem there_new (w : World) (cs : Array Value) (t : TypeId) (off n : Nat) (h : off + n ≤ cs.size) : there (w.alloc (.cells cs t)) w.heap.size off n := fun j hj => by
  refine ⟨by simp; omega, ?_⟩
  exact frozen_of_row _ w.heap.size _ cs t (heap_alloc_new w _)
theorem there_old (w : World) (o : Obj) (b off n : Nat) (hb : b < w.heap.size) (h : there w b off n) : there (w.alloc o) b off n := World.there_alloc h o
theorem there_drew (w : World) (b off n : Nat) (h : there w b off n) : there w.drew b off n := h
theorem there_drewN (w : World) (k b off n : Nat) (h : there w b off n) : there (w.drewN k) b off n := h
theorem there_put (w : World) (b' off' : Nat) (xs : Array Value) (b off n : Nat) (h : there w b off n) : there (putRow w b' off' xs) b off n := World.there_setCells h _ _ _
theorem there_set (w : World) (a : Addr) (v : Value) (b off n : Nat) (h : there w b off n) : there (w.setCell a v) b off n := fun j hj => by
  obtain ⟨h1, h2⟩ := h j hj
  refine ⟨?_, by rw [World.frozen?_setCell]; exact h2⟩
  by_cases e : a = (⟨b, off + j, none⟩ : Addr)
  · subst e
    obtain ⟨u, hu⟩ := Option.isSome_iff_exists.1 h1
    rw [World.cell?_setCell_same _ _ _ hu]; rfl
  · rw [World.cell?_setCell_other _ _ _ _ e]; exact h1
theorem there_below {B : Nat} {w w' : World} (hb : Below B w w') {b off n : Nat} (hlt : b < B) (h : there w b off n) : there w' b off n := fun j hj => by
  obtain ⟨h1, h2⟩ := h j hj
  exact ⟨by rw [hb.cell (p := ⟨b, off + j, none⟩) hlt]; exact h1, by rw [hb.frozen (p := ⟨b, off + j, none⟩) hlt]; exact h2⟩
theorem there_part {w : World} {b off n : Nat} (h : there w b off n) {off' n' : Nat} (h1 : off ≤ off') (h2 : off' + n' ≤ off + n) : there w b off' n' := fun j hj => by
  have := h (off' - off + j) (by omega)
  rwa [show off + (off' - off + j) = off' + j by omega] at this

theorem size_put (w : World) (b off : Nat) (xs : Array Value) : (putRow w b off xs).heap.size = w.heap.size := setCells_size _ _ _ _
theorem frozen_put (w : World) (b off : Nat) (xs : Array Value) (x : Addr) : (putRow w b off xs).frozen? x = w.frozen? x := World.frozen?_setCells _ _ _ _ _
theorem below_put {B : Nat} {a w : World} {b : Nat} (h : Below B a w) (hb : B ≤ b) (off : Nat) (xs : Array Value) : Below B a (putRow w b off xs) := by
  have hm := setCells_misc b xs.toList off w
  exact ⟨hm.1.trans h.os, hm.2.1.trans h.tape, hm.2.2.trans h.output, by rw [size_put]; exact h.size, fun k hk => (setCells_far b _ _ _ k (by omega)).trans (h.block k hk)⟩
theorem cell_put_far (w : World) (b off : Nat) (xs : Array Value) (b' i : Nat) (h : b' ≠ b) : (putRow w b off xs).cell? ⟨b', i, none⟩ = w.cell? ⟨b', i, none⟩ :=
  World.cell?_setCells_out _ _ _ _ _ (fun e _ => absurd e h)
theorem cell_put_out (w : World) (b off : Nat) (xs : Array Value) (i : Nat) (h : i < off ∨ off + xs.size ≤ i) : (putRow w b off xs).cell? ⟨b, i, none⟩ = w.cell? ⟨b, i, none⟩ :=
  World.cell?_setCells_out _ _ _ _ _ (fun _ _ => by simpa using h)
theorem cell_put_in (w : World) (b off : Nat) (xs : Array Value) (i : Nat) (ht : there w b off xs.size) (h : off ≤ i) (h2 : i < off + xs.size) : (putRow w b off xs).cell? ⟨b, i, none⟩ = xs[i - off]? := by
  have := World.cell?_setCells_in b xs.toList off w (fun j hj => (ht j (by simpa using hj)).1) (i - off) (by simp; omega)
  rw [show off + (i - off) = i by omega] at this
  rw [putRow, this, Array.getElem?_eq_getElem (by omega)]
  simp

/-- a row with a part of it put anew -/
def splice (cs : Array Value) (off : Nat) (xs : Array Value) : Array Value := cs.extract 0 off ++ xs ++ cs.extract (off + xs.size) cs.size
theorem row?_put_far (w : World) (b off : Nat) (xs : Array Value) (b' off' n' : Nat) (h : b' ≠ b) : row? (putRow w b off xs) b' off' n' = row? w b' off' n' := by
  simp [row?, putRow, setCells_far b _ _ _ b' h]
theorem row?_put_same (w : World) (b off n : Nat) (xs : Array Value) (hn : xs.size = n) (h0 : 0 < n) (ht : there w b off n) : row? (putRow w b off xs) b off n = some xs := by
  subst hn
  refine row?_of_cells rfl h0 fun j hj => ?_
  rw [cell_put_in w b off xs (off + j) ht (by omega) (by omega), show off + j - off = j by omega, Array.getElem?_eq_getElem hj]
theorem splice_size (cs : Array Value) (off : Nat) (xs : Array Value) (h : off + xs.size ≤ cs.size) : (splice cs off xs).size = cs.size := by
  simp [splice]; omega
theorem splice_get (cs : Array Value) (off : Nat) (xs : Array Value) (h : off + xs.size ≤ cs.size) (i : Nat) : (splice cs off xs)[i]? = if off ≤ i ∧ i < off + xs.size then xs[i - off]? else cs[i]? := by
  have e1 : (cs.extract 0 off).size = off := by simp; omega
  have g1 : ∀ k, k < off → (cs.extract 0 off)[k]? = cs[k]? := fun k hk => by rw [Array.getElem?_extract, if_pos (by omega), Nat.zero_add]
  have g2 : ∀ k, (cs.extract (off + xs.size) cs.size)[k]? = cs[off + xs.size + k]? := fun k => by
    rw [Array.getElem?_extract]
    split
    · rfl
    · rw [Array.getElem?_eq_none (by omega)]
  generalize hA : cs.extract 0 off = A at e1 g1
  generalize hB : cs.extract (off + xs.size) cs.size = B at g2
  unfold splice
  rw [hA, hB]
  by_cases h1 : i < off + xs.size
  · rw [Array.getElem?_append_left (by rw [Array.size_append, e1]; exact h1)]
    by_cases h2 : i < off
    · rw [Array.getElem?_append_left (by rw [e1]; exact h2), g1 i h2, if_neg (by omega)]
    · rw [Array.getElem?_append_right (by rw [e1]; omega), e1, if_pos (by omega)]
  · rw [Array.getElem?_append_right (by rw [Array.size_append, e1]; omega), Array.size_append, e1, g2, if_neg (by omega)]
    congr 1; omega
theorem row?_put_in (w : World) (b off N : Nat) (xs : Array Value) (hle : off + xs.size ≤ N) (h0 : 0 < N) (ht : there w b off xs.size) (hs : (row? w b 0 N).isSome = true) :
    row? (putRow w b off xs) b 0 N = (row? w b 0 N).map (splice · off xs) := by
  obtain ⟨l, hl⟩ := Option.isSome_iff_exists.1 hs
  rw [hl]
  have hlen := row?_length hl
  refine row?_of_cells (by rw [splice_size _ _ _ (by omega)]; exact hlen) h0 fun j hj => ?_
  rw [splice_size _ _ _ (by omega)] at hj
  have hg := splice_get l off xs (by omega) j
  rw [Array.getElem?_eq_getElem (by rw [splice_size _ _ _ (by omega)]; omega)] at hg
  rw [hg]
  split
  · rename_i hin
    rw [Nat.zero_add, cell_put_in w b off xs j ht hin.1 hin.2]
  · rename_i hout
    rw [Nat.zero_add, cell_put_out w b off xs j (by omega)]
    have := cell_of_row? hl j (by omega)
    rwa [Nat.zero_add] at this
/-- one cell of a row put anew -/
theorem row?_set_in (w : World) (b i N : Nat) (v : Value) (hi : i < N) (hs : (row? w b 0 N).isSome = true) : row? (w.setCell ⟨b, i, none⟩ v) b 0 N = (row? w b 0 N).map (splice · i #[v]) := by
  obtain ⟨l, hl⟩ := Option.isSome_iff_exists.1 hs
  rw [hl]
  have hlen := row?_length hl
  refine row?_of_cells (by rw [splice_size _ _ _ (by simp; omega)]; exact hlen) (by omega) fun j hj => ?_
  rw [splice_size _ _ _ (by simp; omega)] at hj
  have hg := splice_get l i #[v] (by simp; omega) j
  rw [Array.getElem?_eq_getElem (by rw [splice_size _ _ _ (by simp; omega)]; omega)] at hg
  rw [hg]
  have hc := cell_of_row? hl j (by omega)
  rw [Nat.zero_add] at hc ⊢
  by_cases e : j = i
  · subst e
    rw [World.cell?_setCell_same _ _ _ (hc.trans (Array.getElem?_eq_getElem (xs := l) (by omega)))]
    simp
  · rw [World.cell?_setCell_other _ _ _ _ (by intro h; injection h with h1 h2; omega), if_neg (by simp; omega)]
    exact hc

/-- a store of a struct or an array, by a name that the walk does not open -/
def storeAgg (t : TypeId) (x v : Value) : Sem Unit := Instr.storeAt t x v
theorem run_storeAgg {P : Program} {t : TypeId} {n : Nat} (hi : (P.info? t).map (·.size) = some n) (w : World) (b off : Nat) (xs : Array Value) (hn : xs.size = n) (h1 : xs.all (·.oneCell') = true) (ht : there w b off n) :
    (storeAgg t (.pointer (some ⟨b, off, none⟩)) (.agg xs)).run P w = .ok () (putRow w b off xs) := by
  subst hn
  exact run_storeAt_mid w b off t xs ht hi h1

theorem oneHash (h : Hash) : (hashA h).all (·.oneCell') = true := by simp [hashA, byteV, Value.oneCell']
theorem oneApp {a b : Array Value} (ha : a.all (·.oneCell') = true) (hb : b.all (·.oneCell') = true) : (a ++ b).all (·.oneCell') = true := by
  simp only [Array.all_append, ha, hb]; rfl
theorem onePoint (p : Pt) : (pointA p).all (·.oneCell') = true := oneApp (by simp [Value.oneCell']) (oneHash _)
theorem oneLink (p : Lnk) : (linkA p).all (·.oneCell') = true := oneApp (onePoint _) (onePoint _)
theorem oneVote (v : GVote) : (voteA v).all (·.oneCell') = true := oneApp (oneApp (oneApp (by simp [Value.oneCell']) (onePoint _)) (onePoint _)) (by simp [Value.oneCell'])
theorem oneOp (v : GOp) : (opA v).all (·.oneCell') = true := oneApp (oneApp (by simp [Value.oneCell']) (oneHash _)) (by simp [Value.oneCell'])
theorem oneHeader (v : GHeader) : (headerA v).all (·.oneCell') = true := oneApp (oneHash _) (by simp [Value.oneCell'])
/-- each is one cell -/
def oneCells (xs : Array Value) : Prop := xs.all (·.oneCell') = true
theorem onesHash (h : Hash) : oneCells (hashA h) := oneHash h
theorem onesPoint (h : Pt) : oneCells (pointA h) := onePoint h
theorem onesLink (h : Lnk) : oneCells (linkA h) := oneLink h
theorem onesVote (h : GVote) : oneCells (voteA h) := oneVote h
theorem onesOp (h : GOp) : oneCells (opA h) := oneOp h
theorem onesHeader (h : GHeader) : oneCells (headerA h) := oneHeader h
/-! numbers of blocks -/
section
variable (n : Nat)
theorem blk_ne1 : (n = n + 1) = False := by simp only [eq_iff_iff, iff_true, iff_false]; omega
theorem blk_en1 : (n + 1 = n) = False := by simp only [eq_iff_iff, iff_true, iff_false]; omega
theorem blk_lt1 : (n < n + 1) = True := by simp only [eq_iff_iff, iff_true, iff_false]; omega
theorem blk_le1 : (n ≤ n + 1) = True := by simp only [eq_iff_iff, iff_true, iff_false]; omega
theorem blk_gt1 : (n + 1 < n) = False := by simp only [eq_iff_iff, iff_true, iff_false]; omega
theorem blk_ge1 : (n + 1 ≤ n) = False := by simp only [eq_iff_iff, iff_true, iff_false]; omega
theorem blk_ne2 : (n = n + 1 + 1) = False := by simp only [eq_iff_iff, iff_true, iff_false]; omega
theorem blk_en2 : (n + 1 + 1 = n) = False := by simp only [eq_iff_iff, iff_true, iff_false]; omega
theorem blk_lt2 : (n < n + 1 + 1) = True := by simp only [eq_iff_iff, iff_true, iff_false]; omega
theorem blk_le2 : (n ≤ n + 1 + 1) = True := by simp only [eq_iff_iff, iff_true, iff_false]; omega
theorem blk_gt2 : (n + 1 + 1 < n) = False := by simp only [eq_iff_iff, iff_true, iff_false]; omega
theorem blk_ge2 : (n + 1 + 1 ≤ n) = False := by simp only [eq_iff_iff, iff_true, iff_false]; omega
theorem blk_ne3 : (n = n + 1 + 1 + 1) = False := by simp only [eq_iff_iff, iff_true, iff_false]; omega
theorem blk_en3 : (n + 1 + 1 + 1 = n) = False := by simp only [eq_iff_iff, iff_true, iff_false]; omega
theorem blk_lt3 : (n < n + 1 + 1 + 1) = True := by simp only [eq_iff_iff, iff_true, iff_false]; omega
theorem blk_le3 : (n ≤ n + 1 + 1 + 1) = True := by simp only [eq_iff_iff, iff_true, iff_false]; omega
theorem blk_gt3 : (n + 1 + 1 + 1 < n) = False := by simp only [eq_iff_iff, iff_true, iff_false]; omega
theorem blk_ge3 : (n + 1 + 1 + 1 ≤ n) = False := by simp only [eq_iff_iff, iff_true, iff_false]; omega
theorem blk_ne4 : (n = n + 1 + 1 + 1 + 1) = False := by simp only [eq_iff_iff, iff_true, iff_false]; omega
theorem blk_en4 : (n + 1 + 1 + 1 + 1 = n) = False := by simp only [eq_iff_iff, iff_true, iff_false]; omega
theorem blk_lt4 : (n < n + 1 + 1 + 1 + 1) = True := by simp only [eq_iff_iff, iff_true, iff_false]; omega
theorem blk_le4 : (n ≤ n + 1 + 1 + 1 + 1) = True := by simp only [eq_iff_iff, iff_true, iff_false]; omega
theorem blk_gt4 : (n + 1 + 1 + 1 + 1 < n) = False := by simp only [eq_iff_iff, iff_true, iff_false]; omega
theorem blk_ge4 : (n + 1 + 1 + 1 + 1 ≤ n) = False := by simp only [eq_iff_iff, iff_true, iff_false]; omega
theorem blk_ne5 : (n = n + 1 + 1 + 1 + 1 + 1) = False := by simp only [eq_iff_iff, iff_true, iff_false]; omega
theorem blk_en5 : (n + 1 + 1 + 1 + 1 + 1 = n) = False := by simp only [eq_iff_iff, iff_true, iff_false]; omega
theorem blk_lt5 : (n < n + 1 + 1 + 1 + 1 + 1) = True := by simp only [eq_iff_iff, iff_true, iff_false]; omega
theorem blk_le5 : (n ≤ n + 1 + 1 + 1 + 1 + 1) = True := by simp only [eq_iff_iff, iff_true, iff_false]; omega
theorem blk_gt5 : (n + 1 + 1 + 1 + 1 + 1 < n) = False := by simp only [eq_iff_iff, iff_true, iff_false]; omega
theorem blk_ge5 : (n + 1 + 1 + 1 + 1 + 1 ≤ n) = False := by simp only [eq_iff_iff, iff_true, iff_false]; omega
theorem blk_ne6 : (n = n + 1 + 1 + 1 + 1 + 1 + 1) = False := by simp only [eq_iff_iff, iff_true, iff_false]; omega
theorem blk_en6 : (n + 1 + 1 + 1 + 1 + 1 + 1 = n) = False := by simp only [eq_iff_iff, iff_true, iff_false]; omega
theorem blk_lt6 : (n < n + 1 + 1 + 1 + 1 + 1 + 1) = True := by simp only [eq_iff_iff, iff_true, iff_false]; omega
theorem blk_le6 : (n ≤ n + 1 + 1 + 1 + 1 + 1 + 1) = True := by simp only [eq_iff_iff, iff_true, iff_false]; omega
theorem blk_gt6 : (n + 1 + 1 + 1 + 1 + 1 + 1 < n) = False := by simp only [eq_iff_iff, iff_true, iff_false]; omega
theorem blk_ge6 : (n + 1 + 1 + 1 + 1 + 1 + 1 ≤ n) = False := by simp only [eq_iff_iff, iff_true, iff_false]; omega
theorem blk_ne7 : (n = n + 1 + 1 + 1 + 1 + 1 + 1 + 1) = False := by simp only [eq_iff_iff, iff_true, iff_false]; omega
theorem blk_en7 : (n + 1 + 1 + 1 + 1 + 1 + 1 + 1 = n) = False := by simp only [eq_iff_iff, iff_true, iff_false]; omega
theorem blk_lt7 : (n < n + 1 + 1 + 1 + 1 + 1 + 1 + 1) = True := by simp only [eq_iff_iff, iff_true, iff_false]; omega
theorem blk_le7 : (n ≤ n + 1 + 1 + 1 + 1 + 1 + 1 + 1) = True := by simp only [eq_iff_iff, iff_true, iff_false]; omega
theorem blk_gt7 : (n + 1 + 1 + 1 + 1 + 1 + 1 + 1 < n) = False := by simp only [eq_iff_iff, iff_true, iff_false]; omega
theorem blk_ge7 : (n + 1 + 1 + 1 + 1 + 1 + 1 + 1 ≤ n) = False := by simp only [eq_iff_iff, iff_true, iff_false]; omega
end
attribute [go_sem] blk_ne1 blk_en1 blk_lt1 blk_le1 blk_gt1 blk_ge1 blk_ne2 blk_en2 blk_lt2 blk_le2 blk_gt2 blk_ge2 blk_ne3 blk_en3 blk_lt3 blk_le3 blk_gt3 blk_ge3 blk_ne4 blk_en4 blk_lt4 blk_le4 blk_gt4 blk_ge4 blk_ne5 blk_en5 blk_lt5 blk_le5 blk_gt5 blk_ge5 blk_ne6 blk_en6 blk_lt6 blk_le6 blk_gt6 blk_ge6 blk_ne7 blk_en7 blk_lt7 blk_le7 blk_gt7 blk_ge7
/-! the same, with no condition on what lies there -/
theorem cell_some_set (w : World) (a : Addr) (v : Value) (x : Addr) : ((w.setCell a v).cell? x).isSome = (w.cell? x).isSome := by
  by_cases e : a = x
  · subst e
    cases h : w.cell? a with
    | some u => rw [World.cell?_setCell_same _ _ _ h]; rfl
    | none =>
      have : (w.setCell a v).cell? a = none := by
        simp only [World.setCell, World.cell?, Array.getElem?_modify, ↓reduceIte] at h ⊢
        cases hh : w.heap[a.block]? with
        | none => simp
        | some x =>
          rw [hh] at h
          cases x <;> simp at h ⊢
          cases hsp : a.spot <;> simp_all
      rw [this]
  · rw [World.cell?_setCell_other _ _ _ _ e]
theorem cell_some_sets (b : Nat) (x : Addr) : ∀ (vs : List Value) (o : Nat) (w : World), ((w.setCells b o vs).cell? x).isSome = (w.cell? x).isSome
  | [], _, _ => rfl
  | v :: r, o, w => by rw [World.setCells, cell_some_sets b x r, cell_some_set]
theorem there_put' (w : World) (b' off' : Nat) (xs : Array Value) (b off n : Nat) : there (putRow w b' off' xs) b off n ↔ there w b off n := by
  unfold there World.there putRow
  simp only [cell_some_sets, World.frozen?_setCells]
theorem there_set' (w : World) (a : Addr) (v : Value) (b off n : Nat) : there (w.setCell a v) b off n ↔ there w b off n := by
  unfold there World.there
  simp only [cell_some_set, World.frozen?_setCell]
theorem there_drew' (w : World) (b off n : Nat) : there w.drew b off n ↔ there w b off n := Iff.rfl
theorem there_drewN' (w : World) (k b off n : Nat) : there (w.drewN k) b off n ↔ there w b off n := Iff.rfl
theorem there_old' (w : World) (o : Obj) (b off n : Nat) (hb : b < w.heap.size) : there (w.alloc o) b off n ↔ there w b off n := by
  unfold there World.there
  constructor
  · intro h j hj
    have := h j hj
    rwa [World.cell?_alloc_lt w o ⟨b, off + j, none⟩ hb, World.frozen?_alloc_past _ _ _ hb] at this
  · intro h j hj
    have := h j hj
    rwa [World.cell?_alloc_lt w o ⟨b, off + j, none⟩ hb, World.frozen?_alloc_past _ _ _ hb]
theorem row?_is {w : World} {b off n : Nat} (h0 : 0 < n) (h : ∀ j, j < n → (w.cell? ⟨b, off + j, none⟩).isSome = true) : (row? w b off n).isSome = true := by
  rw [row?_of_cells (l := Array.ofFn fun j : Fin n => (w.cell? ⟨b, off + j.1, none⟩).getD undef) (by simp) h0 (fun j hj => by
    have := h j (by simpa using hj)
    obtain ⟨u, hu⟩ := Option.isSome_iff_exists.1 this
    simp [hu])]
  rfl
theorem row?_none {w : World} {b off n : Nat} (h0 : 0 < n) (h : row? w b off n = none) : ∃ j, j < n ∧ w.cell? ⟨b, off + j, none⟩ = none := by
  by_cases hx : ∀ j, j < n → (w.cell? ⟨b, off + j, none⟩).isSome = true
  · have := row?_is h0 hx; rw [h] at this; cases this
  · simp only [Classical.not_forall] at hx
    obtain ⟨j, hj, hn⟩ := hx
    exact ⟨j, hj, by simpa using hn⟩
theorem row?_none_of {w : World} {b off n j : Nat} (hj : j < n) (h : w.cell? ⟨b, off + j, none⟩ = none) : row? w b off n = none := by
  cases hr : row? w b off n with
  | none => rfl
  | some l =>
    have := cell_of_row? hr j hj
    rw [h, Array.getElem?_eq_getElem (by have := row?_length hr; omega)] at this
    cases this
theorem row?_set_in' (w : World) (b i N : Nat) (v : Value) (hi : i < N) : row? (w.setCell ⟨b, i, none⟩ v) b 0 N = (row? w b 0 N).map (splice · i #[v]) := by
  cases h : row? w b 0 N with
  | some l => rw [row?_set_in w b i N v hi (by rw [h]; rfl), h]
  | none =>
    obtain ⟨j, hj, hc⟩ := row?_none (by omega) h
    refine row?_none_of hj ?_
    have := cell_some_set w ⟨b, i, none⟩ v ⟨b, 0 + j, none⟩
    rw [hc] at this
    simpa using this
theorem there_row {w : World} {b N : Nat} {l : Array Value} (h : row? w b 0 N = some l) (off : Nat) (xs : Array Value) (hle : off + xs.size ≤ N) (h0 : 0 < N) : row? (putRow w b off xs) b 0 N = some (splice l off xs) := by
  have hlen := row?_length h
  have hs : ∀ i, i < N → (w.cell? ⟨b, i, none⟩).isSome = true := fun i hi => by
    have := cell_of_row? h i hi
    rw [Nat.zero_add] at this
    rw [this, Array.getElem?_eq_getElem (by omega)]; rfl
  refine row?_of_cells (by rw [splice_size _ _ _ (by omega)]; exact hlen) h0 fun j hj => ?_
  rw [splice_size _ _ _ (by omega)] at hj
  have hg := splice_get l off xs (by omega) j
  rw [Array.getElem?_eq_getElem (by rw [splice_size _ _ _ (by omega)]; omega)] at hg
  rw [hg]
  split
  · rename_i hin
    have := World.cell?_setCells_in b xs.toList off w (fun k hk => hs (off + k) (by simp at hk; omega)) (j - off) (by simp; omega)
    rw [show off + (j - off) = j by omega] at this
    rw [Nat.zero_add, putRow, this, Array.getElem?_eq_getElem (by omega)]
    simp
  · rename_i hout
    rw [Nat.zero_add, cell_put_out w b off xs j (by omega)]
    have := cell_of_row? h j (by omega)
    rwa [Nat.zero_add] at this
theorem row?_put_in' (w : World) (b off N : Nat) (xs : Array Value) (hle : off + xs.size ≤ N) (h0 : 0 < N) : row? (putRow w b off xs) b 0 N = (row? w b 0 N).map (splice · off xs) := by
  cases h : row? w b 0 N with
  | some l => exact there_row h off xs hle h0
  | none =>
    obtain ⟨j, hj, hc⟩ := row?_none h0 h
    refine row?_none_of hj ?_
    have := cell_some_sets b ⟨b, 0 + j, none⟩ xs.toList off w
    rw [hc] at this
    rw [putRow]
    simpa using this
theorem splice_all' (a b : Array Value) (h : a.size = b.size) : splice a 0 b = b := by
  apply Array.ext_getElem?
  intro i
  rw [splice_get _ _ _ (by omega)]
  by_cases hi : i < b.size
  · rw [if_pos (by omega)]; rfl
  · rw [if_neg (by omega), Array.getElem?_eq_none (by omega), Array.getElem?_eq_none (by omega)]
end Go.Proofs.Ytlkflddjpkhndaa
