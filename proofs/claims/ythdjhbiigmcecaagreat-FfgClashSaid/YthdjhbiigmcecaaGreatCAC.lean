/- Texts of this proof, one behind the other: Put, Loads, Stores, Wire2, There. -/
import Derived.Test.YthdjhbiigmcecaaGreatCAB
import Derived.Deep.MidRow
import Derived.Test.YthdjhbiigmcecaaGreatProg
set_option linter.unusedVariables false
set_option linter.unusedSimpArgs false
/- Stores of structs and arrays as a whole, for the walk. -/
namespace Go.Proofs.YthdjhbiigmcecaaGreat
open Go.RowKit

/-- the world behind a store of a row of cells -/
def putRow (w : World) (b off : Nat) (xs : Array Value) : World := w.setCells b off xs.toList
/-- cells that may be written -/
def there (w : World) (b off n : Nat) : Prop := w.there b off n

theorem row?_of_cells {w : World} {b off n : Nat} {l : Array Value} (hn : l.size = n) (h0 : 0 < n) (h : ∀ j (hj : j < l.size), w.cell? ⟨b, off + j, none⟩ = some l[j]) : row? w b off n = some l := by
 subst hn
 have hk : ∀ (j : Nat) (hj : j < l.size), ∃ cs t fr, w.heap[b]? = some (.cells cs t fr) ∧ cs[off + j]? = some l[j] := fun j hj => by
  have := h j hj
  simp only [World.cell?] at this
  split at this
  ·rename_i cs t fr hg; exact ⟨cs, t, fr, hg, this⟩
  ·cases this
 obtain ⟨cs, t, fr, hg, _⟩ := hk 0 h0
 have hc : ∀ (j : Nat) (hj : j < l.size), cs[off + j]? = some l[j] := fun j hj => by
  obtain ⟨cs', t', fr', hg', h'⟩ := hk j hj
  rw [hg] at hg'
  cases hg'
  exact h'
 have hle : off + l.size ≤ cs.size := by
  have := (Array.getElem?_eq_some_iff.1 (hc (l.size - 1) (by omega))).1
  omega
 unfold row?
 rw [hg]
 simp only [hle, if_true, Option.some.injEq]
 apply Array.ext_getElem?
 intro j
 rw [Array.getElem?_extract]
 by_cases hj : j < l.size
 ·rw [hc j hj, Array.getElem?_eq_getElem hj]; simp; omega
 ·rw [Array.getElem?_eq_none (xs := l) (by omega)]
  have : ¬ j < min (off + l.size) cs.size - off := by omega
  rw [if_neg this]

theorem cell_of_row? {w : World} {b off n : Nat} {l : Array Value} (h : row? w b off n = some l) (j : Nat) (hj : j < n) : w.cell? ⟨b, off + j, none⟩ = l[j]? := by
 obtain ⟨cs, t, fr, hg, hle, rfl⟩ := row?_some h
 rw [cell_of_row w b (off + j) cs t fr hg, Array.getElem?_extract]
 simp [show off + j < off + n by omega]
 omega
theorem row?_length {w : World} {b off n : Nat} {l : Array Value} (h : row? w b off n = some l) : l.size = n := by
 obtain ⟨cs, t, fr, hg, hle, rfl⟩ := row?_some h
 simp; omega

theorem there_new (w : World) (cs : Array Value) (t : TypeId) (off n : Nat) (h : off + n ≤ cs.size) : there (w.alloc (.cells cs t)) w.heap.size off n := fun j hj => by
 refine ⟨by simp; omega, ?_⟩
 exact frozen_of_row _ w.heap.size _ cs t (heap_alloc_new w _)
theorem there_old (w : World) (o : Obj) (b off n : Nat) (hb : b < w.heap.size) (h : there w b off n) : there (w.alloc o) b off n := World.there_alloc h o
theorem there_drew (w : World) (b off n : Nat) (h : there w b off n) : there w.drew b off n := h
theorem there_drewN (w : World) (k b off n : Nat) (h : there w b off n) : there (w.drewN k) b off n := h
theorem there_put (w : World) (b' off' : Nat) (xs : Array Value) (b off n : Nat) (h : there w b off n) : there (putRow w b' off' xs) b off n := World.there_setCells h _ _ _
theorem there_set (w : World) (a : Addr) (v : Value) (b off n : Nat) (h : there w b off n) : there (w.setCell a v) b off n := fun j hj => by
 obtain ⟨h1, h2⟩ := h j hj
 refine ⟨?_, by rw [World.frozen?_setCell]; exact h2⟩
 by_cases e : a = (⟨b, off + j, none⟩ : Addr)
 ·subst e
  obtain ⟨u, hu⟩ := Option.isSome_iff_exists.1 h1
  rw [World.cell?_setCell_same _ _ _ hu]; rfl
 ·rw [World.cell?_setCell_other _ _ _ _ e]; exact h1
theorem there_below {B : Nat} {w w' : World} (hb : Below B w w') {b off n : Nat} (hlt : b < B) (h : there w b off n) : there w' b off n := fun j hj => by
 obtain ⟨h1, h2⟩ := h j hj
 exact ⟨by rw [hb.cell (p := ⟨b, off + j, none⟩) hlt]; exact h1, by rw [hb.frozen (p := ⟨b, off + j, none⟩) hlt]; exact h2⟩
theorem size_put (w : World) (b off : Nat) (xs : Array Value) : (putRow w b off xs).heap.size = w.heap.size := setCells_size _ _ _ _
theorem frozen_put (w : World) (b off : Nat) (xs : Array Value) (x : Addr) : (putRow w b off xs).frozen? x = w.frozen? x := World.frozen?_setCells _ _ _ _ _
theorem below_put {B : Nat} {a w : World} {b : Nat} (h : Below B a w) (hb : B ≤ b) (off : Nat) (xs : Array Value) : Below B a (putRow w b off xs) := by
 have hm := setCells_misc b xs.toList off w
 exact ⟨hm.1.trans h.os, hm.2.1.trans h.tape, hm.2.2.trans h.output, by rw [size_put]; exact h.size, fun k hk => (setCells_far b _ _ _ k (by omega)).trans (h.block k hk)⟩
theorem cell_put_far (w : World) (b off : Nat) (xs : Array Value) (b' i : Nat) (h : b' ≠ b) : (putRow w b off xs).cell? ⟨b', i, none⟩ = w.cell? ⟨b', i, none⟩ :=
 World.cell?_setCells_out _ _ _ _ _ (fun e _ => absurd e h)
theorem cell_put_out (w : World) (b off : Nat) (xs : Array Value) (i : Nat) (h : i < off ∨ off + xs.size ≤ i) : (putRow w b off xs).cell? ⟨b, i, none⟩ = w.cell? ⟨b, i, none⟩ :=
 World.cell?_setCells_out _ _ _ _ _ (fun _ _ => by simpa using h)
theorem cell_put_in (w : World) (b off : Nat) (xs : Array Value) (i : Nat) (ht : there w b off xs.size) (h : off ≤ i) (h2 : i < off + xs.size) : (putRow w b off xs).cell? ⟨b, i, none⟩ = xs[i - off]? := by
 have := World.cell?_setCells_in b xs.toList off w (fun j hj => (ht j (by simpa using hj)).1) (i - off) (by simp; omega)
 rw [show off + (i - off) = i by omega] at this
 rw [putRow, this, Array.getElem?_eq_getElem (by omega)]
 simp

/-- a row with a part of it put anew -/
def splice (cs : Array Value) (off : Nat) (xs : Array Value) : Array Value := cs.extract 0 off ++ xs ++ cs.extract (off + xs.size) cs.size
theorem row?_put_far (w : World) (b off : Nat) (xs : Array Value) (b' off' n' : Nat) (h : b' ≠ b) : row? (putRow w b off xs) b' off' n' = row? w b' off' n' := by
 simp [row?, putRow, setCells_far b _ _ _ b' h]
theorem row?_put_same (w : World) (b off n : Nat) (xs : Array Value) (hn : xs.size = n) (h0 : 0 < n) (ht : there w b off n) : row? (putRow w b off xs) b off n = some xs := by
 subst hn
 refine row?_of_cells rfl h0 fun j hj => ?_
 rw [cell_put_in w b off xs (off + j) ht (by omega) (by omega), show off + j - off = j by omega, Array.getElem?_eq_getElem hj]
theorem splice_size (cs : Array Value) (off : Nat) (xs : Array Value) (h : off + xs.size ≤ cs.size) : (splice cs off xs).size = cs.size := by
 simp [splice]; omega
theorem splice_get (cs : Array Value) (off : Nat) (xs : Array Value) (h : off + xs.size ≤ cs.size) (i : Nat) : (splice cs off xs)[i]? = if off ≤ i ∧ i < off + xs.size then xs[i - off]? else cs[i]? := by
 have e1 : (cs.extract 0 off).size = off := by simp; omega
 have g1 : ∀ k, k < off → (cs.extract 0 off)[k]? = cs[k]? := fun k hk => by rw [Array.getElem?_extract, if_pos (by omega), Nat.zero_add]
 have g2 : ∀ k, (cs.extract (off + xs.size) cs.size)[k]? = cs[off + xs.size + k]? := fun k => by
  rw [Array.getElem?_extract]
  split
  ·rfl
  ·rw [Array.getElem?_eq_none (by omega)]
 generalize hA : cs.extract 0 off = A at e1 g1
 generalize hB : cs.extract (off + xs.size) cs.size = B at g2
 unfold splice
 rw [hA, hB]
 by_cases h1 : i < off + xs.size
 ·rw [Array.getElem?_append_left (by rw [Array.size_append, e1]; exact h1)]
  by_cases h2 : i < off
  ·rw [Array.getElem?_append_left (by rw [e1]; exact h2), g1 i h2, if_neg (by omega)]
  ·rw [Array.getElem?_append_right (by rw [e1]; omega), e1, if_pos (by omega)]
 ·rw [Array.getElem?_append_right (by rw [Array.size_append, e1]; omega), Array.size_append, e1, g2, if_neg (by omega)]
  congr 1; omega
/-- one cell of a row put anew -/
theorem row?_set_in (w : World) (b i N : Nat) (v : Value) (hi : i < N) (hs : (row? w b 0 N).isSome = true) : row? (w.setCell ⟨b, i, none⟩ v) b 0 N = (row? w b 0 N).map (splice · i #[v]) := by
 obtain ⟨l, hl⟩ := Option.isSome_iff_exists.1 hs
 rw [hl]
 have hlen := row?_length hl
 refine row?_of_cells (by rw [splice_size _ _ _ (by simp; omega)]; exact hlen) (by omega) fun j hj => ?_
 rw [splice_size _ _ _ (by simp; omega)] at hj
 have hg := splice_get l i #[v] (by simp; omega) j
 rw [Array.getElem?_eq_getElem (by rw [splice_size _ _ _ (by simp; omega)]; omega)] at hg
 rw [hg]
 have hc := cell_of_row? hl j (by omega)
 rw [Nat.zero_add] at hc ⊢
 by_cases e : j = i
 ·subst e
  rw [World.cell?_setCell_same _ _ _ (hc.trans (Array.getElem?_eq_getElem (xs := l) (by omega)))]
  simp
 ·rw [World.cell?_setCell_other _ _ _ _ (by intro h; injection h with h1 h2; omega), if_neg (by simp; omega)]
  exact hc

/-- a store of a struct or an array, by a name that the walk does not open -/
def storeAgg (t : TypeId) (x v : Value) : Sem Unit := Instr.storeAt t x v
theorem run_storeAgg {P : Program} {t : TypeId} {n : Nat} (hi : (P.info? t).map (·.size) = some n) (w : World) (b off : Nat) (xs : Array Value) (hn : xs.size = n) (h1 : xs.all (·.oneCell') = true) (ht : there w b off n) :
  (storeAgg t (.pointer (some ⟨b, off, none⟩)) (.agg xs)).run P w = .ok () (putRow w b off xs) := by
 subst hn
 exact run_storeAt_mid w b off t xs ht hi h1

theorem oneHash (h : Hash) : (hashA h).all (·.oneCell') = true := by simp [hashA, byteV, Value.oneCell']
theorem oneApp {a b : Array Value} (ha : a.all (·.oneCell') = true) (hb : b.all (·.oneCell') = true) : (a ++ b).all (·.oneCell') = true := by
 simp only [Array.all_append, ha, hb]; rfl
theorem onePoint (p : Pt) : (pointA p).all (·.oneCell') = true := oneApp (by simp [Value.oneCell']) (oneHash _)
theorem oneLink (p : Lnk) : (linkA p).all (·.oneCell') = true := oneApp (onePoint _) (onePoint _)
theorem oneVote (v : GVote) : (voteA v).all (·.oneCell') = true := oneApp (oneApp (oneApp (by simp [Value.oneCell']) (onePoint _)) (onePoint _)) (by simp [Value.oneCell'])
theorem oneOp (v : GOp) : (opA v).all (·.oneCell') = true := oneApp (oneApp (by simp [Value.oneCell']) (oneHash _)) (by simp [Value.oneCell'])
theorem oneHeader (v : GHeader) : (headerA v).all (·.oneCell') = true := oneApp (oneHash _) (by simp [Value.oneCell'])
/-- each is one cell -/
def oneCells (xs : Array Value) : Prop := xs.all (·.oneCell') = true
theorem onesHash (h : Hash) : oneCells (hashA h) := oneHash h
theorem onesPoint (h : Pt) : oneCells (pointA h) := onePoint h
theorem onesLink (h : Lnk) : oneCells (linkA h) := oneLink h
theorem onesVote (h : GVote) : oneCells (voteA h) := oneVote h
theorem onesOp (h : GOp) : oneCells (opA h) := oneOp h
theorem onesHeader (h : GHeader) : oneCells (headerA h) := oneHeader h
/-! numbers of blocks -/
section
variable (n : Nat)
theorem blk_ne1 : (n = n + 1) = False := by simp only [eq_iff_iff, iff_true, iff_false]; omega
theorem blk_en1 : (n + 1 = n) = False := by simp only [eq_iff_iff, iff_true, iff_false]; omega
theorem blk_lt1 : (n < n + 1) = True := by simp only [eq_iff_iff, iff_true, iff_false]; omega
theorem blk_le1 : (n ≤ n + 1) = True := by simp only [eq_iff_iff, iff_true, iff_false]; omega
theorem blk_gt1 : (n + 1 < n) = False := by simp only [eq_iff_iff, iff_true, iff_false]; omega
theorem blk_ge1 : (n + 1 ≤ n) = False := by simp only [eq_iff_iff, iff_true, iff_false]; omega
theorem blk_ne2 : (n = n + 1 + 1) = False := by simp only [eq_iff_iff, iff_true, iff_false]; omega
theorem blk_en2 : (n + 1 + 1 = n) = False := by simp only [eq_iff_iff, iff_true, iff_false]; omega
theorem blk_lt2 : (n < n + 1 + 1) = True := by simp only [eq_iff_iff, iff_true, iff_false]; omega
theorem blk_le2 : (n ≤ n + 1 + 1) = True := by simp only [eq_iff_iff, iff_true, iff_false]; omega
theorem blk_gt2 : (n + 1 + 1 < n) = False := by simp only [eq_iff_iff, iff_true, iff_false]; omega
theorem blk_ge2 : (n + 1 + 1 ≤ n) = False := by simp only [eq_iff_iff, iff_true, iff_false]; omega
theorem blk_ne3 : (n = n + 1 + 1 + 1) = False := by simp only [eq_iff_iff, iff_true, iff_false]; omega
theorem blk_en3 : (n + 1 + 1 + 1 = n) = False := by simp only [eq_iff_iff, iff_true, iff_false]; omega
theorem blk_lt3 : (n < n + 1 + 1 + 1) = True := by simp only [eq_iff_iff, iff_true, iff_false]; omega
theorem blk_le3 : (n ≤ n + 1 + 1 + 1) = True := by simp only [eq_iff_iff, iff_true, iff_false]; omega
theorem blk_gt3 : (n + 1 + 1 + 1 < n) = False := by simp only [eq_iff_iff, iff_true, iff_false]; omega
theorem blk_ge3 : (n + 1 + 1 + 1 ≤ n) = False := by simp only [eq_iff_iff, iff_true, iff_false]; omega
theorem blk_ne4 : (n = n + 1 + 1 + 1 + 1) = False := by simp only [eq_iff_iff, iff_true, iff_false]; omega
theorem blk_en4 : (n + 1 + 1 + 1 + 1 = n) = False := by simp only [eq_iff_iff, iff_true, iff_false]; omega
theorem blk_lt4 : (n < n + 1 + 1 + 1 + 1) = True := by simp only [eq_iff_iff, iff_true, iff_false]; omega
theorem blk_le4 : (n ≤ n + 1 + 1 + 1 + 1) = True := by simp only [eq_iff_iff, iff_true, iff_false]; omega
theorem blk_gt4 : (n + 1 + 1 + 1 + 1 < n) = False := by simp only [eq_iff_iff, iff_true, iff_false]; omega
theorem blk_ge4 : (n + 1 + 1 + 1 + 1 ≤ n) = False := by simp only [eq_iff_iff, iff_true, iff_false]; omega
theorem blk_ne5 : (n = n + 1 + 1 + 1 + 1 + 1) = False := by simp only [eq_iff_iff, iff_true, iff_false]; omega
theorem blk_en5 : (n + 1 + 1 + 1 + 1 + 1 = n) = False := by simp only [eq_iff_iff, iff_true, iff_false]; omega
theorem blk_lt5 : (n < n + 1 + 1 + 1 + 1 + 1) = True := by simp only [eq_iff_iff, iff_true, iff_false]; omega
theorem blk_le5 : (n ≤ n + 1 + 1 + 1 + 1 + 1) = True := by simp only [eq_iff_iff, iff_true, iff_false]; omega
theorem blk_gt5 : (n + 1 + 1 + 1 + 1 + 1 < n) = False := by simp only [eq_iff_iff, iff_true, iff_false]; omega
theorem blk_ge5 : (n + 1 + 1 + 1 + 1 + 1 ≤ n) = False := by simp only [eq_iff_iff, iff_true, iff_false]; omega
theorem blk_ne6 : (n = n + 1 + 1 + 1 + 1 + 1 + 1) = False := by simp only [eq_iff_iff, iff_true, iff_false]; omega
theorem blk_en6 : (n + 1 + 1 + 1 + 1 + 1 + 1 = n) = False := by simp only [eq_iff_iff, iff_true, iff_false]; omega
theorem blk_lt6 : (n < n + 1 + 1 + 1 + 1 + 1 + 1) = True := by simp only [eq_iff_iff, iff_true, iff_false]; omega
theorem blk_le6 : (n ≤ n + 1 + 1 + 1 + 1 + 1 + 1) = True := by simp only [eq_iff_iff, iff_true, iff_false]; omega
theorem blk_gt6 : (n + 1 + 1 + 1 + 1 + 1 + 1 < n) = False := by simp only [eq_iff_iff, iff_true, iff_false]; omega
theorem blk_ge6 : (n + 1 + 1 + 1 + 1 + 1 + 1 ≤ n) = False := by simp only [eq_iff_iff, iff_true, iff_false]; omega
theorem blk_ne7 : (n = n + 1 + 1 + 1 + 1 + 1 + 1 + 1) = False := by simp only [eq_iff_iff, iff_true, iff_false]; omega
theorem blk_en7 : (n + 1 + 1 + 1 + 1 + 1 + 1 + 1 = n) = False := by simp only [eq_iff_iff, iff_true, iff_false]; omega
theorem blk_lt7 : (n < n + 1 + 1 + 1 + 1 + 1 + 1 + 1) = True := by simp only [eq_iff_iff, iff_true, iff_false]; omega
theorem blk_le7 : (n ≤ n + 1 + 1 + 1 + 1 + 1 + 1 + 1) = True := by simp only [eq_iff_iff, iff_true, iff_false]; omega
theorem blk_gt7 : (n + 1 + 1 + 1 + 1 + 1 + 1 + 1 < n) = False := by simp only [eq_iff_iff, iff_true, iff_false]; omega
theorem blk_ge7 : (n + 1 + 1 + 1 + 1 + 1 + 1 + 1 ≤ n) = False := by simp only [eq_iff_iff, iff_true, iff_false]; omega
end
attribute [go_sem] blk_ne1 blk_en1 blk_lt1 blk_le1 blk_gt1 blk_ge1 blk_ne2 blk_en2 blk_lt2 blk_le2 blk_gt2 blk_ge2 blk_ne3 blk_en3 blk_lt3 blk_le3 blk_gt3 blk_ge3 blk_ne4 blk_en4 blk_lt4 blk_le4 blk_gt4 blk_ge4 blk_ne5 blk_en5 blk_lt5 blk_le5 blk_gt5 blk_ge5 blk_ne6 blk_en6 blk_lt6 blk_le6 blk_gt6 blk_ge6 blk_ne7 blk_en7 blk_lt7 blk_le7 blk_gt7 blk_ge7
/-! the same, with no condition on what lies there -/
theorem cell_some_set (w : World) (a : Addr) (v : Value) (x : Addr) : ((w.setCell a v).cell? x).isSome = (w.cell? x).isSome := by
 by_cases e : a = x
 ·subst e
  cases h : w.cell? a with
  | some u => rw [World.cell?_setCell_same _ _ _ h]; rfl
  | none =>
   have : (w.setCell a v).cell? a = none := by
    simp only [World.setCell, World.cell?, Array.getElem?_modify, ↓reduceIte] at h ⊢
    cases hh : w.heap[a.block]? with
    | none => simp
    | some x =>
     rw [hh] at h
     cases x <;> simp at h ⊢
     cases hsp : a.spot <;> simp_all
   rw [this]
 ·rw [World.cell?_setCell_other _ _ _ _ e]
theorem cell_some_sets (b : Nat) (x : Addr) : ∀ (vs : List Value) (o : Nat) (w : World), ((w.setCells b o vs).cell? x).isSome = (w.cell? x).isSome
 | [], _, _ => rfl
 | v :: r, o, w => by rw [World.setCells, cell_some_sets b x r, cell_some_set]
theorem there_put' (w : World) (b' off' : Nat) (xs : Array Value) (b off n : Nat) : there (putRow w b' off' xs) b off n ↔ there w b off n := by
 unfold there World.there putRow
 simp only [cell_some_sets, World.frozen?_setCells]
theorem there_set' (w : World) (a : Addr) (v : Value) (b off n : Nat) : there (w.setCell a v) b off n ↔ there w b off n := by
 unfold there World.there
 simp only [cell_some_set, World.frozen?_setCell]
theorem there_drew' (w : World) (b off n : Nat) : there w.drew b off n ↔ there w b off n := Iff.rfl
theorem there_drewN' (w : World) (k b off n : Nat) : there (w.drewN k) b off n ↔ there w b off n := Iff.rfl
theorem there_old' (w : World) (o : Obj) (b off n : Nat) (hb : b < w.heap.size) : there (w.alloc o) b off n ↔ there w b off n := by
 unfold there World.there
 constructor
 ·intro h j hj
  have := h j hj
  rwa [World.cell?_alloc_lt w o ⟨b, off + j, none⟩ hb, World.frozen?_alloc_past _ _ _ hb] at this
 ·intro h j hj
  have := h j hj
  rwa [World.cell?_alloc_lt w o ⟨b, off + j, none⟩ hb, World.frozen?_alloc_past _ _ _ hb]
theorem row?_is {w : World} {b off n : Nat} (h0 : 0 < n) (h : ∀ j, j < n → (w.cell? ⟨b, off + j, none⟩).isSome = true) : (row? w b off n).isSome = true := by
 rw [row?_of_cells (l := Array.ofFn fun j : Fin n => (w.cell? ⟨b, off + j.1, none⟩).getD undef) (by simp) h0 (fun j hj => by
  have := h j (by simpa using hj)
  obtain ⟨u, hu⟩ := Option.isSome_iff_exists.1 this
  simp [hu])]
 rfl
theorem row?_none {w : World} {b off n : Nat} (h0 : 0 < n) (h : row? w b off n = none) : ∃ j, j < n ∧ w.cell? ⟨b, off + j, none⟩ = none := by
 by_cases hx : ∀ j, j < n → (w.cell? ⟨b, off + j, none⟩).isSome = true
 ·have := row?_is h0 hx; rw [h] at this; cases this
 ·simp only [Classical.not_forall] at hx
  obtain ⟨j, hj, hn⟩ := hx
  exact ⟨j, hj, by simpa using hn⟩
theorem row?_none_of {w : World} {b off n j : Nat} (hj : j < n) (h : w.cell? ⟨b, off + j, none⟩ = none) : row? w b off n = none := by
 cases hr : row? w b off n with
 | none => rfl
 | some l =>
  have := cell_of_row? hr j hj
  rw [h, Array.getElem?_eq_getElem (by have := row?_length hr; omega)] at this
  cases this
theorem row?_set_in' (w : World) (b i N : Nat) (v : Value) (hi : i < N) : row? (w.setCell ⟨b, i, none⟩ v) b 0 N = (row? w b 0 N).map (splice · i #[v]) := by
 cases h : row? w b 0 N with
 | some l => rw [row?_set_in w b i N v hi (by rw [h]; rfl), h]
 | none =>
  obtain ⟨j, hj, hc⟩ := row?_none (by omega) h
  refine row?_none_of hj ?_
  have := cell_some_set w ⟨b, i, none⟩ v ⟨b, 0 + j, none⟩
  rw [hc] at this
  simpa using this
theorem there_row {w : World} {b N : Nat} {l : Array Value} (h : row? w b 0 N = some l) (off : Nat) (xs : Array Value) (hle : off + xs.size ≤ N) (h0 : 0 < N) : row? (putRow w b off xs) b 0 N = some (splice l off xs) := by
 have hlen := row?_length h
 have hs : ∀ i, i < N → (w.cell? ⟨b, i, none⟩).isSome = true := fun i hi => by
  have := cell_of_row? h i hi
  rw [Nat.zero_add] at this
  rw [this, Array.getElem?_eq_getElem (by omega)]; rfl
 refine row?_of_cells (by rw [splice_size _ _ _ (by omega)]; exact hlen) h0 fun j hj => ?_
 rw [splice_size _ _ _ (by omega)] at hj
 have hg := splice_get l off xs (by omega) j
 rw [Array.getElem?_eq_getElem (by rw [splice_size _ _ _ (by omega)]; omega)] at hg
 rw [hg]
 split
 ·rename_i hin
  have := World.cell?_setCells_in b xs.toList off w (fun k hk => hs (off + k) (by simp at hk; omega)) (j - off) (by simp; omega)
  rw [show off + (j - off) = j by omega] at this
  rw [Nat.zero_add, putRow, this, Array.getElem?_eq_getElem (by omega)]
  simp
 ·rename_i hout
  rw [Nat.zero_add, cell_put_out w b off xs j (by omega)]
  have := cell_of_row? h j (by omega)
  rwa [Nat.zero_add] at this
theorem row?_put_in' (w : World) (b off N : Nat) (xs : Array Value) (hle : off + xs.size ≤ N) (h0 : 0 < N) : row? (putRow w b off xs) b 0 N = (row? w b 0 N).map (splice · off xs) := by
 cases h : row? w b 0 N with
 | some l => exact there_row h off xs hle h0
 | none =>
  obtain ⟨j, hj, hc⟩ := row?_none h0 h
  refine row?_none_of hj ?_
  have := cell_some_sets b ⟨b, 0 + j, none⟩ xs.toList off w
  rw [hc] at this
  rw [putRow]
  simpa using this
theorem splice_all' (a b : Array Value) (h : a.size = b.size) : splice a 0 b = b := by
 apply Array.ext_getElem?
 intro i
 rw [splice_get _ _ _ (by omega)]
 by_cases hi : i < b.size
 ·rw [if_pos (by omega)]; rfl
 ·rw [if_neg (by omega), Array.getElem?_eq_none (by omega), Array.getElem?_eq_none (by omega)]
end Go.Proofs.YthdjhbiigmcecaaGreat

/- Loads of structs and arrays as a whole, for the walk. -/
namespace Go.Proofs.YthdjhbiigmcecaaGreat
open Go.RowKit

theorem load_point_s (x : Value) : Instr.loadAt 26 x = loadAgg 26 x := rfl
theorem load_point (w : World) (b off : Nat) (h : (row? w b off 33).isSome = true) : (loadAgg 26 (.pointer (some ⟨b, off, none⟩))).run Tryz.prog w = .ok (.agg ((row? w b off 33).getD #[])) w := run_loadAgg Tryz.isAgg26 Tryz.sizeOf26 w b off h
attribute [go_sem ↓] load_point_s
attribute [go_sem] load_point
theorem load_hash_s (x : Value) : Instr.loadAt 24 x = loadAgg 24 x := rfl
theorem load_hash (w : World) (b off : Nat) (h : (row? w b off 32).isSome = true) : (loadAgg 24 (.pointer (some ⟨b, off, none⟩))).run Tryz.prog w = .ok (.agg ((row? w b off 32).getD #[])) w := run_loadAgg Tryz.isAgg24 Tryz.sizeOf24 w b off h
attribute [go_sem ↓] load_hash_s
attribute [go_sem] load_hash
theorem load_arr32_s (x : Value) : Instr.loadAt 23 x = loadAgg 23 x := rfl
theorem load_arr32 (w : World) (b off : Nat) (h : (row? w b off 32).isSome = true) : (loadAgg 23 (.pointer (some ⟨b, off, none⟩))).run Tryz.prog w = .ok (.agg ((row? w b off 32).getD #[])) w := run_loadAgg Tryz.isAgg23 Tryz.sizeOf23 w b off h
attribute [go_sem ↓] load_arr32_s
attribute [go_sem] load_arr32
theorem load_link_s (x : Value) : Instr.loadAt 60 x = loadAgg 60 x := rfl
theorem load_link (w : World) (b off : Nat) (h : (row? w b off 66).isSome = true) : (loadAgg 60 (.pointer (some ⟨b, off, none⟩))).run Tryz.prog w = .ok (.agg ((row? w b off 66).getD #[])) w := run_loadAgg Tryz.isAgg60 Tryz.sizeOf60 w b off h
attribute [go_sem ↓] load_link_s
attribute [go_sem] load_link
theorem load_vote_s (x : Value) : Instr.loadAt 76 x = loadAgg 76 x := rfl
theorem load_vote (w : World) (b off : Nat) (h : (row? w b off 68).isSome = true) : (loadAgg 76 (.pointer (some ⟨b, off, none⟩))).run Tryz.prog w = .ok (.agg ((row? w b off 68).getD #[])) w := run_loadAgg Tryz.isAgg76 Tryz.sizeOf76 w b off h
attribute [go_sem ↓] load_vote_s
attribute [go_sem] load_vote
theorem load_hop_s (x : Value) : Instr.loadAt 73 x = loadAgg 73 x := rfl
theorem load_hop (w : World) (b off : Nat) (h : (row? w b off 36).isSome = true) : (loadAgg 73 (.pointer (some ⟨b, off, none⟩))).run Tryz.prog w = .ok (.agg ((row? w b off 36).getD #[])) w := run_loadAgg Tryz.isAgg73 Tryz.sizeOf73 w b off h
attribute [go_sem ↓] load_hop_s
attribute [go_sem] load_hop
theorem load_header_s (x : Value) : Instr.loadAt 39 x = loadAgg 39 x := rfl
theorem load_header (w : World) (b off : Nat) (h : (row? w b off 34).isSome = true) : (loadAgg 39 (.pointer (some ⟨b, off, none⟩))).run Tryz.prog w = .ok (.agg ((row? w b off 34).getD #[])) w := run_loadAgg Tryz.isAgg39 Tryz.sizeOf39 w b off h
attribute [go_sem ↓] load_header_s
attribute [go_sem] load_header
attribute [go_sem] row?_new row?_old row?_drew row?_drewN row?_far
end Go.Proofs.YthdjhbiigmcecaaGreat

/- Rules of whole-struct stores, for the walk. -/
namespace Go.Proofs.YthdjhbiigmcecaaGreat
open Go.RowKit

/-- rows and cells behind a whole store -/
theorem there_new_at (w : World) (cs : Array Value) (t : TypeId) (b off n : Nat) (hb : b = w.heap.size) (h : off + n ≤ cs.size) : there (w.alloc (.cells cs t)) b off n := by subst hb; exact there_new w cs t off n h
attribute [go_sem] row?_put_far row?_put_in' row?_set_in' splice_all' cell_put_far cell_put_out cell_put_in size_put frozen_put there_new there_new_at row?_new_at there_old' there_drew' there_drewN' there_put' there_set' onesHash onesPoint onesLink onesVote onesOp onesHeader
theorem store_point_s (x v : Value) : Instr.storeAt 26 x v = storeAgg 26 x v := rfl
theorem info_point : (Tryz.prog.info? 26).map (·.size) = some 33 := by kernel_rfl
theorem store_point (w : World) (b off : Nat) (xs : Array Value) (hn : xs.size = 33) (h1 : oneCells xs) (ht : there w b off 33) : (storeAgg 26 (.pointer (some ⟨b, off, none⟩)) (.agg xs)).run Tryz.prog w = .ok () (putRow w b off xs) := run_storeAgg info_point w b off xs hn h1 ht
attribute [go_sem ↓] store_point_s
attribute [go_sem] store_point
theorem store_hash_s (x v : Value) : Instr.storeAt 24 x v = storeAgg 24 x v := rfl
theorem info_hash : (Tryz.prog.info? 24).map (·.size) = some 32 := by kernel_rfl
theorem store_hash (w : World) (b off : Nat) (xs : Array Value) (hn : xs.size = 32) (h1 : oneCells xs) (ht : there w b off 32) : (storeAgg 24 (.pointer (some ⟨b, off, none⟩)) (.agg xs)).run Tryz.prog w = .ok () (putRow w b off xs) := run_storeAgg info_hash w b off xs hn h1 ht
attribute [go_sem ↓] store_hash_s
attribute [go_sem] store_hash
theorem store_arr32_s (x v : Value) : Instr.storeAt 23 x v = storeAgg 23 x v := rfl
theorem info_arr32 : (Tryz.prog.info? 23).map (·.size) = some 32 := by kernel_rfl
theorem store_arr32 (w : World) (b off : Nat) (xs : Array Value) (hn : xs.size = 32) (h1 : oneCells xs) (ht : there w b off 32) : (storeAgg 23 (.pointer (some ⟨b, off, none⟩)) (.agg xs)).run Tryz.prog w = .ok () (putRow w b off xs) := run_storeAgg info_arr32 w b off xs hn h1 ht
attribute [go_sem ↓] store_arr32_s
attribute [go_sem] store_arr32
theorem store_link_s (x v : Value) : Instr.storeAt 60 x v = storeAgg 60 x v := rfl
theorem info_link : (Tryz.prog.info? 60).map (·.size) = some 66 := by kernel_rfl
theorem store_link (w : World) (b off : Nat) (xs : Array Value) (hn : xs.size = 66) (h1 : oneCells xs) (ht : there w b off 66) : (storeAgg 60 (.pointer (some ⟨b, off, none⟩)) (.agg xs)).run Tryz.prog w = .ok () (putRow w b off xs) := run_storeAgg info_link w b off xs hn h1 ht
attribute [go_sem ↓] store_link_s
attribute [go_sem] store_link
theorem store_vote_s (x v : Value) : Instr.storeAt 76 x v = storeAgg 76 x v := rfl
theorem info_vote : (Tryz.prog.info? 76).map (·.size) = some 68 := by kernel_rfl
theorem store_vote (w : World) (b off : Nat) (xs : Array Value) (hn : xs.size = 68) (h1 : oneCells xs) (ht : there w b off 68) : (storeAgg 76 (.pointer (some ⟨b, off, none⟩)) (.agg xs)).run Tryz.prog w = .ok () (putRow w b off xs) := run_storeAgg info_vote w b off xs hn h1 ht
attribute [go_sem ↓] store_vote_s
attribute [go_sem] store_vote
theorem store_hop_s (x v : Value) : Instr.storeAt 73 x v = storeAgg 73 x v := rfl
theorem info_hop : (Tryz.prog.info? 73).map (·.size) = some 36 := by kernel_rfl
theorem store_hop (w : World) (b off : Nat) (xs : Array Value) (hn : xs.size = 36) (h1 : oneCells xs) (ht : there w b off 36) : (storeAgg 73 (.pointer (some ⟨b, off, none⟩)) (.agg xs)).run Tryz.prog w = .ok () (putRow w b off xs) := run_storeAgg info_hop w b off xs hn h1 ht
attribute [go_sem ↓] store_hop_s
attribute [go_sem] store_hop
theorem store_header_s (x v : Value) : Instr.storeAt 39 x v = storeAgg 39 x v := rfl
theorem info_header : (Tryz.prog.info? 39).map (·.size) = some 34 := by kernel_rfl
theorem store_header (w : World) (b off : Nat) (xs : Array Value) (hn : xs.size = 34) (h1 : oneCells xs) (ht : there w b off 34) : (storeAgg 39 (.pointer (some ⟨b, off, none⟩)) (.agg xs)).run Tryz.prog w = .ok () (putRow w b off xs) := run_storeAgg info_header w b off xs hn h1 ht
attribute [go_sem ↓] store_header_s
attribute [go_sem] store_header

/-! results that lie in a cell -/
theorem run_loadVar_agg {P : Program} {t : TypeId} {n : Nat} (hA : ∀ w, (isAgg t).run P w = .ok true w) (hS : ∀ w, (Go.sizeOf t).run P w = .ok n w) (w : World) (b off : Nat) (h : (row? w b off n).isSome = true) :
  (loadVar t ⟨b, off, none⟩).run P w = .ok (.agg ((row? w b off n).getD #[])) w := by
 have := run_loadAt_row hA hS w b off h
 simpa [Instr.loadAt, Instr.sureAddr, Sem.run_bind] using this
theorem results_row {P : Program} {t : TypeId} {n : Nat} (hA : ∀ w, (isAgg t).run P w = .ok true w) (hS : ∀ w, (Go.sizeOf t).run P w = .ok n w) {fn : Func} {p : Tmp} (hf : fn.results = #[.cell p t]) (tmps : Array Value) (w : World) (b off : Nat)
  (hp : tmps.getD p undef = .pointer (some ⟨b, off, none⟩)) (h : (row? w b off n).isSome = true) : (results fn tmps).run P w = .ok (.agg ((row? w b off n).getD #[])) w := by
 have hp' : tmps[p]?.getD undef = .pointer (some ⟨b, off, none⟩) := by simpa using hp
 simp [results, hf, hp', asAddr, Sem.run_bind, run_loadVar_agg hA hS w b off h]
theorem results_row2 {P : Program} {t : TypeId} {n : Nat} (hA : ∀ w, (isAgg t).run P w = .ok true w) (hS : ∀ w, (Go.sizeOf t).run P w = .ok n w) {fn : Func} {p u : Tmp} (hf : fn.results = #[.cell p t, .tmp u]) (tmps : Array Value) (w : World) (b off : Nat)
  (hp : tmps.getD p undef = .pointer (some ⟨b, off, none⟩)) (h : (row? w b off n).isSome = true) : (results fn tmps).run P w = .ok (.tuple #[.agg ((row? w b off n).getD #[]), tmps.getD u undef]) w := by
 have hp' : tmps[p]?.getD undef = .pointer (some ⟨b, off, none⟩) := by simpa using hp
 simp [results, hf, hp', asAddr, Sem.run_bind, run_loadVar_agg hA hS w b off h]

theorem ret_row {P : Program} {t : TypeId} {n : Nat} (hA : ∀ w, (isAgg t).run P w = .ok true w) (hS : ∀ w, (Go.sizeOf t).run P w = .ok n w) {fn : Func} {p : Tmp} (hf : fn.results = #[.cell p t]) {R : Ending → World → Prop} {a : Act} {w : World} {x : Value} (b off : Nat)
  (hx : a.tmps.getD p undef = x) (hp : x = .pointer (some ⟨b, off, none⟩)) (h : (row? w b off n).isSome = true) (hd : a.defers = []) (hR : R (.returned (.agg ((row? w b off n).getD #[]))) w) : bodyPost P fn R .ret a w :=
 bodyPost_ret (results_row hA hS hf _ _ b off (hx.trans hp) h) hd hR
theorem ret_row2 {P : Program} {t : TypeId} {n : Nat} (hA : ∀ w, (isAgg t).run P w = .ok true w) (hS : ∀ w, (Go.sizeOf t).run P w = .ok n w) {fn : Func} {p u : Tmp} (hf : fn.results = #[.cell p t, .tmp u]) {R : Ending → World → Prop} {a : Act} {w : World} {x y : Value} (b off : Nat)
  (hx : a.tmps.getD p undef = x) (hp : x = .pointer (some ⟨b, off, none⟩)) (hy : a.tmps.getD u undef = y) (h : (row? w b off n).isSome = true) (hd : a.defers = []) (hR : R (.returned (.tuple #[.agg ((row? w b off n).getD #[]), y])) w) : bodyPost P fn R .ret a w := by
 subst hy
 exact bodyPost_ret (results_row2 hA hS hf _ _ b off (hx.trans hp) h) hd hR

/-- the walk stops at a body's end -/
theorem at_end {P : Program} {fn : Func} {R : Ending → World → Prop} {e : Exit} {a : Act} {w : World} (h : RowKit.Hid (bodyPost P fn R e a w)) : bodyPost P fn R e a w := h

/-! zero values, by name -/
theorem zero_hash : #[.int .u8 0, .int .u8 0, .int .u8 0, .int .u8 0, .int .u8 0, .int .u8 0, .int .u8 0, .int .u8 0, .int .u8 0, .int .u8 0, .int .u8 0, .int .u8 0, .int .u8 0, .int .u8 0, .int .u8 0, .int .u8 0, .int .u8 0, .int .u8 0, .int .u8 0, .int .u8 0, .int .u8 0, .int .u8 0, .int .u8 0, .int .u8 0, .int .u8 0, .int .u8 0, .int .u8 0, .int .u8 0, .int .u8 0, .int .u8 0, .int .u8 0, .int .u8 0] = hashA zeroHash := by rfl
theorem zero_point : #[.int .u64 0, .int .u8 0, .int .u8 0, .int .u8 0, .int .u8 0, .int .u8 0, .int .u8 0, .int .u8 0, .int .u8 0, .int .u8 0, .int .u8 0, .int .u8 0, .int .u8 0, .int .u8 0, .int .u8 0, .int .u8 0, .int .u8 0, .int .u8 0, .int .u8 0, .int .u8 0, .int .u8 0, .int .u8 0, .int .u8 0, .int .u8 0, .int .u8 0, .int .u8 0, .int .u8 0, .int .u8 0, .int .u8 0, .int .u8 0, .int .u8 0, .int .u8 0, .int .u8 0] = pointA zeroPt := by
 simp only [pointA, zeroPt]
 rw [← zero_hash]
 simp
theorem zero_op (k : Int) : #[.int .i64 k, .int .u8 0, .int .u8 0, .int .u8 0, .int .u8 0, .int .u8 0, .int .u8 0, .int .u8 0, .int .u8 0, .int .u8 0, .int .u8 0, .int .u8 0, .int .u8 0, .int .u8 0, .int .u8 0, .int .u8 0, .int .u8 0, .int .u8 0, .int .u8 0, .int .u8 0, .int .u8 0, .int .u8 0, .int .u8 0, .int .u8 0, .int .u8 0, .int .u8 0, .int .u8 0, .int .u8 0, .int .u8 0, .int .u8 0, .int .u8 0, .int .u8 0, .int .u8 0, .int .u64 0, .int .i64 0, .slice none 0 0] = opA ⟨k, zeroHash, 0, 0, ⟨none, 0, 0⟩⟩ := by
 simp only [opA]
 rw [← zero_hash]
 simp
theorem zero_header : #[.int .u8 0, .int .u8 0, .int .u8 0, .int .u8 0, .int .u8 0, .int .u8 0, .int .u8 0, .int .u8 0, .int .u8 0, .int .u8 0, .int .u8 0, .int .u8 0, .int .u8 0, .int .u8 0, .int .u8 0, .int .u8 0, .int .u8 0, .int .u8 0, .int .u8 0, .int .u8 0, .int .u8 0, .int .u8 0, .int .u8 0, .int .u8 0, .int .u8 0, .int .u8 0, .int .u8 0, .int .u8 0, .int .u8 0, .int .u8 0, .int .u8 0, .int .u8 0, .int .u64 0, .slice none 0 0] = headerA ⟨zeroHash, 0, ⟨none, 0, 0⟩⟩ := by
 simp only [headerA]
 rw [← zero_hash]
 simp
theorem zero_vote (k : Int) : #[.int .i64 k, .int .u64 0, .int .u8 0, .int .u8 0, .int .u8 0, .int .u8 0, .int .u8 0, .int .u8 0, .int .u8 0, .int .u8 0, .int .u8 0, .int .u8 0, .int .u8 0, .int .u8 0, .int .u8 0, .int .u8 0, .int .u8 0, .int .u8 0, .int .u8 0, .int .u8 0, .int .u8 0, .int .u8 0, .int .u8 0, .int .u8 0, .int .u8 0, .int .u8 0, .int .u8 0, .int .u8 0, .int .u8 0, .int .u8 0, .int .u8 0, .int .u8 0, .int .u8 0, .int .u8 0, .int .u64 0, .int .u8 0, .int .u8 0, .int .u8 0, .int .u8 0, .int .u8 0, .int .u8 0, .int .u8 0, .int .u8 0, .int .u8 0, .int .u8 0, .int .u8 0, .int .u8 0, .int .u8 0, .int .u8 0, .int .u8 0, .int .u8 0, .int .u8 0, .int .u8 0, .int .u8 0, .int .u8 0, .int .u8 0, .int .u8 0, .int .u8 0, .int .u8 0, .int .u8 0, .int .u8 0, .int .u8 0, .int .u8 0, .int .u8 0, .int .u8 0, .int .u8 0, .int .u8 0, .slice none 0 0] = voteA ⟨k, zeroPt, zeroPt, ⟨none, 0, 0⟩⟩ := by
 simp only [voteA]
 rw [← zero_point]
 simp
attribute [go_sem] zero_hash zero_point zero_op zero_header zero_vote

/-! parts put anew -/
theorem splice_mid (a b b' c : Array Value) (off : Nat) (ha : a.size = off) (hb : b.size = b'.size) : splice (a ++ b ++ c) off b' = a ++ b' ++ c := by
 subst ha
 apply Array.ext_getElem?
 intro i
 rw [splice_get _ _ _ (by simp; omega)]
 by_cases h1 : i < a.size
 ·rw [if_neg (by omega), Array.append_assoc, Array.append_assoc, Array.getElem?_append_left h1, Array.getElem?_append_left h1]
 ·by_cases h2 : i < a.size + b'.size
  ·rw [if_pos (by omega), Array.getElem?_append_left (by simp; omega), Array.getElem?_append_right (by omega)]
  ·rw [if_neg (by omega), Array.getElem?_append_right (by simp; omega), Array.getElem?_append_right (by simp; omega)]
   simp [hb]
theorem splice_op_key (o : GOp) (k : Hash) : splice (opA o) 1 (hashA k) = opA { o with key := k } :=
 splice_mid #[.int .i64 o.kind] (hashA o.key) (hashA k) _ 1 rfl (by simp)
theorem splice_tail (a l l' : Array Value) (k off : Nat) (x : Value) (ha : a.size + k = off) (hk : k < l.size) (hl : l' = l.setIfInBounds k x) : splice (a ++ l) off #[x] = a ++ l' := by
 subst ha
 subst hl
 apply Array.ext_getElem?
 intro i
 rw [splice_get _ _ _ (by simp; omega)]
 by_cases h1 : i < a.size
 ·rw [if_neg (by omega), Array.getElem?_append_left h1, Array.getElem?_append_left h1]
 ·rw [Array.getElem?_append_right (by omega), Array.getElem?_append_right (by omega), Array.getElem?_setIfInBounds]
  by_cases h2 : i = a.size + k
  ·subst h2
   rw [if_pos (by simp), if_pos (by omega), if_pos (by omega)]
   simp
  ·rw [if_neg (by simp; omega), if_neg (by omega)]
theorem splice_op_stake (o : GOp) (x : UInt64) : splice (opA o) 33 #[.int .u64 (x.toNat : Int)] = opA { o with stake := x } := by
 unfold opA
 exact splice_tail _ _ _ 0 33 _ (by simp) (by simp) (by simp)
theorem splice_op_validator (o : GOp) (x : Int) : splice (opA o) 34 #[.int .i64 x] = opA { o with validator := x } := by
 unfold opA
 exact splice_tail _ _ _ 1 34 _ (by simp) (by simp) (by simp)
theorem splice_op_evidence (o : GOp) (x : Sl) : splice (opA o) 35 #[x.v] = opA { o with evidence := x } := by
 unfold opA
 exact splice_tail _ _ _ 2 35 _ (by simp) (by simp) (by simp)
theorem splice_header_ops (o : GHeader) (x : Sl) : splice (headerA o) 33 #[x.v] = headerA { o with ops := x } :=
 by
 unfold headerA
 exact splice_tail _ _ _ 1 33 _ (by simp) (by simp) (by simp)
theorem splice_all (a b : Array Value) (h : a.size = b.size) : splice a 0 b = b := by
 have := splice_mid #[] a b #[] 0 rfl h
 simpa using this
theorem set_head (a b c : Value) (r : Array Value) : (#[a] ++ r).setIfInBounds 0 b = #[b] ++ r := by
 apply Array.ext_getElem?
 intro i
 rw [Array.getElem?_setIfInBounds]
 cases i <;> simp [Array.getElem?_append]
theorem opA_set_kind (o : GOp) (k : Int) : (opA o).setIfInBounds 0 (.int .i64 k) = opA { o with kind := k } := by
 simp only [opA, Array.append_assoc]; exact set_head _ _ undef _
theorem pointA_set_epoch (p : Pt) (e : UInt64) : (pointA p).setIfInBounds 0 (.int .u64 (e.toNat : Int)) = pointA { p with epoch := e } := by
 simp only [pointA]; exact set_head _ _ undef _
theorem voteA_set_validator (p : GVote) (k : Int) : (voteA p).setIfInBounds 0 (.int .i64 k) = voteA { p with validator := k } := by
 simp only [voteA, Array.append_assoc]; exact set_head _ _ undef _
theorem splice_op_evidence' (o : GOp) (a : Option Addr) (n c : Nat) : splice (opA o) 35 #[.slice a n c] = opA { o with evidence := ⟨a, n, c⟩ } := splice_op_evidence o ⟨a, n, c⟩
theorem splice_header_ops' (o : GHeader) (a : Option Addr) (n c : Nat) : splice (headerA o) 33 #[.slice a n c] = headerA { o with ops := ⟨a, n, c⟩ } := splice_header_ops o ⟨a, n, c⟩
/-! structs that are built -/
theorem fold_get (o : Nat) : ∀ (l : List Value) (k : Nat) (A : Array Value), (∀ i, ((l.zipIdx k).foldl (fun cs x => cs.setIfInBounds (o + x.2) x.1) A)[i]? = if o + k ≤ i ∧ i < o + k + l.length ∧ i < A.size then l[i - (o + k)]? else A[i]?)
 | [], k, A, i => by
  rw [if_neg (by simp; omega)]
  rfl
 | v :: l, k, A, i => by
  rw [List.zipIdx_cons, List.foldl_cons, fold_get o l (k + 1) _ i]
  simp only [Array.size_setIfInBounds, List.length_cons]
  by_cases h1 : o + k ≤ i ∧ i < o + k + (l.length + 1) ∧ i < A.size
  ·rw [if_pos h1]
   by_cases h2 : i = o + k
   ·subst h2
    rw [if_neg (by omega)]
    simp only [Nat.sub_self, List.getElem?_cons_zero]
    rw [Array.getElem?_setIfInBounds, if_pos rfl, if_pos h1.2.2]
   ·rw [if_pos (by omega)]
    rw [show i - (o + k) = (i - (o + (k + 1))) + 1 by omega, List.getElem?_cons_succ]
  ·rw [if_neg h1]
   by_cases h2 : i = o + k
   ·subst h2
    rw [if_neg (by omega), Array.getElem?_setIfInBounds, if_pos rfl]
    have : ¬ (o + k < A.size) := by omega
    rw [if_neg this, Array.getElem?_eq_none (by omega)]
   ·rw [if_neg (by omega), Array.getElem?_setIfInBounds, if_neg (by omega)]
theorem fold_splice (A B : Array Value) (o n : Nat) (hn : B.size = n) (h : o + n ≤ A.size) : Array.foldl (fun cs (x : Value × Nat) => cs.setIfInBounds (o + x.2) x.1) A B.zipIdx 0 n = splice A o B := by
 subst hn
 have e : Array.foldl (fun cs (x : Value × Nat) => cs.setIfInBounds (o + x.2) x.1) A B.zipIdx 0 B.size = ((B.toList.zipIdx 0).foldl (fun cs x => cs.setIfInBounds (o + x.2) x.1) A) := by
  rw [← Array.toList_zipIdx, Array.foldl_toList]
  congr 1
  simp
 rw [e]
 apply Array.ext_getElem?
 intro i
 rw [fold_get, splice_get _ _ _ h, Nat.add_zero, Array.length_toList]
 by_cases h1 : o ≤ i ∧ i < o + B.size
 ·rw [if_pos ⟨h1.1, h1.2, by omega⟩, if_pos h1, Array.getElem?_toList]
 ·rw [if_neg (by omega), if_neg h1]
theorem splice_point_name (p : Pt) (n : Hash) : splice (pointA p) 1 (hashA n) = pointA { p with name := n } := by
 have e : ∀ u : Pt, pointA u = #[.int .u64 (u.epoch.toNat : Int)] ++ hashA u.name ++ #[] := fun u => by rw [Array.append_empty]; rfl
 rw [e, e]
 exact splice_mid #[.int .u64 (p.epoch.toNat : Int)] (hashA p.name) (hashA n) #[] 1 rfl (by simp)
theorem splice_vote_source (v : GVote) (p : Pt) : splice (voteA v) 1 (pointA p) = voteA { v with source := p } := by
 have e : ∀ u : GVote, voteA u = #[.int .i64 u.validator] ++ pointA u.source ++ (pointA u.target ++ #[u.sig.v]) := fun u => by rw [← Array.append_assoc]; rfl
 rw [e, e]
 exact splice_mid #[.int .i64 v.validator] (pointA v.source) (pointA p) (pointA v.target ++ #[v.sig.v]) 1 rfl (by simp)
theorem splice_vote_target (v : GVote) (p : Pt) : splice (voteA v) 34 (pointA p) = voteA { v with target := p } := by
 have hs : (#[Value.int .i64 v.validator] ++ pointA v.source).size = 34 := by simp
 generalize hA : #[Value.int .i64 v.validator] ++ pointA v.source = A at hs
 have h := splice_mid A (pointA v.target) (pointA p) #[v.sig.v] 34 hs (by simp)
 rw [← hA] at h
 exact h
theorem set_splice (A : Array Value) (i : Nat) (v : Value) (h : i < A.size) : A.setIfInBounds i v = splice A i #[v] := by
 apply Array.ext_getElem?
 intro k
 rw [splice_get _ _ _ (by simp; omega), Array.getElem?_setIfInBounds]
 by_cases e : i = k
 ·subst e
  rw [if_pos rfl, if_pos h, if_pos (by simp)]
  simp
 ·rw [if_neg e, if_neg (by simp; omega)]
theorem voteA_set_sig (v : GVote) (s : Sl) : (voteA v).setIfInBounds 67 s.v = voteA { v with sig := s } := by
 rw [set_splice _ _ _ (by simp)]
 have hs : (#[Value.int .i64 v.validator] ++ pointA v.source ++ pointA v.target).size + 0 = 67 := by simp
 generalize hA : #[Value.int .i64 v.validator] ++ pointA v.source ++ pointA v.target = A at hs
 have h := splice_tail A #[v.sig.v] #[s.v] 0 67 s.v hs (by simp) (by simp)
 rw [← hA] at h
 exact h
theorem voteA_set_sig' (v : GVote) (a : Option Addr) (n c : Nat) : (voteA v).setIfInBounds 67 (.slice a n c) = voteA { v with sig := ⟨a, n, c⟩ } := voteA_set_sig v ⟨a, n, c⟩
theorem splice_link_source (v : Lnk) (p : Pt) : splice (linkA v) 0 (pointA p) = linkA { v with source := p } := by
 have h := splice_mid #[] (pointA v.source) (pointA p) (pointA v.target) 0 rfl (by simp)
 rw [Array.empty_append, Array.empty_append] at h
 unfold linkA
 exact h
theorem splice_link_target (v : Lnk) (p : Pt) : splice (linkA v) 33 (pointA p) = linkA { v with target := p } := by
 have h := splice_mid (pointA v.source) (pointA v.target) (pointA p) #[] 33 (by simp) (by simp)
 rw [Array.append_empty, Array.append_empty] at h
 unfold linkA
 exact h
attribute [go_sem] fold_splice splice_point_name splice_vote_source splice_vote_target voteA_set_sig' splice_link_source splice_link_target
attribute [go_sem] opA_set_kind pointA_set_epoch voteA_set_validator splice_op_key splice_op_stake splice_op_validator splice_op_evidence' splice_header_ops'
end Go.Proofs.YthdjhbiigmcecaaGreat

/- Contracts of package wire: the reader. -/
namespace Go.Proofs.YthdjhbiigmcecaaGreat
open Go.RowKit

theorem grown_below {D : Nat} {w w1 w2 : World} {row : Option Nat} (hg : w.grownBy w1 row) (hb : Below D w1 w2) (hD : w.heap.size ≤ D) : w.grownBy w2 row :=
 ⟨hb.os.trans hg.os, hb.tape.trans hg.tape, hb.output.trans hg.output, Nat.le_trans hg.size hb.size, fun k hk hr => (hb.block k (by omega)).trans (hg.block k hk hr)⟩
theorem drop_reads {w : World} {b off : Nat} {l : List UInt8} (hc : ∀ (i : Nat) (hi : i < l.length), w.cell? ⟨b, off + i, none⟩ = some (byteV l[i])) (k c : Nat) (hk : l.length - k ≤ c) :
  BytesR w ⟨some ⟨b, off + k, none⟩, l.length - k, c⟩ (l.drop k) :=
 ⟨by simp, hk, fun _ => ⟨b, off + k, rfl, fun i hi => by
  have h : k + i < l.length := by simp at hi; omega
  rw [Nat.add_assoc, hc (k + i) h]; simp⟩⟩

theorem grown_set (w : World) (r i : Nat) (v : Value) : w.grownBy (w.setCell ⟨r, i, none⟩ v) (some r) :=
 ⟨rfl, rfl, rfl, by simp, fun k _ hk => Below.heap_setCell w ⟨r, i, none⟩ v k (fun e => hk (by rw [e]))⟩
theorem heap_set (w : World) (r i : Nat) (cs : Array Value) (t : TypeId) (v : Value) (hg : w.heap[r]? = some (.cells cs t (0, 0))) :
  (w.setCell ⟨r, i, none⟩ v).heap[r]? = some (.cells (cs.setIfInBounds i v) t (0, 0)) := heap_setCell_same w r i cs t v hg

end Go.Proofs.YthdjhbiigmcecaaGreat

/- A block that is known whole may be written. -/
namespace Go.Proofs.YthdjhbiigmcecaaGreat
open Go.RowKit

theorem there_block {w : World} {b n : Nat} {cs : Array Value} {t : TypeId} (h : w.heap[b]? = some (.cells cs t (0, 0))) (hn : n ≤ cs.size) : there w b 0 n := by
 intro j hj
 refine ⟨?_, frozen_of_row w b _ cs t h⟩
 rw [cell_of_row w b _ cs t _ h, Nat.zero_add, Array.getElem?_eq_getElem (by omega)]
 rfl
theorem grown_undrew {w w' : World} {row : Option Nat} (h : w.drew.grownBy w' row) : w.grownBy w' row := ⟨h.os, h.tape, h.output, h.size, h.block⟩
end Go.Proofs.YthdjhbiigmcecaaGreat
