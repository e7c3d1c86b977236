/- Rows of cells in memory: reading and writing structs and arrays as a whole; what stays below a block number. Over any program. -/
import Derived.WalkKit
import Derived.Lib.Hide
import Derived.Deep.Draws
namespace Go.Proofs.Ytlkflddjpkhndaa
open Go.RowKit

theorem ret_bool {a b : Bool} (h : a = b) : Ending.returned (.bool a) = .returned (.bool b) := by rw [h]
theorem ret_int {k : IntKind} {a b : Int} (h : a = b) : Ending.returned (.int k a) = .returned (.int k b) := by rw [h]

/-- n cells from place off on of block b -/
def row? (w : World) (b off n : Nat) : Option (Array Value) :=
  match w.heap[b]? with
  | some (.cells cs _ _) => if off + n ≤ cs.size then some (cs.extract off (off + n)) else none
  | _ => none

section
variable (w : World) (b off n : Nat)
theorem row?_new (cs : Array Value) (t : TypeId) : row? (w.alloc (.cells cs t)) w.heap.size off n = if off + n ≤ cs.size then some (cs.extract off (off + n)) else none := by
  unfold row?; rw [heap_alloc_new w (.cells cs t)]
theorem row?_new_at (cs : Array Value) (t : TypeId) (h : b = w.heap.size) : row? (w.alloc (.cells cs t)) b off n = if off + n ≤ cs.size then some (cs.extract off (off + n)) else none := by subst h; exact row?_new w off n cs t
theorem row?_old (o : Obj) (h : b < w.heap.size) : row? (w.alloc o) b off n = row? w b off n := by
  unfold row?; rw [Below.heap_alloc w o b h]
theorem row?_drew : row? w.drew b off n = row? w b off n := rfl
theorem row?_drewN (k : Nat) : row? (w.drewN k) b off n = row? w b off n := rfl
theorem row?_far (a : Addr) (v : Value) (h : b ≠ a.block) : row? (w.setCell a v) b off n = row? w b off n := by
  simp [row?, heap_setCell_other w a b v h]
theorem row?_below {B : Nat} {w w' : World} (hb : Below B w w') (h : b < B) : row? w' b off n = row? w b off n := by
  simp [row?, hb.block b h]
theorem row?_some {w : World} {b off n : Nat} {l : Array Value} (h : row? w b off n = some l) :
    ∃ cs t fr, w.heap[b]? = some (.cells cs t fr) ∧ off + n ≤ cs.size ∧ l = cs.extract off (off + n) := by
  unfold row? at h
  split at h
  · rename_i cs t fr hg
    split at h
    · rename_i hle
      injection h with h
      exact ⟨cs, t, fr, hg, hle, h.symm⟩
    · cases h
  · cases h
end

theorem bel_trans {B S : Nat} {w X w2 : World} (hb : Below S X w2) (h : Below B w X) (hS : B ≤ S) : Below B w w2 := h.trans (hb.mono hS)
theorem bel_grown {B : Nat} {w X w2 : World} {row : Option Nat} (hg : X.grownBy w2 row) (h : Below B w X) (hS : B ≤ X.heap.size) (hr : ∀ k, row = some k → B ≤ k) : Below B w w2 := h.grown hg hS hr
theorem bel_ad (w : World) (o : Obj) : Below w.heap.size w (w.alloc o).drew := ((Below.refl _ _).alloc (Nat.le_refl _) _).drew
theorem bel_a (w : World) (o : Obj) : Below w.heap.size w (w.alloc o) := (Below.refl _ _).alloc (Nat.le_refl _) _
theorem undrew {B : Nat} {w w' : World} (h : Below B w.drew w') : Below B w w' := ⟨h.os, h.tape, h.output, h.size, h.block⟩
theorem below_drewN {B : Nat} {a w : World} (h : Below B a w) (n : Nat) : Below B a (w.drewN n) := ⟨h.os, h.tape, h.output, h.size, h.block⟩
theorem size_drewN (w : World) (n : Nat) : (w.drewN n).heap.size = w.heap.size := rfl

/-- below B: cells, marks and rows read as before -/
theorem kept {B : Nat} {w w1 : World} (hb : Below B w w1) :
    (∀ b o, b < B → w1.cell? ⟨b, o, none⟩ = w.cell? ⟨b, o, none⟩) ∧ (∀ b o, b < B → w1.frozen? ⟨b, o, none⟩ = w.frozen? ⟨b, o, none⟩) ∧ (∀ b off n, b < B → row? w1 b off n = row? w b off n) :=
  ⟨fun b o h => hb.cell (p := ⟨b, o, none⟩) h, fun b o h => hb.frozen (p := ⟨b, o, none⟩) h, fun b off n h => row?_below b off n hb h⟩

theorem run_loadAt_row {P : Program} {t : TypeId} {n : Nat} (hA : ∀ w, (isAgg t).run P w = .ok true w) (hS : ∀ w, (Go.sizeOf t).run P w = .ok n w)
    (w : World) (b off : Nat) (h : (row? w b off n).isSome = true) :
    (Instr.loadAt t (.pointer (some ⟨b, off, none⟩))).run P w = .ok (.agg ((row? w b off n).getD #[])) w := by
  cases hr : row? w b off n with
  | none => rw [hr] at h; cases h
  | some l =>
    obtain ⟨cs, tt, fr, hg, hle, hl⟩ := row?_some hr
    have hlen : l.toList.length = n := by rw [hl]; simp; omega
    have hc := run_loadCells_list (P := P) w ⟨b, off, none⟩ l.toList (fun j v hv => by
      have hadd : (⟨b, off, none⟩ : Addr).add j = ⟨b, off + j, none⟩ := by unfold Addr.add; split <;> simp_all
      rw [hadd, cell_of_row w b (off + j) cs tt fr hg]
      have hj : j < n := by
        rcases Nat.lt_or_ge j n with hj | hj
        · exact hj
        · rw [List.getElem?_eq_none (by omega)] at hv; cases hv
      have : l[j]? = some v := by simpa using hv
      rw [hl, Array.getElem?_extract] at this
      simpa [show off + j < off + n by omega, show j < min (off + n) cs.size - off by omega] using this)
    rw [hlen] at hc
    simp only [Array.toArray_toList] at hc
    simp [Instr.loadAt, Instr.sureAddr, loadVar, Sem.run_bind, hA, hS, hc]

/-- a load of a struct or an array, by a name that the walk does not open -/
def loadAgg (t : TypeId) (x : Value) : Sem Value := Instr.loadAt t x
theorem run_loadAgg {P : Program} {t : TypeId} {n : Nat} (hA : ∀ w, (isAgg t).run P w = .ok true w) (hS : ∀ w, (Go.sizeOf t).run P w = .ok n w)
    (w : World) (b off : Nat) (h : (row? w b off n).isSome = true) : (loadAgg t (.pointer (some ⟨b, off, none⟩))).run P w = .ok (.agg ((row? w b off n).getD #[])) w := run_loadAt_row hA hS w b off h
end Go.Proofs.Ytlkflddjpkhndaa
