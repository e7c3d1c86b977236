/- Texts of this proof, one behind the other: Kit, Types, Mem, Wire, ShaP, ShaW, Put, Loads, Stores. -/
import Derived.WalkKit
import Derived.Lib.Hide
import Derived.Deep.Draws
import Derived.Maps.AppendAt
import Derived.Deep.AppendLies
import Derived.Deep.AppendSrc
import Derived.OwnWalk
import Derived.Test.YthdjhbiigmcecaaShelf
import Derived.LoopN
import Derived.Handy
import Derived.Deep.QuietTactic
import Derived.BigQuiet
import Derived.Laws.BitsAllLaws
import Derived.Deep.MidRow
import Derived.Test.YthdjhbiigmcecaaProg
set_option linter.unusedVariables false
set_option linter.unusedSimpArgs false
/- Rows of cells in memory: reading and writing structs and arrays as a whole; what stays below a block number. Over any program. -/
namespace Go.Proofs.Ythdjhbiigmcecaa
open Go.RowKit

theorem ret_bool {a b : Bool} (h : a = b) : Ending.returned (.bool a) = .returned (.bool b) := by rw [h]
theorem ret_int {k : IntKind} {a b : Int} (h : a = b) : Ending.returned (.int k a) = .returned (.int k b) := by rw [h]

/-- n cells from place off on of block b -/
def row? (w : World) (b off n : Nat) : Option (Array Value) :=
 match w.heap[b]? with
 | some (.cells cs _ _) => if off + n ≤ cs.size then some (cs.extract off (off + n)) else none
 | _ => none

section
variable (w : World) (b off n : Nat)
theorem row?_new (cs : Array Value) (t : TypeId) : row? (w.alloc (.cells cs t)) w.heap.size off n = if off + n ≤ cs.size then some (cs.extract off (off + n)) else none := by
 unfold row?; rw [heap_alloc_new w (.cells cs t)]
theorem row?_new_at (cs : Array Value) (t : TypeId) (h : b = w.heap.size) : row? (w.alloc (.cells cs t)) b off n = if off + n ≤ cs.size then some (cs.extract off (off + n)) else none := by subst h; exact row?_new w off n cs t
theorem row?_old (o : Obj) (h : b < w.heap.size) : row? (w.alloc o) b off n = row? w b off n := by
 unfold row?; rw [Below.heap_alloc w o b h]
theorem row?_drew : row? w.drew b off n = row? w b off n := rfl
theorem row?_drewN (k : Nat) : row? (w.drewN k) b off n = row? w b off n := rfl
theorem row?_far (a : Addr) (v : Value) (h : b ≠ a.block) : row? (w.setCell a v) b off n = row? w b off n := by
 simp [row?, heap_setCell_other w a b v h]
theorem row?_below {B : Nat} {w w' : World} (hb : Below B w w') (h : b < B) : row? w' b off n = row? w b off n := by
 simp [row?, hb.block b h]
theorem row?_some {w : World} {b off n : Nat} {l : Array Value} (h : row? w b off n = some l) :
  ∃ cs t fr, w.heap[b]? = some (.cells cs t fr) ∧ off + n ≤ cs.size ∧ l = cs.extract off (off + n) := by
 unfold row? at h
 split at h
 ·rename_i cs t fr hg
  split at h
  ·rename_i hle
   injection h with h
   exact ⟨cs, t, fr, hg, hle, h.symm⟩
  ·cases h
 ·cases h
end

theorem bel_trans {B S : Nat} {w X w2 : World} (hb : Below S X w2) (h : Below B w X) (hS : B ≤ S) : Below B w w2 := h.trans (hb.mono hS)
theorem bel_grown {B : Nat} {w X w2 : World} {row : Option Nat} (hg : X.grownBy w2 row) (h : Below B w X) (hS : B ≤ X.heap.size) (hr : ∀ k, row = some k → B ≤ k) : Below B w w2 := h.grown hg hS hr
theorem bel_a (w : World) (o : Obj) : Below w.heap.size w (w.alloc o) := (Below.refl _ _).alloc (Nat.le_refl _) _
theorem undrew {B : Nat} {w w' : World} (h : Below B w.drew w') : Below B w w' := ⟨h.os, h.tape, h.output, h.size, h.block⟩
theorem below_drewN {B : Nat} {a w : World} (h : Below B a w) (n : Nat) : Below B a (w.drewN n) := ⟨h.os, h.tape, h.output, h.size, h.block⟩
theorem size_drewN (w : World) (n : Nat) : (w.drewN n).heap.size = w.heap.size := rfl

/-- below B: cells, marks and rows read as before -/
theorem kept {B : Nat} {w w1 : World} (hb : Below B w w1) :
  (∀ b o, b < B → w1.cell? ⟨b, o, none⟩ = w.cell? ⟨b, o, none⟩) ∧ (∀ b o, b < B → w1.frozen? ⟨b, o, none⟩ = w.frozen? ⟨b, o, none⟩) ∧ (∀ b off n, b < B → row? w1 b off n = row? w b off n) :=
 ⟨fun b o h => hb.cell (p := ⟨b, o, none⟩) h, fun b o h => hb.frozen (p := ⟨b, o, none⟩) h, fun b off n h => row?_below b off n hb h⟩

theorem run_loadAt_row {P : Program} {t : TypeId} {n : Nat} (hA : ∀ w, (isAgg t).run P w = .ok true w) (hS : ∀ w, (Go.sizeOf t).run P w = .ok n w)
  (w : World) (b off : Nat) (h : (row? w b off n).isSome = true) :
  (Instr.loadAt t (.pointer (some ⟨b, off, none⟩))).run P w = .ok (.agg ((row? w b off n).getD #[])) w := by
 cases hr : row? w b off n with
 | none => rw [hr] at h; cases h
 | some l =>
  obtain ⟨cs, tt, fr, hg, hle, hl⟩ := row?_some hr
  have hlen : l.toList.length = n := by rw [hl]; simp; omega
  have hc := run_loadCells_list (P := P) w ⟨b, off, none⟩ l.toList (fun j v hv => by
   have hadd : (⟨b, off, none⟩ : Addr).add j = ⟨b, off + j, none⟩ := by unfold Addr.add; split <;> simp_all
   rw [hadd, cell_of_row w b (off + j) cs tt fr hg]
   have hj : j < n := by
    rcases Nat.lt_or_ge j n with hj | hj
    ·exact hj
    ·rw [List.getElem?_eq_none (by omega)] at hv; cases hv
   have : l[j]? = some v := by simpa using hv
   rw [hl, Array.getElem?_extract] at this
   simpa [show off + j < off + n by omega, show j < min (off + n) cs.size - off by omega] using this)
  rw [hlen] at hc
  simp only [Array.toArray_toList] at hc
  simp [Instr.loadAt, Instr.sureAddr, loadVar, Sem.run_bind, hA, hS, hc]

/-- a load of a struct or an array, by a name that the walk does not open -/
def loadAgg (t : TypeId) (x : Value) : Sem Value := Instr.loadAt t x
theorem run_loadAgg {P : Program} {t : TypeId} {n : Nat} (hA : ∀ w, (isAgg t).run P w = .ok true w) (hS : ∀ w, (Go.sizeOf t).run P w = .ok n w)
  (w : World) (b off : Nat) (h : (row? w b off n).isSome = true) : (loadAgg t (.pointer (some ⟨b, off, none⟩))).run P w = .ok (.agg ((row? w b off n).getD #[])) w := run_loadAt_row hA hS w b off h
end Go.Proofs.Ythdjhbiigmcecaa

/- Go's structs as Lean values, and the cells that they take. Over any program. -/
namespace Go.Proofs.Ythdjhbiigmcecaa
open Go.RowKit

/-- 32 bytes -/
abbrev Hash := {l : List UInt8 // l.length = 32}
def zeroHash : Hash := ⟨List.replicate 32 0, by simp⟩
def byteV (b : UInt8) : Value := .int .u8 (b.toNat : Int)
def hashA (h : Hash) : Array Value := (h.1.map byteV).toArray
@[simp] theorem hashA_size (h : Hash) : (hashA h).size = 32 := by simp [hashA, h.2]

/-- api.Point -/
structure Pt where
 epoch : UInt64
 name : Hash
 deriving DecidableEq
def zeroPt : Pt := ⟨0, zeroHash⟩
def pointA (p : Pt) : Array Value := #[.int .u64 (p.epoch.toNat : Int)] ++ hashA p.name
@[simp] theorem pointA_size (p : Pt) : (pointA p).size = 33 := by simp [pointA]
@[simp] theorem pointA_epoch (p : Pt) : (pointA p)[0]? = some (.int .u64 (p.epoch.toNat : Int)) := by simp [pointA]
@[simp] theorem pointA_epoch' (p : Pt) (h) : (pointA p)[0]'h = .int .u64 (p.epoch.toNat : Int) := by simp [pointA]
@[simp] theorem pointA_name (p : Pt) : (pointA p).extract 1 33 = hashA p.name := by
 simp [pointA, Array.extract_append]

theorem ext_self {α : Type} (a : Array α) (n : Nat) (h : a.size ≤ n) : a.extract 0 n = a := Array.extract_eq_self_of_le h
theorem ext_none {α : Type} (a : Array α) (m n : Nat) (h : a.size ≤ m) : a.extract m n = #[] := Array.extract_empty_of_size_le_start h

@[simp] theorem pointA_all (p : Pt) : (pointA p).extract 0 33 = pointA p := ext_self _ _ (by simp)
@[simp] theorem hashA_all (h : Hash) : (hashA h).extract 0 32 = hashA h := ext_self _ _ (by simp)

/-- api.Link -/
structure Lnk where
 source : Pt
 target : Pt
 deriving DecidableEq
def linkA (l : Lnk) : Array Value := pointA l.source ++ pointA l.target
@[simp] theorem linkA_size (l : Lnk) : (linkA l).size = 66 := by simp [linkA]
@[simp] theorem linkA_source (l : Lnk) : (linkA l).extract 0 33 = pointA l.source := by
 simp [linkA, Array.extract_append, ext_self, ext_none]
@[simp] theorem linkA_target (l : Lnk) : (linkA l).extract 33 66 = pointA l.target := by
 simp [linkA, Array.extract_append, ext_self, ext_none]

@[simp] theorem linkA_all (l : Lnk) : (linkA l).extract 0 66 = linkA l := ext_self _ _ (by simp)

/-- a slice's head -/
structure Sl where
 a : Option Addr
 n : Nat
 c : Nat
abbrev Sl.v (s : Sl) : Value := .slice s.a s.n s.c

/-- api.Vote, as it lies in memory -/
structure GVote where
 validator : Int
 source : Pt
 target : Pt
 sig : Sl
def voteA (v : GVote) : Array Value := #[.int .i64 v.validator] ++ pointA v.source ++ pointA v.target ++ #[v.sig.v]
@[simp] theorem voteA_size (v : GVote) : (voteA v).size = 68 := by simp [voteA]
@[simp] theorem voteA_validator (v : GVote) : (voteA v)[0]? = some (.int .i64 v.validator) := by simp [voteA, Array.getElem?_append]
@[simp] theorem voteA_sig (v : GVote) : (voteA v)[67]? = some v.sig.v := by
 simp only [voteA]
 rw [Array.getElem?_append_right (by simp)]
 simp
@[simp] theorem voteA_validator' (v : GVote) (h) : (voteA v)[0]'h = .int .i64 v.validator := by simp [voteA, Array.getElem_append]
@[simp] theorem voteA_sig' (v : GVote) (h) : (voteA v)[67]'h = v.sig.v := by
 have := voteA_sig v
 rwa [Array.getElem?_eq_getElem h, Option.some.injEq] at this
@[simp] theorem voteA_source (v : GVote) : (voteA v).extract 1 34 = pointA v.source := by
 simp [voteA, Array.extract_append, ext_self, ext_none]
@[simp] theorem voteA_target (v : GVote) : (voteA v).extract 34 67 = pointA v.target := by
 simp [voteA, Array.extract_append, ext_self, ext_none]
@[simp] theorem voteA_all (v : GVote) : (voteA v).extract 0 68 = voteA v := ext_self _ _ (by simp)

/-- api.HeaderOp, as it lies in memory -/
structure GOp where
 kind : Int
 key : Hash
 stake : UInt64
 validator : Int
 evidence : Sl
def opA (o : GOp) : Array Value := #[.int .i64 o.kind] ++ hashA o.key ++ #[.int .u64 (o.stake.toNat : Int), .int .i64 o.validator, o.evidence.v]
@[simp] theorem opA_size (o : GOp) : (opA o).size = 36 := by simp [opA]
@[simp] theorem opA_all (o : GOp) : (opA o).extract 0 36 = opA o := ext_self _ _ (by simp)
@[simp] theorem opA_key (o : GOp) : (opA o).extract 1 33 = hashA o.key := by
 simp [opA, Array.extract_append, ext_self, ext_none]
theorem opA_tail (o : GOp) (i : Nat) : (opA o)[33 + i]? = #[.int .u64 (o.stake.toNat : Int), .int .i64 o.validator, o.evidence.v][i]? := by
 rw [opA, Array.getElem?_append_right (by simp)]
 simp
@[simp] theorem opA_kind (o : GOp) : (opA o)[0]? = some (.int .i64 o.kind) := by simp [opA, Array.getElem?_append]
@[simp] theorem opA_kind' (o : GOp) (h) : (opA o)[0]'h = .int .i64 o.kind := by simp [opA, Array.getElem_append]
@[simp] theorem opA_stake (o : GOp) : (opA o)[33]? = some (.int .u64 (o.stake.toNat : Int)) := opA_tail o 0
@[simp] theorem opA_stake' (o : GOp) (h) : (opA o)[33]'h = .int .u64 (o.stake.toNat : Int) := by
 have := opA_stake o
 rwa [Array.getElem?_eq_getElem h, Option.some.injEq] at this
@[simp] theorem opA_validator (o : GOp) : (opA o)[34]? = some (.int .i64 o.validator) := opA_tail o 1
@[simp] theorem opA_validator' (o : GOp) (h) : (opA o)[34]'h = .int .i64 o.validator := by
 have := opA_validator o
 rwa [Array.getElem?_eq_getElem h, Option.some.injEq] at this
@[simp] theorem opA_evidence (o : GOp) : (opA o)[35]? = some o.evidence.v := opA_tail o 2
@[simp] theorem opA_evidence' (o : GOp) (h) : (opA o)[35]'h = o.evidence.v := by
 have := opA_evidence o
 rwa [Array.getElem?_eq_getElem h, Option.some.injEq] at this

/-- api.Header, as it lies in memory -/
structure GHeader where
 parent : Hash
 epoch : UInt64
 ops : Sl
def headerA (o : GHeader) : Array Value := hashA o.parent ++ #[.int .u64 (o.epoch.toNat : Int), o.ops.v]
@[simp] theorem headerA_size (o : GHeader) : (headerA o).size = 34 := by simp [headerA]
@[simp] theorem headerA_all (o : GHeader) : (headerA o).extract 0 34 = headerA o := ext_self _ _ (by simp)
@[simp] theorem headerA_parent (o : GHeader) : (headerA o).extract 0 32 = hashA o.parent := by
 simp [headerA, Array.extract_append, ext_self, ext_none]
theorem headerA_tail (o : GHeader) (i : Nat) : (headerA o)[32 + i]? = #[.int .u64 (o.epoch.toNat : Int), o.ops.v][i]? := by
 rw [headerA, Array.getElem?_append_right (by simp)]
 simp
@[simp] theorem headerA_epoch (o : GHeader) : (headerA o)[32]? = some (.int .u64 (o.epoch.toNat : Int)) := headerA_tail o 0
@[simp] theorem headerA_epoch' (o : GHeader) (h) : (headerA o)[32]'h = .int .u64 (o.epoch.toNat : Int) := by
 have := headerA_epoch o
 rwa [Array.getElem?_eq_getElem h, Option.some.injEq] at this
@[simp] theorem headerA_ops (o : GHeader) : (headerA o)[33]? = some o.ops.v := headerA_tail o 1
@[simp] theorem headerA_ops' (o : GHeader) (h) : (headerA o)[33]'h = o.ops.v := by
 have := headerA_ops o
 rwa [Array.getElem?_eq_getElem h, Option.some.injEq] at this
end Go.Proofs.Ythdjhbiigmcecaa

/- What slices hold: bytes, and structs of any size. Over any program. -/
namespace Go.Proofs.Ythdjhbiigmcecaa
open Go.RowKit

theorem lt_of_cell {w : World} {b o : Nat} {v : Value} (h : w.cell? ⟨b, o, none⟩ = some v) : b < w.heap.size := block_lt_of_cell h
theorem lt_of_row {w : World} {b off n : Nat} {l : Array Value} (h : row? w b off n = some l) : b < w.heap.size := by
 obtain ⟨cs, t, fr, hg, _⟩ := row?_some h
 rcases Nat.lt_or_ge b w.heap.size with hlt | hge
 ·exact hlt
 ·rw [Array.getElem?_eq_none hge] at hg; cases hg

theorem cell_alloc (w : World) (cs : Array Value) (t : TypeId) (b i : Nat) : (w.alloc (.cells cs t)).cell? ⟨b, i, none⟩ = if b = w.heap.size then cs[i]? else w.cell? ⟨b, i, none⟩ := by
 split
 ·rename_i h; subst h; simp
 ·rename_i h; exact World.cell?_alloc_old w _ ⟨b, i, none⟩ h
theorem cell_drewN (w : World) (n : Nat) (a : Addr) : (w.drewN n).cell? a = w.cell? a := rfl

/-- a slice of bytes -/
def BytesR (w : World) (s : Sl) (l : List UInt8) : Prop :=
 s.n = l.length ∧ s.n ≤ s.c ∧ (l ≠ [] → ∃ b off, s.a = some ⟨b, off, none⟩ ∧ ∀ (i : Nat) (h : i < l.length), w.cell? ⟨b, off + i, none⟩ = some (byteV l[i]))
/-- a slice of structs of k cells each -/
def SlR {α : Type} (k : Nat) (R : Array Value → α → Prop) (w : World) (s : Sl) (l : List α) : Prop :=
 s.n = l.length ∧ s.n ≤ s.c ∧ (l ≠ [] → ∃ b off, s.a = some ⟨b, off, none⟩ ∧ ∀ (i : Nat) (h : i < l.length), ∃ cs, row? w b (off + i * k) k = some cs ∧ R cs l[i])

theorem BytesR.nil (w : World) (a : Option Addr) (c : Nat) : BytesR w ⟨a, 0, c⟩ [] := ⟨rfl, Nat.zero_le _, fun h => absurd rfl h⟩
theorem BytesR.keep {w w' : World} {s : Sl} {l : List UInt8} (h : BytesR w s l) (hb : Below w.heap.size w w') : BytesR w' s l :=
 ⟨h.1, h.2.1, fun hl => by
  obtain ⟨b, off, ha, hc⟩ := h.2.2 hl
  exact ⟨b, off, ha, fun i hi => (hb.cell (p := ⟨b, off + i, none⟩) (lt_of_cell (hc i hi))).trans (hc i hi)⟩⟩
theorem SlR.keep {α : Type} {k : Nat} {R R' : Array Value → α → Prop} {w w' : World} {s : Sl} {l : List α} (h : SlR k R w s l) (hb : Below w.heap.size w w') (hR : ∀ cs x, R cs x → R' cs x) : SlR k R' w' s l :=
 ⟨h.1, h.2.1, fun hl => by
  obtain ⟨b, off, ha, hc⟩ := h.2.2 hl
  refine ⟨b, off, ha, fun i hi => ?_⟩
  obtain ⟨cs, h1, h2⟩ := hc i hi
  exact ⟨cs, (row?_below _ _ _ hb (lt_of_row h1)).trans h1, hR _ _ h2⟩⟩
theorem SlR.nil {α : Type} (k : Nat) (R : Array Value → α → Prop) (w : World) (a : Option Addr) (c : Nat) : SlR k R w ⟨a, 0, c⟩ [] := ⟨rfl, Nat.zero_le _, fun h => absurd rfl h⟩

theorem BytesR.at {w : World} {s : Sl} {l : List UInt8} (h : BytesR w s l) (hl : 0 < l.length) : ∃ b off, s = ⟨some ⟨b, off, none⟩, l.length, s.c⟩ ∧ b < w.heap.size ∧ ∀ (i : Nat) (h : i < l.length), w.cell? ⟨b, off + i, none⟩ = some (byteV l[i]) := by
 obtain ⟨b, off, ha, hc⟩ := h.2.2 (by intro e; subst e; simp at hl)
 refine ⟨b, off, ?_, lt_of_cell (hc 0 hl), hc⟩
 cases s
 simp only at ha
 have := h.1
 simp_all
theorem SlR.at {α : Type} {k : Nat} {R : Array Value → α → Prop} {w : World} {s : Sl} {l : List α} (h : SlR k R w s l) (hl : 0 < l.length) : ∃ b off, s = ⟨some ⟨b, off, none⟩, l.length, s.c⟩ ∧ b < w.heap.size ∧ ∀ (i : Nat) (h : i < l.length), ∃ cs, row? w b (off + i * k) k = some cs ∧ R cs l[i] := by
 obtain ⟨b, off, ha, hc⟩ := h.2.2 (by intro e; subst e; simp at hl)
 obtain ⟨cs, h1, _⟩ := hc 0 hl
 refine ⟨b, off, ?_, lt_of_row h1, hc⟩
 cases s
 simp only at ha
 have := h.1
 simp_all

theorem setCells_size (g : Nat) : ∀ (vs : List Value) (o : Nat) (w : World), (w.setCells g o vs).heap.size = w.heap.size
 | [], _, _ => rfl
 | a :: r, o, w => by rw [World.setCells, setCells_size g r]; simp
theorem setCells_far (g : Nat) : ∀ (vs : List Value) (o : Nat) (w : World) (b : Nat), b ≠ g → (w.setCells g o vs).heap[b]? = w.heap[b]?
 | [], _, _, _, _ => rfl
 | a :: r, o, w, b, hb => by rw [World.setCells, setCells_far g r _ _ b hb]; exact Below.heap_setCell w ⟨g, o, none⟩ a b hb
theorem setCells_misc (g : Nat) : ∀ (vs : List Value) (o : Nat) (w : World), (w.setCells g o vs).os = w.os ∧ (w.setCells g o vs).tape = w.tape ∧ (w.setCells g o vs).output = w.output
 | [], _, _ => ⟨rfl, rfl, rfl⟩
 | a :: r, o, w => by rw [World.setCells]; exact setCells_misc g r _ _

/-- a slice of n elements of k cells each, of the call's own: at the head of a block that nothing else has, with room to write up to its capacity -/
def OwnC (w : World) (base k : Nat) (v : Value) (n : Nat) (xs : List Value) : Prop :=
 xs.length = n * k ∧ ((v = .slice none 0 0 ∧ n = 0) ∨
  ∃ g cap, v = .slice (some ⟨g, 0, none⟩) n cap ∧ base ≤ g ∧ g < w.heap.size ∧ n ≤ cap ∧ cap ≤ maxLen ∧ (∀ j, j < cap * k → (w.cell? ⟨g, j, none⟩).isSome = true) ∧ (∀ j, j < cap * k → w.frozen? ⟨g, j, none⟩ = false) ∧
   ∀ j u, xs[j]? = some u → w.cell? ⟨g, j, none⟩ = some u)
theorem OwnC.nil (w : World) (base k : Nat) : OwnC w base k (.slice none 0 0) 0 [] := ⟨by simp, .inl ⟨rfl, rfl⟩⟩
theorem OwnC.of_row {w : World} {base : Nat} {e : TypeId} {k n : Nat} {v : Value} {xs : List Value} (h : w.ownsRow base e k v n xs) : OwnC w base k v n xs := by
 refine ⟨h.1, ?_⟩
 rcases h.2 with h2 | ⟨g, cap, cur, hv, hb, hg, hn, hm, hs, ht⟩
 ·exact .inl h2
 ·refine .inr ⟨g, cap, hv, hb, ?_, hn, hm, fun j hj => ?_, fun j _ => frozen_of_row w g j cur e hg, fun j u hu => ?_⟩
  ·rcases Nat.lt_or_ge g w.heap.size with hlt | hge
   ·exact hlt
   ·rw [Array.getElem?_eq_none hge] at hg; cases hg
  ·rw [cell_of_row w g j cur e _ hg]; simp; omega
  ·rw [cell_of_row w g j cur e _ hg]
   rw [← ht, List.getElem?_take] at hu
   split at hu
   ·simpa using hu
   ·cases hu
theorem OwnC.keep {w w' : World} {base k n : Nat} {v : Value} {xs : List Value} (h : OwnC w base k v n xs) (hb : Below w.heap.size w w') : OwnC w' base k v n xs := by
 refine ⟨h.1, ?_⟩
 rcases h.2 with h2 | ⟨g, cap, hv, h1, hg, hn, hm, hc, hf, hx⟩
 ·exact .inl h2
 ·have e1 := fun j => hb.cell (p := ⟨g, j, none⟩) hg
  have e2 := fun j => hb.frozen (p := ⟨g, j, none⟩) hg
  exact .inr ⟨g, cap, hv, h1, Nat.lt_of_lt_of_le hg hb.size, hn, hm, fun j hj => by rw [e1]; exact hc j hj, fun j hj => by rw [e2]; exact hf j hj, fun j u hu => by rw [e1]; exact hx j u hu⟩
theorem OwnC.more {w : World} {base base' k n : Nat} {v : Value} {xs : List Value} (h : OwnC w base k v n xs) (hb : base' ≤ base) : OwnC w base' k v n xs := by
 refine ⟨h.1, ?_⟩
 rcases h.2 with h2 | ⟨g, cap, hv, h1, r⟩
 ·exact .inl h2
 ·exact .inr ⟨g, cap, hv, by omega, r⟩
theorem OwnC.slice {w : World} {base k n : Nat} {v : Value} {xs : List Value} (h : OwnC w base k v n xs) : ∃ s : Sl, v = s.v := by
 rcases h.2 with ⟨hv, _⟩ | ⟨g, cap, hv, _⟩
 ·exact ⟨⟨none, 0, 0⟩, hv⟩
 ·exact ⟨⟨some ⟨g, 0, none⟩, n, cap⟩, hv⟩
theorem OwnC.lt {w : World} {base k n : Nat} {v : Value} {xs : List Value} (h : OwnC w base k v n xs) : ∀ g, v.ownBlock = some g → base ≤ g ∧ g < w.heap.size := by
 rcases h.2 with ⟨rfl, _⟩ | ⟨g, cap, rfl, h1, h2, _⟩
 ·intro g hg; simp [Value.ownBlock] at hg
 ·intro g' hg; simp [Value.ownBlock] at hg; omega

section
variable {P : Program} (w : World)
/-- append onto a row of the call's own, whatever is appended -/
theorem run_append_ownC (base : Nat) (t tx ty e : TypeId) (i : TypeInfo) (z : Value) (k bytes : Nat) (ht : P.underlying t = some (.slice e)) (hi : P.info? e = some i) (hz : i.zero = some z)
  (hsize : i.size = k) (hby : i.bytes = bytes) (hzs : z.cells.size = k)
  (v : Value) (n : Nat) (xs : List Value) (hown : OwnC w base k v n xs) (x : Value) (m : Nat) (news : List Value) (hs : Src P k tx x m news w)
  (h63 : n + m ≤ maxLen) (hbytes : (n + m) * bytes ≤ 140737488355328) (hbase : base ≤ w.heap.size) :
  ∃ v' w', (Builtin.append_ #[t, tx] ty #[v, x]).run P w = .ok v' w' ∧ OwnC w' base k v' (n + m) (xs ++ news) ∧ w.grownBy w' v.ownBlock ∧
   (v'.ownBlock = v.ownBlock ∨ v'.ownBlock = some w.heap.size) := by
 subst hsize
 subst hby
 have hlen : (xs ++ news).length = (n + m) * i.size := by rw [List.length_append, hown.1, hs.newsLen, Nat.add_mul]
 have hm64 : n + m ≤ 9223372036854775807 := by simp only [maxLen] at h63; omega
 have grown : ∀ (old : Nat) (row : Option Nat),
   OwnC (w.drew.alloc (.cells ((xs ++ news).toArray ++ Builtin.zeroCells z.cells (grownCap w (n + m) old e - (n + m))) e)) base i.size
    (.slice (some ⟨w.heap.size, 0, none⟩) (n + m) (grownCap w (n + m) old e)) (n + m) (xs ++ news) ∧
   w.grownBy (w.drew.alloc (.cells ((xs ++ news).toArray ++ Builtin.zeroCells z.cells (grownCap w (n + m) old e - (n + m))) e)) row := by
  intro old row
  have hge := grownCap_ge w (n + m) old e
  have hcm : grownCap w (n + m) old e ≤ maxLen := grownCap_le_maxLen w (n + m) old e h63
  refine ⟨OwnC.of_row (e := e) ⟨hlen, .inr ⟨w.heap.size, _, _, rfl, hbase, heap_alloc_new w.drew _, hge, hcm, ?_, ?_⟩⟩, ⟨rfl, rfl, rfl, by simp, fun k hk _ => Below.heap_alloc w.drew _ k hk⟩⟩
  ·simp only [Array.size_append, List.size_toArray, size_zeroCells, hzs, hlen, ← Nat.add_mul]
   congr 1
   omega
  ·simp only [Array.toList_append]
   rw [← hlen]
   exact List.take_left
 rcases hown.2 with ⟨rfl, rfl⟩ | ⟨g, cap, rfl, hbg, hglt, hnc, hcm, hc, hf, hx⟩
 ·have hx : xs = [] := List.eq_nil_of_length_eq_zero (by simpa using hown.1)
  subst hx
  by_cases hm : m = 0
  ·subst hm
   have hn : news = [] := List.eq_nil_of_length_eq_zero (by simpa using hs.newsLen)
   subst hn
   refine ⟨.slice none 0 0, w, ?_, OwnC.nil _ _ _, World.grownBy.refl _ _, .inl rfl⟩
   have h1 := hs.len w
   have h2 := hs.cells
   rcases hs.kind with ⟨e', hk⟩ | hk <;> simp [Builtin.append_, run_underlying ht, run_underlying hk, sizeOf, typeInfo, hi, h1, h2]
  ·have hr := run_append_grow_src (P := P) w t tx ty e i z ht hi hz none 0 0 [] (by simp [Builtin.firstCells]) x m news hs (by omega) (by omega) (growslice_fits (by omega) hbytes)
   have hgr := grown 0 (Value.ownBlock (.slice none 0 0))
   exact ⟨_, _, hr, hgr.1, hgr.2, .inr rfl⟩
 ·by_cases hroom : n + m ≤ cap
  ·have hfit : ∀ j, j < news.length → 0 + n * i.size + j < cap * i.size := by
    intro j hj
    rw [hs.newsLen] at hj
    have : (n + m) * i.size ≤ cap * i.size := Nat.mul_le_mul_right _ hroom
    rw [Nat.add_mul] at this
    omega
   have hr := run_append_room_src (P := P) w t tx ty e i ht hi g 0 n cap x m news hs hroom (fun j hj => hc _ (hfit j hj)) (fun j hj => hf _ (hfit j hj))
   have hin := World.cell?_setCells_in g news (0 + n * i.size) w (fun j hj => hc _ (hfit j hj))
   have hsize := setCells_size g news (0 + n * i.size) w
   have hblk := fun b hb => setCells_far g news (0 + n * i.size) w b hb
   have hmisc := setCells_misc g news (0 + n * i.size) w
   refine ⟨_, _, hr, ⟨hlen, .inr ⟨g, cap, rfl, hbg, by rw [hsize]; exact hglt, hroom, hcm, fun j hj => ?_, fun j hj => by rw [World.frozen?_setCells]; exact hf j hj, fun j u hu => ?_⟩⟩,
    ⟨hmisc.1, hmisc.2.1, hmisc.2.2, by rw [hsize]; exact Nat.le_refl _, fun k _ hk => hblk k (fun e => hk (by rw [e]; rfl))⟩, .inl rfl⟩
   ·by_cases hin' : 0 + n * i.size ≤ j ∧ j < 0 + n * i.size + news.length
    ·have := hin (j - (0 + n * i.size)) (by omega)
     rw [show 0 + n * i.size + (j - (0 + n * i.size)) = j by omega] at this
     rw [this]; rfl
    ·rw [World.cell?_setCells_out g news _ w _ (fun _ _ => by simp only; omega)]
     exact hc j hj
   ·have hj : j < xs.length + news.length := by
     rcases Nat.lt_or_ge j (xs.length + news.length) with h | h
     ·exact h
     ·rw [List.getElem?_eq_none (by simpa using h)] at hu; cases hu
    by_cases hjx : j < xs.length
    ·rw [List.getElem?_append_left hjx] at hu
     rw [World.cell?_setCells_out g news _ w _ (fun _ _ => by simp only; rw [hown.1] at hjx; omega)]
     exact hx j u hu
    ·rw [List.getElem?_append_right (by omega), hown.1] at hu
     have hjl : j - n * i.size < news.length := by rw [hown.1] at hj hjx; omega
     have := hin (j - n * i.size) hjl
     rw [show 0 + n * i.size + (j - n * i.size) = j by rw [hown.1] at hjx; omega] at this
     rw [this, ← hu, List.getElem?_eq_getElem hjl]
  ·have hold : (Builtin.firstCells i.size n (.slice (some ⟨g, 0, none⟩) n cap)).run P w.drew = .ok xs.toArray w.drew := by
    exact run_firstCells_some (P := P) w.drew i.size n ⟨g, 0, none⟩ n cap xs hown.1 (fun j u hu => by
     have hadd : (⟨g, 0, none⟩ : Addr).add j = ⟨g, j, none⟩ := by unfold Addr.add; split <;> simp_all
     rw [hadd]; exact hx j u hu)
   have hr := run_append_grow_src (P := P) w t tx ty e i z ht hi hz (some ⟨g, 0, none⟩) n cap xs hold x m news hs (by omega) (by omega) (growslice_fits (by omega) hbytes)
   have hgr := grown cap (Value.ownBlock (.slice (some ⟨g, 0, none⟩) n cap))
   exact ⟨_, _, hr, hgr.1, hgr.2, .inr rfl⟩

theorem wp_append_ownC {o : Oper} {a : Act} {K : Act → World → Prop} {Q : Exit → Act → World → Prop} (px py : Operand) (t tx : TypeId)
  (ho : o.op = .call { callee := .builtin .append, args := #[px, py], argTypes := #[t, tx] })
  (base : Nat) (e : TypeId) (i : TypeInfo) (z : Value) (k bytes : Nat) (ht : P.underlying t = some (.slice e)) (hi : P.info? e = some i) (hz : i.zero = some z)
  (hsize : i.size = k) (hby : i.bytes = bytes) (hzs : z.cells.size = k)
  (v : Value) (n : Nat) (xs : List Value) (hv : a.eval px = v) (hown : OwnC w base k v n xs) (x : Value) (m : Nat) (news : List Value) (hx : a.eval py = x) (hs : Src P k tx x m news w)
  (h63 : n + m ≤ maxLen) (hbytes : (n + m) * bytes ≤ 140737488355328) (hbase : base ≤ w.heap.size)
  (h : ∀ v' w', OwnC w' base k v' (n + m) (xs ++ news) → w.grownBy w' v.ownBlock → (v'.ownBlock = v.ownBlock ∨ v'.ownBlock = some w.heap.size) → K (a.put o.dst v') w') : o.wp P a w K Q := by
 obtain ⟨v', w', hrun, h2, h3, h4⟩ := run_append_ownC (P := P) w base t tx o.type e i z k bytes ht hi hz hsize hby hzs v n xs hown x m news hs h63 hbytes hbase
 unfold Oper.wp execOp
 simp only [ho, resolve, invoke, builtin, Sem.run_bind, Sem.run_pure, Result.andThen_ok, List.map_toArray, List.map_cons, List.map_nil, hv, hx, hrun]
 exact h v' w' h2 h3 h4
theorem wpList_append_ownC {ops : Array Oper} {rest : List Oper} {o : Oper} {a : Act} {Q : Exit → Act → World → Prop} (hgd : o.guard = none) (px py : Operand) (t tx : TypeId)
  (ho : o.op = .call { callee := .builtin .append, args := #[px, py], argTypes := #[t, tx] })
  (base : Nat) (e : TypeId) (i : TypeInfo) (z : Value) (k bytes : Nat) (ht : P.underlying t = some (.slice e)) (hi : P.info? e = some i) (hz : i.zero = some z)
  (hsize : i.size = k) (hby : i.bytes = bytes) (hzs : z.cells.size = k)
  (v : Value) (n : Nat) (xs : List Value) (hv : a.eval px = v) (hown : OwnC w base k v n xs) (x : Value) (m : Nat) (news : List Value) (hx : a.eval py = x) (hs : Src P k tx x m news w)
  (h63 : n + m ≤ maxLen) (hbytes : (n + m) * bytes ≤ 140737488355328) (hbase : base ≤ w.heap.size)
  (h : ∀ v' w', OwnC w' base k v' (n + m) (xs ++ news) → w.grownBy w' v.ownBlock → (v'.ownBlock = v.ownBlock ∨ v'.ownBlock = some w.heap.size) → wpList P ops Q rest (a.put o.dst v') w') : wpList P ops Q (o :: rest) a w :=
 wpList_plain hgd fun _ hK => wp_append_ownC w px py t tx ho base e i z k bytes ht hi hz hsize hby hzs v n xs hv hown x m news hx hs h63 hbytes hbase fun v' w' h2 h3 h4 => hK _ _ (h v' w' h2 h3 h4)
end

/-- a slice of bytes of the call's own -/
def Own (w : World) (base : Nat) (v : Value) (l : List UInt8) : Prop := OwnC w base 1 v l.length (l.map byteV)
theorem Own.nil (w : World) (base : Nat) : Own w base (.slice none 0 0) [] := OwnC.nil _ _ _
theorem Own.keep {w w' : World} {base : Nat} {v : Value} {l : List UInt8} (h : Own w base v l) (hb : Below w.heap.size w w') : Own w' base v l := OwnC.keep h hb
theorem Own.more {w : World} {base base' : Nat} {v : Value} {l : List UInt8} (h : Own w base v l) (hb : base' ≤ base) : Own w base' v l := OwnC.more h hb
theorem Own.slice {w : World} {base : Nat} {v : Value} {l : List UInt8} (h : Own w base v l) : ∃ s : Sl, v = s.v := OwnC.slice h
theorem Own.reads {w : World} {base : Nat} {s : Sl} {l : List UInt8} (h : Own w base s.v l) : BytesR w s l := by
 obtain ⟨hl, h⟩ := h
 rcases h with ⟨hv, hn⟩ | ⟨g, cap, hv, _, _, hn, _, _, _, hx⟩
 ·injection hv with h1 h2 h3
  have : l = [] := List.eq_nil_of_length_eq_zero hn
  subst this
  exact ⟨h2, by omega, fun h => absurd rfl h⟩
 ·injection hv with h1 h2 h3
  refine ⟨h2, by omega, fun _ => ⟨g, 0, h1, fun i hi => ?_⟩⟩
  rw [Nat.zero_add]
  exact hx i _ (by simp [hi])
/-- a new block of bytes -/
theorem Own.lit (w : World) (base : Nat) (l : List UInt8) (cs : Array Value) (e : TypeId) (n : Nat) (hcs : cs = (l.map byteV).toArray) (hn : n = l.length) (hb : base ≤ w.heap.size) (hm : l.length ≤ maxLen) :
  Own (w.alloc (.cells cs e)) base (.slice (some ⟨w.heap.size, 0, none⟩) n n) l := by
 subst hcs
 subst hn
 exact ⟨by simp, .inr ⟨w.heap.size, _, rfl, hb, by simp, Nat.le_refl _, hm, fun j hj => by simp at hj ⊢; omega, fun j _ => frozen_of_row _ w.heap.size j _ e (heap_alloc_new w _), fun j u hu => by simpa using hu⟩⟩

section
variable {P : Program}
/-- a slice of bytes as a source of append -/
theorem BytesR.src {w : World} {s : Sl} {l : List UInt8} (h : BytesR w s l) {t e : TypeId} (ht : P.underlying t = some (.slice e)) : Src P 1 t s.v l.length (l.map byteV) w := by
 by_cases hl : l = []
 ·subst hl
  obtain ⟨a, n, c⟩ := s
  obtain rfl : n = 0 := h.1
  refine ⟨.inl ⟨_, ht⟩, fun _ => rfl, ?_, ?_, by simp, by simp⟩ <;> cases a <;> simp [Builtin.firstCells, loadCells, loadCellsFrom]
 ·obtain ⟨b, off, ha, hc⟩ := h.2.2 hl
  obtain ⟨a, n, c⟩ := s
  simp only at ha
  subst ha
  obtain rfl : n = l.length := h.1
  exact Src.ofSlice w ht ⟨b, off, none⟩ l.length c (l.map byteV) (by simp) (fun j u hu => by
    have hj : j < l.length := by
     rcases Nat.lt_or_ge j l.length with hj | hj
     ·exact hj
     ·rw [List.getElem?_eq_none (by simpa using hj)] at hu; cases hu
    have hadd : (⟨b, off, none⟩ : Addr).add j = ⟨b, off + j, none⟩ := by unfold Addr.add; split <;> simp_all
    rw [hadd, hc j hj]
    simpa [hj] using hu) (fun u hu => by
    obtain ⟨x, _, rfl⟩ := List.mem_map.1 hu
    rfl)
theorem wpList_append_bytes (w : World) {ops : Array Oper} {rest : List Oper} {o : Oper} {a : Act} {Q : Exit → Act → World → Prop} (hgd : o.guard = none) (x y : Operand) (t : TypeId)
  (ho : o.op = .call { callee := .builtin .append, args := #[x, y], argTypes := #[t, t] })
  (base : Nat) (e : TypeId) (i : TypeInfo) (z : Value) (ht : P.underlying t = some (.slice e)) (hi : P.info? e = some i) (hz : i.zero = some z)
  (hsize : i.size = 1) (hby : i.bytes = 1) (hzs : z.cells.size = 1)
  (v : Value) (l : List UInt8) (hv : a.eval x = v) (hown : Own w base v l) (s : Sl) (m : List UInt8) (hs : a.eval y = s.v) (hr : BytesR w s m)
  (hlen : l.length + m.length ≤ 140737488355328) (hbase : base ≤ w.heap.size)
  (h : ∀ v' w', Own w' base v' (l ++ m) → w.grownBy w' v.ownBlock → (v'.ownBlock = v.ownBlock ∨ v'.ownBlock = some w.heap.size) → wpList P ops Q rest (a.put o.dst v') w') : wpList P ops Q (o :: rest) a w :=
 wpList_append_ownC w hgd x y t t ho base e i z 1 1 ht hi hz hsize hby hzs v l.length (l.map byteV) hv hown s.v m.length (m.map byteV) hs (hr.src ht) (by simp only [maxLen]; omega) (by omega) hbase
  fun v' w' h2 h3 h4 => h v' w' (by simpa [Own] using h2) h3 h4
theorem step_append_bytes (w : World) {ops : Array Oper} {o : Oper} {a : Act} {K : Act → World → Prop} {Q : Exit → Act → World → Prop} {E : Prop} (hgd : o.guard = none) (x y : Operand) (t : TypeId)
  (ho : o.op = .call { callee := .builtin .append, args := #[x, y], argTypes := #[t, t] })
  (base : Nat) (e : TypeId) (i : TypeInfo) (z : Value) (ht : P.underlying t = some (.slice e)) (hi : P.info? e = some i) (hz : i.zero = some z)
  (hsize : i.size = 1) (hby : i.bytes = 1) (hzs : z.cells.size = 1)
  (v : Value) (l : List UInt8) (hv : a.eval x = v) (hown : Own w base v l) (s : Sl) (m : List UInt8) (hs : a.eval y = s.v) (hr : BytesR w s m)
  (hlen : l.length + m.length ≤ 140737488355328) (hbase : base ≤ w.heap.size)
  (h : ∀ v' w', Own w' base v' (l ++ m) → w.grownBy w' v.ownBlock → (v'.ownBlock = v.ownBlock ∨ v'.ownBlock = some w.heap.size) → K (a.put o.dst v') w') :
  if Region.wanted o (yielded ops a.tmps) = true then Oper.wp P o a w K Q else E := by
 have hw : Region.wanted o (yielded ops a.tmps) = true := by simp [Region.wanted, hgd]
 rw [if_pos hw]
 exact wp_append_ownC w x y t t ho base e i z 1 1 ht hi hz hsize hby hzs v l.length (l.map byteV) hv hown s.v m.length (m.map byteV) hs (hr.src ht) (by simp only [maxLen]; omega) (by omega) hbase
  fun v' w' h2 h3 h4 => h v' w' (by simpa [Own] using h2) h3 h4
end
end Go.Proofs.Ythdjhbiigmcecaa

/- Contracts of package wire. -/
namespace Go.Proofs.Ythdjhbiigmcecaa
open Go.RowKit

/-- a number's bytes, the highest first -/
def be : Nat → Nat → List UInt8
 | 0, _ => []
 | k + 1, n => be k (n / 256) ++ [UInt8.ofNat n]

theorem be_length (k n : Nat) : (be k n).length = k := by
 induction k generalizing n with
 | zero => rfl
 | succ k ih => simp [be, ih]
theorem byteV_of (n : Nat) : byteV (UInt8.ofNat n) = .int .u8 ((n % 256 : Nat) : Int) := by simp [byteV]
theorem be_get : ∀ (size n j : Nat) (h : j < size), (be size n)[j]'(by rw [be_length]; exact h) = UInt8.ofNat (n / 256 ^ (size - 1 - j))
 | size + 1, n, j, h => by
  simp only [be]
  by_cases hj : j < size
  ·rw [List.getElem_append_left (by rw [be_length]; exact hj), be_get size (n / 256) j hj, Nat.div_div_eq_div_mul]
   congr 2
   rw [show size + 1 - 1 - j = size - 1 - j + 1 by omega, Nat.pow_succ, Nat.mul_comm]
  ·obtain rfl : j = size := by omega
   rw [List.getElem_append_right (by rw [be_length]; exact Nat.le_refl _)]
   simp [be_length]
theorem be_take_succ (size n j : Nat) (h : j < size) : (be size n).take (j + 1) = (be size n).take j ++ [UInt8.ofNat (n / 256 ^ (size - 1 - j))] := by
 rw [List.take_succ_eq_append_getElem (by rw [be_length]; exact h), be_get]
 exact h
theorem byteV_div (n p : Nat) : byteV (UInt8.ofNat (n / p)) = .int .u8 ((n : Int) / (p : Int) % 256) := by
 simp [byteV]
/-- 32 cells, of which the first ones are filled -/
def fillA (l : List UInt8) (i : Nat) : Array Value := ((l.take i ++ List.replicate (32 - i) 0).map byteV).toArray
theorem fillA_size (l : List UInt8) (i : Nat) (hi : i ≤ l.length) (h : l.length ≤ 32) : (fillA l i).size = 32 := by simp [fillA]; omega
theorem fillA_zero (l : List UInt8) : fillA l 0 = hashA zeroHash := by simp [fillA, hashA, zeroHash]
theorem fillA_step (l : List UInt8) (i : Nat) (hi : i < l.length) (h : l.length ≤ 32) : (fillA l i).setIfInBounds i (byteV l[i]) = fillA l (i + 1) := by
 unfold fillA
 rw [List.take_succ_eq_append_getElem hi, show 32 - i = 32 - (i + 1) + 1 by omega, List.replicate_succ]
 simp only [List.map_append, List.map_cons, List.setIfInBounds_toArray]
 have hl : i = ((l.take i).map byteV).length := by simp; omega
 rw [List.set_append_right _ _ (by omega), ← hl]
 simp

theorem BytesR.one (W : World) (x : Int) (e : TypeId) (b : Nat) (c : UInt8) (hb : b = W.heap.size) (hc : byteV c = .int .u8 x) : BytesR (W.alloc (.cells #[.int .u8 x] e)) ⟨some ⟨b, 0, none⟩, 1, 1⟩ [c] := by
 subst hb
 refine ⟨rfl, Nat.le_refl _, fun _ => ⟨W.heap.size, 0, rfl, fun i hi => ?_⟩⟩
 obtain rfl : i = 0 := by simp at hi; omega
 simp [cell_alloc, hc]

theorem info_u8 : (Try.prog.info? 5).map (fun i => (i.zero, i.size, i.bytes)) = some (some (.int .u8 0), 1, 1) := by kernel_rfl

set_option maxHeartbeats 800000 in
set_option maxRecDepth 100000 in
theorem put8 (n : Nat) (w : World) (hn : n < 18446744073709551616) : Calls Try.prog 202 #[.int .u64 n, .int .i64 8] w fun e w' => ∃ v, e = .returned (.tuple #[v, .int .i64 0]) ∧ Own w' w.heap.size v (be 8 n) ∧ Below w.heap.size w w' := by
 obtain ⟨i0, hi, hz0, hz1, hz2⟩ := info_parts info_u8
 go_enter Try.func202, Try.ntmps202
 go_wp2_with fail
 go_rounds 9
 go_quiet (fail)
 go_wp2_with fail
 refine (Try.bytes_Count_one _ _ 0 8 _ 0 1 [] 0 _ rfl (by intro i hi; omega) (by simp [cell_alloc, size_drewN])).mono ?_
 rintro e w' ⟨rfl, hw⟩
 subst hw
 go_wp2_with (at_builtin; refine wpList_append_bytes _ rfl (.const (.slice none 0 0)) (.tmp 39) _ rfl w.heap.size 5 i0 _ Try.underlying32 hi hz0 hz1 hz2 rfl (.slice none 0 0) [] rfl (Own.nil _ _) ⟨some ⟨w.heap.size, 0, none⟩, 8, 8⟩ (be 8 n) rfl ?_ ?_ ?_ ?_; rotate_left 3; intro v' w1 hown hg _)
 ·go_ret2
  exact ⟨v', rfl, by simpa using hown, by (repeat' (first | (with_reducible first | exact Below.refl _ _ | assumption | refine bel_trans (by assumption) ?_ ?_ | refine bel_grown (by assumption) ?_ ?_ ?_ | refine Below.alloc ?_ ?_ _ | refine Below.drew ?_ | refine below_drewN ?_ _ | refine Below.setCell ?_ ?_ _ | refine below_put ?_ ?_ _ _ | exact Nat.le_refl _) | omega | (with_reducible first | refine Nat.le_trans ?_ (Below.size (by assumption)) | refine Nat.le_trans ?_ (World.grownBy.size (by assumption))) | (simp only [World.size_alloc, World.size_setCell, World.size_drew, size_drewN]; omega) | (simp only [World.size_alloc, World.size_setCell, World.size_drew, size_drewN, size_put]; omega) | (intro k hk; simp [Value.ownBlock] at hk; first | done | omega) | (simp [size_drewN] at *; omega)))⟩
 ·refine ⟨by simp [be_length], Nat.le_refl _, fun _ => ⟨w.heap.size, 0, rfl, fun i h => ?_⟩⟩
  have h8 : i < 8 := by simpa [be_length] using h
  have hh : i = 0 ∨ i = 1 ∨ i = 2 ∨ i = 3 ∨ i = 4 ∨ i = 5 ∨ i = 6 ∨ i = 7 := by omega
  rcases hh with rfl | rfl | rfl | rfl | rfl | rfl | rfl | rfl <;> simp [cell_alloc, size_drewN, cell_drewN, be, byteV_of] <;> omega
 ·simp [be_length]
 ·simp [size_drewN]; omega

set_option maxRecDepth 100000 in
set_option maxHeartbeats 800000 in
theorem put1 (n : Nat) (w : World) (hn : n < 256) : Calls Try.prog 202 #[.int .u64 n, .int .i64 1] w fun e w' => ∃ v, e = .returned (.tuple #[v, .int .i64 0]) ∧ Own w' w.heap.size v (be 1 n) ∧ Below w.heap.size w w' := by
 obtain ⟨i0, hi, hz0, hz1, hz2⟩ := info_parts info_u8
 have q1 : (n : Int) / 256 = 0 := by omega
 go_enter Try.func202, Try.ntmps202
 go_wp2_with fail
 go_rounds 9
 clear q1
 go_quiet (fail)
 go_wp2_with fail
 have e7 : ((Lib.countByte (Lib.bytesOf [0, 0, 0, 0, 0, 0, 0]) (0 : Int).toNat.toUInt8 : Nat) : Int) = 7 := by decide
 refine (Try.bytes_Count_one _ _ 7 8 _ 0 1 [0, 0, 0, 0, 0, 0, 0] 0 _ rfl (by
  intro i h
  have hh : i = 0 ∨ i = 1 ∨ i = 2 ∨ i = 3 ∨ i = 4 ∨ i = 5 ∨ i = 6 := by omega
  rcases hh with rfl | rfl | rfl | rfl | rfl | rfl | rfl <;> simp [cell_alloc, size_drewN, cell_drewN]) (by simp [cell_alloc, size_drewN])).mono ?_
 rintro e w' ⟨rfl, hw⟩
 subst hw
 rw [e7]
 clear e7
 go_wp2_with (at_builtin; refine wpList_append_bytes _ rfl (.const (.slice none 0 0)) (.tmp 39) _ rfl w.heap.size 5 i0 _ Try.underlying32 hi hz0 hz1 hz2 rfl (.slice none 0 0) [] rfl (Own.nil _ _) ⟨some ⟨w.heap.size, 7, none⟩, 1, 1⟩ (be 1 n) rfl ?_ ?_ ?_ ?_; rotate_left 3; intro v' w1 hown hg _)
 ·go_ret2
  exact ⟨v', rfl, by simpa using hown, by (repeat' (first | (with_reducible first | exact Below.refl _ _ | assumption | refine bel_trans (by assumption) ?_ ?_ | refine bel_grown (by assumption) ?_ ?_ ?_ | refine Below.alloc ?_ ?_ _ | refine Below.drew ?_ | refine below_drewN ?_ _ | refine Below.setCell ?_ ?_ _ | refine below_put ?_ ?_ _ _ | exact Nat.le_refl _) | omega | (with_reducible first | refine Nat.le_trans ?_ (Below.size (by assumption)) | refine Nat.le_trans ?_ (World.grownBy.size (by assumption))) | (simp only [World.size_alloc, World.size_setCell, World.size_drew, size_drewN]; omega) | (simp only [World.size_alloc, World.size_setCell, World.size_drew, size_drewN, size_put]; omega) | (intro k hk; simp [Value.ownBlock] at hk; first | done | omega) | (simp [size_drewN] at *; omega)))⟩
 ·refine ⟨by simp [be_length], Nat.le_refl _, fun _ => ⟨w.heap.size, 7, rfl, fun i h => ?_⟩⟩
  obtain rfl : i = 0 := by simp [be_length] at h; omega
  simp [cell_alloc, size_drewN, cell_drewN, be, byteV_of]
  omega
 ·simp [be_length]
 ·simp [size_drewN]; omega

/-- the number that bytes are -/
def numOf (l : List UInt8) : Nat := l.foldl (fun n b => n * 256 + b.toNat) 0
theorem foldl_num (l : List UInt8) (a : Nat) : l.foldl (fun n (b : UInt8) => n * 256 + b.toNat) a = a * 256 ^ l.length + numOf l := by
 induction l generalizing a with
 | nil => simp [numOf]
 | cons x l ih =>
  simp only [List.foldl_cons, List.length_cons, numOf]
  rw [ih, ih (0 * 256 + x.toNat)]
  simp only [Nat.pow_succ, Nat.zero_mul, Nat.zero_add, Nat.add_mul]
  rw [Nat.mul_assoc a 256, Nat.mul_comm 256]
  omega
theorem numOf_cons (x : UInt8) (l : List UInt8) : numOf (x :: l) = x.toNat * 256 ^ l.length + numOf l := by
 have := foldl_num l (0 * 256 + x.toNat)
 simp only [Nat.zero_mul, Nat.zero_add] at this
 simpa [numOf] using this
theorem numOf_lt (l : List UInt8) : numOf l < 256 ^ l.length := by
 induction l with
 | nil => simp [numOf]
 | cons x l ih =>
  rw [numOf_cons, List.length_cons, Nat.pow_succ]
  have := x.toNat_lt
  have h2 : x.toNat * 256 ^ l.length ≤ 255 * 256 ^ l.length := Nat.mul_le_mul_right _ (by omega)
  omega
end Go.Proofs.Ythdjhbiigmcecaa

/- SHA-256, plainly: what both programs compute. -/
namespace Go.Proofs.Ythdjhbiigmcecaa

def rotr (x n : UInt32) : UInt32 := x >>> n ||| x <<< (32 - n)
structure S8 where
 a : UInt32
 b : UInt32
 c : UInt32
 d : UInt32
 e : UInt32
 f : UInt32
 g : UInt32
 h : UInt32
def S8.add (s t : S8) : S8 := ⟨s.a + t.a, s.b + t.b, s.c + t.c, s.d + t.d, s.e + t.e, s.f + t.f, s.g + t.g, s.h + t.h⟩
def S8.list (s : S8) : List UInt32 := [s.a, s.b, s.c, s.d, s.e, s.f, s.g, s.h]
def shaOne (k w : UInt32) (s : S8) : UInt32 := s.h + (rotr s.e 6 ^^^ rotr s.e 11 ^^^ rotr s.e 25) + ((s.e &&& s.f) ^^^ (s.g &&& ~~~s.e)) + k + w
def shaTwo (s : S8) : UInt32 := (rotr s.a 2 ^^^ rotr s.a 13 ^^^ rotr s.a 22) + ((s.a &&& s.b) ^^^ (s.a &&& s.c) ^^^ (s.b &&& s.c))
def shaRnd (k w : UInt32) (s : S8) : S8 := ⟨shaOne k w s + shaTwo s, s.a, s.b, s.c, s.d + shaOne k w s, s.e, s.f, s.g⟩
def sig0 (x : UInt32) : UInt32 := rotr x 7 ^^^ rotr x 18 ^^^ x >>> 3
def sig1 (x : UInt32) : UInt32 := rotr x 17 ^^^ rotr x 19 ^^^ x >>> 10
/-- the i-th word of 64 bytes -/
def wd (m : List UInt8) (i : Nat) : UInt32 := UInt32.ofNat (numOf ((m.drop (4 * i)).take 4))
def sch (m : List UInt8) (t : Nat) : UInt32 :=
 if t < 16 then wd m t else sig1 (sch m (t - 2)) + sch m (t - 7) + sig0 (sch m (t - 15)) + sch m (t - 16)
termination_by t
theorem sch_low (m : List UInt8) (t : Nat) (h : t < 16) : sch m t = wd m t := by rw [sch, if_pos h]
theorem sch_high (m : List UInt8) (t : Nat) (h : 16 ≤ t) : sch m t = sig1 (sch m (t - 2)) + sch m (t - 7) + sig0 (sch m (t - 15)) + sch m (t - 16) := by rw [sch, if_neg (by omega)]
def shaK : List UInt32 := [
 0x428a2f98, 0x71374491, 0xb5c0fbcf, 0xe9b5dba5, 0x3956c25b, 0x59f111f1, 0x923f82a4, 0xab1c5ed5,
 0xd807aa98, 0x12835b01, 0x243185be, 0x550c7dc3, 0x72be5d74, 0x80deb1fe, 0x9bdc06a7, 0xc19bf174,
 0xe49b69c1, 0xefbe4786, 0x0fc19dc6, 0x240ca1cc, 0x2de92c6f, 0x4a7484aa, 0x5cb0a9dc, 0x76f988da,
 0x983e5152, 0xa831c66d, 0xb00327c8, 0xbf597fc7, 0xc6e00bf3, 0xd5a79147, 0x06ca6351, 0x14292967,
 0x27b70a85, 0x2e1b2138, 0x4d2c6dfc, 0x53380d13, 0x650a7354, 0x766a0abb, 0x81c2c92e, 0x92722c85,
 0xa2bfe8a1, 0xa81a664b, 0xc24b8b70, 0xc76c51a3, 0xd192e819, 0xd6990624, 0xf40e3585, 0x106aa070,
 0x19a4c116, 0x1e376c08, 0x2748774c, 0x34b0bcb5, 0x391c0cb3, 0x4ed8aa4a, 0x5b9cca4f, 0x682e6ff3,
 0x748f82ee, 0x78a5636f, 0x84c87814, 0x8cc70208, 0x90befffa, 0xa4506ceb, 0xbef9a3f7, 0xc67178f2]
theorem shaK_length : shaK.length = 64 := rfl
def kOf (i : Nat) : UInt32 := shaK.getD i 0
def shaH : S8 := ⟨0x6a09e667, 0xbb67ae85, 0x3c6ef372, 0xa54ff53a, 0x510e527f, 0x9b05688c, 0x1f83d9ab, 0x5be0cd19⟩
def shaComp (m : List UInt8) (s : S8) : Nat → S8
 | 0 => s
 | t + 1 => shaRnd (kOf t) (sch m t) (shaComp m s t)
def shaBlk (s : S8) (m : List UInt8) : S8 := s.add (shaComp m s 64)
/-- all whole blocks of a message -/
def shaRun (s : S8) (m : List UInt8) : S8 :=
 if h : 64 ≤ m.length then shaRun (shaBlk s (m.take 64)) (m.drop 64) else s
termination_by m.length
decreasing_by simp; omega
theorem shaRun_short (s : S8) (m : List UInt8) (h : m.length < 64) : shaRun s m = s := by rw [shaRun, dif_neg (by omega)]
theorem shaRun_long (s : S8) (m : List UInt8) (h : 64 ≤ m.length) : shaRun s m = shaRun (shaBlk s (m.take 64)) (m.drop 64) := by rw [shaRun, dif_pos h]
/-- what waits -/
def shaTail (m : List UInt8) : List UInt8 := m.drop (64 * (m.length / 64))
theorem shaTail_short (m : List UInt8) (h : m.length < 64) : shaTail m = m := by
 rw [shaTail, show m.length / 64 = 0 by omega]
 rfl
theorem shaTail_long (m : List UInt8) (h : 64 ≤ m.length) : shaTail m = shaTail (m.drop 64) := by
 rw [shaTail, shaTail, List.drop_drop, List.length_drop]
 congr 1
 omega
theorem shaRun_tail : ∀ (n : Nat) (s : S8) (m p : List UInt8), m.length ≤ n → m.length % 64 + p.length < 64 → shaRun s (m ++ p) = shaRun s m ∧ shaTail (m ++ p) = shaTail m ++ p := by
 intro n
 induction n using Nat.strongRecOn with
 | _ n ih =>
  intro s m p hm hp
  by_cases h : m.length < 64
  ·rw [shaRun_short s m h, shaRun_short s (m ++ p) (by simp; omega), shaTail_short m h, shaTail_short (m ++ p) (by simp; omega)]
   exact ⟨rfl, rfl⟩
  ·have e1 : (m ++ p).take 64 = m.take 64 := List.take_append_of_le_length (by omega)
   have e2 : (m ++ p).drop 64 = m.drop 64 ++ p := List.drop_append_of_le_length (by omega)
   rw [shaRun_long s m (by omega), shaRun_long s (m ++ p) (by simp; omega), shaTail_long m (by omega), shaTail_long (m ++ p) (by simp; omega), e1, e2]
   exact ih (n - 64) (by omega) _ _ _ (by simp; omega) (by simp; omega)
theorem shaRun_full : ∀ (n : Nat) (s : S8) (m p : List UInt8), m.length ≤ n → m.length % 64 + p.length = 64 → shaRun s (m ++ p) = shaBlk (shaRun s m) (shaTail m ++ p) ∧ shaTail (m ++ p) = [] := by
 intro n
 induction n using Nat.strongRecOn with
 | _ n ih =>
  intro s m p hm hp
  by_cases h : m.length < 64
  ·have hl : (m ++ p).length = 64 := by simp; omega
   rw [shaRun_short s m h, shaTail_short m h, shaRun_long s (m ++ p) (by omega), shaTail_long (m ++ p) (by omega), List.take_of_length_le (by omega), List.drop_of_length_le (by omega)]
   exact ⟨shaRun_short _ _ (by simp), rfl⟩
  ·have e1 : (m ++ p).take 64 = m.take 64 := List.take_append_of_le_length (by omega)
   have e2 : (m ++ p).drop 64 = m.drop 64 ++ p := List.drop_append_of_le_length (by omega)
   rw [shaRun_long s m (by omega), shaRun_long s (m ++ p) (by simp; omega), shaTail_long m (by omega), shaTail_long (m ++ p) (by simp; omega), e1, e2]
   exact ih (n - 64) (by omega) _ _ _ (by simp; omega) (by simp; omega)
def shaZeros (n : Nat) : Nat := (119 - n % 64) % 64
def shaPad (m : List UInt8) : List UInt8 := m ++ [128] ++ List.replicate (shaZeros m.length) 0 ++ be 8 (m.length * 8)
theorem shaPad_length (m : List UInt8) : (shaPad m).length % 64 = 0 := by
 simp only [shaPad, List.length_append, List.length_replicate, List.length_singleton, be_length, shaZeros]
 omega
/-- four bytes of a word -/
def be4 (x : UInt32) : List UInt8 := be 4 x.toNat
def shaOut (s : S8) : List UInt8 := s.list.flatMap be4
theorem shaOut_length (s : S8) : (shaOut s).length = 32 := by simp [shaOut, S8.list, be4, be_length]
def shaSum (m : List UInt8) : Hash := ⟨shaOut (shaRun shaH (shaPad m)), shaOut_length _⟩
end Go.Proofs.Ythdjhbiigmcecaa

/- SHA-256's words: what the operations on them come to, and the functions that turn a word. -/
namespace Go.Proofs.Ythdjhbiigmcecaa
open Go.RowKit

def u32V (x : UInt32) : Value := .int .u32 (x.toNat : Int)
/-- a word as the machine's number, closed to the walk -/
def u32I (x : UInt32) : Int := (x.toNat : Int)
theorem u32V_eq (x : UInt32) : u32V x = .int .u32 (u32I x) := rfl
theorem u32I_bd (x : UInt32) : 0 ≤ u32I x ∧ u32I x ≤ 4294967295 := by
 have := x.toNat_lt
 unfold u32I
 omega
theorem u32_add (a b : UInt32) : IntKind.u32.wrap ((a.toNat : Int) + (b.toNat : Int)) = ((a + b).toNat : Int) := by
 rw [IntKind.wrap_u32', UInt32.toNat_add]
 omega
theorem u32_add' (a b : UInt32) : ((a.toNat : Int) + (b.toNat : Int)) % 4294967296 = ((a + b).toNat : Int) := by
 rw [UInt32.toNat_add]
 omega
theorem u32_xor (a b : UInt32) : bits .xor .u32 (a.toNat : Int) (b.toNat : Int) = ((a ^^^ b).toNat : Int) := by
 rw [u32_xor_nat _ _ a.toNat_lt b.toNat_lt, UInt32.toNat_xor]
theorem u32_and (a b : UInt32) : bits .and .u32 (a.toNat : Int) (b.toNat : Int) = ((a &&& b).toNat : Int) := by
 rw [u32_and_nat _ _ a.toNat_lt b.toNat_lt, UInt32.toNat_and]
theorem u32_or (a b : UInt32) : bits .or .u32 (a.toNat : Int) (b.toNat : Int) = ((a ||| b).toNat : Int) := by
 rw [u32_or_nat _ _ a.toNat_lt b.toNat_lt, UInt32.toNat_or]
theorem u32_andNot (a b : UInt32) : bits .andNot .u32 (a.toNat : Int) (b.toNat : Int) = ((a &&& ~~~b).toNat : Int) := by
 rw [u32_andNot_nat _ _ a.toNat_lt b.toNat_lt, UInt32.toNat_and, UInt32.toNat_not]
 rfl
theorem u32_shr (a : UInt32) (k : Nat) (hk : k < 32) : (a.toNat : Int) / ((2 ^ k : Nat) : Int) = ((a >>> UInt32.ofNat k).toNat : Int) := by
 rw [UInt32.toNat_shiftRight, UInt32.toNat_ofNat', Nat.shiftRight_eq_div_pow, Nat.mod_eq_of_lt (show k < 2 ^ 32 by omega), Nat.mod_eq_of_lt hk]
 exact (Int.natCast_ediv _ _).symm
theorem u32_shl (a : UInt32) (k : Nat) (hk : k < 32) : ((a.toNat : Int) * ((2 ^ k : Nat) : Int)) % 4294967296 = ((a <<< UInt32.ofNat k).toNat : Int) := by
 rw [UInt32.toNat_shiftLeft, UInt32.toNat_ofNat', Nat.shiftLeft_eq, Nat.mod_eq_of_lt (show k < 2 ^ 32 by omega), Nat.mod_eq_of_lt hk]
 rw [Int.natCast_emod, Int.natCast_mul]
 rfl

theorem rot_or (x : UInt32) (n k : Nat) (hn : n < 32) (hk : k < 32) (h : (32 : UInt32) - UInt32.ofNat n = UInt32.ofNat k) :
  bits .or .u32 (u32I x * ((2 ^ k : Nat) : Int) % 4294967296) (u32I x / ((2 ^ n : Nat) : Int)) = u32I (rotr x (UInt32.ofNat n)) := by
 unfold u32I rotr
 rw [u32_shl x k hk, u32_shr x n hn, u32_or, h, UInt32.or_comm]
theorem u32I_add (a b : UInt32) : IntKind.u32.wrap (u32I a + u32I b) = u32I (a + b) := u32_add a b
theorem u32I_add' (a b : UInt32) : (u32I a + u32I b) % 4294967296 = u32I (a + b) := u32_add' a b
theorem u32I_xor (a b : UInt32) : bits .xor .u32 (u32I a) (u32I b) = u32I (a ^^^ b) := u32_xor a b
theorem u32I_and (a b : UInt32) : bits .and .u32 (u32I a) (u32I b) = u32I (a &&& b) := u32_and a b
theorem u32I_andNot (a b : UInt32) : bits .andNot .u32 (u32I a) (u32I b) = u32I (a &&& ~~~b) := u32_andNot a b
theorem u32I_shr3 (a : UInt32) : u32I a / (8 : Int) = u32I (a >>> 3) := u32_shr a 3 (by decide)
theorem u32I_shr10 (a : UInt32) : u32I a / (1024 : Int) = u32I (a >>> 10) := u32_shr a 10 (by decide)
theorem rotl2 (x : UInt32) (w : World) :
  Calls Try.prog 225 #[.int .u32 (u32I x), .int .i64 30] w fun e w' => e = .returned (.int .u32 (u32I (rotr x 2))) ∧ w' = w := by
 obtain ⟨h0, h1⟩ := u32I_bd x
 have hb : bits .and .u64 30 31 = 30 := by decide
 have hr := rot_or x 2 30 (by decide) (by decide) (by decide)
 go_enter Try.func225, Try.ntmps225
 go_wp2_with fail
 go_ret
 exact ⟨ret_int hr, rfl⟩
theorem rot2 (x : UInt32) (w : World) :
  Calls Try.prog 224 #[.int .u32 (u32I x), .int .i64 2] w fun e w' => e = .returned (.int .u32 (u32I (rotr x 2))) ∧ w' = w := by
 go_enter Try.func224, Try.ntmps224
 go_wp2_with (go_at_call 225; refine (rotl2 _ _).mono ?_; rintro e w' ⟨rfl, hw⟩; subst hw)
 go_ret
 exact ⟨rfl, rfl⟩
theorem rotl6 (x : UInt32) (w : World) :
  Calls Try.prog 225 #[.int .u32 (u32I x), .int .i64 26] w fun e w' => e = .returned (.int .u32 (u32I (rotr x 6))) ∧ w' = w := by
 obtain ⟨h0, h1⟩ := u32I_bd x
 have hb : bits .and .u64 26 31 = 26 := by decide
 have hr := rot_or x 6 26 (by decide) (by decide) (by decide)
 go_enter Try.func225, Try.ntmps225
 go_wp2_with fail
 go_ret
 exact ⟨ret_int hr, rfl⟩
theorem rot6 (x : UInt32) (w : World) :
  Calls Try.prog 224 #[.int .u32 (u32I x), .int .i64 6] w fun e w' => e = .returned (.int .u32 (u32I (rotr x 6))) ∧ w' = w := by
 go_enter Try.func224, Try.ntmps224
 go_wp2_with (go_at_call 225; refine (rotl6 _ _).mono ?_; rintro e w' ⟨rfl, hw⟩; subst hw)
 go_ret
 exact ⟨rfl, rfl⟩
theorem rotl7 (x : UInt32) (w : World) :
  Calls Try.prog 225 #[.int .u32 (u32I x), .int .i64 25] w fun e w' => e = .returned (.int .u32 (u32I (rotr x 7))) ∧ w' = w := by
 obtain ⟨h0, h1⟩ := u32I_bd x
 have hb : bits .and .u64 25 31 = 25 := by decide
 have hr := rot_or x 7 25 (by decide) (by decide) (by decide)
 go_enter Try.func225, Try.ntmps225
 go_wp2_with fail
 go_ret
 exact ⟨ret_int hr, rfl⟩
theorem rot7 (x : UInt32) (w : World) :
  Calls Try.prog 224 #[.int .u32 (u32I x), .int .i64 7] w fun e w' => e = .returned (.int .u32 (u32I (rotr x 7))) ∧ w' = w := by
 go_enter Try.func224, Try.ntmps224
 go_wp2_with (go_at_call 225; refine (rotl7 _ _).mono ?_; rintro e w' ⟨rfl, hw⟩; subst hw)
 go_ret
 exact ⟨rfl, rfl⟩
theorem rotl11 (x : UInt32) (w : World) :
  Calls Try.prog 225 #[.int .u32 (u32I x), .int .i64 21] w fun e w' => e = .returned (.int .u32 (u32I (rotr x 11))) ∧ w' = w := by
 obtain ⟨h0, h1⟩ := u32I_bd x
 have hb : bits .and .u64 21 31 = 21 := by decide
 have hr := rot_or x 11 21 (by decide) (by decide) (by decide)
 go_enter Try.func225, Try.ntmps225
 go_wp2_with fail
 go_ret
 exact ⟨ret_int hr, rfl⟩
theorem rot11 (x : UInt32) (w : World) :
  Calls Try.prog 224 #[.int .u32 (u32I x), .int .i64 11] w fun e w' => e = .returned (.int .u32 (u32I (rotr x 11))) ∧ w' = w := by
 go_enter Try.func224, Try.ntmps224
 go_wp2_with (go_at_call 225; refine (rotl11 _ _).mono ?_; rintro e w' ⟨rfl, hw⟩; subst hw)
 go_ret
 exact ⟨rfl, rfl⟩
theorem rotl13 (x : UInt32) (w : World) :
  Calls Try.prog 225 #[.int .u32 (u32I x), .int .i64 19] w fun e w' => e = .returned (.int .u32 (u32I (rotr x 13))) ∧ w' = w := by
 obtain ⟨h0, h1⟩ := u32I_bd x
 have hb : bits .and .u64 19 31 = 19 := by decide
 have hr := rot_or x 13 19 (by decide) (by decide) (by decide)
 go_enter Try.func225, Try.ntmps225
 go_wp2_with fail
 go_ret
 exact ⟨ret_int hr, rfl⟩
theorem rot13 (x : UInt32) (w : World) :
  Calls Try.prog 224 #[.int .u32 (u32I x), .int .i64 13] w fun e w' => e = .returned (.int .u32 (u32I (rotr x 13))) ∧ w' = w := by
 go_enter Try.func224, Try.ntmps224
 go_wp2_with (go_at_call 225; refine (rotl13 _ _).mono ?_; rintro e w' ⟨rfl, hw⟩; subst hw)
 go_ret
 exact ⟨rfl, rfl⟩
theorem rotl17 (x : UInt32) (w : World) :
  Calls Try.prog 225 #[.int .u32 (u32I x), .int .i64 15] w fun e w' => e = .returned (.int .u32 (u32I (rotr x 17))) ∧ w' = w := by
 obtain ⟨h0, h1⟩ := u32I_bd x
 have hb : bits .and .u64 15 31 = 15 := by decide
 have hr := rot_or x 17 15 (by decide) (by decide) (by decide)
 go_enter Try.func225, Try.ntmps225
 go_wp2_with fail
 go_ret
 exact ⟨ret_int hr, rfl⟩
theorem rot17 (x : UInt32) (w : World) :
  Calls Try.prog 224 #[.int .u32 (u32I x), .int .i64 17] w fun e w' => e = .returned (.int .u32 (u32I (rotr x 17))) ∧ w' = w := by
 go_enter Try.func224, Try.ntmps224
 go_wp2_with (go_at_call 225; refine (rotl17 _ _).mono ?_; rintro e w' ⟨rfl, hw⟩; subst hw)
 go_ret
 exact ⟨rfl, rfl⟩
theorem rotl18 (x : UInt32) (w : World) :
  Calls Try.prog 225 #[.int .u32 (u32I x), .int .i64 14] w fun e w' => e = .returned (.int .u32 (u32I (rotr x 18))) ∧ w' = w := by
 obtain ⟨h0, h1⟩ := u32I_bd x
 have hb : bits .and .u64 14 31 = 14 := by decide
 have hr := rot_or x 18 14 (by decide) (by decide) (by decide)
 go_enter Try.func225, Try.ntmps225
 go_wp2_with fail
 go_ret
 exact ⟨ret_int hr, rfl⟩
theorem rot18 (x : UInt32) (w : World) :
  Calls Try.prog 224 #[.int .u32 (u32I x), .int .i64 18] w fun e w' => e = .returned (.int .u32 (u32I (rotr x 18))) ∧ w' = w := by
 go_enter Try.func224, Try.ntmps224
 go_wp2_with (go_at_call 225; refine (rotl18 _ _).mono ?_; rintro e w' ⟨rfl, hw⟩; subst hw)
 go_ret
 exact ⟨rfl, rfl⟩
theorem rotl19 (x : UInt32) (w : World) :
  Calls Try.prog 225 #[.int .u32 (u32I x), .int .i64 13] w fun e w' => e = .returned (.int .u32 (u32I (rotr x 19))) ∧ w' = w := by
 obtain ⟨h0, h1⟩ := u32I_bd x
 have hb : bits .and .u64 13 31 = 13 := by decide
 have hr := rot_or x 19 13 (by decide) (by decide) (by decide)
 go_enter Try.func225, Try.ntmps225
 go_wp2_with fail
 go_ret
 exact ⟨ret_int hr, rfl⟩
theorem rot19 (x : UInt32) (w : World) :
  Calls Try.prog 224 #[.int .u32 (u32I x), .int .i64 19] w fun e w' => e = .returned (.int .u32 (u32I (rotr x 19))) ∧ w' = w := by
 go_enter Try.func224, Try.ntmps224
 go_wp2_with (go_at_call 225; refine (rotl19 _ _).mono ?_; rintro e w' ⟨rfl, hw⟩; subst hw)
 go_ret
 exact ⟨rfl, rfl⟩
theorem rotl22 (x : UInt32) (w : World) :
  Calls Try.prog 225 #[.int .u32 (u32I x), .int .i64 10] w fun e w' => e = .returned (.int .u32 (u32I (rotr x 22))) ∧ w' = w := by
 obtain ⟨h0, h1⟩ := u32I_bd x
 have hb : bits .and .u64 10 31 = 10 := by decide
 have hr := rot_or x 22 10 (by decide) (by decide) (by decide)
 go_enter Try.func225, Try.ntmps225
 go_wp2_with fail
 go_ret
 exact ⟨ret_int hr, rfl⟩
theorem rot22 (x : UInt32) (w : World) :
  Calls Try.prog 224 #[.int .u32 (u32I x), .int .i64 22] w fun e w' => e = .returned (.int .u32 (u32I (rotr x 22))) ∧ w' = w := by
 go_enter Try.func224, Try.ntmps224
 go_wp2_with (go_at_call 225; refine (rotl22 _ _).mono ?_; rintro e w' ⟨rfl, hw⟩; subst hw)
 go_ret
 exact ⟨rfl, rfl⟩
theorem rotl25 (x : UInt32) (w : World) :
  Calls Try.prog 225 #[.int .u32 (u32I x), .int .i64 7] w fun e w' => e = .returned (.int .u32 (u32I (rotr x 25))) ∧ w' = w := by
 obtain ⟨h0, h1⟩ := u32I_bd x
 have hb : bits .and .u64 7 31 = 7 := by decide
 have hr := rot_or x 25 7 (by decide) (by decide) (by decide)
 go_enter Try.func225, Try.ntmps225
 go_wp2_with fail
 go_ret
 exact ⟨ret_int hr, rfl⟩
theorem rot25 (x : UInt32) (w : World) :
  Calls Try.prog 224 #[.int .u32 (u32I x), .int .i64 25] w fun e w' => e = .returned (.int .u32 (u32I (rotr x 25))) ∧ w' = w := by
 go_enter Try.func224, Try.ntmps224
 go_wp2_with (go_at_call 225; refine (rotl25 _ _).mono ?_; rintro e w' ⟨rfl, hw⟩; subst hw)
 go_ret
 exact ⟨rfl, rfl⟩
end Go.Proofs.Ythdjhbiigmcecaa

/- Stores of structs and arrays as a whole, for the walk. -/
namespace Go.Proofs.Ythdjhbiigmcecaa
open Go.RowKit

/-- the world behind a store of a row of cells -/
def putRow (w : World) (b off : Nat) (xs : Array Value) : World := w.setCells b off xs.toList
/-- cells that may be written -/
def there (w : World) (b off n : Nat) : Prop := w.there b off n

theorem row?_of_cells {w : World} {b off n : Nat} {l : Array Value} (hn : l.size = n) (h0 : 0 < n) (h : ∀ j (hj : j < l.size), w.cell? ⟨b, off + j, none⟩ = some l[j]) : row? w b off n = some l := by
 subst hn
 have hk : ∀ (j : Nat) (hj : j < l.size), ∃ cs t fr, w.heap[b]? = some (.cells cs t fr) ∧ cs[off + j]? = some l[j] := fun j hj => by
  have := h j hj
  simp only [World.cell?] at this
  split at this
  ·rename_i cs t fr hg; exact ⟨cs, t, fr, hg, this⟩
  ·cases this
 obtain ⟨cs, t, fr, hg, _⟩ := hk 0 h0
 have hc : ∀ (j : Nat) (hj : j < l.size), cs[off + j]? = some l[j] := fun j hj => by
  obtain ⟨cs', t', fr', hg', h'⟩ := hk j hj
  rw [hg] at hg'
  cases hg'
  exact h'
 have hle : off + l.size ≤ cs.size := by
  have := (Array.getElem?_eq_some_iff.1 (hc (l.size - 1) (by omega))).1
  omega
 unfold row?
 rw [hg]
 simp only [hle, if_true, Option.some.injEq]
 apply Array.ext_getElem?
 intro j
 rw [Array.getElem?_extract]
 by_cases hj : j < l.size
 ·rw [hc j hj, Array.getElem?_eq_getElem hj]; simp; omega
 ·rw [Array.getElem?_eq_none (xs := l) (by omega)]
  have : ¬ j < min (off + l.size) cs.size - off := by omega
  rw [if_neg this]

theorem cell_of_row? {w : World} {b off n : Nat} {l : Array Value} (h : row? w b off n = some l) (j : Nat) (hj : j < n) : w.cell? ⟨b, off + j, none⟩ = l[j]? := by
 obtain ⟨cs, t, fr, hg, hle, rfl⟩ := row?_some h
 rw [cell_of_row w b (off + j) cs t fr hg, Array.getElem?_extract]
 simp [show off + j < off + n by omega]
 omega
theorem row?_length {w : World} {b off n : Nat} {l : Array Value} (h : row? w b off n = some l) : l.size = n := by
 obtain ⟨cs, t, fr, hg, hle, rfl⟩ := row?_some h
 simp; omega

theorem there_new (w : World) (cs : Array Value) (t : TypeId) (off n : Nat) (h : off + n ≤ cs.size) : there (w.alloc (.cells cs t)) w.heap.size off n := fun j hj => by
 refine ⟨by simp; omega, ?_⟩
 exact frozen_of_row _ w.heap.size _ cs t (heap_alloc_new w _)
theorem there_old (w : World) (o : Obj) (b off n : Nat) (hb : b < w.heap.size) (h : there w b off n) : there (w.alloc o) b off n := World.there_alloc h o
theorem there_drew (w : World) (b off n : Nat) (h : there w b off n) : there w.drew b off n := h
theorem there_drewN (w : World) (k b off n : Nat) (h : there w b off n) : there (w.drewN k) b off n := h
theorem there_put (w : World) (b' off' : Nat) (xs : Array Value) (b off n : Nat) (h : there w b off n) : there (putRow w b' off' xs) b off n := World.there_setCells h _ _ _
theorem there_set (w : World) (a : Addr) (v : Value) (b off n : Nat) (h : there w b off n) : there (w.setCell a v) b off n := fun j hj => by
 obtain ⟨h1, h2⟩ := h j hj
 refine ⟨?_, by rw [World.frozen?_setCell]; exact h2⟩
 by_cases e : a = (⟨b, off + j, none⟩ : Addr)
 ·subst e
  obtain ⟨u, hu⟩ := Option.isSome_iff_exists.1 h1
  rw [World.cell?_setCell_same _ _ _ hu]; rfl
 ·rw [World.cell?_setCell_other _ _ _ _ e]; exact h1
theorem there_below {B : Nat} {w w' : World} (hb : Below B w w') {b off n : Nat} (hlt : b < B) (h : there w b off n) : there w' b off n := fun j hj => by
 obtain ⟨h1, h2⟩ := h j hj
 exact ⟨by rw [hb.cell (p := ⟨b, off + j, none⟩) hlt]; exact h1, by rw [hb.frozen (p := ⟨b, off + j, none⟩) hlt]; exact h2⟩
theorem size_put (w : World) (b off : Nat) (xs : Array Value) : (putRow w b off xs).heap.size = w.heap.size := setCells_size _ _ _ _
theorem frozen_put (w : World) (b off : Nat) (xs : Array Value) (x : Addr) : (putRow w b off xs).frozen? x = w.frozen? x := World.frozen?_setCells _ _ _ _ _
theorem below_put {B : Nat} {a w : World} {b : Nat} (h : Below B a w) (hb : B ≤ b) (off : Nat) (xs : Array Value) : Below B a (putRow w b off xs) := by
 have hm := setCells_misc b xs.toList off w
 exact ⟨hm.1.trans h.os, hm.2.1.trans h.tape, hm.2.2.trans h.output, by rw [size_put]; exact h.size, fun k hk => (setCells_far b _ _ _ k (by omega)).trans (h.block k hk)⟩
theorem cell_put_far (w : World) (b off : Nat) (xs : Array Value) (b' i : Nat) (h : b' ≠ b) : (putRow w b off xs).cell? ⟨b', i, none⟩ = w.cell? ⟨b', i, none⟩ :=
 World.cell?_setCells_out _ _ _ _ _ (fun e _ => absurd e h)
theorem cell_put_out (w : World) (b off : Nat) (xs : Array Value) (i : Nat) (h : i < off ∨ off + xs.size ≤ i) : (putRow w b off xs).cell? ⟨b, i, none⟩ = w.cell? ⟨b, i, none⟩ :=
 World.cell?_setCells_out _ _ _ _ _ (fun _ _ => by simpa using h)
theorem cell_put_in (w : World) (b off : Nat) (xs : Array Value) (i : Nat) (ht : there w b off xs.size) (h : off ≤ i) (h2 : i < off + xs.size) : (putRow w b off xs).cell? ⟨b, i, none⟩ = xs[i - off]? := by
 have := World.cell?_setCells_in b xs.toList off w (fun j hj => (ht j (by simpa using hj)).1) (i - off) (by simp; omega)
 rw [show off + (i - off) = i by omega] at this
 rw [putRow, this, Array.getElem?_eq_getElem (by omega)]
 simp

/-- a row with a part of it put anew -/
def splice (cs : Array Value) (off : Nat) (xs : Array Value) : Array Value := cs.extract 0 off ++ xs ++ cs.extract (off + xs.size) cs.size
theorem row?_put_far (w : World) (b off : Nat) (xs : Array Value) (b' off' n' : Nat) (h : b' ≠ b) : row? (putRow w b off xs) b' off' n' = row? w b' off' n' := by
 simp [row?, putRow, setCells_far b _ _ _ b' h]
theorem row?_put_same (w : World) (b off n : Nat) (xs : Array Value) (hn : xs.size = n) (h0 : 0 < n) (ht : there w b off n) : row? (putRow w b off xs) b off n = some xs := by
 subst hn
 refine row?_of_cells rfl h0 fun j hj => ?_
 rw [cell_put_in w b off xs (off + j) ht (by omega) (by omega), show off + j - off = j by omega, Array.getElem?_eq_getElem hj]
theorem splice_size (cs : Array Value) (off : Nat) (xs : Array Value) (h : off + xs.size ≤ cs.size) : (splice cs off xs).size = cs.size := by
 simp [splice]; omega
theorem splice_get (cs : Array Value) (off : Nat) (xs : Array Value) (h : off + xs.size ≤ cs.size) (i : Nat) : (splice cs off xs)[i]? = if off ≤ i ∧ i < off + xs.size then xs[i - off]? else cs[i]? := by
 have e1 : (cs.extract 0 off).size = off := by simp; omega
 have g1 : ∀ k, k < off → (cs.extract 0 off)[k]? = cs[k]? := fun k hk => by rw [Array.getElem?_extract, if_pos (by omega), Nat.zero_add]
 have g2 : ∀ k, (cs.extract (off + xs.size) cs.size)[k]? = cs[off + xs.size + k]? := fun k => by
  rw [Array.getElem?_extract]
  split
  ·rfl
  ·rw [Array.getElem?_eq_none (by omega)]
 generalize hA : cs.extract 0 off = A at e1 g1
 generalize hB : cs.extract (off + xs.size) cs.size = B at g2
 unfold splice
 rw [hA, hB]
 by_cases h1 : i < off + xs.size
 ·rw [Array.getElem?_append_left (by rw [Array.size_append, e1]; exact h1)]
  by_cases h2 : i < off
  ·rw [Array.getElem?_append_left (by rw [e1]; exact h2), g1 i h2, if_neg (by omega)]
  ·rw [Array.getElem?_append_right (by rw [e1]; omega), e1, if_pos (by omega)]
 ·rw [Array.getElem?_append_right (by rw [Array.size_append, e1]; omega), Array.size_append, e1, g2, if_neg (by omega)]
  congr 1; omega
/-- one cell of a row put anew -/
theorem row?_set_in (w : World) (b i N : Nat) (v : Value) (hi : i < N) (hs : (row? w b 0 N).isSome = true) : row? (w.setCell ⟨b, i, none⟩ v) b 0 N = (row? w b 0 N).map (splice · i #[v]) := by
 obtain ⟨l, hl⟩ := Option.isSome_iff_exists.1 hs
 rw [hl]
 have hlen := row?_length hl
 refine row?_of_cells (by rw [splice_size _ _ _ (by simp; omega)]; exact hlen) (by omega) fun j hj => ?_
 rw [splice_size _ _ _ (by simp; omega)] at hj
 have hg := splice_get l i #[v] (by simp; omega) j
 rw [Array.getElem?_eq_getElem (by rw [splice_size _ _ _ (by simp; omega)]; omega)] at hg
 rw [hg]
 have hc := cell_of_row? hl j (by omega)
 rw [Nat.zero_add] at hc ⊢
 by_cases e : j = i
 ·subst e
  rw [World.cell?_setCell_same _ _ _ (hc.trans (Array.getElem?_eq_getElem (xs := l) (by omega)))]
  simp
 ·rw [World.cell?_setCell_other _ _ _ _ (by intro h; injection h with h1 h2; omega), if_neg (by simp; omega)]
  exact hc

/-- a store of a struct or an array, by a name that the walk does not open -/
def storeAgg (t : TypeId) (x v : Value) : Sem Unit := Instr.storeAt t x v
theorem run_storeAgg {P : Program} {t : TypeId} {n : Nat} (hi : (P.info? t).map (·.size) = some n) (w : World) (b off : Nat) (xs : Array Value) (hn : xs.size = n) (h1 : xs.all (·.oneCell') = true) (ht : there w b off n) :
  (storeAgg t (.pointer (some ⟨b, off, none⟩)) (.agg xs)).run P w = .ok () (putRow w b off xs) := by
 subst hn
 exact run_storeAt_mid w b off t xs ht hi h1

theorem oneHash (h : Hash) : (hashA h).all (·.oneCell') = true := by simp [hashA, byteV, Value.oneCell']
theorem oneApp {a b : Array Value} (ha : a.all (·.oneCell') = true) (hb : b.all (·.oneCell') = true) : (a ++ b).all (·.oneCell') = true := by
 simp only [Array.all_append, ha, hb]; rfl
theorem onePoint (p : Pt) : (pointA p).all (·.oneCell') = true := oneApp (by simp [Value.oneCell']) (oneHash _)
theorem oneLink (p : Lnk) : (linkA p).all (·.oneCell') = true := oneApp (onePoint _) (onePoint _)
theorem oneVote (v : GVote) : (voteA v).all (·.oneCell') = true := oneApp (oneApp (oneApp (by simp [Value.oneCell']) (onePoint _)) (onePoint _)) (by simp [Value.oneCell'])
theorem oneOp (v : GOp) : (opA v).all (·.oneCell') = true := oneApp (oneApp (by simp [Value.oneCell']) (oneHash _)) (by simp [Value.oneCell'])
theorem oneHeader (v : GHeader) : (headerA v).all (·.oneCell') = true := oneApp (oneHash _) (by simp [Value.oneCell'])
/-- each is one cell -/
def oneCells (xs : Array Value) : Prop := xs.all (·.oneCell') = true
theorem onesHash (h : Hash) : oneCells (hashA h) := oneHash h
theorem onesPoint (h : Pt) : oneCells (pointA h) := onePoint h
theorem onesLink (h : Lnk) : oneCells (linkA h) := oneLink h
theorem onesVote (h : GVote) : oneCells (voteA h) := oneVote h
theorem onesOp (h : GOp) : oneCells (opA h) := oneOp h
theorem onesHeader (h : GHeader) : oneCells (headerA h) := oneHeader h
/-! numbers of blocks -/
section
variable (n : Nat)
theorem blk_ne1 : (n = n + 1) = False := by simp only [eq_iff_iff, iff_true, iff_false]; omega
theorem blk_en1 : (n + 1 = n) = False := by simp only [eq_iff_iff, iff_true, iff_false]; omega
theorem blk_lt1 : (n < n + 1) = True := by simp only [eq_iff_iff, iff_true, iff_false]; omega
theorem blk_le1 : (n ≤ n + 1) = True := by simp only [eq_iff_iff, iff_true, iff_false]; omega
theorem blk_gt1 : (n + 1 < n) = False := by simp only [eq_iff_iff, iff_true, iff_false]; omega
theorem blk_ge1 : (n + 1 ≤ n) = False := by simp only [eq_iff_iff, iff_true, iff_false]; omega
theorem blk_ne2 : (n = n + 1 + 1) = False := by simp only [eq_iff_iff, iff_true, iff_false]; omega
theorem blk_en2 : (n + 1 + 1 = n) = False := by simp only [eq_iff_iff, iff_true, iff_false]; omega
theorem blk_lt2 : (n < n + 1 + 1) = True := by simp only [eq_iff_iff, iff_true, iff_false]; omega
theorem blk_le2 : (n ≤ n + 1 + 1) = True := by simp only [eq_iff_iff, iff_true, iff_false]; omega
theorem blk_gt2 : (n + 1 + 1 < n) = False := by simp only [eq_iff_iff, iff_true, iff_false]; omega
theorem blk_ge2 : (n + 1 + 1 ≤ n) = False := by simp only [eq_iff_iff, iff_true, iff_false]; omega
theorem blk_ne3 : (n = n + 1 + 1 + 1) = False := by simp only [eq_iff_iff, iff_true, iff_false]; omega
theorem blk_en3 : (n + 1 + 1 + 1 = n) = False := by simp only [eq_iff_iff, iff_true, iff_false]; omega
theorem blk_lt3 : (n < n + 1 + 1 + 1) = True := by simp only [eq_iff_iff, iff_true, iff_false]; omega
theorem blk_le3 : (n ≤ n + 1 + 1 + 1) = True := by simp only [eq_iff_iff, iff_true, iff_false]; omega
theorem blk_gt3 : (n + 1 + 1 + 1 < n) = False := by simp only [eq_iff_iff, iff_true, iff_false]; omega
theorem blk_ge3 : (n + 1 + 1 + 1 ≤ n) = False := by simp only [eq_iff_iff, iff_true, iff_false]; omega
theorem blk_ne4 : (n = n + 1 + 1 + 1 + 1) = False := by simp only [eq_iff_iff, iff_true, iff_false]; omega
theorem blk_en4 : (n + 1 + 1 + 1 + 1 = n) = False := by simp only [eq_iff_iff, iff_true, iff_false]; omega
theorem blk_lt4 : (n < n + 1 + 1 + 1 + 1) = True := by simp only [eq_iff_iff, iff_true, iff_false]; omega
theorem blk_le4 : (n ≤ n + 1 + 1 + 1 + 1) = True := by simp only [eq_iff_iff, iff_true, iff_false]; omega
theorem blk_gt4 : (n + 1 + 1 + 1 + 1 < n) = False := by simp only [eq_iff_iff, iff_true, iff_false]; omega
theorem blk_ge4 : (n + 1 + 1 + 1 + 1 ≤ n) = False := by simp only [eq_iff_iff, iff_true, iff_false]; omega
theorem blk_ne5 : (n = n + 1 + 1 + 1 + 1 + 1) = False := by simp only [eq_iff_iff, iff_true, iff_false]; omega
theorem blk_en5 : (n + 1 + 1 + 1 + 1 + 1 = n) = False := by simp only [eq_iff_iff, iff_true, iff_false]; omega
theorem blk_lt5 : (n < n + 1 + 1 + 1 + 1 + 1) = True := by simp only [eq_iff_iff, iff_true, iff_false]; omega
theorem blk_le5 : (n ≤ n + 1 + 1 + 1 + 1 + 1) = True := by simp only [eq_iff_iff, iff_true, iff_false]; omega
theorem blk_gt5 : (n + 1 + 1 + 1 + 1 + 1 < n) = False := by simp only [eq_iff_iff, iff_true, iff_false]; omega
theorem blk_ge5 : (n + 1 + 1 + 1 + 1 + 1 ≤ n) = False := by simp only [eq_iff_iff, iff_true, iff_false]; omega
theorem blk_ne6 : (n = n + 1 + 1 + 1 + 1 + 1 + 1) = False := by simp only [eq_iff_iff, iff_true, iff_false]; omega
theorem blk_en6 : (n + 1 + 1 + 1 + 1 + 1 + 1 = n) = False := by simp only [eq_iff_iff, iff_true, iff_false]; omega
theorem blk_lt6 : (n < n + 1 + 1 + 1 + 1 + 1 + 1) = True := by simp only [eq_iff_iff, iff_true, iff_false]; omega
theorem blk_le6 : (n ≤ n + 1 + 1 + 1 + 1 + 1 + 1) = True := by simp only [eq_iff_iff, iff_true, iff_false]; omega
theorem blk_gt6 : (n + 1 + 1 + 1 + 1 + 1 + 1 < n) = False := by simp only [eq_iff_iff, iff_true, iff_false]; omega
theorem blk_ge6 : (n + 1 + 1 + 1 + 1 + 1 + 1 ≤ n) = False := by simp only [eq_iff_iff, iff_true, iff_false]; omega
theorem blk_ne7 : (n = n + 1 + 1 + 1 + 1 + 1 + 1 + 1) = False := by simp only [eq_iff_iff, iff_true, iff_false]; omega
theorem blk_en7 : (n + 1 + 1 + 1 + 1 + 1 + 1 + 1 = n) = False := by simp only [eq_iff_iff, iff_true, iff_false]; omega
theorem blk_lt7 : (n < n + 1 + 1 + 1 + 1 + 1 + 1 + 1) = True := by simp only [eq_iff_iff, iff_true, iff_false]; omega
theorem blk_le7 : (n ≤ n + 1 + 1 + 1 + 1 + 1 + 1 + 1) = True := by simp only [eq_iff_iff, iff_true, iff_false]; omega
theorem blk_gt7 : (n + 1 + 1 + 1 + 1 + 1 + 1 + 1 < n) = False := by simp only [eq_iff_iff, iff_true, iff_false]; omega
theorem blk_ge7 : (n + 1 + 1 + 1 + 1 + 1 + 1 + 1 ≤ n) = False := by simp only [eq_iff_iff, iff_true, iff_false]; omega
end
attribute [go_sem] blk_ne1 blk_en1 blk_lt1 blk_le1 blk_gt1 blk_ge1 blk_ne2 blk_en2 blk_lt2 blk_le2 blk_gt2 blk_ge2 blk_ne3 blk_en3 blk_lt3 blk_le3 blk_gt3 blk_ge3 blk_ne4 blk_en4 blk_lt4 blk_le4 blk_gt4 blk_ge4 blk_ne5 blk_en5 blk_lt5 blk_le5 blk_gt5 blk_ge5 blk_ne6 blk_en6 blk_lt6 blk_le6 blk_gt6 blk_ge6 blk_ne7 blk_en7 blk_lt7 blk_le7 blk_gt7 blk_ge7
/-! the same, with no condition on what lies there -/
theorem cell_some_set (w : World) (a : Addr) (v : Value) (x : Addr) : ((w.setCell a v).cell? x).isSome = (w.cell? x).isSome := by
 by_cases e : a = x
 ·subst e
  cases h : w.cell? a with
  | some u => rw [World.cell?_setCell_same _ _ _ h]; rfl
  | none =>
   have : (w.setCell a v).cell? a = none := by
    simp only [World.setCell, World.cell?, Array.getElem?_modify, ↓reduceIte] at h ⊢
    cases hh : w.heap[a.block]? with
    | none => simp
    | some x =>
     rw [hh] at h
     cases x <;> simp at h ⊢
     cases hsp : a.spot <;> simp_all
   rw [this]
 ·rw [World.cell?_setCell_other _ _ _ _ e]
theorem cell_some_sets (b : Nat) (x : Addr) : ∀ (vs : List Value) (o : Nat) (w : World), ((w.setCells b o vs).cell? x).isSome = (w.cell? x).isSome
 | [], _, _ => rfl
 | v :: r, o, w => by rw [World.setCells, cell_some_sets b x r, cell_some_set]
theorem there_put' (w : World) (b' off' : Nat) (xs : Array Value) (b off n : Nat) : there (putRow w b' off' xs) b off n ↔ there w b off n := by
 unfold there World.there putRow
 simp only [cell_some_sets, World.frozen?_setCells]
theorem there_set' (w : World) (a : Addr) (v : Value) (b off n : Nat) : there (w.setCell a v) b off n ↔ there w b off n := by
 unfold there World.there
 simp only [cell_some_set, World.frozen?_setCell]
theorem there_drew' (w : World) (b off n : Nat) : there w.drew b off n ↔ there w b off n := Iff.rfl
theorem there_drewN' (w : World) (k b off n : Nat) : there (w.drewN k) b off n ↔ there w b off n := Iff.rfl
theorem there_old' (w : World) (o : Obj) (b off n : Nat) (hb : b < w.heap.size) : there (w.alloc o) b off n ↔ there w b off n := by
 unfold there World.there
 constructor
 ·intro h j hj
  have := h j hj
  rwa [World.cell?_alloc_lt w o ⟨b, off + j, none⟩ hb, World.frozen?_alloc_past _ _ _ hb] at this
 ·intro h j hj
  have := h j hj
  rwa [World.cell?_alloc_lt w o ⟨b, off + j, none⟩ hb, World.frozen?_alloc_past _ _ _ hb]
theorem row?_is {w : World} {b off n : Nat} (h0 : 0 < n) (h : ∀ j, j < n → (w.cell? ⟨b, off + j, none⟩).isSome = true) : (row? w b off n).isSome = true := by
 rw [row?_of_cells (l := Array.ofFn fun j : Fin n => (w.cell? ⟨b, off + j.1, none⟩).getD undef) (by simp) h0 (fun j hj => by
  have := h j (by simpa using hj)
  obtain ⟨u, hu⟩ := Option.isSome_iff_exists.1 this
  simp [hu])]
 rfl
theorem row?_none {w : World} {b off n : Nat} (h0 : 0 < n) (h : row? w b off n = none) : ∃ j, j < n ∧ w.cell? ⟨b, off + j, none⟩ = none := by
 by_cases hx : ∀ j, j < n → (w.cell? ⟨b, off + j, none⟩).isSome = true
 ·have := row?_is h0 hx; rw [h] at this; cases this
 ·simp only [Classical.not_forall] at hx
  obtain ⟨j, hj, hn⟩ := hx
  exact ⟨j, hj, by simpa using hn⟩
theorem row?_none_of {w : World} {b off n j : Nat} (hj : j < n) (h : w.cell? ⟨b, off + j, none⟩ = none) : row? w b off n = none := by
 cases hr : row? w b off n with
 | none => rfl
 | some l =>
  have := cell_of_row? hr j hj
  rw [h, Array.getElem?_eq_getElem (by have := row?_length hr; omega)] at this
  cases this
theorem row?_set_in' (w : World) (b i N : Nat) (v : Value) (hi : i < N) : row? (w.setCell ⟨b, i, none⟩ v) b 0 N = (row? w b 0 N).map (splice · i #[v]) := by
 cases h : row? w b 0 N with
 | some l => rw [row?_set_in w b i N v hi (by rw [h]; rfl), h]
 | none =>
  obtain ⟨j, hj, hc⟩ := row?_none (by omega) h
  refine row?_none_of hj ?_
  have := cell_some_set w ⟨b, i, none⟩ v ⟨b, 0 + j, none⟩
  rw [hc] at this
  simpa using this
theorem there_row {w : World} {b N : Nat} {l : Array Value} (h : row? w b 0 N = some l) (off : Nat) (xs : Array Value) (hle : off + xs.size ≤ N) (h0 : 0 < N) : row? (putRow w b off xs) b 0 N = some (splice l off xs) := by
 have hlen := row?_length h
 have hs : ∀ i, i < N → (w.cell? ⟨b, i, none⟩).isSome = true := fun i hi => by
  have := cell_of_row? h i hi
  rw [Nat.zero_add] at this
  rw [this, Array.getElem?_eq_getElem (by omega)]; rfl
 refine row?_of_cells (by rw [splice_size _ _ _ (by omega)]; exact hlen) h0 fun j hj => ?_
 rw [splice_size _ _ _ (by omega)] at hj
 have hg := splice_get l off xs (by omega) j
 rw [Array.getElem?_eq_getElem (by rw [splice_size _ _ _ (by omega)]; omega)] at hg
 rw [hg]
 split
 ·rename_i hin
  have := World.cell?_setCells_in b xs.toList off w (fun k hk => hs (off + k) (by simp at hk; omega)) (j - off) (by simp; omega)
  rw [show off + (j - off) = j by omega] at this
  rw [Nat.zero_add, putRow, this, Array.getElem?_eq_getElem (by omega)]
  simp
 ·rename_i hout
  rw [Nat.zero_add, cell_put_out w b off xs j (by omega)]
  have := cell_of_row? h j (by omega)
  rwa [Nat.zero_add] at this
theorem row?_put_in' (w : World) (b off N : Nat) (xs : Array Value) (hle : off + xs.size ≤ N) (h0 : 0 < N) : row? (putRow w b off xs) b 0 N = (row? w b 0 N).map (splice · off xs) := by
 cases h : row? w b 0 N with
 | some l => exact there_row h off xs hle h0
 | none =>
  obtain ⟨j, hj, hc⟩ := row?_none h0 h
  refine row?_none_of hj ?_
  have := cell_some_sets b ⟨b, 0 + j, none⟩ xs.toList off w
  rw [hc] at this
  rw [putRow]
  simpa using this
theorem splice_all' (a b : Array Value) (h : a.size = b.size) : splice a 0 b = b := by
 apply Array.ext_getElem?
 intro i
 rw [splice_get _ _ _ (by omega)]
 by_cases hi : i < b.size
 ·rw [if_pos (by omega)]; rfl
 ·rw [if_neg (by omega), Array.getElem?_eq_none (by omega), Array.getElem?_eq_none (by omega)]
end Go.Proofs.Ythdjhbiigmcecaa

/- Loads of structs and arrays as a whole, for the walk. -/
namespace Go.Proofs.Ythdjhbiigmcecaa
open Go.RowKit

theorem load_point_s (x : Value) : Instr.loadAt 26 x = loadAgg 26 x := rfl
theorem load_point (w : World) (b off : Nat) (h : (row? w b off 33).isSome = true) : (loadAgg 26 (.pointer (some ⟨b, off, none⟩))).run Try.prog w = .ok (.agg ((row? w b off 33).getD #[])) w := run_loadAgg Try.isAgg26 Try.sizeOf26 w b off h
attribute [go_sem ↓] load_point_s
attribute [go_sem] load_point
theorem load_hash_s (x : Value) : Instr.loadAt 24 x = loadAgg 24 x := rfl
theorem load_hash (w : World) (b off : Nat) (h : (row? w b off 32).isSome = true) : (loadAgg 24 (.pointer (some ⟨b, off, none⟩))).run Try.prog w = .ok (.agg ((row? w b off 32).getD #[])) w := run_loadAgg Try.isAgg24 Try.sizeOf24 w b off h
attribute [go_sem ↓] load_hash_s
attribute [go_sem] load_hash
theorem load_arr32_s (x : Value) : Instr.loadAt 23 x = loadAgg 23 x := rfl
theorem load_arr32 (w : World) (b off : Nat) (h : (row? w b off 32).isSome = true) : (loadAgg 23 (.pointer (some ⟨b, off, none⟩))).run Try.prog w = .ok (.agg ((row? w b off 32).getD #[])) w := run_loadAgg Try.isAgg23 Try.sizeOf23 w b off h
attribute [go_sem ↓] load_arr32_s
attribute [go_sem] load_arr32
theorem load_link_s (x : Value) : Instr.loadAt 28 x = loadAgg 28 x := rfl
theorem load_link (w : World) (b off : Nat) (h : (row? w b off 66).isSome = true) : (loadAgg 28 (.pointer (some ⟨b, off, none⟩))).run Try.prog w = .ok (.agg ((row? w b off 66).getD #[])) w := run_loadAgg Try.isAgg28 Try.sizeOf28 w b off h
attribute [go_sem ↓] load_link_s
attribute [go_sem] load_link
theorem load_vote_s (x : Value) : Instr.loadAt 99 x = loadAgg 99 x := rfl
theorem load_vote (w : World) (b off : Nat) (h : (row? w b off 68).isSome = true) : (loadAgg 99 (.pointer (some ⟨b, off, none⟩))).run Try.prog w = .ok (.agg ((row? w b off 68).getD #[])) w := run_loadAgg Try.isAgg99 Try.sizeOf99 w b off h
attribute [go_sem ↓] load_vote_s
attribute [go_sem] load_vote
theorem load_hop_s (x : Value) : Instr.loadAt 97 x = loadAgg 97 x := rfl
theorem load_hop (w : World) (b off : Nat) (h : (row? w b off 36).isSome = true) : (loadAgg 97 (.pointer (some ⟨b, off, none⟩))).run Try.prog w = .ok (.agg ((row? w b off 36).getD #[])) w := run_loadAgg Try.isAgg97 Try.sizeOf97 w b off h
attribute [go_sem ↓] load_hop_s
attribute [go_sem] load_hop
theorem load_header_s (x : Value) : Instr.loadAt 49 x = loadAgg 49 x := rfl
theorem load_header (w : World) (b off : Nat) (h : (row? w b off 34).isSome = true) : (loadAgg 49 (.pointer (some ⟨b, off, none⟩))).run Try.prog w = .ok (.agg ((row? w b off 34).getD #[])) w := run_loadAgg Try.isAgg49 Try.sizeOf49 w b off h
attribute [go_sem ↓] load_header_s
attribute [go_sem] load_header
attribute [go_sem] row?_new row?_old row?_drew row?_drewN row?_far
end Go.Proofs.Ythdjhbiigmcecaa

/- Rules of whole-struct stores, for the walk. -/
namespace Go.Proofs.Ythdjhbiigmcecaa
open Go.RowKit

/-- rows and cells behind a whole store -/
theorem there_new_at (w : World) (cs : Array Value) (t : TypeId) (b off n : Nat) (hb : b = w.heap.size) (h : off + n ≤ cs.size) : there (w.alloc (.cells cs t)) b off n := by subst hb; exact there_new w cs t off n h
attribute [go_sem] row?_put_far row?_put_in' row?_set_in' splice_all' cell_put_far cell_put_out cell_put_in size_put frozen_put there_new there_new_at row?_new_at there_old' there_drew' there_drewN' there_put' there_set' onesHash onesPoint onesLink onesVote onesOp onesHeader
theorem store_point_s (x v : Value) : Instr.storeAt 26 x v = storeAgg 26 x v := rfl
theorem info_point : (Try.prog.info? 26).map (·.size) = some 33 := by kernel_rfl
theorem store_point (w : World) (b off : Nat) (xs : Array Value) (hn : xs.size = 33) (h1 : oneCells xs) (ht : there w b off 33) : (storeAgg 26 (.pointer (some ⟨b, off, none⟩)) (.agg xs)).run Try.prog w = .ok () (putRow w b off xs) := run_storeAgg info_point w b off xs hn h1 ht
attribute [go_sem ↓] store_point_s
attribute [go_sem] store_point
theorem store_hash_s (x v : Value) : Instr.storeAt 24 x v = storeAgg 24 x v := rfl
theorem info_hash : (Try.prog.info? 24).map (·.size) = some 32 := by kernel_rfl
theorem store_hash (w : World) (b off : Nat) (xs : Array Value) (hn : xs.size = 32) (h1 : oneCells xs) (ht : there w b off 32) : (storeAgg 24 (.pointer (some ⟨b, off, none⟩)) (.agg xs)).run Try.prog w = .ok () (putRow w b off xs) := run_storeAgg info_hash w b off xs hn h1 ht
attribute [go_sem ↓] store_hash_s
attribute [go_sem] store_hash
theorem store_arr32_s (x v : Value) : Instr.storeAt 23 x v = storeAgg 23 x v := rfl
theorem info_arr32 : (Try.prog.info? 23).map (·.size) = some 32 := by kernel_rfl
theorem store_arr32 (w : World) (b off : Nat) (xs : Array Value) (hn : xs.size = 32) (h1 : oneCells xs) (ht : there w b off 32) : (storeAgg 23 (.pointer (some ⟨b, off, none⟩)) (.agg xs)).run Try.prog w = .ok () (putRow w b off xs) := run_storeAgg info_arr32 w b off xs hn h1 ht
attribute [go_sem ↓] store_arr32_s
attribute [go_sem] store_arr32
theorem store_link_s (x v : Value) : Instr.storeAt 28 x v = storeAgg 28 x v := rfl
theorem info_link : (Try.prog.info? 28).map (·.size) = some 66 := by kernel_rfl
theorem store_link (w : World) (b off : Nat) (xs : Array Value) (hn : xs.size = 66) (h1 : oneCells xs) (ht : there w b off 66) : (storeAgg 28 (.pointer (some ⟨b, off, none⟩)) (.agg xs)).run Try.prog w = .ok () (putRow w b off xs) := run_storeAgg info_link w b off xs hn h1 ht
attribute [go_sem ↓] store_link_s
attribute [go_sem] store_link
theorem store_vote_s (x v : Value) : Instr.storeAt 99 x v = storeAgg 99 x v := rfl
theorem info_vote : (Try.prog.info? 99).map (·.size) = some 68 := by kernel_rfl
theorem store_vote (w : World) (b off : Nat) (xs : Array Value) (hn : xs.size = 68) (h1 : oneCells xs) (ht : there w b off 68) : (storeAgg 99 (.pointer (some ⟨b, off, none⟩)) (.agg xs)).run Try.prog w = .ok () (putRow w b off xs) := run_storeAgg info_vote w b off xs hn h1 ht
attribute [go_sem ↓] store_vote_s
attribute [go_sem] store_vote
theorem store_hop_s (x v : Value) : Instr.storeAt 97 x v = storeAgg 97 x v := rfl
theorem info_hop : (Try.prog.info? 97).map (·.size) = some 36 := by kernel_rfl
theorem store_hop (w : World) (b off : Nat) (xs : Array Value) (hn : xs.size = 36) (h1 : oneCells xs) (ht : there w b off 36) : (storeAgg 97 (.pointer (some ⟨b, off, none⟩)) (.agg xs)).run Try.prog w = .ok () (putRow w b off xs) := run_storeAgg info_hop w b off xs hn h1 ht
attribute [go_sem ↓] store_hop_s
attribute [go_sem] store_hop
theorem store_header_s (x v : Value) : Instr.storeAt 49 x v = storeAgg 49 x v := rfl
theorem info_header : (Try.prog.info? 49).map (·.size) = some 34 := by kernel_rfl
theorem store_header (w : World) (b off : Nat) (xs : Array Value) (hn : xs.size = 34) (h1 : oneCells xs) (ht : there w b off 34) : (storeAgg 49 (.pointer (some ⟨b, off, none⟩)) (.agg xs)).run Try.prog w = .ok () (putRow w b off xs) := run_storeAgg info_header w b off xs hn h1 ht
attribute [go_sem ↓] store_header_s
attribute [go_sem] store_header

/-! results that lie in a cell -/
theorem run_loadVar_agg {P : Program} {t : TypeId} {n : Nat} (hA : ∀ w, (isAgg t).run P w = .ok true w) (hS : ∀ w, (Go.sizeOf t).run P w = .ok n w) (w : World) (b off : Nat) (h : (row? w b off n).isSome = true) :
  (loadVar t ⟨b, off, none⟩).run P w = .ok (.agg ((row? w b off n).getD #[])) w := by
 have := run_loadAt_row hA hS w b off h
 simpa [Instr.loadAt, Instr.sureAddr, Sem.run_bind] using this
theorem results_row {P : Program} {t : TypeId} {n : Nat} (hA : ∀ w, (isAgg t).run P w = .ok true w) (hS : ∀ w, (Go.sizeOf t).run P w = .ok n w) {fn : Func} {p : Tmp} (hf : fn.results = #[.cell p t]) (tmps : Array Value) (w : World) (b off : Nat)
  (hp : tmps.getD p undef = .pointer (some ⟨b, off, none⟩)) (h : (row? w b off n).isSome = true) : (results fn tmps).run P w = .ok (.agg ((row? w b off n).getD #[])) w := by
 have hp' : tmps[p]?.getD undef = .pointer (some ⟨b, off, none⟩) := by simpa using hp
 simp [results, hf, hp', asAddr, Sem.run_bind, run_loadVar_agg hA hS w b off h]
theorem results_row2 {P : Program} {t : TypeId} {n : Nat} (hA : ∀ w, (isAgg t).run P w = .ok true w) (hS : ∀ w, (Go.sizeOf t).run P w = .ok n w) {fn : Func} {p u : Tmp} (hf : fn.results = #[.cell p t, .tmp u]) (tmps : Array Value) (w : World) (b off : Nat)
  (hp : tmps.getD p undef = .pointer (some ⟨b, off, none⟩)) (h : (row? w b off n).isSome = true) : (results fn tmps).run P w = .ok (.tuple #[.agg ((row? w b off n).getD #[]), tmps.getD u undef]) w := by
 have hp' : tmps[p]?.getD undef = .pointer (some ⟨b, off, none⟩) := by simpa using hp
 simp [results, hf, hp', asAddr, Sem.run_bind, run_loadVar_agg hA hS w b off h]

theorem ret_row {P : Program} {t : TypeId} {n : Nat} (hA : ∀ w, (isAgg t).run P w = .ok true w) (hS : ∀ w, (Go.sizeOf t).run P w = .ok n w) {fn : Func} {p : Tmp} (hf : fn.results = #[.cell p t]) {R : Ending → World → Prop} {a : Act} {w : World} {x : Value} (b off : Nat)
  (hx : a.tmps.getD p undef = x) (hp : x = .pointer (some ⟨b, off, none⟩)) (h : (row? w b off n).isSome = true) (hd : a.defers = []) (hR : R (.returned (.agg ((row? w b off n).getD #[]))) w) : bodyPost P fn R .ret a w :=
 bodyPost_ret (results_row hA hS hf _ _ b off (hx.trans hp) h) hd hR
theorem ret_row2 {P : Program} {t : TypeId} {n : Nat} (hA : ∀ w, (isAgg t).run P w = .ok true w) (hS : ∀ w, (Go.sizeOf t).run P w = .ok n w) {fn : Func} {p u : Tmp} (hf : fn.results = #[.cell p t, .tmp u]) {R : Ending → World → Prop} {a : Act} {w : World} {x y : Value} (b off : Nat)
  (hx : a.tmps.getD p undef = x) (hp : x = .pointer (some ⟨b, off, none⟩)) (hy : a.tmps.getD u undef = y) (h : (row? w b off n).isSome = true) (hd : a.defers = []) (hR : R (.returned (.tuple #[.agg ((row? w b off n).getD #[]), y])) w) : bodyPost P fn R .ret a w := by
 subst hy
 exact bodyPost_ret (results_row2 hA hS hf _ _ b off (hx.trans hp) h) hd hR

/-! zero values, by name -/
theorem zero_hash : #[.int .u8 0, .int .u8 0, .int .u8 0, .int .u8 0, .int .u8 0, .int .u8 0, .int .u8 0, .int .u8 0, .int .u8 0, .int .u8 0, .int .u8 0, .int .u8 0, .int .u8 0, .int .u8 0, .int .u8 0, .int .u8 0, .int .u8 0, .int .u8 0, .int .u8 0, .int .u8 0, .int .u8 0, .int .u8 0, .int .u8 0, .int .u8 0, .int .u8 0, .int .u8 0, .int .u8 0, .int .u8 0, .int .u8 0, .int .u8 0, .int .u8 0, .int .u8 0] = hashA zeroHash := by rfl
theorem zero_point : #[.int .u64 0, .int .u8 0, .int .u8 0, .int .u8 0, .int .u8 0, .int .u8 0, .int .u8 0, .int .u8 0, .int .u8 0, .int .u8 0, .int .u8 0, .int .u8 0, .int .u8 0, .int .u8 0, .int .u8 0, .int .u8 0, .int .u8 0, .int .u8 0, .int .u8 0, .int .u8 0, .int .u8 0, .int .u8 0, .int .u8 0, .int .u8 0, .int .u8 0, .int .u8 0, .int .u8 0, .int .u8 0, .int .u8 0, .int .u8 0, .int .u8 0, .int .u8 0, .int .u8 0] = pointA zeroPt := by
 simp only [pointA, zeroPt]
 rw [← zero_hash]
 simp
theorem zero_op (k : Int) : #[.int .i64 k, .int .u8 0, .int .u8 0, .int .u8 0, .int .u8 0, .int .u8 0, .int .u8 0, .int .u8 0, .int .u8 0, .int .u8 0, .int .u8 0, .int .u8 0, .int .u8 0, .int .u8 0, .int .u8 0, .int .u8 0, .int .u8 0, .int .u8 0, .int .u8 0, .int .u8 0, .int .u8 0, .int .u8 0, .int .u8 0, .int .u8 0, .int .u8 0, .int .u8 0, .int .u8 0, .int .u8 0, .int .u8 0, .int .u8 0, .int .u8 0, .int .u8 0, .int .u8 0, .int .u64 0, .int .i64 0, .slice none 0 0] = opA ⟨k, zeroHash, 0, 0, ⟨none, 0, 0⟩⟩ := by
 simp only [opA]
 rw [← zero_hash]
 simp
theorem zero_header : #[.int .u8 0, .int .u8 0, .int .u8 0, .int .u8 0, .int .u8 0, .int .u8 0, .int .u8 0, .int .u8 0, .int .u8 0, .int .u8 0, .int .u8 0, .int .u8 0, .int .u8 0, .int .u8 0, .int .u8 0, .int .u8 0, .int .u8 0, .int .u8 0, .int .u8 0, .int .u8 0, .int .u8 0, .int .u8 0, .int .u8 0, .int .u8 0, .int .u8 0, .int .u8 0, .int .u8 0, .int .u8 0, .int .u8 0, .int .u8 0, .int .u8 0, .int .u8 0, .int .u64 0, .slice none 0 0] = headerA ⟨zeroHash, 0, ⟨none, 0, 0⟩⟩ := by
 simp only [headerA]
 rw [← zero_hash]
 simp
theorem zero_vote (k : Int) : #[.int .i64 k, .int .u64 0, .int .u8 0, .int .u8 0, .int .u8 0, .int .u8 0, .int .u8 0, .int .u8 0, .int .u8 0, .int .u8 0, .int .u8 0, .int .u8 0, .int .u8 0, .int .u8 0, .int .u8 0, .int .u8 0, .int .u8 0, .int .u8 0, .int .u8 0, .int .u8 0, .int .u8 0, .int .u8 0, .int .u8 0, .int .u8 0, .int .u8 0, .int .u8 0, .int .u8 0, .int .u8 0, .int .u8 0, .int .u8 0, .int .u8 0, .int .u8 0, .int .u8 0, .int .u8 0, .int .u64 0, .int .u8 0, .int .u8 0, .int .u8 0, .int .u8 0, .int .u8 0, .int .u8 0, .int .u8 0, .int .u8 0, .int .u8 0, .int .u8 0, .int .u8 0, .int .u8 0, .int .u8 0, .int .u8 0, .int .u8 0, .int .u8 0, .int .u8 0, .int .u8 0, .int .u8 0, .int .u8 0, .int .u8 0, .int .u8 0, .int .u8 0, .int .u8 0, .int .u8 0, .int .u8 0, .int .u8 0, .int .u8 0, .int .u8 0, .int .u8 0, .int .u8 0, .int .u8 0, .slice none 0 0] = voteA ⟨k, zeroPt, zeroPt, ⟨none, 0, 0⟩⟩ := by
 simp only [voteA]
 rw [← zero_point]
 simp
attribute [go_sem] zero_hash zero_point zero_op zero_header zero_vote

/-! parts put anew -/
theorem splice_mid (a b b' c : Array Value) (off : Nat) (ha : a.size = off) (hb : b.size = b'.size) : splice (a ++ b ++ c) off b' = a ++ b' ++ c := by
 subst ha
 apply Array.ext_getElem?
 intro i
 rw [splice_get _ _ _ (by simp; omega)]
 by_cases h1 : i < a.size
 ·rw [if_neg (by omega), Array.append_assoc, Array.append_assoc, Array.getElem?_append_left h1, Array.getElem?_append_left h1]
 ·by_cases h2 : i < a.size + b'.size
  ·rw [if_pos (by omega), Array.getElem?_append_left (by simp; omega), Array.getElem?_append_right (by omega)]
  ·rw [if_neg (by omega), Array.getElem?_append_right (by simp; omega), Array.getElem?_append_right (by simp; omega)]
   simp [hb]
theorem splice_op_key (o : GOp) (k : Hash) : splice (opA o) 1 (hashA k) = opA { o with key := k } :=
 splice_mid #[.int .i64 o.kind] (hashA o.key) (hashA k) _ 1 rfl (by simp)
theorem splice_tail (a l l' : Array Value) (k off : Nat) (x : Value) (ha : a.size + k = off) (hk : k < l.size) (hl : l' = l.setIfInBounds k x) : splice (a ++ l) off #[x] = a ++ l' := by
 subst ha
 subst hl
 apply Array.ext_getElem?
 intro i
 rw [splice_get _ _ _ (by simp; omega)]
 by_cases h1 : i < a.size
 ·rw [if_neg (by omega), Array.getElem?_append_left h1, Array.getElem?_append_left h1]
 ·rw [Array.getElem?_append_right (by omega), Array.getElem?_append_right (by omega), Array.getElem?_setIfInBounds]
  by_cases h2 : i = a.size + k
  ·subst h2
   rw [if_pos (by simp), if_pos (by omega), if_pos (by omega)]
   simp
  ·rw [if_neg (by simp; omega), if_neg (by omega)]
theorem splice_op_stake (o : GOp) (x : UInt64) : splice (opA o) 33 #[.int .u64 (x.toNat : Int)] = opA { o with stake := x } := by
 unfold opA
 exact splice_tail _ _ _ 0 33 _ (by simp) (by simp) (by simp)
theorem splice_op_validator (o : GOp) (x : Int) : splice (opA o) 34 #[.int .i64 x] = opA { o with validator := x } := by
 unfold opA
 exact splice_tail _ _ _ 1 34 _ (by simp) (by simp) (by simp)
theorem splice_op_evidence (o : GOp) (x : Sl) : splice (opA o) 35 #[x.v] = opA { o with evidence := x } := by
 unfold opA
 exact splice_tail _ _ _ 2 35 _ (by simp) (by simp) (by simp)
theorem splice_header_ops (o : GHeader) (x : Sl) : splice (headerA o) 33 #[x.v] = headerA { o with ops := x } :=
 by
 unfold headerA
 exact splice_tail _ _ _ 1 33 _ (by simp) (by simp) (by simp)
theorem set_head (a b c : Value) (r : Array Value) : (#[a] ++ r).setIfInBounds 0 b = #[b] ++ r := by
 apply Array.ext_getElem?
 intro i
 rw [Array.getElem?_setIfInBounds]
 cases i <;> simp [Array.getElem?_append]
theorem opA_set_kind (o : GOp) (k : Int) : (opA o).setIfInBounds 0 (.int .i64 k) = opA { o with kind := k } := by
 simp only [opA, Array.append_assoc]; exact set_head _ _ undef _
theorem pointA_set_epoch (p : Pt) (e : UInt64) : (pointA p).setIfInBounds 0 (.int .u64 (e.toNat : Int)) = pointA { p with epoch := e } := by
 simp only [pointA]; exact set_head _ _ undef _
theorem voteA_set_validator (p : GVote) (k : Int) : (voteA p).setIfInBounds 0 (.int .i64 k) = voteA { p with validator := k } := by
 simp only [voteA, Array.append_assoc]; exact set_head _ _ undef _
theorem splice_op_evidence' (o : GOp) (a : Option Addr) (n c : Nat) : splice (opA o) 35 #[.slice a n c] = opA { o with evidence := ⟨a, n, c⟩ } := splice_op_evidence o ⟨a, n, c⟩
theorem splice_header_ops' (o : GHeader) (a : Option Addr) (n c : Nat) : splice (headerA o) 33 #[.slice a n c] = headerA { o with ops := ⟨a, n, c⟩ } := splice_header_ops o ⟨a, n, c⟩
/-! structs that are built -/
theorem fold_get (o : Nat) : ∀ (l : List Value) (k : Nat) (A : Array Value), (∀ i, ((l.zipIdx k).foldl (fun cs x => cs.setIfInBounds (o + x.2) x.1) A)[i]? = if o + k ≤ i ∧ i < o + k + l.length ∧ i < A.size then l[i - (o + k)]? else A[i]?)
 | [], k, A, i => by
  rw [if_neg (by simp; omega)]
  rfl
 | v :: l, k, A, i => by
  rw [List.zipIdx_cons, List.foldl_cons, fold_get o l (k + 1) _ i]
  simp only [Array.size_setIfInBounds, List.length_cons]
  by_cases h1 : o + k ≤ i ∧ i < o + k + (l.length + 1) ∧ i < A.size
  ·rw [if_pos h1]
   by_cases h2 : i = o + k
   ·subst h2
    rw [if_neg (by omega)]
    simp only [Nat.sub_self, List.getElem?_cons_zero]
    rw [Array.getElem?_setIfInBounds, if_pos rfl, if_pos h1.2.2]
   ·rw [if_pos (by omega)]
    rw [show i - (o + k) = (i - (o + (k + 1))) + 1 by omega, List.getElem?_cons_succ]
  ·rw [if_neg h1]
   by_cases h2 : i = o + k
   ·subst h2
    rw [if_neg (by omega), Array.getElem?_setIfInBounds, if_pos rfl]
    have : ¬ (o + k < A.size) := by omega
    rw [if_neg this, Array.getElem?_eq_none (by omega)]
   ·rw [if_neg (by omega), Array.getElem?_setIfInBounds, if_neg (by omega)]
theorem fold_splice (A B : Array Value) (o n : Nat) (hn : B.size = n) (h : o + n ≤ A.size) : Array.foldl (fun cs (x : Value × Nat) => cs.setIfInBounds (o + x.2) x.1) A B.zipIdx 0 n = splice A o B := by
 subst hn
 have e : Array.foldl (fun cs (x : Value × Nat) => cs.setIfInBounds (o + x.2) x.1) A B.zipIdx 0 B.size = ((B.toList.zipIdx 0).foldl (fun cs x => cs.setIfInBounds (o + x.2) x.1) A) := by
  rw [← Array.toList_zipIdx, Array.foldl_toList]
  congr 1
  simp
 rw [e]
 apply Array.ext_getElem?
 intro i
 rw [fold_get, splice_get _ _ _ h, Nat.add_zero, Array.length_toList]
 by_cases h1 : o ≤ i ∧ i < o + B.size
 ·rw [if_pos ⟨h1.1, h1.2, by omega⟩, if_pos h1, Array.getElem?_toList]
 ·rw [if_neg (by omega), if_neg h1]
theorem splice_point_name (p : Pt) (n : Hash) : splice (pointA p) 1 (hashA n) = pointA { p with name := n } := by
 have e : ∀ u : Pt, pointA u = #[.int .u64 (u.epoch.toNat : Int)] ++ hashA u.name ++ #[] := fun u => by rw [Array.append_empty]; rfl
 rw [e, e]
 exact splice_mid #[.int .u64 (p.epoch.toNat : Int)] (hashA p.name) (hashA n) #[] 1 rfl (by simp)
theorem splice_vote_source (v : GVote) (p : Pt) : splice (voteA v) 1 (pointA p) = voteA { v with source := p } := by
 have e : ∀ u : GVote, voteA u = #[.int .i64 u.validator] ++ pointA u.source ++ (pointA u.target ++ #[u.sig.v]) := fun u => by rw [← Array.append_assoc]; rfl
 rw [e, e]
 exact splice_mid #[.int .i64 v.validator] (pointA v.source) (pointA p) (pointA v.target ++ #[v.sig.v]) 1 rfl (by simp)
theorem splice_vote_target (v : GVote) (p : Pt) : splice (voteA v) 34 (pointA p) = voteA { v with target := p } := by
 have hs : (#[Value.int .i64 v.validator] ++ pointA v.source).size = 34 := by simp
 generalize hA : #[Value.int .i64 v.validator] ++ pointA v.source = A at hs
 have h := splice_mid A (pointA v.target) (pointA p) #[v.sig.v] 34 hs (by simp)
 rw [← hA] at h
 exact h
theorem set_splice (A : Array Value) (i : Nat) (v : Value) (h : i < A.size) : A.setIfInBounds i v = splice A i #[v] := by
 apply Array.ext_getElem?
 intro k
 rw [splice_get _ _ _ (by simp; omega), Array.getElem?_setIfInBounds]
 by_cases e : i = k
 ·subst e
  rw [if_pos rfl, if_pos h, if_pos (by simp)]
  simp
 ·rw [if_neg e, if_neg (by simp; omega)]
theorem voteA_set_sig (v : GVote) (s : Sl) : (voteA v).setIfInBounds 67 s.v = voteA { v with sig := s } := by
 rw [set_splice _ _ _ (by simp)]
 have hs : (#[Value.int .i64 v.validator] ++ pointA v.source ++ pointA v.target).size + 0 = 67 := by simp
 generalize hA : #[Value.int .i64 v.validator] ++ pointA v.source ++ pointA v.target = A at hs
 have h := splice_tail A #[v.sig.v] #[s.v] 0 67 s.v hs (by simp) (by simp)
 rw [← hA] at h
 exact h
theorem voteA_set_sig' (v : GVote) (a : Option Addr) (n c : Nat) : (voteA v).setIfInBounds 67 (.slice a n c) = voteA { v with sig := ⟨a, n, c⟩ } := voteA_set_sig v ⟨a, n, c⟩
theorem splice_link_source (v : Lnk) (p : Pt) : splice (linkA v) 0 (pointA p) = linkA { v with source := p } := by
 have h := splice_mid #[] (pointA v.source) (pointA p) (pointA v.target) 0 rfl (by simp)
 rw [Array.empty_append, Array.empty_append] at h
 unfold linkA
 exact h
theorem splice_link_target (v : Lnk) (p : Pt) : splice (linkA v) 33 (pointA p) = linkA { v with target := p } := by
 have h := splice_mid (pointA v.source) (pointA v.target) (pointA p) #[] 33 (by simp) (by simp)
 rw [Array.append_empty, Array.append_empty] at h
 unfold linkA
 exact h
attribute [go_sem] fold_splice splice_point_name splice_vote_source splice_vote_target voteA_set_sig' splice_link_source splice_link_target
attribute [go_sem] opA_set_kind pointA_set_epoch voteA_set_validator splice_op_key splice_op_stake splice_op_validator splice_op_evidence' splice_header_ops'
end Go.Proofs.Ythdjhbiigmcecaa
