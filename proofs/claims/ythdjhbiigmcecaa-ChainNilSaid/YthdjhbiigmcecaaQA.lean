/- Texts of this proof, one behind the other: Kit, Types, Loads, Mem, May, Free, FreeG, Put, Eq, Stores, Slices, Rws. -/
import Derived.WalkKit
import Derived.Lib.Hide
import Derived.Deep.Draws
import Derived.Test.YthdjhbiigmcecaaProg
import Derived.Maps.AppendAt
import Derived.Deep.AppendLies
import Derived.Deep.AppendSrc
import Derived.OwnWalk
import Derived.Orders
import Derived.Deep.MidRow
import Derived.ChangeKeysEq
import Derived.Handy
import Derived.Deep.QuietTactic
import Derived.BigQuiet
set_option linter.unusedVariables false
set_option linter.unusedSimpArgs false
/- Rows of cells in memory: reading and writing structs and arrays as a whole; what stays below a block number. Over any program. -/
namespace Go.Proofs.Ythdjhbiigmcecaa
open Go.RowKit

theorem ret_bool {a b : Bool} (h : a = b) : Ending.returned (.bool a) = .returned (.bool b) := by rw [h]
theorem ret_int {k : IntKind} {a b : Int} (h : a = b) : Ending.returned (.int k a) = .returned (.int k b) := by rw [h]

/-- n cells from place off on of block b -/
def row? (w : World) (b off n : Nat) : Option (Array Value) :=
  match w.heap[b]? with
  | some (.cells cs _ _) => if off + n ≤ cs.size then some (cs.extract off (off + n)) else none
  | _ => none

section
variable (w : World) (b off n : Nat)
theorem row?_new (cs : Array Value) (t : TypeId) : row? (w.alloc (.cells cs t)) w.heap.size off n = if off + n ≤ cs.size then some (cs.extract off (off + n)) else none := by
  unfold row?; rw [heap_alloc_new w (.cells cs t)]
theorem row?_new_at (cs : Array Value) (t : TypeId) (h : b = w.heap.size) : row? (w.alloc (.cells cs t)) b off n = if off + n ≤ cs.size then some (cs.extract off (off + n)) else none := by subst h; exact row?_new w off n cs t
theorem row?_old (o : Obj) (h : b < w.heap.size) : row? (w.alloc o) b off n = row? w b off n := by
  unfold row?; rw [Below.heap_alloc w o b h]
theorem row?_drew : row? w.drew b off n = row? w b off n := rfl
theorem row?_drewN (k : Nat) : row? (w.drewN k) b off n = row? w b off n := rfl
theorem row?_far (a : Addr) (v : Value) (h : b ≠ a.block) : row? (w.setCell a v) b off n = row? w b off n := by
  simp [row?, heap_setCell_other w a b v h]
theorem row?_below {B : Nat} {w w' : World} (hb : Below B w w') (h : b < B) : row? w' b off n = row? w b off n := by
  simp [row?, hb.block b h]
theorem row?_some {w : World} {b off n : Nat} {l : Array Value} (h : row? w b off n = some l) :
    ∃ cs t fr, w.heap[b]? = some (.cells cs t fr) ∧ off + n ≤ cs.size ∧ l = cs.extract off (off + n) := by
  unfold row? at h
  split at h
  · rename_i cs t fr hg
    split at h
    · rename_i hle
      injection h with h
      exact ⟨cs, t, fr, hg, hle, h.symm⟩
    · cases h
  · cases h
end

theorem bel_trans {B S : Nat} {w X w2 : World} (hb : Below S X w2) (h : Below B w X) (hS : B ≤ S) : Below B w w2 := h.trans (hb.mono hS)
theorem bel_grown {B : Nat} {w X w2 : World} {row : Option Nat} (hg : X.grownBy w2 row) (h : Below B w X) (hS : B ≤ X.heap.size) (hr : ∀ k, row = some k → B ≤ k) : Below B w w2 := h.grown hg hS hr
theorem bel_a (w : World) (o : Obj) : Below w.heap.size w (w.alloc o) := (Below.refl _ _).alloc (Nat.le_refl _) _
theorem undrew {B : Nat} {w w' : World} (h : Below B w.drew w') : Below B w w' := ⟨h.os, h.tape, h.output, h.size, h.block⟩
theorem below_drewN {B : Nat} {a w : World} (h : Below B a w) (n : Nat) : Below B a (w.drewN n) := ⟨h.os, h.tape, h.output, h.size, h.block⟩
theorem size_drewN (w : World) (n : Nat) : (w.drewN n).heap.size = w.heap.size := rfl

/-- below B: cells, marks and rows read as before -/
theorem kept {B : Nat} {w w1 : World} (hb : Below B w w1) :
    (∀ b o, b < B → w1.cell? ⟨b, o, none⟩ = w.cell? ⟨b, o, none⟩) ∧ (∀ b o, b < B → w1.frozen? ⟨b, o, none⟩ = w.frozen? ⟨b, o, none⟩) ∧ (∀ b off n, b < B → row? w1 b off n = row? w b off n) :=
  ⟨fun b o h => hb.cell (p := ⟨b, o, none⟩) h, fun b o h => hb.frozen (p := ⟨b, o, none⟩) h, fun b off n h => row?_below b off n hb h⟩

theorem run_loadAt_row {P : Program} {t : TypeId} {n : Nat} (hA : ∀ w, (isAgg t).run P w = .ok true w) (hS : ∀ w, (Go.sizeOf t).run P w = .ok n w)
    (w : World) (b off : Nat) (h : (row? w b off n).isSome = true) :
    (Instr.loadAt t (.pointer (some ⟨b, off, none⟩))).run P w = .ok (.agg ((row? w b off n).getD #[])) w := by
  cases hr : row? w b off n with
  | none => rw [hr] at h; cases h
  | some l =>
    obtain ⟨cs, tt, fr, hg, hle, hl⟩ := row?_some hr
    have hlen : l.toList.length = n := by rw [hl]; simp; omega
    have hc := run_loadCells_list (P := P) w ⟨b, off, none⟩ l.toList (fun j v hv => by
      have hadd : (⟨b, off, none⟩ : Addr).add j = ⟨b, off + j, none⟩ := by unfold Addr.add; split <;> simp_all
      rw [hadd, cell_of_row w b (off + j) cs tt fr hg]
      have hj : j < n := by
        rcases Nat.lt_or_ge j n with hj | hj
        · exact hj
        · rw [List.getElem?_eq_none (by omega)] at hv; cases hv
      have : l[j]? = some v := by simpa using hv
      rw [hl, Array.getElem?_extract] at this
      simpa [show off + j < off + n by omega, show j < min (off + n) cs.size - off by omega] using this)
    rw [hlen] at hc
    simp only [Array.toArray_toList] at hc
    simp [Instr.loadAt, Instr.sureAddr, loadVar, Sem.run_bind, hA, hS, hc]

/-- a load of a struct or an array, by a name that the walk does not open -/
def loadAgg (t : TypeId) (x : Value) : Sem Value := Instr.loadAt t x
theorem run_loadAgg {P : Program} {t : TypeId} {n : Nat} (hA : ∀ w, (isAgg t).run P w = .ok true w) (hS : ∀ w, (Go.sizeOf t).run P w = .ok n w)
    (w : World) (b off : Nat) (h : (row? w b off n).isSome = true) : (loadAgg t (.pointer (some ⟨b, off, none⟩))).run P w = .ok (.agg ((row? w b off n).getD #[])) w := run_loadAt_row hA hS w b off h
end Go.Proofs.Ythdjhbiigmcecaa

/- Go's structs as Lean values, and the cells that they take. Over any program. -/
namespace Go.Proofs.Ythdjhbiigmcecaa
open Go.RowKit

/-- 32 bytes -/
abbrev Hash := {l : List UInt8 // l.length = 32}
def zeroHash : Hash := ⟨List.replicate 32 0, by simp⟩
def byteV (b : UInt8) : Value := .int .u8 (b.toNat : Int)
def hashA (h : Hash) : Array Value := (h.1.map byteV).toArray
@[simp] theorem hashA_size (h : Hash) : (hashA h).size = 32 := by simp [hashA, h.2]

/-- api.Point -/
structure Pt where
  epoch : UInt64
  name : Hash
  deriving DecidableEq
def zeroPt : Pt := ⟨0, zeroHash⟩
def pointA (p : Pt) : Array Value := #[.int .u64 (p.epoch.toNat : Int)] ++ hashA p.name
@[simp] theorem pointA_size (p : Pt) : (pointA p).size = 33 := by simp [pointA]
@[simp] theorem pointA_epoch (p : Pt) : (pointA p)[0]? = some (.int .u64 (p.epoch.toNat : Int)) := by simp [pointA]
@[simp] theorem pointA_epoch' (p : Pt) (h) : (pointA p)[0]'h = .int .u64 (p.epoch.toNat : Int) := by simp [pointA]
@[simp] theorem pointA_name (p : Pt) : (pointA p).extract 1 33 = hashA p.name := by
  simp [pointA, Array.extract_append]

theorem ext_self {α : Type} (a : Array α) (n : Nat) (h : a.size ≤ n) : a.extract 0 n = a := Array.extract_eq_self_of_le h
theorem ext_none {α : Type} (a : Array α) (m n : Nat) (h : a.size ≤ m) : a.extract m n = #[] := Array.extract_empty_of_size_le_start h

@[simp] theorem pointA_all (p : Pt) : (pointA p).extract 0 33 = pointA p := ext_self _ _ (by simp)
@[simp] theorem hashA_all (h : Hash) : (hashA h).extract 0 32 = hashA h := ext_self _ _ (by simp)

/-- api.Link -/
structure Lnk where
  source : Pt
  target : Pt
  deriving DecidableEq
def linkA (l : Lnk) : Array Value := pointA l.source ++ pointA l.target
@[simp] theorem linkA_size (l : Lnk) : (linkA l).size = 66 := by simp [linkA]
@[simp] theorem linkA_source (l : Lnk) : (linkA l).extract 0 33 = pointA l.source := by
  simp [linkA, Array.extract_append, ext_self, ext_none]
@[simp] theorem linkA_target (l : Lnk) : (linkA l).extract 33 66 = pointA l.target := by
  simp [linkA, Array.extract_append, ext_self, ext_none]

@[simp] theorem linkA_all (l : Lnk) : (linkA l).extract 0 66 = linkA l := ext_self _ _ (by simp)

/-- a slice's head -/
structure Sl where
  a : Option Addr
  n : Nat
  c : Nat
abbrev Sl.v (s : Sl) : Value := .slice s.a s.n s.c

/-- api.Vote, as it lies in memory -/
structure GVote where
  validator : Int
  source : Pt
  target : Pt
  sig : Sl
def voteA (v : GVote) : Array Value := #[.int .i64 v.validator] ++ pointA v.source ++ pointA v.target ++ #[v.sig.v]
@[simp] theorem voteA_size (v : GVote) : (voteA v).size = 68 := by simp [voteA]
@[simp] theorem voteA_validator (v : GVote) : (voteA v)[0]? = some (.int .i64 v.validator) := by simp [voteA, Array.getElem?_append]
@[simp] theorem voteA_sig (v : GVote) : (voteA v)[67]? = some v.sig.v := by
  simp only [voteA]
  rw [Array.getElem?_append_right (by simp)]
  simp
@[simp] theorem voteA_validator' (v : GVote) (h) : (voteA v)[0]'h = .int .i64 v.validator := by simp [voteA, Array.getElem_append]
@[simp] theorem voteA_sig' (v : GVote) (h) : (voteA v)[67]'h = v.sig.v := by
  have := voteA_sig v
  rwa [Array.getElem?_eq_getElem h, Option.some.injEq] at this
@[simp] theorem voteA_source (v : GVote) : (voteA v).extract 1 34 = pointA v.source := by
  simp [voteA, Array.extract_append, ext_self, ext_none]
@[simp] theorem voteA_target (v : GVote) : (voteA v).extract 34 67 = pointA v.target := by
  simp [voteA, Array.extract_append, ext_self, ext_none]
@[simp] theorem voteA_all (v : GVote) : (voteA v).extract 0 68 = voteA v := ext_self _ _ (by simp)

/-- api.HeaderOp, as it lies in memory -/
structure GOp where
  kind : Int
  key : Hash
  stake : UInt64
  validator : Int
  evidence : Sl
def opA (o : GOp) : Array Value := #[.int .i64 o.kind] ++ hashA o.key ++ #[.int .u64 (o.stake.toNat : Int), .int .i64 o.validator, o.evidence.v]
@[simp] theorem opA_size (o : GOp) : (opA o).size = 36 := by simp [opA]
@[simp] theorem opA_all (o : GOp) : (opA o).extract 0 36 = opA o := ext_self _ _ (by simp)
@[simp] theorem opA_key (o : GOp) : (opA o).extract 1 33 = hashA o.key := by
  simp [opA, Array.extract_append, ext_self, ext_none]
theorem opA_tail (o : GOp) (i : Nat) : (opA o)[33 + i]? = #[.int .u64 (o.stake.toNat : Int), .int .i64 o.validator, o.evidence.v][i]? := by
  rw [opA, Array.getElem?_append_right (by simp)]
  simp
@[simp] theorem opA_kind (o : GOp) : (opA o)[0]? = some (.int .i64 o.kind) := by simp [opA, Array.getElem?_append]
@[simp] theorem opA_kind' (o : GOp) (h) : (opA o)[0]'h = .int .i64 o.kind := by simp [opA, Array.getElem_append]
@[simp] theorem opA_stake (o : GOp) : (opA o)[33]? = some (.int .u64 (o.stake.toNat : Int)) := opA_tail o 0
@[simp] theorem opA_stake' (o : GOp) (h) : (opA o)[33]'h = .int .u64 (o.stake.toNat : Int) := by
  have := opA_stake o
  rwa [Array.getElem?_eq_getElem h, Option.some.injEq] at this
@[simp] theorem opA_validator (o : GOp) : (opA o)[34]? = some (.int .i64 o.validator) := opA_tail o 1
@[simp] theorem opA_validator' (o : GOp) (h) : (opA o)[34]'h = .int .i64 o.validator := by
  have := opA_validator o
  rwa [Array.getElem?_eq_getElem h, Option.some.injEq] at this
@[simp] theorem opA_evidence (o : GOp) : (opA o)[35]? = some o.evidence.v := opA_tail o 2
@[simp] theorem opA_evidence' (o : GOp) (h) : (opA o)[35]'h = o.evidence.v := by
  have := opA_evidence o
  rwa [Array.getElem?_eq_getElem h, Option.some.injEq] at this

/-- api.Header, as it lies in memory -/
structure GHeader where
  parent : Hash
  epoch : UInt64
  ops : Sl
def headerA (o : GHeader) : Array Value := hashA o.parent ++ #[.int .u64 (o.epoch.toNat : Int), o.ops.v]
@[simp] theorem headerA_size (o : GHeader) : (headerA o).size = 34 := by simp [headerA]
@[simp] theorem headerA_all (o : GHeader) : (headerA o).extract 0 34 = headerA o := ext_self _ _ (by simp)
@[simp] theorem headerA_parent (o : GHeader) : (headerA o).extract 0 32 = hashA o.parent := by
  simp [headerA, Array.extract_append, ext_self, ext_none]
theorem headerA_tail (o : GHeader) (i : Nat) : (headerA o)[32 + i]? = #[.int .u64 (o.epoch.toNat : Int), o.ops.v][i]? := by
  rw [headerA, Array.getElem?_append_right (by simp)]
  simp
@[simp] theorem headerA_epoch (o : GHeader) : (headerA o)[32]? = some (.int .u64 (o.epoch.toNat : Int)) := headerA_tail o 0
@[simp] theorem headerA_epoch' (o : GHeader) (h) : (headerA o)[32]'h = .int .u64 (o.epoch.toNat : Int) := by
  have := headerA_epoch o
  rwa [Array.getElem?_eq_getElem h, Option.some.injEq] at this
@[simp] theorem headerA_ops (o : GHeader) : (headerA o)[33]? = some o.ops.v := headerA_tail o 1
@[simp] theorem headerA_ops' (o : GHeader) (h) : (headerA o)[33]'h = o.ops.v := by
  have := headerA_ops o
  rwa [Array.getElem?_eq_getElem h, Option.some.injEq] at this
end Go.Proofs.Ythdjhbiigmcecaa

/- Loads of structs and arrays as a whole, for the walk. -/
namespace Go.Proofs.Ythdjhbiigmcecaa
open Go.RowKit

theorem load_point_s (x : Value) : Instr.loadAt 26 x = loadAgg 26 x := rfl
theorem load_point (w : World) (b off : Nat) (h : (row? w b off 33).isSome = true) : (loadAgg 26 (.pointer (some ⟨b, off, none⟩))).run Try.prog w = .ok (.agg ((row? w b off 33).getD #[])) w := run_loadAgg Try.isAgg26 Try.sizeOf26 w b off h
attribute [go_sem ↓] load_point_s
attribute [go_sem] load_point
theorem load_hash_s (x : Value) : Instr.loadAt 24 x = loadAgg 24 x := rfl
theorem load_hash (w : World) (b off : Nat) (h : (row? w b off 32).isSome = true) : (loadAgg 24 (.pointer (some ⟨b, off, none⟩))).run Try.prog w = .ok (.agg ((row? w b off 32).getD #[])) w := run_loadAgg Try.isAgg24 Try.sizeOf24 w b off h
attribute [go_sem ↓] load_hash_s
attribute [go_sem] load_hash
theorem load_arr32_s (x : Value) : Instr.loadAt 23 x = loadAgg 23 x := rfl
theorem load_arr32 (w : World) (b off : Nat) (h : (row? w b off 32).isSome = true) : (loadAgg 23 (.pointer (some ⟨b, off, none⟩))).run Try.prog w = .ok (.agg ((row? w b off 32).getD #[])) w := run_loadAgg Try.isAgg23 Try.sizeOf23 w b off h
attribute [go_sem ↓] load_arr32_s
attribute [go_sem] load_arr32
theorem load_link_s (x : Value) : Instr.loadAt 28 x = loadAgg 28 x := rfl
theorem load_link (w : World) (b off : Nat) (h : (row? w b off 66).isSome = true) : (loadAgg 28 (.pointer (some ⟨b, off, none⟩))).run Try.prog w = .ok (.agg ((row? w b off 66).getD #[])) w := run_loadAgg Try.isAgg28 Try.sizeOf28 w b off h
attribute [go_sem ↓] load_link_s
attribute [go_sem] load_link
theorem load_vote_s (x : Value) : Instr.loadAt 99 x = loadAgg 99 x := rfl
theorem load_vote (w : World) (b off : Nat) (h : (row? w b off 68).isSome = true) : (loadAgg 99 (.pointer (some ⟨b, off, none⟩))).run Try.prog w = .ok (.agg ((row? w b off 68).getD #[])) w := run_loadAgg Try.isAgg99 Try.sizeOf99 w b off h
attribute [go_sem ↓] load_vote_s
attribute [go_sem] load_vote
theorem load_hop_s (x : Value) : Instr.loadAt 97 x = loadAgg 97 x := rfl
theorem load_hop (w : World) (b off : Nat) (h : (row? w b off 36).isSome = true) : (loadAgg 97 (.pointer (some ⟨b, off, none⟩))).run Try.prog w = .ok (.agg ((row? w b off 36).getD #[])) w := run_loadAgg Try.isAgg97 Try.sizeOf97 w b off h
attribute [go_sem ↓] load_hop_s
attribute [go_sem] load_hop
theorem load_header_s (x : Value) : Instr.loadAt 49 x = loadAgg 49 x := rfl
theorem load_header (w : World) (b off : Nat) (h : (row? w b off 34).isSome = true) : (loadAgg 49 (.pointer (some ⟨b, off, none⟩))).run Try.prog w = .ok (.agg ((row? w b off 34).getD #[])) w := run_loadAgg Try.isAgg49 Try.sizeOf49 w b off h
attribute [go_sem ↓] load_header_s
attribute [go_sem] load_header
attribute [go_sem] row?_new row?_old row?_drew row?_drewN row?_far
end Go.Proofs.Ythdjhbiigmcecaa

/- What slices hold: bytes, and structs of any size. Over any program. -/
namespace Go.Proofs.Ythdjhbiigmcecaa
open Go.RowKit

theorem lt_of_cell {w : World} {b o : Nat} {v : Value} (h : w.cell? ⟨b, o, none⟩ = some v) : b < w.heap.size := block_lt_of_cell h
theorem lt_of_row {w : World} {b off n : Nat} {l : Array Value} (h : row? w b off n = some l) : b < w.heap.size := by
  obtain ⟨cs, t, fr, hg, _⟩ := row?_some h
  rcases Nat.lt_or_ge b w.heap.size with hlt | hge
  · exact hlt
  · rw [Array.getElem?_eq_none hge] at hg; cases hg

theorem cell_alloc (w : World) (cs : Array Value) (t : TypeId) (b i : Nat) : (w.alloc (.cells cs t)).cell? ⟨b, i, none⟩ = if b = w.heap.size then cs[i]? else w.cell? ⟨b, i, none⟩ := by
  split
  · rename_i h; subst h; simp
  · rename_i h; exact World.cell?_alloc_old w _ ⟨b, i, none⟩ h
theorem cell_drewN (w : World) (n : Nat) (a : Addr) : (w.drewN n).cell? a = w.cell? a := rfl

/-- a slice of bytes -/
def BytesR (w : World) (s : Sl) (l : List UInt8) : Prop :=
  s.n = l.length ∧ s.n ≤ s.c ∧ (l ≠ [] → ∃ b off, s.a = some ⟨b, off, none⟩ ∧ ∀ (i : Nat) (h : i < l.length), w.cell? ⟨b, off + i, none⟩ = some (byteV l[i]))
/-- a slice of structs of k cells each -/
def SlR {α : Type} (k : Nat) (R : Array Value → α → Prop) (w : World) (s : Sl) (l : List α) : Prop :=
  s.n = l.length ∧ s.n ≤ s.c ∧ (l ≠ [] → ∃ b off, s.a = some ⟨b, off, none⟩ ∧ ∀ (i : Nat) (h : i < l.length), ∃ cs, row? w b (off + i * k) k = some cs ∧ R cs l[i])

theorem BytesR.nil (w : World) (a : Option Addr) (c : Nat) : BytesR w ⟨a, 0, c⟩ [] := ⟨rfl, Nat.zero_le _, fun h => absurd rfl h⟩
theorem BytesR.keep {w w' : World} {s : Sl} {l : List UInt8} (h : BytesR w s l) (hb : Below w.heap.size w w') : BytesR w' s l :=
  ⟨h.1, h.2.1, fun hl => by
    obtain ⟨b, off, ha, hc⟩ := h.2.2 hl
    exact ⟨b, off, ha, fun i hi => (hb.cell (p := ⟨b, off + i, none⟩) (lt_of_cell (hc i hi))).trans (hc i hi)⟩⟩
theorem SlR.keep {α : Type} {k : Nat} {R R' : Array Value → α → Prop} {w w' : World} {s : Sl} {l : List α} (h : SlR k R w s l) (hb : Below w.heap.size w w') (hR : ∀ cs x, R cs x → R' cs x) : SlR k R' w' s l :=
  ⟨h.1, h.2.1, fun hl => by
    obtain ⟨b, off, ha, hc⟩ := h.2.2 hl
    refine ⟨b, off, ha, fun i hi => ?_⟩
    obtain ⟨cs, h1, h2⟩ := hc i hi
    exact ⟨cs, (row?_below _ _ _ hb (lt_of_row h1)).trans h1, hR _ _ h2⟩⟩
theorem SlR.nil {α : Type} (k : Nat) (R : Array Value → α → Prop) (w : World) (a : Option Addr) (c : Nat) : SlR k R w ⟨a, 0, c⟩ [] := ⟨rfl, Nat.zero_le _, fun h => absurd rfl h⟩

theorem BytesR.at {w : World} {s : Sl} {l : List UInt8} (h : BytesR w s l) (hl : 0 < l.length) : ∃ b off, s = ⟨some ⟨b, off, none⟩, l.length, s.c⟩ ∧ b < w.heap.size ∧ ∀ (i : Nat) (h : i < l.length), w.cell? ⟨b, off + i, none⟩ = some (byteV l[i]) := by
  obtain ⟨b, off, ha, hc⟩ := h.2.2 (by intro e; subst e; simp at hl)
  refine ⟨b, off, ?_, lt_of_cell (hc 0 hl), hc⟩
  cases s
  simp only at ha
  have := h.1
  simp_all
theorem SlR.at {α : Type} {k : Nat} {R : Array Value → α → Prop} {w : World} {s : Sl} {l : List α} (h : SlR k R w s l) (hl : 0 < l.length) : ∃ b off, s = ⟨some ⟨b, off, none⟩, l.length, s.c⟩ ∧ b < w.heap.size ∧ ∀ (i : Nat) (h : i < l.length), ∃ cs, row? w b (off + i * k) k = some cs ∧ R cs l[i] := by
  obtain ⟨b, off, ha, hc⟩ := h.2.2 (by intro e; subst e; simp at hl)
  obtain ⟨cs, h1, _⟩ := hc 0 hl
  refine ⟨b, off, ?_, lt_of_row h1, hc⟩
  cases s
  simp only at ha
  have := h.1
  simp_all

theorem setCells_size (g : Nat) : ∀ (vs : List Value) (o : Nat) (w : World), (w.setCells g o vs).heap.size = w.heap.size
  | [], _, _ => rfl
  | a :: r, o, w => by rw [World.setCells, setCells_size g r]; simp
theorem setCells_far (g : Nat) : ∀ (vs : List Value) (o : Nat) (w : World) (b : Nat), b ≠ g → (w.setCells g o vs).heap[b]? = w.heap[b]?
  | [], _, _, _, _ => rfl
  | a :: r, o, w, b, hb => by rw [World.setCells, setCells_far g r _ _ b hb]; exact Below.heap_setCell w ⟨g, o, none⟩ a b hb
theorem setCells_misc (g : Nat) : ∀ (vs : List Value) (o : Nat) (w : World), (w.setCells g o vs).os = w.os ∧ (w.setCells g o vs).tape = w.tape ∧ (w.setCells g o vs).output = w.output
  | [], _, _ => ⟨rfl, rfl, rfl⟩
  | a :: r, o, w => by rw [World.setCells]; exact setCells_misc g r _ _

/-- a slice of n elements of k cells each, of the call's own: at the head of a block that nothing else has, with room to write up to its capacity -/
def OwnC (w : World) (base k : Nat) (v : Value) (n : Nat) (xs : List Value) : Prop :=
  xs.length = n * k ∧ ((v = .slice none 0 0 ∧ n = 0) ∨
    ∃ g cap, v = .slice (some ⟨g, 0, none⟩) n cap ∧ base ≤ g ∧ g < w.heap.size ∧ n ≤ cap ∧ cap ≤ maxLen ∧ (∀ j, j < cap * k → (w.cell? ⟨g, j, none⟩).isSome = true) ∧ (∀ j, j < cap * k → w.frozen? ⟨g, j, none⟩ = false) ∧
      ∀ j u, xs[j]? = some u → w.cell? ⟨g, j, none⟩ = some u)
theorem OwnC.nil (w : World) (base k : Nat) : OwnC w base k (.slice none 0 0) 0 [] := ⟨by simp, .inl ⟨rfl, rfl⟩⟩
theorem OwnC.of_row {w : World} {base : Nat} {e : TypeId} {k n : Nat} {v : Value} {xs : List Value} (h : w.ownsRow base e k v n xs) : OwnC w base k v n xs := by
  refine ⟨h.1, ?_⟩
  rcases h.2 with h2 | ⟨g, cap, cur, hv, hb, hg, hn, hm, hs, ht⟩
  · exact .inl h2
  · refine .inr ⟨g, cap, hv, hb, ?_, hn, hm, fun j hj => ?_, fun j _ => frozen_of_row w g j cur e hg, fun j u hu => ?_⟩
    · rcases Nat.lt_or_ge g w.heap.size with hlt | hge
      · exact hlt
      · rw [Array.getElem?_eq_none hge] at hg; cases hg
    · rw [cell_of_row w g j cur e _ hg]; simp; omega
    · rw [cell_of_row w g j cur e _ hg]
      rw [← ht, List.getElem?_take] at hu
      split at hu
      · simpa using hu
      · cases hu
theorem OwnC.keep {w w' : World} {base k n : Nat} {v : Value} {xs : List Value} (h : OwnC w base k v n xs) (hb : Below w.heap.size w w') : OwnC w' base k v n xs := by
  refine ⟨h.1, ?_⟩
  rcases h.2 with h2 | ⟨g, cap, hv, h1, hg, hn, hm, hc, hf, hx⟩
  · exact .inl h2
  · have e1 := fun j => hb.cell (p := ⟨g, j, none⟩) hg
    have e2 := fun j => hb.frozen (p := ⟨g, j, none⟩) hg
    exact .inr ⟨g, cap, hv, h1, Nat.lt_of_lt_of_le hg hb.size, hn, hm, fun j hj => by rw [e1]; exact hc j hj, fun j hj => by rw [e2]; exact hf j hj, fun j u hu => by rw [e1]; exact hx j u hu⟩
theorem OwnC.more {w : World} {base base' k n : Nat} {v : Value} {xs : List Value} (h : OwnC w base k v n xs) (hb : base' ≤ base) : OwnC w base' k v n xs := by
  refine ⟨h.1, ?_⟩
  rcases h.2 with h2 | ⟨g, cap, hv, h1, r⟩
  · exact .inl h2
  · exact .inr ⟨g, cap, hv, by omega, r⟩
theorem OwnC.slice {w : World} {base k n : Nat} {v : Value} {xs : List Value} (h : OwnC w base k v n xs) : ∃ s : Sl, v = s.v := by
  rcases h.2 with ⟨hv, _⟩ | ⟨g, cap, hv, _⟩
  · exact ⟨⟨none, 0, 0⟩, hv⟩
  · exact ⟨⟨some ⟨g, 0, none⟩, n, cap⟩, hv⟩
theorem OwnC.lt {w : World} {base k n : Nat} {v : Value} {xs : List Value} (h : OwnC w base k v n xs) : ∀ g, v.ownBlock = some g → base ≤ g ∧ g < w.heap.size := by
  rcases h.2 with ⟨rfl, _⟩ | ⟨g, cap, rfl, h1, h2, _⟩
  · intro g hg; simp [Value.ownBlock] at hg
  · intro g' hg; simp [Value.ownBlock] at hg; omega

section
variable {P : Program} (w : World)
/-- append onto a row of the call's own, whatever is appended -/
theorem run_append_ownC (base : Nat) (t tx ty e : TypeId) (i : TypeInfo) (z : Value) (k bytes : Nat) (ht : P.underlying t = some (.slice e)) (hi : P.info? e = some i) (hz : i.zero = some z)
    (hsize : i.size = k) (hby : i.bytes = bytes) (hzs : z.cells.size = k)
    (v : Value) (n : Nat) (xs : List Value) (hown : OwnC w base k v n xs) (x : Value) (m : Nat) (news : List Value) (hs : Src P k tx x m news w)
    (h63 : n + m ≤ maxLen) (hbytes : (n + m) * bytes ≤ 140737488355328) (hbase : base ≤ w.heap.size) :
    ∃ v' w', (Builtin.append_ #[t, tx] ty #[v, x]).run P w = .ok v' w' ∧ OwnC w' base k v' (n + m) (xs ++ news) ∧ w.grownBy w' v.ownBlock ∧
      (v'.ownBlock = v.ownBlock ∨ v'.ownBlock = some w.heap.size) := by
  subst hsize
  subst hby
  have hlen : (xs ++ news).length = (n + m) * i.size := by rw [List.length_append, hown.1, hs.newsLen, Nat.add_mul]
  have hm64 : n + m ≤ 9223372036854775807 := by simp only [maxLen] at h63; omega
  have grown : ∀ (old : Nat) (row : Option Nat),
      OwnC (w.drew.alloc (.cells ((xs ++ news).toArray ++ Builtin.zeroCells z.cells (grownCap w (n + m) old e - (n + m))) e)) base i.size
        (.slice (some ⟨w.heap.size, 0, none⟩) (n + m) (grownCap w (n + m) old e)) (n + m) (xs ++ news) ∧
      w.grownBy (w.drew.alloc (.cells ((xs ++ news).toArray ++ Builtin.zeroCells z.cells (grownCap w (n + m) old e - (n + m))) e)) row := by
    intro old row
    have hge := grownCap_ge w (n + m) old e
    have hcm : grownCap w (n + m) old e ≤ maxLen := grownCap_le_maxLen w (n + m) old e h63
    refine ⟨OwnC.of_row (e := e) ⟨hlen, .inr ⟨w.heap.size, _, _, rfl, hbase, heap_alloc_new w.drew _, hge, hcm, ?_, ?_⟩⟩, ⟨rfl, rfl, rfl, by simp, fun k hk _ => Below.heap_alloc w.drew _ k hk⟩⟩
    · simp only [Array.size_append, List.size_toArray, size_zeroCells, hzs, hlen, ← Nat.add_mul]
      congr 1
      omega
    · simp only [Array.toList_append]
      rw [← hlen]
      exact List.take_left
  rcases hown.2 with ⟨rfl, rfl⟩ | ⟨g, cap, rfl, hbg, hglt, hnc, hcm, hc, hf, hx⟩
  · have hx : xs = [] := List.eq_nil_of_length_eq_zero (by simpa using hown.1)
    subst hx
    by_cases hm : m = 0
    · subst hm
      have hn : news = [] := List.eq_nil_of_length_eq_zero (by simpa using hs.newsLen)
      subst hn
      refine ⟨.slice none 0 0, w, ?_, OwnC.nil _ _ _, World.grownBy.refl _ _, .inl rfl⟩
      have h1 := hs.len w
      have h2 := hs.cells
      rcases hs.kind with ⟨e', hk⟩ | hk <;> simp [Builtin.append_, run_underlying ht, run_underlying hk, sizeOf, typeInfo, hi, h1, h2]
    · have hr := run_append_grow_src (P := P) w t tx ty e i z ht hi hz none 0 0 [] (by simp [Builtin.firstCells]) x m news hs (by omega) (by omega) (growslice_fits (by omega) hbytes)
      have hgr := grown 0 (Value.ownBlock (.slice none 0 0))
      exact ⟨_, _, hr, hgr.1, hgr.2, .inr rfl⟩
  · by_cases hroom : n + m ≤ cap
    · have hfit : ∀ j, j < news.length → 0 + n * i.size + j < cap * i.size := by
        intro j hj
        rw [hs.newsLen] at hj
        have : (n + m) * i.size ≤ cap * i.size := Nat.mul_le_mul_right _ hroom
        rw [Nat.add_mul] at this
        omega
      have hr := run_append_room_src (P := P) w t tx ty e i ht hi g 0 n cap x m news hs hroom (fun j hj => hc _ (hfit j hj)) (fun j hj => hf _ (hfit j hj))
      have hin := World.cell?_setCells_in g news (0 + n * i.size) w (fun j hj => hc _ (hfit j hj))
      have hsize := setCells_size g news (0 + n * i.size) w
      have hblk := fun b hb => setCells_far g news (0 + n * i.size) w b hb
      have hmisc := setCells_misc g news (0 + n * i.size) w
      refine ⟨_, _, hr, ⟨hlen, .inr ⟨g, cap, rfl, hbg, by rw [hsize]; exact hglt, hroom, hcm, fun j hj => ?_, fun j hj => by rw [World.frozen?_setCells]; exact hf j hj, fun j u hu => ?_⟩⟩,
        ⟨hmisc.1, hmisc.2.1, hmisc.2.2, by rw [hsize]; exact Nat.le_refl _, fun k _ hk => hblk k (fun e => hk (by rw [e]; rfl))⟩, .inl rfl⟩
      · by_cases hin' : 0 + n * i.size ≤ j ∧ j < 0 + n * i.size + news.length
        · have := hin (j - (0 + n * i.size)) (by omega)
          rw [show 0 + n * i.size + (j - (0 + n * i.size)) = j by omega] at this
          rw [this]; rfl
        · rw [World.cell?_setCells_out g news _ w _ (fun _ _ => by simp only; omega)]
          exact hc j hj
      · have hj : j < xs.length + news.length := by
          rcases Nat.lt_or_ge j (xs.length + news.length) with h | h
          · exact h
          · rw [List.getElem?_eq_none (by simpa using h)] at hu; cases hu
        by_cases hjx : j < xs.length
        · rw [List.getElem?_append_left hjx] at hu
          rw [World.cell?_setCells_out g news _ w _ (fun _ _ => by simp only; rw [hown.1] at hjx; omega)]
          exact hx j u hu
        · rw [List.getElem?_append_right (by omega), hown.1] at hu
          have hjl : j - n * i.size < news.length := by rw [hown.1] at hj hjx; omega
          have := hin (j - n * i.size) hjl
          rw [show 0 + n * i.size + (j - n * i.size) = j by rw [hown.1] at hjx; omega] at this
          rw [this, ← hu, List.getElem?_eq_getElem hjl]
    · have hold : (Builtin.firstCells i.size n (.slice (some ⟨g, 0, none⟩) n cap)).run P w.drew = .ok xs.toArray w.drew := by
        exact run_firstCells_some (P := P) w.drew i.size n ⟨g, 0, none⟩ n cap xs hown.1 (fun j u hu => by
          have hadd : (⟨g, 0, none⟩ : Addr).add j = ⟨g, j, none⟩ := by unfold Addr.add; split <;> simp_all
          rw [hadd]; exact hx j u hu)
      have hr := run_append_grow_src (P := P) w t tx ty e i z ht hi hz (some ⟨g, 0, none⟩) n cap xs hold x m news hs (by omega) (by omega) (growslice_fits (by omega) hbytes)
      have hgr := grown cap (Value.ownBlock (.slice (some ⟨g, 0, none⟩) n cap))
      exact ⟨_, _, hr, hgr.1, hgr.2, .inr rfl⟩

theorem wp_append_ownC {o : Oper} {a : Act} {K : Act → World → Prop} {Q : Exit → Act → World → Prop} (px py : Operand) (t tx : TypeId)
    (ho : o.op = .call { callee := .builtin .append, args := #[px, py], argTypes := #[t, tx] })
    (base : Nat) (e : TypeId) (i : TypeInfo) (z : Value) (k bytes : Nat) (ht : P.underlying t = some (.slice e)) (hi : P.info? e = some i) (hz : i.zero = some z)
    (hsize : i.size = k) (hby : i.bytes = bytes) (hzs : z.cells.size = k)
    (v : Value) (n : Nat) (xs : List Value) (hv : a.eval px = v) (hown : OwnC w base k v n xs) (x : Value) (m : Nat) (news : List Value) (hx : a.eval py = x) (hs : Src P k tx x m news w)
    (h63 : n + m ≤ maxLen) (hbytes : (n + m) * bytes ≤ 140737488355328) (hbase : base ≤ w.heap.size)
    (h : ∀ v' w', OwnC w' base k v' (n + m) (xs ++ news) → w.grownBy w' v.ownBlock → (v'.ownBlock = v.ownBlock ∨ v'.ownBlock = some w.heap.size) → K (a.put o.dst v') w') : o.wp P a w K Q := by
  obtain ⟨v', w', hrun, h2, h3, h4⟩ := run_append_ownC (P := P) w base t tx o.type e i z k bytes ht hi hz hsize hby hzs v n xs hown x m news hs h63 hbytes hbase
  unfold Oper.wp execOp
  simp only [ho, resolve, invoke, builtin, Sem.run_bind, Sem.run_pure, Result.andThen_ok, List.map_toArray, List.map_cons, List.map_nil, hv, hx, hrun]
  exact h v' w' h2 h3 h4
theorem wpList_append_ownC {ops : Array Oper} {rest : List Oper} {o : Oper} {a : Act} {Q : Exit → Act → World → Prop} (hgd : o.guard = none) (px py : Operand) (t tx : TypeId)
    (ho : o.op = .call { callee := .builtin .append, args := #[px, py], argTypes := #[t, tx] })
    (base : Nat) (e : TypeId) (i : TypeInfo) (z : Value) (k bytes : Nat) (ht : P.underlying t = some (.slice e)) (hi : P.info? e = some i) (hz : i.zero = some z)
    (hsize : i.size = k) (hby : i.bytes = bytes) (hzs : z.cells.size = k)
    (v : Value) (n : Nat) (xs : List Value) (hv : a.eval px = v) (hown : OwnC w base k v n xs) (x : Value) (m : Nat) (news : List Value) (hx : a.eval py = x) (hs : Src P k tx x m news w)
    (h63 : n + m ≤ maxLen) (hbytes : (n + m) * bytes ≤ 140737488355328) (hbase : base ≤ w.heap.size)
    (h : ∀ v' w', OwnC w' base k v' (n + m) (xs ++ news) → w.grownBy w' v.ownBlock → (v'.ownBlock = v.ownBlock ∨ v'.ownBlock = some w.heap.size) → wpList P ops Q rest (a.put o.dst v') w') : wpList P ops Q (o :: rest) a w :=
  wpList_plain hgd fun _ hK => wp_append_ownC w px py t tx ho base e i z k bytes ht hi hz hsize hby hzs v n xs hv hown x m news hx hs h63 hbytes hbase fun v' w' h2 h3 h4 => hK _ _ (h v' w' h2 h3 h4)
end

/-- a slice of bytes of the call's own -/
def Own (w : World) (base : Nat) (v : Value) (l : List UInt8) : Prop := OwnC w base 1 v l.length (l.map byteV)
theorem Own.nil (w : World) (base : Nat) : Own w base (.slice none 0 0) [] := OwnC.nil _ _ _
theorem Own.keep {w w' : World} {base : Nat} {v : Value} {l : List UInt8} (h : Own w base v l) (hb : Below w.heap.size w w') : Own w' base v l := OwnC.keep h hb
theorem Own.more {w : World} {base base' : Nat} {v : Value} {l : List UInt8} (h : Own w base v l) (hb : base' ≤ base) : Own w base' v l := OwnC.more h hb
theorem Own.slice {w : World} {base : Nat} {v : Value} {l : List UInt8} (h : Own w base v l) : ∃ s : Sl, v = s.v := OwnC.slice h
theorem Own.reads {w : World} {base : Nat} {s : Sl} {l : List UInt8} (h : Own w base s.v l) : BytesR w s l := by
  obtain ⟨hl, h⟩ := h
  rcases h with ⟨hv, hn⟩ | ⟨g, cap, hv, _, _, hn, _, _, _, hx⟩
  · injection hv with h1 h2 h3
    have : l = [] := List.eq_nil_of_length_eq_zero hn
    subst this
    exact ⟨h2, by omega, fun h => absurd rfl h⟩
  · injection hv with h1 h2 h3
    refine ⟨h2, by omega, fun _ => ⟨g, 0, h1, fun i hi => ?_⟩⟩
    rw [Nat.zero_add]
    exact hx i _ (by simp [hi])
/-- a new block of bytes -/
theorem Own.lit (w : World) (base : Nat) (l : List UInt8) (cs : Array Value) (e : TypeId) (n : Nat) (hcs : cs = (l.map byteV).toArray) (hn : n = l.length) (hb : base ≤ w.heap.size) (hm : l.length ≤ maxLen) :
    Own (w.alloc (.cells cs e)) base (.slice (some ⟨w.heap.size, 0, none⟩) n n) l := by
  subst hcs
  subst hn
  exact ⟨by simp, .inr ⟨w.heap.size, _, rfl, hb, by simp, Nat.le_refl _, hm, fun j hj => by simp at hj ⊢; omega, fun j _ => frozen_of_row _ w.heap.size j _ e (heap_alloc_new w _), fun j u hu => by simpa using hu⟩⟩

section
variable {P : Program}
/-- a slice of bytes as a source of append -/
theorem BytesR.src {w : World} {s : Sl} {l : List UInt8} (h : BytesR w s l) {t e : TypeId} (ht : P.underlying t = some (.slice e)) : Src P 1 t s.v l.length (l.map byteV) w := by
  by_cases hl : l = []
  · subst hl
    obtain ⟨a, n, c⟩ := s
    obtain rfl : n = 0 := h.1
    refine ⟨.inl ⟨_, ht⟩, fun _ => rfl, ?_, ?_, by simp, by simp⟩ <;> cases a <;> simp [Builtin.firstCells, loadCells, loadCellsFrom]
  · obtain ⟨b, off, ha, hc⟩ := h.2.2 hl
    obtain ⟨a, n, c⟩ := s
    simp only at ha
    subst ha
    obtain rfl : n = l.length := h.1
    exact Src.ofSlice w ht ⟨b, off, none⟩ l.length c (l.map byteV) (by simp) (fun j u hu => by
        have hj : j < l.length := by
          rcases Nat.lt_or_ge j l.length with hj | hj
          · exact hj
          · rw [List.getElem?_eq_none (by simpa using hj)] at hu; cases hu
        have hadd : (⟨b, off, none⟩ : Addr).add j = ⟨b, off + j, none⟩ := by unfold Addr.add; split <;> simp_all
        rw [hadd, hc j hj]
        simpa [hj] using hu) (fun u hu => by
        obtain ⟨x, _, rfl⟩ := List.mem_map.1 hu
        rfl)
theorem wpList_append_bytes (w : World) {ops : Array Oper} {rest : List Oper} {o : Oper} {a : Act} {Q : Exit → Act → World → Prop} (hgd : o.guard = none) (x y : Operand) (t : TypeId)
    (ho : o.op = .call { callee := .builtin .append, args := #[x, y], argTypes := #[t, t] })
    (base : Nat) (e : TypeId) (i : TypeInfo) (z : Value) (ht : P.underlying t = some (.slice e)) (hi : P.info? e = some i) (hz : i.zero = some z)
    (hsize : i.size = 1) (hby : i.bytes = 1) (hzs : z.cells.size = 1)
    (v : Value) (l : List UInt8) (hv : a.eval x = v) (hown : Own w base v l) (s : Sl) (m : List UInt8) (hs : a.eval y = s.v) (hr : BytesR w s m)
    (hlen : l.length + m.length ≤ 140737488355328) (hbase : base ≤ w.heap.size)
    (h : ∀ v' w', Own w' base v' (l ++ m) → w.grownBy w' v.ownBlock → (v'.ownBlock = v.ownBlock ∨ v'.ownBlock = some w.heap.size) → wpList P ops Q rest (a.put o.dst v') w') : wpList P ops Q (o :: rest) a w :=
  wpList_append_ownC w hgd x y t t ho base e i z 1 1 ht hi hz hsize hby hzs v l.length (l.map byteV) hv hown s.v m.length (m.map byteV) hs (hr.src ht) (by simp only [maxLen]; omega) (by omega) hbase
    fun v' w' h2 h3 h4 => h v' w' (by simpa [Own] using h2) h3 h4
theorem step_append_bytes (w : World) {ops : Array Oper} {o : Oper} {a : Act} {K : Act → World → Prop} {Q : Exit → Act → World → Prop} {E : Prop} (hgd : o.guard = none) (x y : Operand) (t : TypeId)
    (ho : o.op = .call { callee := .builtin .append, args := #[x, y], argTypes := #[t, t] })
    (base : Nat) (e : TypeId) (i : TypeInfo) (z : Value) (ht : P.underlying t = some (.slice e)) (hi : P.info? e = some i) (hz : i.zero = some z)
    (hsize : i.size = 1) (hby : i.bytes = 1) (hzs : z.cells.size = 1)
    (v : Value) (l : List UInt8) (hv : a.eval x = v) (hown : Own w base v l) (s : Sl) (m : List UInt8) (hs : a.eval y = s.v) (hr : BytesR w s m)
    (hlen : l.length + m.length ≤ 140737488355328) (hbase : base ≤ w.heap.size)
    (h : ∀ v' w', Own w' base v' (l ++ m) → w.grownBy w' v.ownBlock → (v'.ownBlock = v.ownBlock ∨ v'.ownBlock = some w.heap.size) → K (a.put o.dst v') w') :
    if Region.wanted o (yielded ops a.tmps) = true then Oper.wp P o a w K Q else E := by
  have hw : Region.wanted o (yielded ops a.tmps) = true := by simp [Region.wanted, hgd]
  rw [if_pos hw]
  exact wp_append_ownC w x y t t ho base e i z 1 1 ht hi hz hsize hby hzs v l.length (l.map byteV) hv hown s.v m.length (m.map byteV) hs (hr.src ht) (by simp only [maxLen]; omega) (by omega) hbase
    fun v' w' h2 h3 h4 => h v' w' (by simpa [Own] using h2) h3 h4
end
end Go.Proofs.Ythdjhbiigmcecaa

/- Contracts: codec.MayPoint, mayMember, MayVote. -/
namespace Go.Proofs.Ythdjhbiigmcecaa
open Go.RowKit


def mayPt (p : Pt) : Bool := decide (p.epoch.toNat ≤ 4611686018427387904)
def mayMem (n : Int) : Bool := decide (1 ≤ n ∧ n ≤ 64)
def mayV (v : GVote) : Bool := mayMem v.validator && mayPt v.source && mayPt v.target && decide (v.sig.n ≤ 4096)

theorem mayPoint_c (p : Pt) (w : World) : Calls Try.prog 129 #[.agg (pointA p)] w fun e w' => e = .returned (.bool (mayPt p)) ∧ Below w.heap.size w w' := by
  go_enter Try.func129, Try.ntmps129
  go_wp2_with fail
  go_ret
  exact ⟨ret_bool (by simp [mayPt]; omega), by (repeat' (first | (with_reducible exact Below.refl _ _) | (with_reducible assumption) | (with_reducible refine bel_trans (by assumption) ?_ ?_) | (with_reducible refine bel_grown (by assumption) ?_ ?_ ?_) | (with_reducible refine Below.alloc ?_ ?_ _) | (with_reducible refine Below.drew ?_) | (with_reducible refine below_drewN ?_ _) | (with_reducible refine Below.setCell ?_ ?_ _) | (with_reducible refine below_put ?_ ?_ _ _) | (with_reducible exact Nat.le_refl _) | omega | (with_reducible refine Nat.le_trans ?_ (Below.size (by assumption))) | (with_reducible refine Nat.le_trans ?_ (World.grownBy.size (by assumption))) | (simp only [World.size_alloc, World.size_setCell, World.size_drew, size_drewN]; omega) | (simp only [World.size_alloc, World.size_setCell, World.size_drew, size_drewN, size_put]; omega) | (intro k hk; simp [Value.ownBlock] at hk; done) | (intro k hk; simp [Value.ownBlock] at hk; omega) | (simp [size_drewN] at *; omega)))⟩
theorem mayMember_c (n : Int) (w : World) : Calls Try.prog 160 #[.int .i64 n] w fun e w' => e = .returned (.bool (mayMem n)) ∧ Below w.heap.size w w' := by
  go_enter Try.func160, Try.ntmps160
  go_wp2_with fail
  all_goals go_ret
  · exact ⟨ret_bool (by simp [*, mayMem]), Below.refl _ _⟩
  · exact ⟨ret_bool (by simp [mayMem]; omega), Below.refl _ _⟩

set_option maxRecDepth 100000 in
theorem mayVote_c (v : GVote) (w : World) : Calls Try.prog 136 #[.agg (voteA v)] w fun e w' => e = .returned (.bool (mayV v)) ∧ Below w.heap.size w w' := by
  go_enter Try.func136, Try.ntmps136
  go_wp2_with (first
    | (go_at_call 160; refine (mayMember_c _ _).mono ?_; rintro e w1 ⟨rfl, hb⟩; obtain ⟨k1, k2, k3⟩ := kept hb; have hz : w.heap.size < w1.heap.size := by (have := hb.size; simp at this; omega))
    | (go_at_call 129; refine (mayPoint_c _ _).mono ?_; rintro e w1 ⟨rfl, hb⟩; obtain ⟨k1, k2, k3⟩ := kept hb; have hz : w.heap.size < w1.heap.size := by (have := hb.size; omega)))
  all_goals go_ret
  all_goals exact ⟨ret_bool (by simp_all [mayV] <;> omega), by (repeat' (first | (with_reducible exact Below.refl _ _) | (with_reducible assumption) | (with_reducible refine bel_trans (by assumption) ?_ ?_) | (with_reducible refine bel_grown (by assumption) ?_ ?_ ?_) | (with_reducible refine Below.alloc ?_ ?_ _) | (with_reducible refine Below.drew ?_) | (with_reducible refine below_drewN ?_ _) | (with_reducible refine Below.setCell ?_ ?_ _) | (with_reducible refine below_put ?_ ?_ _ _) | (with_reducible exact Nat.le_refl _) | omega | (with_reducible refine Nat.le_trans ?_ (Below.size (by assumption))) | (with_reducible refine Nat.le_trans ?_ (World.grownBy.size (by assumption))) | (simp only [World.size_alloc, World.size_setCell, World.size_drew, size_drewN]; omega) | (simp only [World.size_alloc, World.size_setCell, World.size_drew, size_drewN, size_put]; omega) | (intro k hk; simp [Value.ownBlock] at hk; done) | (intro k hk; simp [Value.ownBlock] at hk; omega) | (simp [size_drewN] at *; omega)))⟩
end Go.Proofs.Ythdjhbiigmcecaa

/- A region that draws its order and makes memory: where what each operation yields is told by a fact that lasts while old memory stays, every order ends alike. Over any program. -/
namespace Go.Proofs.Ythdjhbiigmcecaa
open Go.RowKit

/-- slot k of an act -/
def sl (a : Act) (k : Nat) : Value := a.tmps.getD k undef

/-- what is known in the midst of the region: L says which operations are done -/
structure Free (n : Nat) (d : Nat → Nat) (F : Nat → Value → World → Prop) (a0 : Act) (W0 : World) (L : Nat → Bool) (a : Act) (w : World) : Prop where
  defers : a.defers = a0.defers
  size : a.tmps.size = a0.tmps.size
  below : Below W0.heap.size W0 w
  got : ∀ i, i < n → L i = true → F i (sl a (d i)) w
  rest : ∀ k, (∀ i, i < n → L i = true → d i ≠ k) → sl a k = sl a0 k

theorem sl_put_same (a : Act) (k : Nat) (v : Value) (h : k < a.tmps.size) : sl (a.put (some k) v) k = v := by simp [sl, Act.put, h]
theorem sl_put_other (a : Act) (k j : Nat) (v : Value) (h : k ≠ j) : sl (a.put (some k) v) j = sl a j := by
  simp only [sl, Act.put, Array.getD_eq_getD_getElem?]
  rw [Array.getElem?_setIfInBounds_ne h]

theorem countP_lt {p q : Nat → Bool} : ∀ (l : List Nat), (∀ x ∈ l, p x = true → q x = true) → (∃ y ∈ l, q y = true ∧ p y = false) → l.countP p < l.countP q
  | [], _, ⟨y, h, _⟩ => by cases h
  | x :: l, hpq, ⟨y, hy, hq, hp⟩ => by
    have hle : l.countP p ≤ l.countP q := List.countP_mono_left fun x hx => hpq x (List.mem_cons_of_mem _ hx)
    rw [List.countP_cons, List.countP_cons]
    rcases List.mem_cons.1 hy with rfl | hy
    · simp [hq, hp]; omega
    · have := countP_lt l (fun x hx => hpq x (List.mem_cons_of_mem _ hx)) ⟨y, hy, hq, hp⟩
      have h2 := hpq x (List.mem_cons_self ..)
      cases hpx : p x <;> cases hqx : q x <;> simp_all <;> omega

theorem wp_region_free (Rel : World → World → Prop) {P : Program} {id : Nat} {ops : Array Oper} {Q : Exit → Act → World → Prop} {a0 : Act} {W0 : World} (hm : P.follows .mixedOrders = true)
    (d : Nat → Nat) (F : Nat → Value → World → Prop)
    (hop : ∀ i o, ops[i]? = some o → o.guard = none ∧ o.dst = some (d i) ∧ ∀ e ∈ o.after, Region.binds .any e = true → e.on < i)
    (hdist : ∀ i j, i < ops.size → j < ops.size → d i = d j → i = j) (hlt : ∀ i, i < ops.size → d i < a0.tmps.size)
    (hrel : ∀ w w', Rel w w' → Below W0.heap.size W0 w → Below W0.heap.size W0 w')
    (hstable : ∀ i v w w', F i v w → Rel w w' → F i v w')
    (hstep : ∀ (i : Nat) (o : Oper), ops[i]? = some o → ∀ L a w, Free ops.size d F a0 W0 L a w → (∀ e ∈ o.after, Region.binds .any e = true → L e.on = true) →
      o.wp P a w (fun a' w' => ∃ v, a' = a.put (some (d i)) v ∧ F i v w' ∧ Rel w w') Q)
    (hfin : ∀ a w, Free ops.size d F a0 W0 (fun _ => true) a w → Q .normal a w) : (Code.region id ops true).wp P Q a0 W0 := by
  refine wp_region_any hm ?_
  have done : ∀ (listed : Array Bool) (a : Act) (w : World), listed.size = ops.size → Free ops.size d F a0 W0 (fun i => listed.getD i false) a w → Region.ready .any ops listed = [] → Q .normal a w := by
    intro listed a w hs hf hr
    have hall : ∀ i, i < ops.size → listed.getD i false = true := by
      intro i
      induction i using Nat.strongRecOn with
      | ind i ih =>
        intro hi
        cases hb : listed.getD i false with
        | true => rfl
        | false =>
          exfalso
          have hmem : i ∈ Region.ready .any ops listed := by
            refine mem_ready.2 ⟨?_, ops[i], Array.getElem?_eq_getElem hi, fun e he hb' => ih e.on ((hop i _ (Array.getElem?_eq_getElem hi)).2.2 e he hb') ?_⟩
            · simpa [Array.getD, hs, hi] using hb
            · exact Nat.lt_trans ((hop i _ (Array.getElem?_eq_getElem hi)).2.2 e he hb') hi
          rw [hr] at hmem
          cases hmem
    exact hfin a w ⟨hf.defers, hf.size, hf.below, fun i hi _ => hf.got i hi (hall i hi), fun k hk => hf.rest k fun i hi _ => hk i hi rfl⟩
  have main : ∀ (fuel : Nat) (listed : Array Bool) (a : Act) (w : World), listed.size = ops.size → (List.range ops.size).countP (fun i => !listed.getD i false) ≤ fuel →
      Free ops.size d F a0 W0 (fun i => listed.getD i false) a w → wpAny P .any ops Q fuel listed a w := by
    intro fuel
    induction fuel with
    | zero =>
      intro listed a w hs hc hf
      have hr : Region.ready .any ops listed = [] := by
        cases hr : Region.ready .any ops listed with
        | nil => rfl
        | cons x xs =>
          exfalso
          obtain ⟨hx, o, ho, _⟩ := mem_ready.1 (show x ∈ Region.ready .any ops listed by rw [hr]; exact List.mem_cons_self ..)
          have hxl : x < ops.size := (Array.getElem?_eq_some_iff.1 ho).1
          have : 0 < (List.range ops.size).countP (fun i => !listed.getD i false) := List.countP_pos_iff.2 ⟨x, List.mem_range.2 hxl, by simpa [Array.getD, hs, hxl] using hx⟩
          omega
      exact ⟨hr, done listed a w hs hf hr⟩
    | succ fuel ih =>
      intro listed a w hs hc hf
      refine ⟨done listed a w hs hf, fun i hi => ?_⟩
      obtain ⟨hx, o, ho, hdep⟩ := mem_ready.1 hi
      have hil : i < ops.size := (Array.getElem?_eq_some_iff.1 ho).1
      have hxf : listed.getD i false = false := by simpa [Array.getD, hs, hil] using hx
      unfold wpOp
      simp only [ho]
      have hw : Region.wanted o (yielded ops a.tmps) = true := by simp [Region.wanted, (hop i o ho).1]
      rw [if_pos hw]
      refine .inl (Oper.wp_mono ?_ (hstep i o ho _ a w hf hdep))
      rintro a' w' ⟨v, rfl, hF, hb⟩
      refine ih _ _ _ (by simpa using hs) ?_ ?_
      · have hlt' := countP_lt (p := fun j => !(listed.setIfInBounds i true).getD j false) (q := fun j => !listed.getD j false) (List.range ops.size)
          (fun x _ hp => by
            by_cases hxi : i = x
            · subst hxi; simp [Array.getD, hs, hil] at hp
            · simpa [getD_set_ne false hxi] using hp)
          ⟨i, List.mem_range.2 hil, by simpa using hxf, by simp [Array.getD, hs, hil]⟩
        omega
      · refine ⟨hf.defers, by simp [Act.put, hf.size], hrel _ _ hb hf.below, fun j hj hLj => ?_, fun k hk => ?_⟩
        · by_cases hij : i = j
          · subst hij
            rw [sl_put_same _ _ _ (by rw [hf.size]; exact hlt i hil)]
            exact hF
          · rw [sl_put_other _ _ _ _ (fun e => hij (hdist i j hil hj e))]
            exact hstable _ _ _ _ (hf.got j hj (by rw [← hLj, getD_set_ne false hij])) hb
        · rw [sl_put_other _ _ _ _ (hk i hil (by simp [Array.getD, hs, hil]))]
          exact hf.rest k fun j hj hLj => hk j hj (by
            by_cases hij : i = j
            · subst hij; simp [Array.getD, hs, hil]
            · rw [getD_set_ne false hij]; exact hLj)
  refine main ops.size _ a0 _ (by simp) (by exact Nat.le_trans List.countP_le_length (by simp)) ⟨rfl, rfl, (Below.refl _ _).drew, fun i hi h => ?_, fun _ _ => rfl⟩
  simp [Array.getD, hi] at h

/-- slots written one by one -/
def putL (t : Array Value) : List (Nat × Value) → Array Value
  | [] => t
  | p :: r => putL (t.setIfInBounds p.1 p.2) r
theorem eq_putL (A : Array Value) : ∀ (l : List (Nat × Value)) (t : Array Value), A.size = t.size → (∀ p ∈ l, A.getD p.1 undef = p.2) → (∀ k, (∀ p ∈ l, p.1 ≠ k) → A.getD k undef = t.getD k undef) → A = putL t l
  | [], t, hs, _, hk => by
    refine Array.ext hs fun i h1 h2 => ?_
    have := hk i (fun p hp => by cases hp)
    have h2' : i < t.size := h2
    show A[i] = t[i]
    simpa [Array.getD, h1, h2'] using this
  | p :: r, t, hs, hp, hk => by
    refine eq_putL A r _ (by simpa using hs) (fun q hq => hp q (List.mem_cons_of_mem _ hq)) fun k hkr => ?_
    by_cases hpk : p.1 = k
    · subst hpk
      rw [hp p (List.mem_cons_self ..)]
      by_cases hlt : p.1 < t.size
      · simp [Array.getD, hlt]
      · have h1 := hp p (List.mem_cons_self ..)
        have h2 : ¬ p.1 < A.size := by omega
        simp [Array.getD, h2] at h1
        simp [Array.getD, hlt, ← h1]
    · rw [hk k (fun q hq => (by rcases List.mem_cons.1 hq with rfl | hq <;> first | exact hpk | exact hkr q hq))]
      simp only [Array.getD_eq_getD_getElem?]
      rw [Array.getElem?_setIfInBounds_ne hpk]
/-- at the region's end: the frame, written out -/
theorem Free.all {n : Nat} {d : Nat → Nat} {F : Nat → Value → World → Prop} {a0 : Act} {W0 : World} {a : Act} {w : World} (h : Free n d F a0 W0 (fun _ => true) a w) :
    ∃ vs : List Value, vs.length = n ∧ (∀ i (hi : i < vs.length), F i vs[i] w) ∧ a = ⟨putL a0.tmps (((List.range n).map d).zip vs), a0.defers⟩ := by
  refine ⟨(List.range n).map fun i => sl a (d i), by simp, fun i hi => by simp at hi ⊢; exact h.got i hi rfl, ?_⟩
  obtain ⟨t, df⟩ := a
  have h1 := h.defers
  simp only at h1
  subst h1
  congr 1
  refine eq_putL t _ _ h.size (fun p hp => ?_) fun k hk => h.rest k fun i hi _ e => ?_
  · obtain ⟨i, hi, he⟩ := List.getElem_of_mem hp
    simp at he
    rw [← he]
    rfl
  · subst e
    exact hk (d i, sl ⟨t, a0.defers⟩ (d i)) (List.mem_iff_getElem.2 ⟨i, by simpa using hi, by simp⟩) rfl

/-- the region's shape, asked of the kernel -/
def regionOk (ops : Array Oper) (ds : List Nat) (N : Nat) : Bool :=
  decide (ops.size = ds.length) && decide ds.Nodup && ds.all (fun k => decide (k < N)) &&
    (List.range ops.size).all fun i => ((ops[i]?).map fun o => o.guard.isNone && (o.dst == some (ds.getD i 0)) && o.after.all fun e => !Region.binds .any e || decide (e.on < i)).getD false
/-- one operation's step -/
def FreeStep (Rel : World → World → Prop) (P : Program) (n : Nat) (d : Nat → Nat) (F : Nat → Value → World → Prop) (a0 : Act) (W0 : World) (Q : Exit → Act → World → Prop) (i : Nat) (o : Oper) : Prop :=
  ∀ L a w, Free n d F a0 W0 L a w → (∀ e ∈ o.after, Region.binds .any e = true → L e.on = true) →
    o.wp P a w (fun a' w' => ∃ v, a' = a.put (some (d i)) v ∧ F i v w' ∧ Rel w w') Q
def FreeSteps (Rel : World → World → Prop) (P : Program) (n : Nat) (d : Nat → Nat) (F : Nat → Value → World → Prop) (a0 : Act) (W0 : World) (Q : Exit → Act → World → Prop) : Nat → List Oper → Prop
  | _, [] => True
  | i, o :: r => FreeStep Rel P n d F a0 W0 Q i o ∧ FreeSteps Rel P n d F a0 W0 Q (i + 1) r
theorem FreeSteps.at {Rel : World → World → Prop} {P : Program} {n : Nat} {d : Nat → Nat} {F : Nat → Value → World → Prop} {a0 : Act} {W0 : World} {Q : Exit → Act → World → Prop} :
    ∀ (l : List Oper) (k : Nat), FreeSteps Rel P n d F a0 W0 Q k l → ∀ i o, l[i]? = some o → FreeStep Rel P n d F a0 W0 Q (k + i) o
  | [], _, _, _, _, h => by simp at h
  | o :: r, k, h, 0, o', ho => by
    simp at ho
    subst ho
    exact h.1
  | o :: r, k, h, i + 1, o', ho => by
    have := FreeSteps.at r (k + 1) h.2 i o' (by simpa using ho)
    rwa [Nat.add_assoc, Nat.add_comm 1 i] at this
theorem wp_region_free_l (Rel : World → World → Prop) {P : Program} {id : Nat} {ops : List Oper} {Q : Exit → Act → World → Prop} {a0 : Act} {W0 : World} (hm : P.follows .mixedOrders = true)
    (ds : List Nat) (Fs : List (Value → World → Prop)) (hok : regionOk ops.toArray ds a0.tmps.size = true)
    (hrel : ∀ w w', Rel w w' → Below W0.heap.size W0 w → Below W0.heap.size W0 w')
    (hstable : ∀ f ∈ Fs, ∀ v w w', f v w → Rel w w' → f v w')
    (hstep : FreeSteps Rel P ds.length (fun i => ds.getD i 0) (fun i => Fs.getD i fun _ _ => True) a0 W0 Q 0 ops)
    (hfin : ∀ (vs : List Value) w, vs.length = ds.length → (∀ i (hi : i < vs.length), Fs.getD i (fun _ _ => True) vs[i] w) → Below W0.heap.size W0 w → Q .normal ⟨putL a0.tmps (ds.zip vs), a0.defers⟩ w) :
    (Code.region id ops.toArray true).wp P Q a0 W0 := by
  unfold regionOk at hok
  simp only [Bool.and_eq_true, decide_eq_true_eq, List.all_eq_true, List.mem_range] at hok
  obtain ⟨⟨⟨h1, h2⟩, h3⟩, h4⟩ := hok
  have hn : ops.length = ds.length := by simpa using h1
  have hop : ∀ (i : Nat) (o : Oper), ops.toArray[i]? = some o → o.guard = none ∧ o.dst = some (ds.getD i 0) ∧ ∀ e ∈ o.after, Region.binds .any e = true → e.on < i := by
    intro i o ho
    have hi := (Array.getElem?_eq_some_iff.1 ho).1
    have := h4 i hi
    rw [ho] at this
    simp only [Option.map_some, Option.getD_some, Bool.and_eq_true, Option.isNone_iff_eq_none, beq_iff_eq, Array.all_eq_true_iff_forall_mem, Bool.or_eq_true, Bool.not_eq_true', decide_eq_true_eq] at this
    refine ⟨this.1.1, this.1.2, fun e he hb => (this.2 e he).resolve_left (by simp [hb])⟩
  have hsz : ops.toArray.size = ds.length := by simpa using hn
  refine wp_region_free Rel hm (fun i => ds.getD i 0) (fun i => Fs.getD i fun _ _ => True) hop (fun i j hi hj he => ?_) (fun i hi => ?_) hrel (fun i v w w' hv hb => ?_) (fun i o ho => ?_) (fun a w hf => ?_)
  · rw [hsz] at hi hj
    simp only [List.getD_eq_getElem?_getD, List.getElem?_eq_getElem hi, List.getElem?_eq_getElem hj, Option.getD_some] at he
    exact (List.getElem_inj h2).1 he
  · rw [hsz] at hi
    simp only [List.getD_eq_getElem?_getD, List.getElem?_eq_getElem hi, Option.getD_some]
    exact h3 _ (List.getElem_mem _)
  · by_cases hi : i < Fs.length
    · simp only [List.getD_eq_getElem?_getD, List.getElem?_eq_getElem hi, Option.getD_some] at hv ⊢
      exact hstable _ (List.getElem_mem _) _ _ _ hv hb
    · simp only [List.getD_eq_getElem?_getD, List.getElem?_eq_none (Nat.le_of_not_lt hi), Option.getD_none]
  · have := FreeSteps.at ops 0 hstep i o (by simpa using ho)
    rw [Nat.zero_add] at this
    rw [hsz]
    exact this
  · rw [hsz] at hf
    obtain ⟨vs, hl, hF, rfl⟩ := hf.all
    have := hfin vs w hl hF hf.below
    have e : (List.range ds.length).map (fun i => ds.getD i 0) = ds := by
      apply List.ext_getElem (by simp)
      intro i h1 h2
      simp [h2]
    rw [e]
    exact this

theorem slv {a : Act} {k : Nat} {v : Value} (h : sl a k = v) : a.tmps[k]?.getD undef = v := by simpa [sl] using h
theorem Free.out {ds : List Nat} {F : Nat → Value → World → Prop} {a0 : Act} {W0 : World} {L : Nat → Bool} {a : Act} {w : World} (h : Free ds.length (fun i => ds.getD i 0) F a0 W0 L a w) (k : Nat) (hk : k ∉ ds) {v : Value} (hv : sl a0 k = v) : a.tmps[k]?.getD undef = v := by
  refine slv (Eq.trans (h.rest k fun i hi _ e => hk ?_) hv)
  simp only [List.getD_eq_getElem?_getD, List.getElem?_eq_getElem hi, Option.getD_some] at e
  rw [← e]
  exact List.getElem_mem _

theorem free_run {P : Program} {o : Oper} {a : Act} {W W' : World} {d : Nat} {v : Value} {F : Value → World → Prop} {Rel : World → World → Prop} {Q : Exit → Act → World → Prop} (ho : o.dst = some d)
    (h : (execOp a.eval o).run P W = .ok (.value v) W') (hF : F v W') (hr : Rel W W') : o.wp P a W (fun a' w' => ∃ v, a' = a.put (some d) v ∧ F v w' ∧ Rel W w') Q := by
  unfold Oper.wp
  rw [h]
  exact ⟨v, by rw [ho], hF, hr⟩
theorem free_call {P : Program} {o : Oper} {a : Act} {W : World} {d : Nat} {f : FuncId} {args : Array Value} {F : Value → World → Prop} {Rel : World → World → Prop} {Q : Exit → Act → World → Prop} (ho : o.dst = some d)
    (h : (execOp a.eval o).run P W = .ok (.enter f args) W) (hc : Calls P f args W fun e w' => ∃ v, e = .returned v ∧ F v w' ∧ Rel W w') : o.wp P a W (fun a' w' => ∃ v, a' = a.put (some d) v ∧ F v w' ∧ Rel W w') Q := by
  unfold Oper.wp
  rw [h]
  refine hc.mono ?_
  rintro e w' ⟨v, rfl, hF, hr⟩
  exact ⟨v, by rw [ho], hF, hr⟩

/-- cells stay; marks may come -/
structure CellsKept (B : Nat) (w w' : World) : Prop where
  os : w'.os = w.os
  tape : w'.tape = w.tape
  output : w'.output = w.output
  size : w.heap.size ≤ w'.heap.size
  block : ∀ k, k < B → w'.heap[k]? = w.heap[k]?
  cells : ∀ (k : Nat) (C : Array Value) (e : TypeId) (fr : Nat × Nat), w.heap[k]? = some (Obj.cells C e fr) → ∃ fr' : Nat × Nat, w'.heap[k]? = some (Obj.cells C e fr')
theorem CellsKept.below {B : Nat} {w0 w w' : World} (h : CellsKept B w w') (hb : Below B w0 w) : Below B w0 w' :=
  ⟨h.os.trans hb.os, h.tape.trans hb.tape, h.output.trans hb.output, Nat.le_trans hb.size h.size, fun k hk => (h.block k hk).trans (hb.block k hk)⟩
theorem CellsKept.cell {B : Nat} {w w' : World} (h : CellsKept B w w') {b o : Nat} {v : Value} (hc : w.cell? ⟨b, o, none⟩ = some v) : w'.cell? ⟨b, o, none⟩ = some v := by
  have hc' := hc
  unfold World.cell? at hc
  split at hc
  · rename_i C e fr hb
    obtain ⟨fr', hb'⟩ := h.cells b C e fr hb
    rw [cell_of_row w b o C e fr hb] at hc'
    rw [cell_of_row w' b o C e fr' hb']
    exact hc'
  · cases hc
theorem freeze_kept (w : World) (b o B : Nat) (hB : B ≤ b) : CellsKept B w (w.freeze ⟨b, o, none⟩ 1) := by
  unfold World.freeze
  rw [if_neg (by decide)]
  refine ⟨rfl, rfl, rfl, by simp, fun k hk => ?_, fun k C e fr hk => ?_⟩
  · show (w.heap.modify b _)[k]? = _
    rw [Array.getElem?_modify, if_neg (by omega)]
  · show ∃ fr' : Nat × Nat, (w.heap.modify b _)[k]? = some (Obj.cells C e fr')
    rw [Array.getElem?_modify]
    by_cases hbk : b = k
    · subst hbk
      rw [if_pos rfl, hk]
      obtain ⟨lo, hi⟩ := fr
      exact ⟨_, rfl⟩
    · rw [if_neg hbk]
      exact ⟨fr, hk⟩
/-- '[]byte("..")': the row that was made for it is marked -/
theorem run_convert_lit {P : Program} (w : World) (t e : TypeId) (C : Array Value) (fr : Nat × Nat) (b n c : Nat) (ht : P.underlying t = some (.slice e)) (he : P.underlying e = some (.int .u8)) (hb : w.heap[b]? = some (.cells C e fr)) :
    (convert t t (.slice (some ⟨b, 0, none⟩) n c)).run P w = .ok (.slice (some ⟨b, 0, none⟩) n c) (w.freeze ⟨b, C.size, none⟩ 1) := by
  have hsh : w.shape? b = some (e, C.size) := by
    unfold World.shape?
    rw [hb]
  simp [convert, run_underlying ht, run_underlying he, markStringish, hsh]
/-- an operation's value is known -/
def Is (c : Value) (v : Value) (_ : World) : Prop := v = c
end Go.Proofs.Ythdjhbiigmcecaa

/- A region that draws its order and makes memory, some of its operations guarded: as Free. Over any program. -/
namespace Go.Proofs.Ythdjhbiigmcecaa
open Go.RowKit

/-- an operation's guard says yes -/
def Held (o : Oper) (d : Nat → Nat) (a : Act) : Prop := match o.guard with | none => True | some (k, b) => sl a (d k) = .bool b
/-- one operation's step -/
def FreeStepG (Rel : World → World → Prop) (P : Program) (n : Nat) (d : Nat → Nat) (F : Nat → Value → World → Prop) (a0 : Act) (W0 : World) (Q : Exit → Act → World → Prop) (i : Nat) (o : Oper) : Prop :=
  ∀ L a w, Free n d F a0 W0 L a w → (∀ e ∈ o.after, Region.binds .any e = true → L e.on = true) →
    (Held o d a → o.wp P a w (fun a' w' => ∃ v, a' = a.put (some (d i)) v ∧ F i v w' ∧ Rel w w') Q) ∧ (¬ Held o d a → F i undef w)
def FreeStepsG (Rel : World → World → Prop) (P : Program) (n : Nat) (d : Nat → Nat) (F : Nat → Value → World → Prop) (a0 : Act) (W0 : World) (Q : Exit → Act → World → Prop) : Nat → List Oper → Prop
  | _, [] => True
  | i, o :: r => FreeStepG Rel P n d F a0 W0 Q i o ∧ FreeStepsG Rel P n d F a0 W0 Q (i + 1) r
theorem FreeStepsG.at {Rel : World → World → Prop} {P : Program} {n : Nat} {d : Nat → Nat} {F : Nat → Value → World → Prop} {a0 : Act} {W0 : World} {Q : Exit → Act → World → Prop} :
    ∀ (l : List Oper) (k : Nat), FreeStepsG Rel P n d F a0 W0 Q k l → ∀ i o, l[i]? = some o → FreeStepG Rel P n d F a0 W0 Q (k + i) o
  | [], _, _, _, _, h => by simp at h
  | o :: r, k, h, 0, o', ho => by
    simp at ho
    subst ho
    exact h.1
  | o :: r, k, h, i + 1, o', ho => by
    have := FreeStepsG.at r (k + 1) h.2 i o' (by simpa using ho)
    rwa [Nat.add_assoc, Nat.add_comm 1 i] at this
end Go.Proofs.Ythdjhbiigmcecaa

/- Stores of structs and arrays as a whole, for the walk. -/
namespace Go.Proofs.Ythdjhbiigmcecaa
open Go.RowKit

/-- the world behind a store of a row of cells -/
def putRow (w : World) (b off : Nat) (xs : Array Value) : World := w.setCells b off xs.toList
/-- cells that may be written -/
def there (w : World) (b off n : Nat) : Prop := w.there b off n

theorem row?_of_cells {w : World} {b off n : Nat} {l : Array Value} (hn : l.size = n) (h0 : 0 < n) (h : ∀ j (hj : j < l.size), w.cell? ⟨b, off + j, none⟩ = some l[j]) : row? w b off n = some l := by
  subst hn
  have hk : ∀ (j : Nat) (hj : j < l.size), ∃ cs t fr, w.heap[b]? = some (.cells cs t fr) ∧ cs[off + j]? = some l[j] := fun j hj => by
    have := h j hj
    simp only [World.cell?] at this
    split at this
    · rename_i cs t fr hg; exact ⟨cs, t, fr, hg, this⟩
    · cases this
  obtain ⟨cs, t, fr, hg, _⟩ := hk 0 h0
  have hc : ∀ (j : Nat) (hj : j < l.size), cs[off + j]? = some l[j] := fun j hj => by
    obtain ⟨cs', t', fr', hg', h'⟩ := hk j hj
    rw [hg] at hg'
    cases hg'
    exact h'
  have hle : off + l.size ≤ cs.size := by
    have := (Array.getElem?_eq_some_iff.1 (hc (l.size - 1) (by omega))).1
    omega
  unfold row?
  rw [hg]
  simp only [hle, if_true, Option.some.injEq]
  apply Array.ext_getElem?
  intro j
  rw [Array.getElem?_extract]
  by_cases hj : j < l.size
  · rw [hc j hj, Array.getElem?_eq_getElem hj]; simp; omega
  · rw [Array.getElem?_eq_none (xs := l) (by omega)]
    have : ¬ j < min (off + l.size) cs.size - off := by omega
    rw [if_neg this]

theorem cell_of_row? {w : World} {b off n : Nat} {l : Array Value} (h : row? w b off n = some l) (j : Nat) (hj : j < n) : w.cell? ⟨b, off + j, none⟩ = l[j]? := by
  obtain ⟨cs, t, fr, hg, hle, rfl⟩ := row?_some h
  rw [cell_of_row w b (off + j) cs t fr hg, Array.getElem?_extract]
  simp [show off + j < off + n by omega]
  omega
theorem row?_length {w : World} {b off n : Nat} {l : Array Value} (h : row? w b off n = some l) : l.size = n := by
  obtain ⟨cs, t, fr, hg, hle, rfl⟩ := row?_some h
  simp; omega

theorem there_new (w : World) (cs : Array Value) (t : TypeId) (off n : Nat) (h : off + n ≤ cs.size) : there (w.alloc (.cells cs t)) w.heap.size off n := fun j hj => by
  refine ⟨by simp; omega, ?_⟩
  exact frozen_of_row _ w.heap.size _ cs t (heap_alloc_new w _)
theorem there_old (w : World) (o : Obj) (b off n : Nat) (hb : b < w.heap.size) (h : there w b off n) : there (w.alloc o) b off n := World.there_alloc h o
theorem there_drew (w : World) (b off n : Nat) (h : there w b off n) : there w.drew b off n := h
theorem there_drewN (w : World) (k b off n : Nat) (h : there w b off n) : there (w.drewN k) b off n := h
theorem there_put (w : World) (b' off' : Nat) (xs : Array Value) (b off n : Nat) (h : there w b off n) : there (putRow w b' off' xs) b off n := World.there_setCells h _ _ _
theorem there_set (w : World) (a : Addr) (v : Value) (b off n : Nat) (h : there w b off n) : there (w.setCell a v) b off n := fun j hj => by
  obtain ⟨h1, h2⟩ := h j hj
  refine ⟨?_, by rw [World.frozen?_setCell]; exact h2⟩
  by_cases e : a = (⟨b, off + j, none⟩ : Addr)
  · subst e
    obtain ⟨u, hu⟩ := Option.isSome_iff_exists.1 h1
    rw [World.cell?_setCell_same _ _ _ hu]; rfl
  · rw [World.cell?_setCell_other _ _ _ _ e]; exact h1
theorem there_below {B : Nat} {w w' : World} (hb : Below B w w') {b off n : Nat} (hlt : b < B) (h : there w b off n) : there w' b off n := fun j hj => by
  obtain ⟨h1, h2⟩ := h j hj
  exact ⟨by rw [hb.cell (p := ⟨b, off + j, none⟩) hlt]; exact h1, by rw [hb.frozen (p := ⟨b, off + j, none⟩) hlt]; exact h2⟩
theorem size_put (w : World) (b off : Nat) (xs : Array Value) : (putRow w b off xs).heap.size = w.heap.size := setCells_size _ _ _ _
theorem frozen_put (w : World) (b off : Nat) (xs : Array Value) (x : Addr) : (putRow w b off xs).frozen? x = w.frozen? x := World.frozen?_setCells _ _ _ _ _
theorem below_put {B : Nat} {a w : World} {b : Nat} (h : Below B a w) (hb : B ≤ b) (off : Nat) (xs : Array Value) : Below B a (putRow w b off xs) := by
  have hm := setCells_misc b xs.toList off w
  exact ⟨hm.1.trans h.os, hm.2.1.trans h.tape, hm.2.2.trans h.output, by rw [size_put]; exact h.size, fun k hk => (setCells_far b _ _ _ k (by omega)).trans (h.block k hk)⟩
theorem cell_put_far (w : World) (b off : Nat) (xs : Array Value) (b' i : Nat) (h : b' ≠ b) : (putRow w b off xs).cell? ⟨b', i, none⟩ = w.cell? ⟨b', i, none⟩ :=
  World.cell?_setCells_out _ _ _ _ _ (fun e _ => absurd e h)
theorem cell_put_out (w : World) (b off : Nat) (xs : Array Value) (i : Nat) (h : i < off ∨ off + xs.size ≤ i) : (putRow w b off xs).cell? ⟨b, i, none⟩ = w.cell? ⟨b, i, none⟩ :=
  World.cell?_setCells_out _ _ _ _ _ (fun _ _ => by simpa using h)
theorem cell_put_in (w : World) (b off : Nat) (xs : Array Value) (i : Nat) (ht : there w b off xs.size) (h : off ≤ i) (h2 : i < off + xs.size) : (putRow w b off xs).cell? ⟨b, i, none⟩ = xs[i - off]? := by
  have := World.cell?_setCells_in b xs.toList off w (fun j hj => (ht j (by simpa using hj)).1) (i - off) (by simp; omega)
  rw [show off + (i - off) = i by omega] at this
  rw [putRow, this, Array.getElem?_eq_getElem (by omega)]
  simp

/-- a row with a part of it put anew -/
def splice (cs : Array Value) (off : Nat) (xs : Array Value) : Array Value := cs.extract 0 off ++ xs ++ cs.extract (off + xs.size) cs.size
theorem row?_put_far (w : World) (b off : Nat) (xs : Array Value) (b' off' n' : Nat) (h : b' ≠ b) : row? (putRow w b off xs) b' off' n' = row? w b' off' n' := by
  simp [row?, putRow, setCells_far b _ _ _ b' h]
theorem row?_put_same (w : World) (b off n : Nat) (xs : Array Value) (hn : xs.size = n) (h0 : 0 < n) (ht : there w b off n) : row? (putRow w b off xs) b off n = some xs := by
  subst hn
  refine row?_of_cells rfl h0 fun j hj => ?_
  rw [cell_put_in w b off xs (off + j) ht (by omega) (by omega), show off + j - off = j by omega, Array.getElem?_eq_getElem hj]
theorem splice_size (cs : Array Value) (off : Nat) (xs : Array Value) (h : off + xs.size ≤ cs.size) : (splice cs off xs).size = cs.size := by
  simp [splice]; omega
theorem splice_get (cs : Array Value) (off : Nat) (xs : Array Value) (h : off + xs.size ≤ cs.size) (i : Nat) : (splice cs off xs)[i]? = if off ≤ i ∧ i < off + xs.size then xs[i - off]? else cs[i]? := by
  have e1 : (cs.extract 0 off).size = off := by simp; omega
  have g1 : ∀ k, k < off → (cs.extract 0 off)[k]? = cs[k]? := fun k hk => by rw [Array.getElem?_extract, if_pos (by omega), Nat.zero_add]
  have g2 : ∀ k, (cs.extract (off + xs.size) cs.size)[k]? = cs[off + xs.size + k]? := fun k => by
    rw [Array.getElem?_extract]
    split
    · rfl
    · rw [Array.getElem?_eq_none (by omega)]
  generalize hA : cs.extract 0 off = A at e1 g1
  generalize hB : cs.extract (off + xs.size) cs.size = B at g2
  unfold splice
  rw [hA, hB]
  by_cases h1 : i < off + xs.size
  · rw [Array.getElem?_append_left (by rw [Array.size_append, e1]; exact h1)]
    by_cases h2 : i < off
    · rw [Array.getElem?_append_left (by rw [e1]; exact h2), g1 i h2, if_neg (by omega)]
    · rw [Array.getElem?_append_right (by rw [e1]; omega), e1, if_pos (by omega)]
  · rw [Array.getElem?_append_right (by rw [Array.size_append, e1]; omega), Array.size_append, e1, g2, if_neg (by omega)]
    congr 1; omega
/-- one cell of a row put anew -/
theorem row?_set_in (w : World) (b i N : Nat) (v : Value) (hi : i < N) (hs : (row? w b 0 N).isSome = true) : row? (w.setCell ⟨b, i, none⟩ v) b 0 N = (row? w b 0 N).map (splice · i #[v]) := by
  obtain ⟨l, hl⟩ := Option.isSome_iff_exists.1 hs
  rw [hl]
  have hlen := row?_length hl
  refine row?_of_cells (by rw [splice_size _ _ _ (by simp; omega)]; exact hlen) (by omega) fun j hj => ?_
  rw [splice_size _ _ _ (by simp; omega)] at hj
  have hg := splice_get l i #[v] (by simp; omega) j
  rw [Array.getElem?_eq_getElem (by rw [splice_size _ _ _ (by simp; omega)]; omega)] at hg
  rw [hg]
  have hc := cell_of_row? hl j (by omega)
  rw [Nat.zero_add] at hc ⊢
  by_cases e : j = i
  · subst e
    rw [World.cell?_setCell_same _ _ _ (hc.trans (Array.getElem?_eq_getElem (xs := l) (by omega)))]
    simp
  · rw [World.cell?_setCell_other _ _ _ _ (by intro h; injection h with h1 h2; omega), if_neg (by simp; omega)]
    exact hc

/-- a store of a struct or an array, by a name that the walk does not open -/
def storeAgg (t : TypeId) (x v : Value) : Sem Unit := Instr.storeAt t x v
theorem run_storeAgg {P : Program} {t : TypeId} {n : Nat} (hi : (P.info? t).map (·.size) = some n) (w : World) (b off : Nat) (xs : Array Value) (hn : xs.size = n) (h1 : xs.all (·.oneCell') = true) (ht : there w b off n) :
    (storeAgg t (.pointer (some ⟨b, off, none⟩)) (.agg xs)).run P w = .ok () (putRow w b off xs) := by
  subst hn
  exact run_storeAt_mid w b off t xs ht hi h1

theorem oneHash (h : Hash) : (hashA h).all (·.oneCell') = true := by simp [hashA, byteV, Value.oneCell']
theorem oneApp {a b : Array Value} (ha : a.all (·.oneCell') = true) (hb : b.all (·.oneCell') = true) : (a ++ b).all (·.oneCell') = true := by
  simp only [Array.all_append, ha, hb]; rfl
theorem onePoint (p : Pt) : (pointA p).all (·.oneCell') = true := oneApp (by simp [Value.oneCell']) (oneHash _)
theorem oneLink (p : Lnk) : (linkA p).all (·.oneCell') = true := oneApp (onePoint _) (onePoint _)
theorem oneVote (v : GVote) : (voteA v).all (·.oneCell') = true := oneApp (oneApp (oneApp (by simp [Value.oneCell']) (onePoint _)) (onePoint _)) (by simp [Value.oneCell'])
theorem oneOp (v : GOp) : (opA v).all (·.oneCell') = true := oneApp (oneApp (by simp [Value.oneCell']) (oneHash _)) (by simp [Value.oneCell'])
theorem oneHeader (v : GHeader) : (headerA v).all (·.oneCell') = true := oneApp (oneHash _) (by simp [Value.oneCell'])
/-- each is one cell -/
def oneCells (xs : Array Value) : Prop := xs.all (·.oneCell') = true
theorem onesHash (h : Hash) : oneCells (hashA h) := oneHash h
theorem onesPoint (h : Pt) : oneCells (pointA h) := onePoint h
theorem onesLink (h : Lnk) : oneCells (linkA h) := oneLink h
theorem onesVote (h : GVote) : oneCells (voteA h) := oneVote h
theorem onesOp (h : GOp) : oneCells (opA h) := oneOp h
theorem onesHeader (h : GHeader) : oneCells (headerA h) := oneHeader h
/-! numbers of blocks -/
section
variable (n : Nat)
theorem blk_ne1 : (n = n + 1) = False := by simp only [eq_iff_iff, iff_true, iff_false]; omega
theorem blk_en1 : (n + 1 = n) = False := by simp only [eq_iff_iff, iff_true, iff_false]; omega
theorem blk_lt1 : (n < n + 1) = True := by simp only [eq_iff_iff, iff_true, iff_false]; omega
theorem blk_le1 : (n ≤ n + 1) = True := by simp only [eq_iff_iff, iff_true, iff_false]; omega
theorem blk_gt1 : (n + 1 < n) = False := by simp only [eq_iff_iff, iff_true, iff_false]; omega
theorem blk_ge1 : (n + 1 ≤ n) = False := by simp only [eq_iff_iff, iff_true, iff_false]; omega
theorem blk_ne2 : (n = n + 1 + 1) = False := by simp only [eq_iff_iff, iff_true, iff_false]; omega
theorem blk_en2 : (n + 1 + 1 = n) = False := by simp only [eq_iff_iff, iff_true, iff_false]; omega
theorem blk_lt2 : (n < n + 1 + 1) = True := by simp only [eq_iff_iff, iff_true, iff_false]; omega
theorem blk_le2 : (n ≤ n + 1 + 1) = True := by simp only [eq_iff_iff, iff_true, iff_false]; omega
theorem blk_gt2 : (n + 1 + 1 < n) = False := by simp only [eq_iff_iff, iff_true, iff_false]; omega
theorem blk_ge2 : (n + 1 + 1 ≤ n) = False := by simp only [eq_iff_iff, iff_true, iff_false]; omega
theorem blk_ne3 : (n = n + 1 + 1 + 1) = False := by simp only [eq_iff_iff, iff_true, iff_false]; omega
theorem blk_en3 : (n + 1 + 1 + 1 = n) = False := by simp only [eq_iff_iff, iff_true, iff_false]; omega
theorem blk_lt3 : (n < n + 1 + 1 + 1) = True := by simp only [eq_iff_iff, iff_true, iff_false]; omega
theorem blk_le3 : (n ≤ n + 1 + 1 + 1) = True := by simp only [eq_iff_iff, iff_true, iff_false]; omega
theorem blk_gt3 : (n + 1 + 1 + 1 < n) = False := by simp only [eq_iff_iff, iff_true, iff_false]; omega
theorem blk_ge3 : (n + 1 + 1 + 1 ≤ n) = False := by simp only [eq_iff_iff, iff_true, iff_false]; omega
theorem blk_ne4 : (n = n + 1 + 1 + 1 + 1) = False := by simp only [eq_iff_iff, iff_true, iff_false]; omega
theorem blk_en4 : (n + 1 + 1 + 1 + 1 = n) = False := by simp only [eq_iff_iff, iff_true, iff_false]; omega
theorem blk_lt4 : (n < n + 1 + 1 + 1 + 1) = True := by simp only [eq_iff_iff, iff_true, iff_false]; omega
theorem blk_le4 : (n ≤ n + 1 + 1 + 1 + 1) = True := by simp only [eq_iff_iff, iff_true, iff_false]; omega
theorem blk_gt4 : (n + 1 + 1 + 1 + 1 < n) = False := by simp only [eq_iff_iff, iff_true, iff_false]; omega
theorem blk_ge4 : (n + 1 + 1 + 1 + 1 ≤ n) = False := by simp only [eq_iff_iff, iff_true, iff_false]; omega
theorem blk_ne5 : (n = n + 1 + 1 + 1 + 1 + 1) = False := by simp only [eq_iff_iff, iff_true, iff_false]; omega
theorem blk_en5 : (n + 1 + 1 + 1 + 1 + 1 = n) = False := by simp only [eq_iff_iff, iff_true, iff_false]; omega
theorem blk_lt5 : (n < n + 1 + 1 + 1 + 1 + 1) = True := by simp only [eq_iff_iff, iff_true, iff_false]; omega
theorem blk_le5 : (n ≤ n + 1 + 1 + 1 + 1 + 1) = True := by simp only [eq_iff_iff, iff_true, iff_false]; omega
theorem blk_gt5 : (n + 1 + 1 + 1 + 1 + 1 < n) = False := by simp only [eq_iff_iff, iff_true, iff_false]; omega
theorem blk_ge5 : (n + 1 + 1 + 1 + 1 + 1 ≤ n) = False := by simp only [eq_iff_iff, iff_true, iff_false]; omega
theorem blk_ne6 : (n = n + 1 + 1 + 1 + 1 + 1 + 1) = False := by simp only [eq_iff_iff, iff_true, iff_false]; omega
theorem blk_en6 : (n + 1 + 1 + 1 + 1 + 1 + 1 = n) = False := by simp only [eq_iff_iff, iff_true, iff_false]; omega
theorem blk_lt6 : (n < n + 1 + 1 + 1 + 1 + 1 + 1) = True := by simp only [eq_iff_iff, iff_true, iff_false]; omega
theorem blk_le6 : (n ≤ n + 1 + 1 + 1 + 1 + 1 + 1) = True := by simp only [eq_iff_iff, iff_true, iff_false]; omega
theorem blk_gt6 : (n + 1 + 1 + 1 + 1 + 1 + 1 < n) = False := by simp only [eq_iff_iff, iff_true, iff_false]; omega
theorem blk_ge6 : (n + 1 + 1 + 1 + 1 + 1 + 1 ≤ n) = False := by simp only [eq_iff_iff, iff_true, iff_false]; omega
theorem blk_ne7 : (n = n + 1 + 1 + 1 + 1 + 1 + 1 + 1) = False := by simp only [eq_iff_iff, iff_true, iff_false]; omega
theorem blk_en7 : (n + 1 + 1 + 1 + 1 + 1 + 1 + 1 = n) = False := by simp only [eq_iff_iff, iff_true, iff_false]; omega
theorem blk_lt7 : (n < n + 1 + 1 + 1 + 1 + 1 + 1 + 1) = True := by simp only [eq_iff_iff, iff_true, iff_false]; omega
theorem blk_le7 : (n ≤ n + 1 + 1 + 1 + 1 + 1 + 1 + 1) = True := by simp only [eq_iff_iff, iff_true, iff_false]; omega
theorem blk_gt7 : (n + 1 + 1 + 1 + 1 + 1 + 1 + 1 < n) = False := by simp only [eq_iff_iff, iff_true, iff_false]; omega
theorem blk_ge7 : (n + 1 + 1 + 1 + 1 + 1 + 1 + 1 ≤ n) = False := by simp only [eq_iff_iff, iff_true, iff_false]; omega
end
attribute [go_sem] blk_ne1 blk_en1 blk_lt1 blk_le1 blk_gt1 blk_ge1 blk_ne2 blk_en2 blk_lt2 blk_le2 blk_gt2 blk_ge2 blk_ne3 blk_en3 blk_lt3 blk_le3 blk_gt3 blk_ge3 blk_ne4 blk_en4 blk_lt4 blk_le4 blk_gt4 blk_ge4 blk_ne5 blk_en5 blk_lt5 blk_le5 blk_gt5 blk_ge5 blk_ne6 blk_en6 blk_lt6 blk_le6 blk_gt6 blk_ge6 blk_ne7 blk_en7 blk_lt7 blk_le7 blk_gt7 blk_ge7
/-! the same, with no condition on what lies there -/
theorem cell_some_set (w : World) (a : Addr) (v : Value) (x : Addr) : ((w.setCell a v).cell? x).isSome = (w.cell? x).isSome := by
  by_cases e : a = x
  · subst e
    cases h : w.cell? a with
    | some u => rw [World.cell?_setCell_same _ _ _ h]; rfl
    | none =>
      have : (w.setCell a v).cell? a = none := by
        simp only [World.setCell, World.cell?, Array.getElem?_modify, ↓reduceIte] at h ⊢
        cases hh : w.heap[a.block]? with
        | none => simp
        | some x =>
          rw [hh] at h
          cases x <;> simp at h ⊢
          cases hsp : a.spot <;> simp_all
      rw [this]
  · rw [World.cell?_setCell_other _ _ _ _ e]
theorem cell_some_sets (b : Nat) (x : Addr) : ∀ (vs : List Value) (o : Nat) (w : World), ((w.setCells b o vs).cell? x).isSome = (w.cell? x).isSome
  | [], _, _ => rfl
  | v :: r, o, w => by rw [World.setCells, cell_some_sets b x r, cell_some_set]
theorem there_put' (w : World) (b' off' : Nat) (xs : Array Value) (b off n : Nat) : there (putRow w b' off' xs) b off n ↔ there w b off n := by
  unfold there World.there putRow
  simp only [cell_some_sets, World.frozen?_setCells]
theorem there_set' (w : World) (a : Addr) (v : Value) (b off n : Nat) : there (w.setCell a v) b off n ↔ there w b off n := by
  unfold there World.there
  simp only [cell_some_set, World.frozen?_setCell]
theorem there_drew' (w : World) (b off n : Nat) : there w.drew b off n ↔ there w b off n := Iff.rfl
theorem there_drewN' (w : World) (k b off n : Nat) : there (w.drewN k) b off n ↔ there w b off n := Iff.rfl
theorem there_old' (w : World) (o : Obj) (b off n : Nat) (hb : b < w.heap.size) : there (w.alloc o) b off n ↔ there w b off n := by
  unfold there World.there
  constructor
  · intro h j hj
    have := h j hj
    rwa [World.cell?_alloc_lt w o ⟨b, off + j, none⟩ hb, World.frozen?_alloc_past _ _ _ hb] at this
  · intro h j hj
    have := h j hj
    rwa [World.cell?_alloc_lt w o ⟨b, off + j, none⟩ hb, World.frozen?_alloc_past _ _ _ hb]
theorem row?_is {w : World} {b off n : Nat} (h0 : 0 < n) (h : ∀ j, j < n → (w.cell? ⟨b, off + j, none⟩).isSome = true) : (row? w b off n).isSome = true := by
  rw [row?_of_cells (l := Array.ofFn fun j : Fin n => (w.cell? ⟨b, off + j.1, none⟩).getD undef) (by simp) h0 (fun j hj => by
    have := h j (by simpa using hj)
    obtain ⟨u, hu⟩ := Option.isSome_iff_exists.1 this
    simp [hu])]
  rfl
theorem row?_none {w : World} {b off n : Nat} (h0 : 0 < n) (h : row? w b off n = none) : ∃ j, j < n ∧ w.cell? ⟨b, off + j, none⟩ = none := by
  by_cases hx : ∀ j, j < n → (w.cell? ⟨b, off + j, none⟩).isSome = true
  · have := row?_is h0 hx; rw [h] at this; cases this
  · simp only [Classical.not_forall] at hx
    obtain ⟨j, hj, hn⟩ := hx
    exact ⟨j, hj, by simpa using hn⟩
theorem row?_none_of {w : World} {b off n j : Nat} (hj : j < n) (h : w.cell? ⟨b, off + j, none⟩ = none) : row? w b off n = none := by
  cases hr : row? w b off n with
  | none => rfl
  | some l =>
    have := cell_of_row? hr j hj
    rw [h, Array.getElem?_eq_getElem (by have := row?_length hr; omega)] at this
    cases this
theorem row?_set_in' (w : World) (b i N : Nat) (v : Value) (hi : i < N) : row? (w.setCell ⟨b, i, none⟩ v) b 0 N = (row? w b 0 N).map (splice · i #[v]) := by
  cases h : row? w b 0 N with
  | some l => rw [row?_set_in w b i N v hi (by rw [h]; rfl), h]
  | none =>
    obtain ⟨j, hj, hc⟩ := row?_none (by omega) h
    refine row?_none_of hj ?_
    have := cell_some_set w ⟨b, i, none⟩ v ⟨b, 0 + j, none⟩
    rw [hc] at this
    simpa using this
theorem there_row {w : World} {b N : Nat} {l : Array Value} (h : row? w b 0 N = some l) (off : Nat) (xs : Array Value) (hle : off + xs.size ≤ N) (h0 : 0 < N) : row? (putRow w b off xs) b 0 N = some (splice l off xs) := by
  have hlen := row?_length h
  have hs : ∀ i, i < N → (w.cell? ⟨b, i, none⟩).isSome = true := fun i hi => by
    have := cell_of_row? h i hi
    rw [Nat.zero_add] at this
    rw [this, Array.getElem?_eq_getElem (by omega)]; rfl
  refine row?_of_cells (by rw [splice_size _ _ _ (by omega)]; exact hlen) h0 fun j hj => ?_
  rw [splice_size _ _ _ (by omega)] at hj
  have hg := splice_get l off xs (by omega) j
  rw [Array.getElem?_eq_getElem (by rw [splice_size _ _ _ (by omega)]; omega)] at hg
  rw [hg]
  split
  · rename_i hin
    have := World.cell?_setCells_in b xs.toList off w (fun k hk => hs (off + k) (by simp at hk; omega)) (j - off) (by simp; omega)
    rw [show off + (j - off) = j by omega] at this
    rw [Nat.zero_add, putRow, this, Array.getElem?_eq_getElem (by omega)]
    simp
  · rename_i hout
    rw [Nat.zero_add, cell_put_out w b off xs j (by omega)]
    have := cell_of_row? h j (by omega)
    rwa [Nat.zero_add] at this
theorem row?_put_in' (w : World) (b off N : Nat) (xs : Array Value) (hle : off + xs.size ≤ N) (h0 : 0 < N) : row? (putRow w b off xs) b 0 N = (row? w b 0 N).map (splice · off xs) := by
  cases h : row? w b 0 N with
  | some l => exact there_row h off xs hle h0
  | none =>
    obtain ⟨j, hj, hc⟩ := row?_none h0 h
    refine row?_none_of hj ?_
    have := cell_some_sets b ⟨b, 0 + j, none⟩ xs.toList off w
    rw [hc] at this
    rw [putRow]
    simpa using this
theorem splice_all' (a b : Array Value) (h : a.size = b.size) : splice a 0 b = b := by
  apply Array.ext_getElem?
  intro i
  rw [splice_get _ _ _ (by omega)]
  by_cases hi : i < b.size
  · rw [if_pos (by omega)]; rfl
  · rw [if_neg (by omega), Array.getElem?_eq_none (by omega), Array.getElem?_eq_none (by omega)]
end Go.Proofs.Ythdjhbiigmcecaa

/- '==' of arrays and structs as a whole: hashes, points, links. Over any program; then for the walk. -/
namespace Go.Proofs.Ythdjhbiigmcecaa
open Go.RowKit

section
variable {P : Program} (w : World)
theorem getElem_bytes (xs : List UInt8) (k : Nat) (h : k < xs.length) : (xs.map byteV).toArray[k * 1]? = some (.int .u8 (xs[k].toNat : Int)) := by
  simp [h, byteV]
theorem eqItems_bytes (d : Nat) {e : TypeId} (he : P.underlying e = some (.int .u8)) (xs ys : List UInt8) (hl : xs.length = ys.length) :
    ∀ (n k : Nat), k + n = xs.length → (Op.eqItems (d + 1) e 1 (xs.map byteV).toArray (ys.map byteV).toArray (List.range' k n)).run P w = .ok (decide (xs.drop k = ys.drop k)) w
  | 0, k, hk => by
    rw [List.drop_of_length_le (by omega), List.drop_of_length_le (by omega)]
    simp [Op.eqItems]
  | n + 1, k, hk => by
    have ih := eqItems_bytes d he xs ys hl n (k + 1) (by omega)
    have hx : k < xs.length := by omega
    have hy : k < ys.length := by omega
    have p1 : (part e (xs.map byteV).toArray (k * 1)).run P w = .ok (.int .u8 (xs[k].toNat : Int)) w := by
      have := getElem_bytes xs k hx
      simp only [part, isAgg, Sem.run_bind, run_underlying he, Result.andThen_ok, Sem.run_pure, this]
      rfl
    have p2 : (part e (ys.map byteV).toArray (k * 1)).run P w = .ok (.int .u8 (ys[k].toNat : Int)) w := by
      have := getElem_bytes ys k hy
      simp only [part, isAgg, Sem.run_bind, run_underlying he, Result.andThen_ok, Sem.run_pure, this]
      rfl
    have p3 := run_equalIn_int (P := P) w d e .u8 .u8 (xs[k].toNat : Int) (ys[k].toNat : Int) he
    rw [List.range'_succ]
    simp only [Op.eqItems, Sem.run_bind, p1, p2, p3, Result.andThen_ok]
    have hd : (xs.drop k = ys.drop k) ↔ (xs[k] = ys[k] ∧ xs.drop (k + 1) = ys.drop (k + 1)) := by
      rw [List.drop_eq_getElem_cons hx, List.drop_eq_getElem_cons hy, List.cons.injEq]
    by_cases h : xs[k] = ys[k]
    · have hb : ((xs[k].toNat : Int) == (ys[k].toNat : Int)) = true := by simp [h]
      simp only [hb, Bool.not_true, Bool.false_eq_true, if_false, ih]
      congr 2
      exact propext ⟨fun x => hd.2 ⟨h, x⟩, fun x => (hd.1 x).2⟩
    · have hb : ((xs[k].toNat : Int) == (ys[k].toNat : Int)) = false := by
        rw [beq_eq_false_iff_ne]
        intro e
        exact h (UInt8.toNat_inj.1 (by omega))
      have hn : ¬ xs.drop k = ys.drop k := fun x => h (hd.1 x).1
      simp [hb, hn]
theorem fields2 {t : TypeId} {n0 n1 : String} {t0 t1 : TypeId} {o0 o1 : Nat} (hf : (P.fieldsOf t).toList.map (fun f => (f.name, f.type, f.offset)) = [(n0, t0, o0), (n1, t1, o1)]) :
    ∃ f0 f1, (P.fieldsOf t).toList = [f0, f1] ∧ f0.name = n0 ∧ f1.name = n1 ∧ f0.type = t0 ∧ f1.type = t1 ∧ f0.offset = o0 ∧ f1.offset = o1 := by
  generalize (P.fieldsOf t).toList = l at hf
  match l, hf with
  | [f0, f1], hf => simp at hf; exact ⟨f0, f1, rfl, hf.1.1, hf.2.1, hf.1.2.1, hf.2.2.1, hf.1.2.2, hf.2.2.2⟩
theorem eqHash_run (d : Nat) {t e : TypeId} {i : TypeInfo} (hu : P.underlying t = some (.array 32 e)) (hi : P.info? e = some i) (hc : P.cellsOf e = 1) (he : P.underlying e = some (.int .u8)) (a b : Hash) :
    (Op.equalIn (d + 2) t (.agg (hashA a)) (.agg (hashA b))).run P w = .ok (decide (a = b)) w := by
  rw [run_equalIn_array w (d + 1) _ _ hu hi, hc, List.range_eq_range']
  have := eqItems_bytes (P := P) w d he a.1 b.1 (by rw [a.2, b.2]) 32 0 (by rw [a.2])
  simp only [List.drop_zero] at this
  unfold hashA
  rw [this]
  congr 2
  exact propext (Subtype.ext_iff).symm
theorem part_agg {t : TypeId} {n off : Nat} (hA : ∀ w, (isAgg t).run P w = .ok true w) (hS : ∀ w, (Go.sizeOf t).run P w = .ok n w) (xs : Array Value) (h : off + n ≤ xs.size) : (part t xs off).run P w = .ok (.agg (xs.extract off (off + n))) w := by
  simp [part, Sem.run_bind, hA, hS, h]
theorem part_one {t : TypeId} (hA : ∀ w, (isAgg t).run P w = .ok false w) (xs : Array Value) (off : Nat) (v : Value) (h : xs[off]? = some v) : (part t xs off).run P w = .ok v w := by
  simp [part, Sem.run_bind, hA, h]
theorem eqPoint_run (d : Nat) {t tu th e : TypeId} {i : TypeInfo} {n0 n1 : String} (hf : (P.fieldsOf t).toList.map (fun f => (f.name, f.type, f.offset)) = [(n0, tu, 0), (n1, th, 1)]) (hu : P.underlying t = some (.struct (P.fieldsOf t))) (hp : P.stoodInHeld t = false)
    (h0 : n0 ≠ "_") (h1 : n1 ≠ "_") (hu0 : P.underlying tu = some (.int .u64)) (hA0 : ∀ w, (isAgg tu).run P w = .ok false w)
    (hA : ∀ w, (isAgg th).run P w = .ok true w) (hS : ∀ w, (Go.sizeOf th).run P w = .ok 32 w) (huh : P.underlying th = some (.array 32 e)) (hi : P.info? e = some i) (hc : P.cellsOf e = 1) (he : P.underlying e = some (.int .u8)) (a b : Pt) :
    (Op.equalIn (d + 3) t (.agg (pointA a)) (.agg (pointA b))).run P w = .ok (decide (a = b)) w := by
  obtain ⟨f0, f1, hf, m0, m1, t0, t1, o0, o1⟩ := fields2 hf
  rw [run_equalIn_struct w (d + 2) t _ _ hu hp, hf]
  subst t0
  subst t1
  subst m0
  subst m1
  have p1 := fun p : Pt => part_one (P := P) w hA0 (pointA p) 0 _ (pointA_epoch p)
  have p2 := fun p : Pt => part_agg (P := P) w hA hS (pointA p) (off := 1) (by simp)
  simp only [Nat.reduceAdd, pointA_name] at p2
  have q1 := run_equalIn_int (P := P) w (d + 1) f0.type .u64 .u64 (a.epoch.toNat : Int) (b.epoch.toNat : Int) hu0
  have q2 := eqHash_run (P := P) w d huh hi hc he a.name b.name
  simp only [Op.eqFields, h0, h1, o0, o1, ne_eq, not_false_eq_true, if_true, Sem.run_bind, p1, Result.andThen_ok, q1]
  have e1 : ((a.epoch.toNat : Int) == (b.epoch.toNat : Int)) = decide (a.epoch = b.epoch) := by
    rw [Bool.eq_iff_iff]
    simp only [beq_iff_eq, decide_eq_true_eq]
    exact ⟨fun h => UInt64.toNat_inj.1 (by omega), fun h => by rw [h]⟩
  have e2 : decide (a = b) = (decide (a.epoch = b.epoch) && decide (a.name = b.name)) := by
    rw [Bool.eq_iff_iff]
    cases a; cases b
    simp
  rw [e1, e2]
  by_cases h : a.epoch = b.epoch
  · simp only [h, decide_true, Bool.not_true, Bool.false_eq_true, if_false, Bool.true_and, Sem.run_bind, p2, q2, Result.andThen_ok]
    cases decide (a.name = b.name) <;> simp
  · simp [h]
theorem eqLink_run (d : Nat) {t tp : TypeId} {n0 n1 : String} (hf : (P.fieldsOf t).toList.map (fun f => (f.name, f.type, f.offset)) = [(n0, tp, 0), (n1, tp, 33)]) (hu : P.underlying t = some (.struct (P.fieldsOf t))) (hp : P.stoodInHeld t = false)
    (h0 : n0 ≠ "_") (h1 : n1 ≠ "_")
    (hA : ∀ w, (isAgg tp).run P w = .ok true w) (hS : ∀ w, (Go.sizeOf tp).run P w = .ok 33 w) (hq : ∀ a b : Pt, (Op.equalIn d tp (.agg (pointA a)) (.agg (pointA b))).run P w = .ok (decide (a = b)) w) (a b : Lnk) :
    (Op.equalIn (d + 1) t (.agg (linkA a)) (.agg (linkA b))).run P w = .ok (decide (a = b)) w := by
  obtain ⟨f0, f1, hf, m0, m1, t0, t1, o0, o1⟩ := fields2 hf
  rw [run_equalIn_struct w d t _ _ hu hp, hf]
  subst m0
  subst m1
  have p1 := fun p : Lnk => part_agg (P := P) w hA hS (linkA p) (off := 0) (by simp)
  have p2 := fun p : Lnk => part_agg (P := P) w hA hS (linkA p) (off := 33) (by simp)
  simp only [linkA_source, linkA_target, Nat.zero_add, Nat.reduceAdd] at p1 p2
  simp only [Op.eqFields, h0, h1, o0, o1, t0, t1, ne_eq, not_false_eq_true, if_true, Sem.run_bind, p1, Result.andThen_ok, hq]
  have e2 : decide (a = b) = (decide (a.source = b.source) && decide (a.target = b.target)) := by
    rw [Bool.eq_iff_iff]
    cases a; cases b
    simp
  rw [e2]
  by_cases h : a.source = b.source
  · simp only [h, decide_true, Bool.not_true, Bool.false_eq_true, if_false, Bool.true_and, Sem.run_bind, p2, hq, Result.andThen_ok]
    cases decide (a.target = b.target) <;> simp
  · simp [h]
end

theorem u8_info : ∃ i, Try.prog.info? 5 = some i := info_of_underlying Try.underlying5
theorem u8_cells : Try.prog.cellsOf 5 = 1 := by kernel_rfl
theorem eq_hash (w : World) (a b : Hash) : (Op.equalIn 10000 24 (.agg (hashA a)) (.agg (hashA b))).run Try.prog w = .ok (decide (a = b)) w := by
  obtain ⟨i, hi⟩ := u8_info
  exact eqHash_run w 9998 Try.underlying24 hi u8_cells Try.underlying5 a b
attribute [go_sem ↓] eq_hash
theorem point_fields : (Try.prog.fieldsOf 26).toList.map (fun f => (f.name, f.type, f.offset)) = [("Epoch", 22, 0), ("Name", 24, 1)] := by kernel_rfl
theorem eq_point_d (d : Nat) (w : World) (a b : Pt) : (Op.equalIn (d + 3) 26 (.agg (pointA a)) (.agg (pointA b))).run Try.prog w = .ok (decide (a = b)) w := by
  obtain ⟨i, hi⟩ := u8_info
  exact eqPoint_run w d point_fields (by kernel_rfl) (by kernel_rfl) (by decide) (by decide) Try.underlying22 (fun _ => by simp [isAgg, run_underlying Try.underlying22]) Try.isAgg24 Try.sizeOf24 Try.underlying24 hi u8_cells Try.underlying5 a b
theorem eq_point (w : World) (a b : Pt) : (Op.equalIn 10000 26 (.agg (pointA a)) (.agg (pointA b))).run Try.prog w = .ok (decide (a = b)) w := eq_point_d 9997 w a b
attribute [go_sem ↓] eq_point
theorem link_fields : (Try.prog.fieldsOf 28).toList.map (fun f => (f.name, f.type, f.offset)) = [("Source", 26, 0), ("Target", 26, 33)] := by kernel_rfl
theorem eq_link (w : World) (a b : Lnk) : (Op.equalIn 10000 28 (.agg (linkA a)) (.agg (linkA b))).run Try.prog w = .ok (decide (a = b)) w :=
  eqLink_run w 9999 link_fields (by kernel_rfl) (by kernel_rfl) (by decide) (by decide) Try.isAgg26 Try.sizeOf26 (fun a b => eq_point_d 9996 w a b) a b
attribute [go_sem ↓] eq_link
end Go.Proofs.Ythdjhbiigmcecaa

/- Rules of whole-struct stores, for the walk. -/
namespace Go.Proofs.Ythdjhbiigmcecaa
open Go.RowKit

/-- rows and cells behind a whole store -/
theorem there_new_at (w : World) (cs : Array Value) (t : TypeId) (b off n : Nat) (hb : b = w.heap.size) (h : off + n ≤ cs.size) : there (w.alloc (.cells cs t)) b off n := by subst hb; exact there_new w cs t off n h
attribute [go_sem] row?_put_far row?_put_in' row?_set_in' splice_all' cell_put_far cell_put_out cell_put_in size_put frozen_put there_new there_new_at row?_new_at there_old' there_drew' there_drewN' there_put' there_set' onesHash onesPoint onesLink onesVote onesOp onesHeader
theorem store_point_s (x v : Value) : Instr.storeAt 26 x v = storeAgg 26 x v := rfl
theorem info_point : (Try.prog.info? 26).map (·.size) = some 33 := by kernel_rfl
theorem store_point (w : World) (b off : Nat) (xs : Array Value) (hn : xs.size = 33) (h1 : oneCells xs) (ht : there w b off 33) : (storeAgg 26 (.pointer (some ⟨b, off, none⟩)) (.agg xs)).run Try.prog w = .ok () (putRow w b off xs) := run_storeAgg info_point w b off xs hn h1 ht
attribute [go_sem ↓] store_point_s
attribute [go_sem] store_point
theorem store_hash_s (x v : Value) : Instr.storeAt 24 x v = storeAgg 24 x v := rfl
theorem info_hash : (Try.prog.info? 24).map (·.size) = some 32 := by kernel_rfl
theorem store_hash (w : World) (b off : Nat) (xs : Array Value) (hn : xs.size = 32) (h1 : oneCells xs) (ht : there w b off 32) : (storeAgg 24 (.pointer (some ⟨b, off, none⟩)) (.agg xs)).run Try.prog w = .ok () (putRow w b off xs) := run_storeAgg info_hash w b off xs hn h1 ht
attribute [go_sem ↓] store_hash_s
attribute [go_sem] store_hash
theorem store_arr32_s (x v : Value) : Instr.storeAt 23 x v = storeAgg 23 x v := rfl
theorem info_arr32 : (Try.prog.info? 23).map (·.size) = some 32 := by kernel_rfl
theorem store_arr32 (w : World) (b off : Nat) (xs : Array Value) (hn : xs.size = 32) (h1 : oneCells xs) (ht : there w b off 32) : (storeAgg 23 (.pointer (some ⟨b, off, none⟩)) (.agg xs)).run Try.prog w = .ok () (putRow w b off xs) := run_storeAgg info_arr32 w b off xs hn h1 ht
attribute [go_sem ↓] store_arr32_s
attribute [go_sem] store_arr32
theorem store_link_s (x v : Value) : Instr.storeAt 28 x v = storeAgg 28 x v := rfl
theorem info_link : (Try.prog.info? 28).map (·.size) = some 66 := by kernel_rfl
theorem store_link (w : World) (b off : Nat) (xs : Array Value) (hn : xs.size = 66) (h1 : oneCells xs) (ht : there w b off 66) : (storeAgg 28 (.pointer (some ⟨b, off, none⟩)) (.agg xs)).run Try.prog w = .ok () (putRow w b off xs) := run_storeAgg info_link w b off xs hn h1 ht
attribute [go_sem ↓] store_link_s
attribute [go_sem] store_link
theorem store_vote_s (x v : Value) : Instr.storeAt 99 x v = storeAgg 99 x v := rfl
theorem info_vote : (Try.prog.info? 99).map (·.size) = some 68 := by kernel_rfl
theorem store_vote (w : World) (b off : Nat) (xs : Array Value) (hn : xs.size = 68) (h1 : oneCells xs) (ht : there w b off 68) : (storeAgg 99 (.pointer (some ⟨b, off, none⟩)) (.agg xs)).run Try.prog w = .ok () (putRow w b off xs) := run_storeAgg info_vote w b off xs hn h1 ht
attribute [go_sem ↓] store_vote_s
attribute [go_sem] store_vote
theorem store_hop_s (x v : Value) : Instr.storeAt 97 x v = storeAgg 97 x v := rfl
theorem info_hop : (Try.prog.info? 97).map (·.size) = some 36 := by kernel_rfl
theorem store_hop (w : World) (b off : Nat) (xs : Array Value) (hn : xs.size = 36) (h1 : oneCells xs) (ht : there w b off 36) : (storeAgg 97 (.pointer (some ⟨b, off, none⟩)) (.agg xs)).run Try.prog w = .ok () (putRow w b off xs) := run_storeAgg info_hop w b off xs hn h1 ht
attribute [go_sem ↓] store_hop_s
attribute [go_sem] store_hop
theorem store_header_s (x v : Value) : Instr.storeAt 49 x v = storeAgg 49 x v := rfl
theorem info_header : (Try.prog.info? 49).map (·.size) = some 34 := by kernel_rfl
theorem store_header (w : World) (b off : Nat) (xs : Array Value) (hn : xs.size = 34) (h1 : oneCells xs) (ht : there w b off 34) : (storeAgg 49 (.pointer (some ⟨b, off, none⟩)) (.agg xs)).run Try.prog w = .ok () (putRow w b off xs) := run_storeAgg info_header w b off xs hn h1 ht
attribute [go_sem ↓] store_header_s
attribute [go_sem] store_header

/-! results that lie in a cell -/
theorem run_loadVar_agg {P : Program} {t : TypeId} {n : Nat} (hA : ∀ w, (isAgg t).run P w = .ok true w) (hS : ∀ w, (Go.sizeOf t).run P w = .ok n w) (w : World) (b off : Nat) (h : (row? w b off n).isSome = true) :
    (loadVar t ⟨b, off, none⟩).run P w = .ok (.agg ((row? w b off n).getD #[])) w := by
  have := run_loadAt_row hA hS w b off h
  simpa [Instr.loadAt, Instr.sureAddr, Sem.run_bind] using this
theorem results_row {P : Program} {t : TypeId} {n : Nat} (hA : ∀ w, (isAgg t).run P w = .ok true w) (hS : ∀ w, (Go.sizeOf t).run P w = .ok n w) {fn : Func} {p : Tmp} (hf : fn.results = #[.cell p t]) (tmps : Array Value) (w : World) (b off : Nat)
    (hp : tmps.getD p undef = .pointer (some ⟨b, off, none⟩)) (h : (row? w b off n).isSome = true) : (results fn tmps).run P w = .ok (.agg ((row? w b off n).getD #[])) w := by
  have hp' : tmps[p]?.getD undef = .pointer (some ⟨b, off, none⟩) := by simpa using hp
  simp [results, hf, hp', asAddr, Sem.run_bind, run_loadVar_agg hA hS w b off h]
theorem results_row2 {P : Program} {t : TypeId} {n : Nat} (hA : ∀ w, (isAgg t).run P w = .ok true w) (hS : ∀ w, (Go.sizeOf t).run P w = .ok n w) {fn : Func} {p u : Tmp} (hf : fn.results = #[.cell p t, .tmp u]) (tmps : Array Value) (w : World) (b off : Nat)
    (hp : tmps.getD p undef = .pointer (some ⟨b, off, none⟩)) (h : (row? w b off n).isSome = true) : (results fn tmps).run P w = .ok (.tuple #[.agg ((row? w b off n).getD #[]), tmps.getD u undef]) w := by
  have hp' : tmps[p]?.getD undef = .pointer (some ⟨b, off, none⟩) := by simpa using hp
  simp [results, hf, hp', asAddr, Sem.run_bind, run_loadVar_agg hA hS w b off h]

theorem ret_row {P : Program} {t : TypeId} {n : Nat} (hA : ∀ w, (isAgg t).run P w = .ok true w) (hS : ∀ w, (Go.sizeOf t).run P w = .ok n w) {fn : Func} {p : Tmp} (hf : fn.results = #[.cell p t]) {R : Ending → World → Prop} {a : Act} {w : World} {x : Value} (b off : Nat)
    (hx : a.tmps.getD p undef = x) (hp : x = .pointer (some ⟨b, off, none⟩)) (h : (row? w b off n).isSome = true) (hd : a.defers = []) (hR : R (.returned (.agg ((row? w b off n).getD #[]))) w) : bodyPost P fn R .ret a w :=
  bodyPost_ret (results_row hA hS hf _ _ b off (hx.trans hp) h) hd hR
theorem ret_row2 {P : Program} {t : TypeId} {n : Nat} (hA : ∀ w, (isAgg t).run P w = .ok true w) (hS : ∀ w, (Go.sizeOf t).run P w = .ok n w) {fn : Func} {p u : Tmp} (hf : fn.results = #[.cell p t, .tmp u]) {R : Ending → World → Prop} {a : Act} {w : World} {x y : Value} (b off : Nat)
    (hx : a.tmps.getD p undef = x) (hp : x = .pointer (some ⟨b, off, none⟩)) (hy : a.tmps.getD u undef = y) (h : (row? w b off n).isSome = true) (hd : a.defers = []) (hR : R (.returned (.tuple #[.agg ((row? w b off n).getD #[]), y])) w) : bodyPost P fn R .ret a w := by
  subst hy
  exact bodyPost_ret (results_row2 hA hS hf _ _ b off (hx.trans hp) h) hd hR

/-! zero values, by name -/
theorem zero_hash : #[.int .u8 0, .int .u8 0, .int .u8 0, .int .u8 0, .int .u8 0, .int .u8 0, .int .u8 0, .int .u8 0, .int .u8 0, .int .u8 0, .int .u8 0, .int .u8 0, .int .u8 0, .int .u8 0, .int .u8 0, .int .u8 0, .int .u8 0, .int .u8 0, .int .u8 0, .int .u8 0, .int .u8 0, .int .u8 0, .int .u8 0, .int .u8 0, .int .u8 0, .int .u8 0, .int .u8 0, .int .u8 0, .int .u8 0, .int .u8 0, .int .u8 0, .int .u8 0] = hashA zeroHash := by rfl
theorem zero_point : #[.int .u64 0, .int .u8 0, .int .u8 0, .int .u8 0, .int .u8 0, .int .u8 0, .int .u8 0, .int .u8 0, .int .u8 0, .int .u8 0, .int .u8 0, .int .u8 0, .int .u8 0, .int .u8 0, .int .u8 0, .int .u8 0, .int .u8 0, .int .u8 0, .int .u8 0, .int .u8 0, .int .u8 0, .int .u8 0, .int .u8 0, .int .u8 0, .int .u8 0, .int .u8 0, .int .u8 0, .int .u8 0, .int .u8 0, .int .u8 0, .int .u8 0, .int .u8 0, .int .u8 0] = pointA zeroPt := by
  simp only [pointA, zeroPt]
  rw [← zero_hash]
  simp
theorem zero_op (k : Int) : #[.int .i64 k, .int .u8 0, .int .u8 0, .int .u8 0, .int .u8 0, .int .u8 0, .int .u8 0, .int .u8 0, .int .u8 0, .int .u8 0, .int .u8 0, .int .u8 0, .int .u8 0, .int .u8 0, .int .u8 0, .int .u8 0, .int .u8 0, .int .u8 0, .int .u8 0, .int .u8 0, .int .u8 0, .int .u8 0, .int .u8 0, .int .u8 0, .int .u8 0, .int .u8 0, .int .u8 0, .int .u8 0, .int .u8 0, .int .u8 0, .int .u8 0, .int .u8 0, .int .u8 0, .int .u64 0, .int .i64 0, .slice none 0 0] = opA ⟨k, zeroHash, 0, 0, ⟨none, 0, 0⟩⟩ := by
  simp only [opA]
  rw [← zero_hash]
  simp
theorem zero_header : #[.int .u8 0, .int .u8 0, .int .u8 0, .int .u8 0, .int .u8 0, .int .u8 0, .int .u8 0, .int .u8 0, .int .u8 0, .int .u8 0, .int .u8 0, .int .u8 0, .int .u8 0, .int .u8 0, .int .u8 0, .int .u8 0, .int .u8 0, .int .u8 0, .int .u8 0, .int .u8 0, .int .u8 0, .int .u8 0, .int .u8 0, .int .u8 0, .int .u8 0, .int .u8 0, .int .u8 0, .int .u8 0, .int .u8 0, .int .u8 0, .int .u8 0, .int .u8 0, .int .u64 0, .slice none 0 0] = headerA ⟨zeroHash, 0, ⟨none, 0, 0⟩⟩ := by
  simp only [headerA]
  rw [← zero_hash]
  simp
theorem zero_vote (k : Int) : #[.int .i64 k, .int .u64 0, .int .u8 0, .int .u8 0, .int .u8 0, .int .u8 0, .int .u8 0, .int .u8 0, .int .u8 0, .int .u8 0, .int .u8 0, .int .u8 0, .int .u8 0, .int .u8 0, .int .u8 0, .int .u8 0, .int .u8 0, .int .u8 0, .int .u8 0, .int .u8 0, .int .u8 0, .int .u8 0, .int .u8 0, .int .u8 0, .int .u8 0, .int .u8 0, .int .u8 0, .int .u8 0, .int .u8 0, .int .u8 0, .int .u8 0, .int .u8 0, .int .u8 0, .int .u8 0, .int .u64 0, .int .u8 0, .int .u8 0, .int .u8 0, .int .u8 0, .int .u8 0, .int .u8 0, .int .u8 0, .int .u8 0, .int .u8 0, .int .u8 0, .int .u8 0, .int .u8 0, .int .u8 0, .int .u8 0, .int .u8 0, .int .u8 0, .int .u8 0, .int .u8 0, .int .u8 0, .int .u8 0, .int .u8 0, .int .u8 0, .int .u8 0, .int .u8 0, .int .u8 0, .int .u8 0, .int .u8 0, .int .u8 0, .int .u8 0, .int .u8 0, .int .u8 0, .int .u8 0, .slice none 0 0] = voteA ⟨k, zeroPt, zeroPt, ⟨none, 0, 0⟩⟩ := by
  simp only [voteA]
  rw [← zero_point]
  simp
attribute [go_sem] zero_hash zero_point zero_op zero_header zero_vote

/-! parts put anew -/
theorem splice_mid (a b b' c : Array Value) (off : Nat) (ha : a.size = off) (hb : b.size = b'.size) : splice (a ++ b ++ c) off b' = a ++ b' ++ c := by
  subst ha
  apply Array.ext_getElem?
  intro i
  rw [splice_get _ _ _ (by simp; omega)]
  by_cases h1 : i < a.size
  · rw [if_neg (by omega), Array.append_assoc, Array.append_assoc, Array.getElem?_append_left h1, Array.getElem?_append_left h1]
  · by_cases h2 : i < a.size + b'.size
    · rw [if_pos (by omega), Array.getElem?_append_left (by simp; omega), Array.getElem?_append_right (by omega)]
    · rw [if_neg (by omega), Array.getElem?_append_right (by simp; omega), Array.getElem?_append_right (by simp; omega)]
      simp [hb]
theorem splice_op_key (o : GOp) (k : Hash) : splice (opA o) 1 (hashA k) = opA { o with key := k } :=
  splice_mid #[.int .i64 o.kind] (hashA o.key) (hashA k) _ 1 rfl (by simp)
theorem splice_tail (a l l' : Array Value) (k off : Nat) (x : Value) (ha : a.size + k = off) (hk : k < l.size) (hl : l' = l.setIfInBounds k x) : splice (a ++ l) off #[x] = a ++ l' := by
  subst ha
  subst hl
  apply Array.ext_getElem?
  intro i
  rw [splice_get _ _ _ (by simp; omega)]
  by_cases h1 : i < a.size
  · rw [if_neg (by omega), Array.getElem?_append_left h1, Array.getElem?_append_left h1]
  · rw [Array.getElem?_append_right (by omega), Array.getElem?_append_right (by omega), Array.getElem?_setIfInBounds]
    by_cases h2 : i = a.size + k
    · subst h2
      rw [if_pos (by simp), if_pos (by omega), if_pos (by omega)]
      simp
    · rw [if_neg (by simp; omega), if_neg (by omega)]
theorem splice_op_stake (o : GOp) (x : UInt64) : splice (opA o) 33 #[.int .u64 (x.toNat : Int)] = opA { o with stake := x } := by
  unfold opA
  exact splice_tail _ _ _ 0 33 _ (by simp) (by simp) (by simp)
theorem splice_op_validator (o : GOp) (x : Int) : splice (opA o) 34 #[.int .i64 x] = opA { o with validator := x } := by
  unfold opA
  exact splice_tail _ _ _ 1 34 _ (by simp) (by simp) (by simp)
theorem splice_op_evidence (o : GOp) (x : Sl) : splice (opA o) 35 #[x.v] = opA { o with evidence := x } := by
  unfold opA
  exact splice_tail _ _ _ 2 35 _ (by simp) (by simp) (by simp)
theorem splice_header_ops (o : GHeader) (x : Sl) : splice (headerA o) 33 #[x.v] = headerA { o with ops := x } :=
  by
  unfold headerA
  exact splice_tail _ _ _ 1 33 _ (by simp) (by simp) (by simp)
theorem set_head (a b c : Value) (r : Array Value) : (#[a] ++ r).setIfInBounds 0 b = #[b] ++ r := by
  apply Array.ext_getElem?
  intro i
  rw [Array.getElem?_setIfInBounds]
  cases i <;> simp [Array.getElem?_append]
theorem opA_set_kind (o : GOp) (k : Int) : (opA o).setIfInBounds 0 (.int .i64 k) = opA { o with kind := k } := by
  simp only [opA, Array.append_assoc]; exact set_head _ _ undef _
theorem pointA_set_epoch (p : Pt) (e : UInt64) : (pointA p).setIfInBounds 0 (.int .u64 (e.toNat : Int)) = pointA { p with epoch := e } := by
  simp only [pointA]; exact set_head _ _ undef _
theorem voteA_set_validator (p : GVote) (k : Int) : (voteA p).setIfInBounds 0 (.int .i64 k) = voteA { p with validator := k } := by
  simp only [voteA, Array.append_assoc]; exact set_head _ _ undef _
theorem splice_op_evidence' (o : GOp) (a : Option Addr) (n c : Nat) : splice (opA o) 35 #[.slice a n c] = opA { o with evidence := ⟨a, n, c⟩ } := splice_op_evidence o ⟨a, n, c⟩
theorem splice_header_ops' (o : GHeader) (a : Option Addr) (n c : Nat) : splice (headerA o) 33 #[.slice a n c] = headerA { o with ops := ⟨a, n, c⟩ } := splice_header_ops o ⟨a, n, c⟩
/-! structs that are built -/
theorem fold_get (o : Nat) : ∀ (l : List Value) (k : Nat) (A : Array Value), (∀ i, ((l.zipIdx k).foldl (fun cs x => cs.setIfInBounds (o + x.2) x.1) A)[i]? = if o + k ≤ i ∧ i < o + k + l.length ∧ i < A.size then l[i - (o + k)]? else A[i]?)
  | [], k, A, i => by
    rw [if_neg (by simp; omega)]
    rfl
  | v :: l, k, A, i => by
    rw [List.zipIdx_cons, List.foldl_cons, fold_get o l (k + 1) _ i]
    simp only [Array.size_setIfInBounds, List.length_cons]
    by_cases h1 : o + k ≤ i ∧ i < o + k + (l.length + 1) ∧ i < A.size
    · rw [if_pos h1]
      by_cases h2 : i = o + k
      · subst h2
        rw [if_neg (by omega)]
        simp only [Nat.sub_self, List.getElem?_cons_zero]
        rw [Array.getElem?_setIfInBounds, if_pos rfl, if_pos h1.2.2]
      · rw [if_pos (by omega)]
        rw [show i - (o + k) = (i - (o + (k + 1))) + 1 by omega, List.getElem?_cons_succ]
    · rw [if_neg h1]
      by_cases h2 : i = o + k
      · subst h2
        rw [if_neg (by omega), Array.getElem?_setIfInBounds, if_pos rfl]
        have : ¬ (o + k < A.size) := by omega
        rw [if_neg this, Array.getElem?_eq_none (by omega)]
      · rw [if_neg (by omega), Array.getElem?_setIfInBounds, if_neg (by omega)]
theorem fold_splice (A B : Array Value) (o n : Nat) (hn : B.size = n) (h : o + n ≤ A.size) : Array.foldl (fun cs (x : Value × Nat) => cs.setIfInBounds (o + x.2) x.1) A B.zipIdx 0 n = splice A o B := by
  subst hn
  have e : Array.foldl (fun cs (x : Value × Nat) => cs.setIfInBounds (o + x.2) x.1) A B.zipIdx 0 B.size = ((B.toList.zipIdx 0).foldl (fun cs x => cs.setIfInBounds (o + x.2) x.1) A) := by
    rw [← Array.toList_zipIdx, Array.foldl_toList]
    congr 1
    simp
  rw [e]
  apply Array.ext_getElem?
  intro i
  rw [fold_get, splice_get _ _ _ h, Nat.add_zero, Array.length_toList]
  by_cases h1 : o ≤ i ∧ i < o + B.size
  · rw [if_pos ⟨h1.1, h1.2, by omega⟩, if_pos h1, Array.getElem?_toList]
  · rw [if_neg (by omega), if_neg h1]
theorem splice_point_name (p : Pt) (n : Hash) : splice (pointA p) 1 (hashA n) = pointA { p with name := n } := by
  have e : ∀ u : Pt, pointA u = #[.int .u64 (u.epoch.toNat : Int)] ++ hashA u.name ++ #[] := fun u => by rw [Array.append_empty]; rfl
  rw [e, e]
  exact splice_mid #[.int .u64 (p.epoch.toNat : Int)] (hashA p.name) (hashA n) #[] 1 rfl (by simp)
theorem splice_vote_source (v : GVote) (p : Pt) : splice (voteA v) 1 (pointA p) = voteA { v with source := p } := by
  have e : ∀ u : GVote, voteA u = #[.int .i64 u.validator] ++ pointA u.source ++ (pointA u.target ++ #[u.sig.v]) := fun u => by rw [← Array.append_assoc]; rfl
  rw [e, e]
  exact splice_mid #[.int .i64 v.validator] (pointA v.source) (pointA p) (pointA v.target ++ #[v.sig.v]) 1 rfl (by simp)
theorem splice_vote_target (v : GVote) (p : Pt) : splice (voteA v) 34 (pointA p) = voteA { v with target := p } := by
  have hs : (#[Value.int .i64 v.validator] ++ pointA v.source).size = 34 := by simp
  generalize hA : #[Value.int .i64 v.validator] ++ pointA v.source = A at hs
  have h := splice_mid A (pointA v.target) (pointA p) #[v.sig.v] 34 hs (by simp)
  rw [← hA] at h
  exact h
theorem set_splice (A : Array Value) (i : Nat) (v : Value) (h : i < A.size) : A.setIfInBounds i v = splice A i #[v] := by
  apply Array.ext_getElem?
  intro k
  rw [splice_get _ _ _ (by simp; omega), Array.getElem?_setIfInBounds]
  by_cases e : i = k
  · subst e
    rw [if_pos rfl, if_pos h, if_pos (by simp)]
    simp
  · rw [if_neg e, if_neg (by simp; omega)]
theorem voteA_set_sig (v : GVote) (s : Sl) : (voteA v).setIfInBounds 67 s.v = voteA { v with sig := s } := by
  rw [set_splice _ _ _ (by simp)]
  have hs : (#[Value.int .i64 v.validator] ++ pointA v.source ++ pointA v.target).size + 0 = 67 := by simp
  generalize hA : #[Value.int .i64 v.validator] ++ pointA v.source ++ pointA v.target = A at hs
  have h := splice_tail A #[v.sig.v] #[s.v] 0 67 s.v hs (by simp) (by simp)
  rw [← hA] at h
  exact h
theorem voteA_set_sig' (v : GVote) (a : Option Addr) (n c : Nat) : (voteA v).setIfInBounds 67 (.slice a n c) = voteA { v with sig := ⟨a, n, c⟩ } := voteA_set_sig v ⟨a, n, c⟩
theorem splice_link_source (v : Lnk) (p : Pt) : splice (linkA v) 0 (pointA p) = linkA { v with source := p } := by
  have h := splice_mid #[] (pointA v.source) (pointA p) (pointA v.target) 0 rfl (by simp)
  rw [Array.empty_append, Array.empty_append] at h
  unfold linkA
  exact h
theorem splice_link_target (v : Lnk) (p : Pt) : splice (linkA v) 33 (pointA p) = linkA { v with target := p } := by
  have h := splice_mid (pointA v.source) (pointA v.target) (pointA p) #[] 33 (by simp) (by simp)
  rw [Array.append_empty, Array.append_empty] at h
  unfold linkA
  exact h
attribute [go_sem] fold_splice splice_point_name splice_vote_source splice_vote_target voteA_set_sig' splice_link_source splice_link_target
attribute [go_sem] opA_set_kind pointA_set_epoch voteA_set_validator splice_op_key splice_op_stake splice_op_validator splice_op_evidence' splice_header_ops'
end Go.Proofs.Ythdjhbiigmcecaa

/- Contracts of package slices and cmp at bytes: Equal, Compare, Or. -/
namespace Go.Proofs.Ythdjhbiigmcecaa
open Go.RowKit

theorem take_succ_eq (x y : List UInt8) (k : Nat) (hx : k < x.length) (hy : k < y.length) (h : x.take k = y.take k) (he : x[k] = y[k]) : x.take (k + 1) = y.take (k + 1) := by
  rw [List.take_succ_eq_append_getElem hx, List.take_succ_eq_append_getElem hy, h, he]
theorem ne_of_at (x y : List UInt8) (k : Nat) (hx : k < x.length) (hy : k < y.length) (he : x[k] ≠ y[k]) : x ≠ y := by
  intro h
  subst h
  exact he rfl

set_option maxRecDepth 100000 in
set_option maxHeartbeats 800000 in
theorem sequal_c (s t : Sl) (x y : List UInt8) (w : World) (hs : BytesR w s x) (ht : BytesR w t y) (hx : x.length ≤ 9223372036854775807) :
    Calls Try.prog 81 #[s.v, t.v] w fun e w' => e = .returned (.bool (decide (x = y))) ∧ ∃ n, w' = w.drewN n := by
  have hs1 := hs.1
  have ht1 := ht.1
  obtain ⟨sa, sn, sc⟩ := s
  obtain ⟨ta, tn, tc⟩ := t
  simp only at hs1 ht1
  subst hs1
  subst ht1
  have Hs := Lib.hid hs
  have Ht := Lib.hid ht
  clear hs ht
  change Calls Try.prog _ #[.slice sa x.length sc, .slice ta y.length tc] w _
  by_cases hlen : x.length = y.length
  · have hl1 : (x.length : Int) = y.length := by omega
    have hb : ((x.length : Int) != (y.length : Int)) = false := by simp [hl1]
    have Hlen := Lib.hid hlen
    clear hlen hl1
    go_enter Try.func81, Try.ntmps81
    go_wp2_with fail
    go_loopw [13] (fun i w' => ∃ k : Nat, k ≤ x.length ∧ x.take k = y.take k ∧ i = .int .i64 k ∧ ∃ n, w' = w.drewN n) (fun i _ => x.length - (intOf i).toNat)
    case atStart => exact ⟨0, Nat.zero_le _, by simp, rfl, 0, rfl⟩
    case round =>
      obtain ⟨k, hk, hl, rfl, n, rfl⟩ := hrel
      have Hl := Lib.hid hl
      clear hl
      by_cases hkx : k < x.length
      · have hyk : k < y.length := by have := Hlen.out; omega
        obtain ⟨b, off, e, _, hc⟩ := Hs.out.at (by omega)
        have e1 := congrArg Sl.a e
        simp only at e1
        subst e1
        clear e
        have hcx : ∀ n, (w.drewN n).cell? ⟨b, off + k, none⟩ = some (.int .u8 (x[k].toNat : Int)) := fun _ => hc k hkx
        clear hc
        obtain ⟨b2, off2, e, _, hc⟩ := Ht.out.at (by omega)
        have e1 := congrArg Sl.a e
        simp only at e1
        subst e1
        clear e
        have hcy : ∀ n, (w.drewN n).cell? ⟨b2, off2 + k, none⟩ = some (.int .u8 (y[k].toNat : Int)) := fun _ => hc k hyk
        clear hc
        have i0 : (0 : Int) ≤ (k : Int) := by omega
        have i1 : (k : Int) < (x.length : Int) := by omega
        have i2 : (k : Int) < (y.length : Int) := by omega
        have hne := ne_of_at x y k hkx hyk
        have htk := take_succ_eq x y k hkx hyk Hl.out
        generalize hxk : x[k] = xk at *
        generalize hyk' : y[k] = yk at *
        have Hne := Lib.hid hne
        have Htk := Lib.hid htk
        clear hxk hyk' hne htk
        by_cases hz : xk = yk
        · subst hz
          have hb : ((xk.toNat : Int) != (xk.toNat : Int)) = false := by simp
          go_wp2_with fail
          go_quiet (fail)
          go_wp2_with fail
          go_roundw
          case rel => exact ⟨k + 1, by omega, Htk.out (by first | rfl | trivial), by go_num, _, rfl⟩
          case measure => simp [intOf]; omega
        · have hb : ((xk.toNat : Int) != (yk.toNat : Int)) = true := by
            rw [bne_iff_ne]
            intro h
            exact hz (UInt8.toNat_inj.1 (by omega))
          have hd : decide (x = y) = false := decide_eq_false (Hne.out hz)
          have Hd := Lib.hid hd
          clear hd hz
          go_wp2_with fail
          go_quiet (fail)
          go_wp2_with fail
          go_ret
          exact ⟨ret_bool Hd.out.symm, _, World.drewN_drewN _ _ _⟩
      · have hd : decide (x = y) = true := decide_eq_true (by
          have h1 := Hl.out
          have h2 := Hlen.out
          rw [List.take_of_length_le (by omega), List.take_of_length_le (by omega)] at h1
          exact h1)
        have Hd := Lib.hid hd
        clear hd
        go_wp2_with fail
        go_ret
        exact ⟨ret_bool Hd.out.symm, _, rfl⟩
  · have hb : ((x.length : Int) != (y.length : Int)) = true := by simp; omega
    have hd : decide (x = y) = false := decide_eq_false (fun h => hlen (by rw [h]))
    rw [hd]
    clear hlen hd
    go_enter Try.func81, Try.ntmps81
    go_wp2_with fail
    go_ret
    exact ⟨rfl, 0, rfl⟩
end Go.Proofs.Ythdjhbiigmcecaa

/- Rows of structs of any kind: their cells in one list, reading them, appending one. Over any program. -/
namespace Go.Proofs.Ythdjhbiigmcecaa
open Go.RowKit

/-- a slice of one struct, made on the spot -/
theorem run_buildSlice_one {P : Program} (w : World) {t e : TypeId} {i : TypeInfo} {z : Value} {k : Nat} (ht : P.underlying t = some (.slice e)) (hi : P.info? e = some i) (hz : i.zero = some z) (hs : i.size = k) (hzs : z.cells.size = k) (h0 : 0 < k) (hle : k ≤ 16777216)
    (xs : Array Value) (hxs : xs.size = k) : (Instr.buildSlice t 1 #[(0, .agg xs)]).run P w = .ok (.slice (some ⟨w.heap.size, 0, none⟩) 1 1) (w.alloc (.cells xs e)) := by
  have hfold : ∀ Z : Array Value, Z.size = k → xs.zipIdx.foldl (fun cs (x : Value × Nat) => cs.setIfInBounds (0 + x.2) x.1) Z = xs := fun Z hZ => by
    rw [fold_splice Z xs 0 xs.zipIdx.size (by simp) (by simp; omega), splice_all' _ _ (by omega)]
  have hsz : (Go.sizeOf e).run P w = .ok k w := by simp [Go.sizeOf, typeInfo, hi, hs]
  have hzv : (zeroValue e).run P w = .ok z w := by simp [zeroValue, typeInfo, hi, hz]
  simp only [Instr.buildSlice, Sem.run_bind, run_underlying ht, Result.andThen_ok, hsz, Nat.one_mul]
  rw [if_neg (by omega), if_neg (by omega)]
  simp only [Sem.run_bind, hzv, Result.andThen_ok, Sem.run_pure]
  have hf : Instr.fill (fun i => some (i * k, k)) ((Array.range k).map (z.cells[· % z.cells.size]!)) (#[(0, Value.agg xs)] : Array (Nat × Value)).toList = some xs := by
    simp only [Instr.fill, Value.cells, Nat.zero_mul]
    rw [if_neg (by simp [hxs])]
    refine congrArg some (hfold _ ?_)
    simp
  rw [hf]
  simp [newRow]
section
variable {α : Type} (A : α → Array Value)
/-- the cells of a row of structs -/
def flatC (xs : List α) : List Value := (xs.map fun x => (A x).toList).flatten
theorem flatC_cons (x : α) (xs : List α) : flatC A (x :: xs) = (A x).toList ++ flatC A xs := by simp [flatC]
theorem flatC_append (xs ys : List α) : flatC A (xs ++ ys) = flatC A xs ++ flatC A ys := by simp [flatC]
theorem flatC_one (x : α) : flatC A [x] = (A x).toList := by simp [flatC]
variable {k : Nat} (hk : ∀ x, (A x).size = k)
include hk
theorem flatC_length (xs : List α) : (flatC A xs).length = xs.length * k := by
  induction xs with
  | nil => simp [flatC]
  | cons x xs ih =>
    rw [flatC_cons, List.length_append, ih, List.length_cons, Nat.add_mul, Nat.one_mul, Array.length_toList, hk]
    omega
theorem flatC_get : ∀ (xs : List α) (i r : Nat) (hi : i < xs.length), r < k → (flatC A xs)[i * k + r]? = (A xs[i])[r]?
  | [], _, _, hi, _ => by simp at hi
  | x :: xs, 0, r, hi, hr => by
    rw [flatC_cons, Nat.zero_mul, Nat.zero_add, List.getElem?_append_left (by rw [Array.length_toList, hk]; exact hr)]
    simp
  | x :: xs, i + 1, r, hi, hr => by
    have ih := flatC_get xs i r (by simpa using hi) hr
    rw [flatC_cons, List.getElem?_append_right (by rw [Array.length_toList, hk, Nat.add_mul]; omega), Array.length_toList, hk]
    rw [show (i + 1) * k + r - k = i * k + r by rw [Nat.add_mul]; omega, ih]
    rfl
/-- a row of the call's own, read -/
theorem own_row (hk0 : 0 < k) {w : World} {B n c g : Nat} {xs : List α} (h : OwnC w B k (.slice (some ⟨g, 0, none⟩) n c) xs.length (flatC A xs)) (i : Nat) (hi : i < xs.length) : row? w g (i * k) k = some (A xs[i]) := by
  rcases h.2 with ⟨hv, hn⟩ | ⟨g', cap, hv, _, hlt, hn, _, hc, _, hx⟩
  · cases hv
  · injection hv with h1 h2 h3
    injection h1 with h1
    injection h1 with h1
    subst h1
    have hle : i * k + k ≤ xs.length * k := by
      have := Nat.mul_le_mul_right k (show i + 1 ≤ xs.length by omega)
      rw [Nat.add_mul, Nat.one_mul] at this
      exact this
    have hcell : ∀ j, j < k → w.cell? ⟨g, i * k + j, none⟩ = (A xs[i])[j]? := fun j hj => by
      have e := flatC_get A hk xs i j hi hj
      have hj2 : j < (A xs[i]).size := by rw [hk]; exact hj
      rw [Array.getElem?_eq_getElem hj2] at e ⊢
      exact hx _ _ e
    have h0 := hcell 0 hk0
    rw [Nat.add_zero, Array.getElem?_eq_getElem (by rw [hk]; exact hk0)] at h0
    unfold World.cell? at h0
    unfold row?
    cases hg : w.heap[g]? with
    | none => rw [hg] at h0; simp at h0
    | some o =>
      cases o with
      | cells cs t fr =>
        have hcs : ∀ j, j < k → cs[i * k + j]? = (A xs[i])[j]? := fun j hj => by
          rw [← cell_of_row w g (i * k + j) cs t fr hg]
          exact hcell j hj
        have hlast := hcs (k - 1) (by omega)
        have hkl : k - 1 < (A xs[i]).size := by rw [hk]; omega
        rw [Array.getElem?_eq_getElem hkl] at hlast
        have hsz := (Array.getElem?_eq_some_iff.1 hlast).1
        simp only
        rw [if_pos (by omega)]
        congr 1
        apply Array.ext
        · simp only [Array.size_extract, hk]
          omega
        · intro j h1 h2
          have hj : j < k := by rw [hk] at h2; exact h2
          have := hcs j hj
          rw [Array.getElem?_eq_getElem h2] at this
          have h3 := Array.getElem?_eq_some_iff.1 this
          simp only [Array.getElem_extract]
          exact h3.2
      | _ => rw [hg] at h0; simp at h0
theorem rows_of_own (hk0 : 0 < k) {w : World} {B : Nat} {s : Sl} {xs : List α} (h : OwnC w B k s.v xs.length (flatC A xs)) : SlR k (fun cs x => cs = A x) w s xs := by
  obtain ⟨sa, sn, sc⟩ := s
  rcases h.2 with ⟨hv, hn⟩ | ⟨g, cap, hv, _, hlt, hn, _, hc, _, hx⟩
  · injection hv with h1 h2 h3
    subst h2
    have : xs = [] := List.eq_nil_of_length_eq_zero hn
    subst this
    exact ⟨rfl, Nat.zero_le _, fun e => absurd rfl e⟩
  · injection hv with h1 h2 h3
    subst h1 h2 h3
    refine ⟨rfl, hn, fun _ => ⟨g, 0, rfl, fun i hi => ⟨_, ?_, rfl⟩⟩⟩
    rw [Nat.zero_add]
    exact own_row A hk hk0 h i hi
omit hk in
theorem flatC_onecell (h1 : ∀ x, ∀ u ∈ (A x).toList, u.oneCell' = true) (xs : List α) : ∀ u ∈ flatC A xs, u.oneCell' = true := by
  intro u hu
  simp only [flatC, List.mem_flatten, List.mem_map] at hu
  obtain ⟨l, ⟨x, _, rfl⟩, hu⟩ := hu
  exact h1 x u hu
/-- one element as a source of append -/
theorem src_one {P : Program} {t e : TypeId} (ht : P.underlying t = some (.slice e)) (h1 : ∀ x, ∀ u ∈ (A x).toList, u.oneCell' = true) {w : World} {b c : Nat} {x : α} {e' : TypeId} {fr : Nat × Nat} (hb : w.heap[b]? = some (.cells (A x) e' fr)) :
    Src P k t (.slice (some ⟨b, 0, none⟩) 1 c) 1 (flatC A [x]) w := by
  refine Src.ofSlice w ht ⟨b, 0, none⟩ 1 c (flatC A [x]) (by rw [flatC_length A hk]; rfl) (fun j u hu => ?_) (flatC_onecell A h1 _)
  rw [flatC_one] at hu
  have hadd : (⟨b, 0, none⟩ : Addr).add j = ⟨b, j, none⟩ := by unfold Addr.add; split <;> simp_all
  rw [hadd, cell_of_row w b j _ _ _ hb]
  simpa using hu
theorem run_append_one {P : Program} (w : World) (t : TypeId)
    (h1 : ∀ x, ∀ u ∈ (A x).toList, u.oneCell' = true)
    (base : Nat) (e : TypeId) (i : TypeInfo) (z : Value) (bytes : Nat) (ht : P.underlying t = some (.slice e)) (hi : P.info? e = some i) (hz : i.zero = some z)
    (hsize : i.size = k) (hby : i.bytes = bytes) (hzs : z.cells.size = k)
    (v : Value) (xs : List α) (hown : OwnC w base k v xs.length (flatC A xs)) (b c : Nat) (x : α) {e' : TypeId} {fr : Nat × Nat} (hb : w.heap[b]? = some (.cells (A x) e' fr))
    (hlen : xs.length ≤ 1000000) (hbb : bytes ≤ 1000000) (hbase : base ≤ w.heap.size) :
    ∃ (s' : Sl) (w' : World), (Builtin.append_ #[t, t] t #[v, .slice (some ⟨b, 0, none⟩) 1 c]).run P w = .ok s'.v w' ∧ OwnC w' base k s'.v (xs ++ [x]).length (flatC A (xs ++ [x])) ∧ w.grownBy w' v.ownBlock ∧ (s'.v.ownBlock = v.ownBlock ∨ s'.v.ownBlock = some w.heap.size) := by
  have hm := Nat.mul_le_mul (show xs.length + 1 ≤ 1000001 by omega) hbb
  obtain ⟨v', w', h2, h3, h4, h5⟩ := run_append_ownC (P := P) w base t t t e i z k bytes ht hi hz hsize hby hzs v xs.length (flatC A xs) hown (.slice (some ⟨b, 0, none⟩) 1 c) 1 (flatC A [x]) (src_one A hk ht h1 hb) (by simp only [maxLen]; omega) (by omega) hbase
  obtain ⟨s', rfl⟩ := h3.slice
  exact ⟨s', w', h2, by rw [flatC_append, List.length_append]; exact h3, h4, h5⟩
end
end Go.Proofs.Ythdjhbiigmcecaa
