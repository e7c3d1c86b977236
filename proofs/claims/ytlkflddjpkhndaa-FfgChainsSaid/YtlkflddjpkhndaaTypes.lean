/- Go's structs as Lean values, and the cells that they take. Over any program. -/
import Derived.Test.YtlkflddjpkhndaaKit
namespace Go.Proofs.Ytlkflddjpkhndaa
open Go.RowKit

/-- 32 bytes -/
abbrev Hash := {l : List UInt8 // l.length = 32}
def zeroHash : Hash := ⟨List.replicate 32 0, by simp⟩
def byteV (b : UInt8) : Value := .int .u8 (b.toNat : Int)
def hashA (h : Hash) : Array Value := (h.1.map byteV).toArray
@[simp] theorem hashA_size (h : Hash) : (hashA h).size = 32 := by simp [hashA, h.2]

/-- api.Point -/
structure Pt where
  epoch : UInt64
  name : Hash
  deriving DecidableEq
def zeroPt : Pt := ⟨0, zeroHash⟩
def pointA (p : Pt) : Array Value := #[.int .u64 (p.epoch.toNat : Int)] ++ hashA p.name
@[simp] theorem pointA_size (p : Pt) : (pointA p).size = 33 := by simp [pointA]
@[simp] theorem pointA_epoch (p : Pt) : (pointA p)[0]? = some (.int .u64 (p.epoch.toNat : Int)) := by simp [pointA]
@[simp] theorem pointA_epoch' (p : Pt) (h) : (pointA p)[0]'h = .int .u64 (p.epoch.toNat : Int) := by simp [pointA]
@[simp] theorem pointA_name (p : Pt) : (pointA p).extract 1 33 = hashA p.name := by
  simp [pointA, Array.extract_append]

theorem ext_self {α : Type} (a : Array α) (n : Nat) (h : a.size ≤ n) : a.extract 0 n = a := Array.extract_eq_self_of_le h
theorem ext_none {α : Type} (a : Array α) (m n : Nat) (h : a.size ≤ m) : a.extract m n = #[] := Array.extract_empty_of_size_le_start h

@[simp] theorem pointA_all (p : Pt) : (pointA p).extract 0 33 = pointA p := ext_self _ _ (by simp)
@[simp] theorem hashA_all (h : Hash) : (hashA h).extract 0 32 = hashA h := ext_self _ _ (by simp)

/-- api.Link -/
structure Lnk where
  source : Pt
  target : Pt
  deriving DecidableEq
def linkA (l : Lnk) : Array Value := pointA l.source ++ pointA l.target
@[simp] theorem linkA_size (l : Lnk) : (linkA l).size = 66 := by simp [linkA]
@[simp] theorem linkA_source (l : Lnk) : (linkA l).extract 0 33 = pointA l.source := by
  simp [linkA, Array.extract_append, ext_self, ext_none]
@[simp] theorem linkA_target (l : Lnk) : (linkA l).extract 33 66 = pointA l.target := by
  simp [linkA, Array.extract_append, ext_self, ext_none]

@[simp] theorem linkA_all (l : Lnk) : (linkA l).extract 0 66 = linkA l := ext_self _ _ (by simp)

/-- a slice's head -/
structure Sl where
  a : Option Addr
  n : Nat
  c : Nat
abbrev Sl.v (s : Sl) : Value := .slice s.a s.n s.c

/-- api.Vote, as it lies in memory -/
structure GVote where
  validator : Int
  source : Pt
  target : Pt
  sig : Sl
def voteA (v : GVote) : Array Value := #[.int .i64 v.validator] ++ pointA v.source ++ pointA v.target ++ #[v.sig.v]
@[simp] theorem voteA_size (v : GVote) : (voteA v).size = 68 := by simp [voteA]
@[simp] theorem voteA_validator (v : GVote) : (voteA v)[0]? = some (.int .i64 v.validator) := by simp [voteA, Array.getElem?_append]
@[simp] theorem voteA_sig (v : GVote) : (voteA v)[67]? = some v.sig.v := by
  simp only [voteA]
  rw [Array.getElem?_append_right (by simp)]
  simp
@[simp] theorem voteA_validator' (v : GVote) (h) : (voteA v)[0]'h = .int .i64 v.validator := by simp [voteA, Array.getElem_append]
@[simp] theorem voteA_sig' (v : GVote) (h) : (voteA v)[67]'h = v.sig.v := by
  have := voteA_sig v
  rwa [Array.getElem?_eq_getElem h, Option.some.injEq] at this
@[simp] theorem voteA_source (v : GVote) : (voteA v).extract 1 34 = pointA v.source := by
  simp [voteA, Array.extract_append, ext_self, ext_none]
@[simp] theorem voteA_target (v : GVote) : (voteA v).extract 34 67 = pointA v.target := by
  simp [voteA, Array.extract_append, ext_self, ext_none]
@[simp] theorem voteA_all (v : GVote) : (voteA v).extract 0 68 = voteA v := ext_self _ _ (by simp)

/-- api.HeaderOp, as it lies in memory -/
structure GOp where
  kind : Int
  key : Hash
  stake : UInt64
  validator : Int
  evidence : Sl
def opA (o : GOp) : Array Value := #[.int .i64 o.kind] ++ hashA o.key ++ #[.int .u64 (o.stake.toNat : Int), .int .i64 o.validator, o.evidence.v]
@[simp] theorem opA_size (o : GOp) : (opA o).size = 36 := by simp [opA]
@[simp] theorem opA_all (o : GOp) : (opA o).extract 0 36 = opA o := ext_self _ _ (by simp)
@[simp] theorem opA_key (o : GOp) : (opA o).extract 1 33 = hashA o.key := by
  simp [opA, Array.extract_append, ext_self, ext_none]
theorem opA_tail (o : GOp) (i : Nat) : (opA o)[33 + i]? = #[.int .u64 (o.stake.toNat : Int), .int .i64 o.validator, o.evidence.v][i]? := by
  rw [opA, Array.getElem?_append_right (by simp)]
  simp
@[simp] theorem opA_kind (o : GOp) : (opA o)[0]? = some (.int .i64 o.kind) := by simp [opA, Array.getElem?_append]
@[simp] theorem opA_kind' (o : GOp) (h) : (opA o)[0]'h = .int .i64 o.kind := by simp [opA, Array.getElem_append]
@[simp] theorem opA_stake (o : GOp) : (opA o)[33]? = some (.int .u64 (o.stake.toNat : Int)) := opA_tail o 0
@[simp] theorem opA_stake' (o : GOp) (h) : (opA o)[33]'h = .int .u64 (o.stake.toNat : Int) := by
  have := opA_stake o
  rwa [Array.getElem?_eq_getElem h, Option.some.injEq] at this
@[simp] theorem opA_validator (o : GOp) : (opA o)[34]? = some (.int .i64 o.validator) := opA_tail o 1
@[simp] theorem opA_validator' (o : GOp) (h) : (opA o)[34]'h = .int .i64 o.validator := by
  have := opA_validator o
  rwa [Array.getElem?_eq_getElem h, Option.some.injEq] at this
@[simp] theorem opA_evidence (o : GOp) : (opA o)[35]? = some o.evidence.v := opA_tail o 2
@[simp] theorem opA_evidence' (o : GOp) (h) : (opA o)[35]'h = o.evidence.v := by
  have := opA_evidence o
  rwa [Array.getElem?_eq_getElem h, Option.some.injEq] at this

/-- api.Header, as it lies in memory -/
structure GHeader where
  parent : Hash
  epoch : UInt64
  ops : Sl
def headerA (o : GHeader) : Array Value := hashA o.parent ++ #[.int .u64 (o.epoch.toNat : Int), o.ops.v]
@[simp] theorem headerA_size (o : GHeader) : (headerA o).size = 34 := by simp [headerA]
@[simp] theorem headerA_all (o : GHeader) : (headerA o).extract 0 34 = headerA o := ext_self _ _ (by simp)
@[simp] theorem headerA_parent (o : GHeader) : (headerA o).extract 0 32 = hashA o.parent := by
  simp [headerA, Array.extract_append, ext_self, ext_none]
theorem headerA_tail (o : GHeader) (i : Nat) : (headerA o)[32 + i]? = #[.int .u64 (o.epoch.toNat : Int), o.ops.v][i]? := by
  rw [headerA, Array.getElem?_append_right (by simp)]
  simp
@[simp] theorem headerA_epoch (o : GHeader) : (headerA o)[32]? = some (.int .u64 (o.epoch.toNat : Int)) := headerA_tail o 0
@[simp] theorem headerA_epoch' (o : GHeader) (h) : (headerA o)[32]'h = .int .u64 (o.epoch.toNat : Int) := by
  have := headerA_epoch o
  rwa [Array.getElem?_eq_getElem h, Option.some.injEq] at this
@[simp] theorem headerA_ops (o : GHeader) : (headerA o)[33]? = some o.ops.v := headerA_tail o 1
@[simp] theorem headerA_ops' (o : GHeader) (h) : (headerA o)[33]'h = o.ops.v := by
  have := headerA_ops o
  rwa [Array.getElem?_eq_getElem h, Option.some.injEq] at this
end Go.Proofs.Ytlkflddjpkhndaa
