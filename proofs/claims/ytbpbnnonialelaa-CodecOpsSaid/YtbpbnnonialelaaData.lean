/- Operations and headers as data; how they lie in memory. -/
import Derived.Test.YtbpbnnonialelaaCodec2
namespace Go.Proofs.Ytbpbnnonialelaa
open Go.RowKit

/-- api.HeaderOp -/
structure Op where
  kind : Int
  key : Hash
  stake : UInt64
  validator : Int
  evidence : List Vote
  deriving DecidableEq
/-- api.Header -/
structure Hdr where
  parent : Hash
  epoch : UInt64
  ops : List Op
  deriving DecidableEq

/-- cells that are a vote's -/
def VoteC (w : World) (cs : Array Value) (v : Vote) : Prop := ∃ g, cs = voteA g ∧ VoteR w g v
abbrev VotesR (w : World) (s : Sl) (l : List Vote) : Prop := SlR 68 (VoteC w) w s l
def OpR (w : World) (g : GOp) (o : Op) : Prop := g.kind = o.kind ∧ g.key = o.key ∧ g.stake = o.stake ∧ g.validator = o.validator ∧ VotesR w g.evidence o.evidence
def OpC (w : World) (cs : Array Value) (o : Op) : Prop := ∃ g, cs = opA g ∧ OpR w g o
abbrev OpsR (w : World) (s : Sl) (l : List Op) : Prop := SlR 36 (OpC w) w s l
def HdrR (w : World) (g : GHeader) (h : Hdr) : Prop := g.parent = h.parent ∧ g.epoch = h.epoch ∧ OpsR w g.ops h.ops

theorem VoteR.keep' {w w' : World} {g : GVote} {v : Vote} (h : VoteR w g v) (hb : Below w.heap.size w w') : VoteR w' g v :=
  ⟨h.1, h.2.1, h.2.2.1, h.2.2.2.keep hb⟩
theorem VotesR.keep' {w w' : World} {s : Sl} {l : List Vote} (h : VotesR w s l) (hb : Below w.heap.size w w') : VotesR w' s l :=
  SlR.keep h hb fun _ _ ⟨g, e, hv⟩ => ⟨g, e, hv.keep' hb⟩
theorem OpR.keep' {w w' : World} {g : GOp} {o : Op} (h : OpR w g o) (hb : Below w.heap.size w w') : OpR w' g o :=
  ⟨h.1, h.2.1, h.2.2.1, h.2.2.2.1, VotesR.keep' h.2.2.2.2 hb⟩
theorem OpsR.keep' {w w' : World} {s : Sl} {l : List Op} (h : OpsR w s l) (hb : Below w.heap.size w w') : OpsR w' s l :=
  SlR.keep h hb fun _ _ ⟨g, e, hv⟩ => ⟨g, e, hv.keep' hb⟩
theorem HdrR.keep' {w w' : World} {g : GHeader} {o : Hdr} (h : HdrR w g o) (hb : Below w.heap.size w w') : HdrR w' g o :=
  ⟨h.1, h.2.1, OpsR.keep' h.2.2 hb⟩

def voteMay (v : Vote) : Bool := mayMem v.validator && mayPt v.source && mayPt v.target && decide (v.sig.length ≤ 4096)
theorem VoteR.may {w : World} {g : GVote} {v : Vote} (h : VoteR w g v) : mayV g = voteMay v := by
  obtain ⟨h1, h2, h3, h4⟩ := h
  simp [mayV, voteMay, h1, h2, h3, h4.1]

/-- an operation with what it names alone -/
def bareO (o : Op) : Op :=
  if o.kind = 1 then { o with validator := 0, evidence := [] }
  else if o.kind = 3 then { o with key := zeroHash, stake := 0 }
  else if o.kind = 2 then { o with key := zeroHash, stake := 0, evidence := [] }
  else { kind := o.kind, key := zeroHash, stake := 0, validator := 0, evidence := [] }
/-- may an operation be? -/
def opMay (o : Op) : Bool :=
  decide (o = bareO o) && (if o.kind = 1 then decide (1 ≤ o.stake.toNat ∧ o.stake.toNat ≤ 4294967296) else if o.kind = 2 then mayMem o.validator
    else if o.kind = 3 then mayMem o.validator && decide (o.evidence.length = 2) && o.evidence.all voteMay else false)
/-- may a header be? -/
def hdrMay (h : Hdr) : Bool := decide (1 ≤ h.epoch.toNat ∧ h.epoch.toNat ≤ 4611686018427387904) && decide (h.ops.length ≤ 16) && h.ops.all opMay

/-- an operation's bytes -/
def opBytes (o : Op) : List UInt8 :=
  UInt8.ofNat (o.kind % 256).toNat :: if o.kind = 1 then o.key.1 ++ be 8 o.stake.toNat else UInt8.ofNat (o.validator % 256).toNat :: (o.evidence.map vtBytes).flatten
/-- a header's bytes -/
def hdBytes (h : Hdr) : List UInt8 := h.parent.1 ++ be 8 h.epoch.toNat ++ [UInt8.ofNat h.ops.length] ++ (h.ops.map opBytes).flatten
end Go.Proofs.Ytbpbnnonialelaa
