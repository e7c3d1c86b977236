/- Texts of this proof, one behind the other: RefPoint, RefPof, RefVote, RefHdr, Name, ChnP, Asd, MapHs, MapHv, Rws, Reg, RegP. -/
import Derived.Test.YthdjhbiigmcecaaPAG
import Derived.Test.YthdjhbiigmcecaaPAH
import Derived.Test.YthdjhbiigmcecaaPAF
import Derived.Deep.CutRange
import Derived.Test.YthdjhbiigmcecaaPAE
import Derived.Test.YthdjhbiigmcecaaPAA
import Derived.DeepKeys3
import Derived.WideKeyRuns
import Derived.WideKeyEntry
set_option linter.unusedVariables false
set_option linter.unusedSimpArgs false
/- Contracts: ref09.point, MayPoint, Point, PointLess. -/
namespace Go.Proofs.Ythdjhbiigmcecaa
open Go.RowKit

end Go.Proofs.Ythdjhbiigmcecaa

/- Contract: ref09.PointOf. -/
namespace Go.Proofs.Ythdjhbiigmcecaa
open Go.RowKit

end Go.Proofs.Ythdjhbiigmcecaa

/- Contracts: ref09.MayVote, Vote, SameVote; Reader.Blob. -/
namespace Go.Proofs.Ythdjhbiigmcecaa
open Go.RowKit

end Go.Proofs.Ythdjhbiigmcecaa

/- Contracts: ref09.Op, Header, NameText. -/
namespace Go.Proofs.Ythdjhbiigmcecaa
open Go.RowKit

theorem hdBytes_length {h : Hdr} (hl : h.ops.length ≤ 16) (hm : h.ops.all opMay = true) : (hdBytes h).length ≤ 200000 := by
 have h1 := ops_len h.ops 16 hm
 rw [List.take_of_length_le hl] at h1
 rw [hdBytes_eq, List.length_append, hdHead_length]
 omega
/-- the text of which a header's name is the hash -/
def nmText (h : Hdr) : List UInt8 := [104, 101, 97, 100, 101, 114] ++ hdBytes h

/-- a literal that is turned into bytes: still a slice of the call's own -/
theorem own_freeze (w : World) (base : Nat) (l : List UInt8) (cs : Array Value) (e : TypeId) (n : Nat) (hcs : cs = (l.map byteV).toArray) (hn : n = l.length) (hb : base ≤ w.heap.size) (hm : l.length ≤ maxLen) :
  Own ((w.alloc (.cells cs e)).freeze ⟨w.heap.size, n, none⟩ 1) base (.slice (some ⟨w.heap.size, 0, none⟩) n n) l := by
 have hk := freeze_kept (w.alloc (.cells cs e)) w.heap.size n 0 (Nat.zero_le _)
 have hf : ∀ j, j < n → ((w.alloc (.cells cs e)).freeze ⟨w.heap.size, n, none⟩ 1).frozen? ⟨w.heap.size, j, none⟩ = false := fun j hj => by
  unfold World.frozen? World.freeze
  rw [if_neg (by decide)]
  simp only [Array.getElem?_modify, if_true, heap_alloc_new]
  simp
  omega
 obtain ⟨hl, h⟩ := Own.lit w base l cs e n hcs hn hb hm
 rcases h with ⟨hv, _⟩ | ⟨g, cap, hv, h1, h2, h3, h4, h5, h6, h7⟩
 ·cases hv
 ·injection hv with e1 e2 e3
  injection e1 with e1
  injection e1 with e1 _
  subst e1 e3
  refine ⟨hl, .inr ⟨w.heap.size, n, by rw [hn], h1, Nat.lt_of_lt_of_le h2 hk.size, h3, h4, fun j hj => ?_, fun j hj => hf j (by omega), fun j u hu => hk.cell (h7 j u hu)⟩⟩
  obtain ⟨x, hx⟩ := Option.isSome_iff_exists.1 (h5 j hj)
  rw [hk.cell hx]
  rfl

end Go.Proofs.Ythdjhbiigmcecaa

/- codec.Name. -/
namespace Go.Proofs.Ythdjhbiigmcecaa
open Go.RowKit

/-- a header's name -/
def hdName (h : Hdr) : Hash := if hdrMay h then shaSum (nmText h) else zeroHash
theorem name_res : Try.f25.results = #[.cell 2 24, .tmp 3] := by kernel_rfl

set_option maxRecDepth 100000 in
set_option maxHeartbeats 1600000 in
theorem name_c (g : GHeader) (h : Hdr) (w : World) (hr : HdrR w g h) (hl : HdrFits h) :
  Calls Try.prog 25 #[.agg (headerA g)] w fun e w' => e = .returned (.tuple #[.agg (hashA (hdName h)), .int .i64 (noErr (hdrMay h))]) ∧ Below w.heap.size w w' := by
 have HM := fun W hW => mayHeader_c g h W hW hl
 have Hr := Lib.hid hr
 have hB0 : Below w.heap.size w ((w.alloc (.cells (headerA g) 49)).alloc (.cells (hashA zeroHash) 24)) := by (repeat' (first | (with_reducible first | exact Below.refl _ _ | assumption | refine bel_trans (by assumption) ?_ ?_ | refine bel_grown (by assumption) ?_ ?_ ?_ | refine Below.alloc ?_ ?_ _ | refine Below.drew ?_ | refine below_drewN ?_ _ | refine Below.setCell ?_ ?_ _ | refine below_put ?_ ?_ _ _ | exact Nat.le_refl _) | omega | (with_reducible first | refine Nat.le_trans ?_ (Below.size (by assumption)) | refine Nat.le_trans ?_ (World.grownBy.size (by assumption))) | (simp only [World.size_alloc, World.size_setCell, World.size_drew, size_drewN]; omega) | (simp only [World.size_alloc, World.size_setCell, World.size_drew, size_drewN, size_put]; omega) | (intro k hk; simp [Value.ownBlock] at hk; first | done | omega) | (simp [size_drewN] at *; omega)))
 have hrow0 : row? ((w.alloc (.cells (headerA g) 49)).alloc (.cells (hashA zeroHash) 24)) w.heap.size 0 34 = some (headerA g) := by
  rw [row?_old _ _ _ _ _ (by simp), row?_new]
  simp
 have hh0 : ((w.alloc (.cells (headerA g) 49)).alloc (.cells (hashA zeroHash) 24)).heap[w.heap.size + 1]? = some (.cells (hashA zeroHash) 24 (0, 0)) := by
  have := heap_alloc_new (w.alloc (.cells (headerA g) 49)) (.cells (hashA zeroHash) 24)
  simpa using this
 have hs0 : ((w.alloc (.cells (headerA g) 49)).alloc (.cells (hashA zeroHash) 24)).heap.size = w.heap.size + 2 := by simp
 clear hr
 cases hm : hdrMay h
 ·rw [hm] at HM
  rw [show hdName h = zeroHash by simp [hdName, hm], show noErr false = 2 from rfl]
  go_enter Try.func25, Try.ntmps25
  go_upto_region 1 with fail
  generalize (w.alloc (.cells (headerA g) 49)).alloc (.cells (hashA zeroHash) 24) = w0 at *
  have Hr0 := Lib.hid (HdrR.keep' Hr.out hB0)
  clear hm
  go_wp2_with fail
  refine (HM _ Hr0.out).mono ?_
  clear HM
  rintro e w1 ⟨rfl, hb1⟩
  have hB1 : Below w.heap.size w w1 := hB0.trans (hb1.mono (by omega))
  have hh1 := (hb1.block (w.heap.size + 1) (by omega)).trans hh0
  have hrow : row? w1 (w.heap.size + 1) 0 32 = some (hashA zeroHash) := rowHeap hh1 (by simp)
  have hth : there w1 (w.heap.size + 1) 0 32 := there_block hh1 (by simp)
  clear hb1 hh1 hh0 hrow0 hB0
  go_wp2_with (with_reducible refine ret_row2 Try.isAgg24 Try.sizeOf24 name_res (x := .pointer (some ⟨w.heap.size + 1, 0, none⟩)) (y := .int .i64 2) (w.heap.size + 1) 0 ?rrhx (Eq.refl _) ?rrhy ?rrh ?rrhd ?rrhR; (case rrhx => simp only [Array.getD_eq_getD_getElem?, List.getElem?_toArray, List.getElem?_cons_succ, List.getElem?_cons_zero, Option.getD_some]); (case rrhy => simp only [Array.getD_eq_getD_getElem?, List.getElem?_toArray, List.getElem?_cons_succ, List.getElem?_cons_zero, Option.getD_some]); (case rrhd => exact rfl); (case rrh => go_simp); (case rrhR => ((refine ⟨?_, ?_⟩; (case refine_1 => (go_simp; done)); (case refine_2 => ((repeat' (first | (with_reducible first | exact Below.refl _ _ | assumption | refine bel_trans (by assumption) ?_ ?_ | refine bel_grown (by assumption) ?_ ?_ ?_ | refine Below.alloc ?_ ?_ _ | refine Below.drew ?_ | refine below_drewN ?_ _ | refine Below.setCell ?_ ?_ _ | refine below_put ?_ ?_ _ _ | exact Nat.le_refl _) | omega | (with_reducible first | refine Nat.le_trans ?_ (Below.size (by assumption)) | refine Nat.le_trans ?_ (World.grownBy.size (by assumption))) | (simp only [World.size_alloc, World.size_setCell, World.size_drew, size_drewN]; omega) | (simp only [World.size_alloc, World.size_setCell, World.size_drew, size_drewN, size_put]; omega) | (intro k hk; simp [Value.ownBlock] at hk; first | done | omega) | (simp [size_drewN] at *; omega)))))))))
 ·rw [hm] at HM
  obtain ⟨m1, m2⟩ := hdrMay_out hm
  obtain ⟨hn, hhn⟩ : ∃ hn, hn = hdName h := ⟨_, rfl⟩
  rw [← hhn, show noErr true = 0 from rfl]
  have hX := Lib.hid (show shaSum (nmText h) = hn by rw [hhn]; simp [hdName, hm])
  clear hhn
  have hlen := hdBytes_length m1 m2
  have M2 := Lib.hid m2
  go_enter Try.func25, Try.ntmps25
  go_upto_region 1 with fail
  generalize (w.alloc (.cells (headerA g) 49)).alloc (.cells (hashA zeroHash) 24) = w0 at *
  have Hr0 := Lib.hid (HdrR.keep' Hr.out hB0)
  clear hm m2
  go_wp2_with fail
  refine (HM _ Hr0.out).mono ?_
  clear HM
  rintro e w1 ⟨rfl, hb1⟩
  have hB1 : Below w.heap.size w w1 := hB0.trans (hb1.mono (by omega))
  have hz1 := hb1.size
  have hh1 := (hb1.block (w.heap.size + 1) (by omega)).trans hh0
  have hrow1 := (row?_below _ 0 34 hb1 (by omega : w.heap.size < w0.heap.size)).trans hrow0
  have Hr1 := Lib.hid (HdrR.keep' Hr0.out hb1)
  clear hb1 hh0 hrow0 hB0 Hr0
  have hz1' : w.heap.size + 2 ≤ w1.heap.size := by omega
  go_upto_region 3 with fail
  have hcv := run_convert_lit (P := Try.prog) (w1.alloc (.cells #[.int .u8 104, .int .u8 101, .int .u8 97, .int .u8 100, .int .u8 101, .int .u8 114] 5)) 32 5 #[.int .u8 104, .int .u8 101, .int .u8 97, .int .u8 100, .int .u8 101, .int .u8 114] (0, 0) w1.heap.size 6 6 Try.underlying32 Try.underlying5 (heap_alloc_new w1 _)
  have ho := own_freeze w1 w.heap.size [104, 101, 97, 100, 101, 114] #[.int .u8 104, .int .u8 101, .int .u8 97, .int .u8 100, .int .u8 101, .int .u8 114] 5 6 rfl rfl (by omega) (by simp [maxLen])
  have hk := freeze_kept (w1.alloc (.cells #[.int .u8 104, .int .u8 101, .int .u8 97, .int .u8 100, .int .u8 101, .int .u8 114] 5)) w1.heap.size 6 w1.heap.size (Nat.le_refl _)
  have hbel : Below w1.heap.size w1 ((w1.alloc (.cells #[.int .u8 104, .int .u8 101, .int .u8 97, .int .u8 100, .int .u8 101, .int .u8 114] 5)).freeze ⟨w1.heap.size, 6, none⟩ 1) := hk.below (bel_a _ _)
  have hrow2 := (row?_below _ 0 34 hbel (by omega)).trans hrow1
  have hz2 := hbel.size
  have Ho := Lib.hid ho
  have Hb := Lib.hid hbel
  clear ho hk hbel hrow1
  go_wp2_with fail
  generalize (w1.alloc (.cells #[.int .u8 104, .int .u8 101, .int .u8 97, .int .u8 100, .int .u8 101, .int .u8 114] 5)).freeze ⟨w1.heap.size, 6, none⟩ 1 = w2 at *
  refine (header_c g h _ (HdrR.keep' Hr1.out Hb.out) m1 M2.out).mono ?_
  clear hcv
  rintro e w3 ⟨x, rfl, o3, hb3⟩
  obtain ⟨s3, rfl⟩ := o3.slice
  have hr0 : BytesR w3 ⟨some ⟨w1.heap.size, 0, none⟩, 6, 6⟩ [104, 101, 97, 100, 101, 114] := (Own.keep Ho.out hb3).reads
  have hz3 := hb3.size
  have hB3 : Below w.heap.size w w3 := hB1.trans ((Hb.out.trans (hb3.mono (by omega))).mono (by omega))
  have hh3 := (hb3.block (w.heap.size + 1) (by omega)).trans ((Hb.out.block (w.heap.size + 1) (by omega)).trans hh1)
  have hP : PiecesAt (w3.alloc (.cells #[.slice (some ⟨w1.heap.size, 0, none⟩) 6 6, s3.v] 32)) w3.heap.size [⟨some ⟨w1.heap.size, 0, none⟩, 6, 6⟩, s3] [[104, 101, 97, 100, 101, 114], hdBytes h] := by
   refine ⟨rfl, fun i hi => ?_, fun i hi hj => ?_⟩
   ·have hi2 : i = 0 ∨ i = 1 := by simp at hi; omega
    rcases hi2 with rfl | rfl <;> simp
   ·have hi2 : i = 0 ∨ i = 1 := by simp at hi; omega
    rcases hi2 with rfl | rfl
    ·exact hr0.keep (bel_a _ _)
    ·exact o3.reads.keep (bel_a _ _)
  have HS := sum_c w3.heap.size 2 _ _ _ hP (by simp) (by simp; omega)
  have hfl : ([[104, 101, 97, 100, 101, 114], hdBytes h] : List (List UInt8)).flatten = nmText h := by simp [nmText]
  rw [hfl, hX.out] at HS
  have hB4 : Below w.heap.size w (w3.alloc (.cells #[.slice (some ⟨w1.heap.size, 0, none⟩) 6 6, s3.v] 32)) := by (repeat' (first | (with_reducible first | exact Below.refl _ _ | assumption | refine bel_trans (by assumption) ?_ ?_ | refine bel_grown (by assumption) ?_ ?_ ?_ | refine Below.alloc ?_ ?_ _ | refine Below.drew ?_ | refine below_drewN ?_ _ | refine Below.setCell ?_ ?_ _ | refine below_put ?_ ?_ _ _ | exact Nat.le_refl _) | omega | (with_reducible first | refine Nat.le_trans ?_ (Below.size (by assumption)) | refine Nat.le_trans ?_ (World.grownBy.size (by assumption))) | (simp only [World.size_alloc, World.size_setCell, World.size_drew, size_drewN]; omega) | (simp only [World.size_alloc, World.size_setCell, World.size_drew, size_drewN, size_put]; omega) | (intro k hk; simp [Value.ownBlock] at hk; first | done | omega) | (simp [size_drewN] at *; omega)))
  have hh4 := (Below.heap_alloc w3 (.cells #[.slice (some ⟨w1.heap.size, 0, none⟩) 6 6, s3.v] 32) (w.heap.size + 1) (by omega)).trans hh3
  have hz4 : w.heap.size + 2 ≤ (w3.alloc (.cells #[.slice (some ⟨w1.heap.size, 0, none⟩) 6 6, s3.v] 32)).heap.size := by simp; omega
  have HS := Lib.hid (show Calls Try.prog 95 #[.slice (some ⟨w3.heap.size, 0, none⟩) 2 2] (w3.alloc (.cells #[.slice (some ⟨w1.heap.size, 0, none⟩) 6 6, s3.v] 32)) fun e w' => e = .returned (.agg (hashA hn)) ∧ Below (w3.alloc (.cells #[.slice (some ⟨w1.heap.size, 0, none⟩) 6 6, s3.v] 32)).heap.size (w3.alloc (.cells #[.slice (some ⟨w1.heap.size, 0, none⟩) 6 6, s3.v] 32)) w' from HS)
  have HH4 := Lib.hid hh4
  clear hb3 hr0 o3 hP hfl hh3 hh1 hh4 hrow2 hB3 hB1 Ho Hb hlen
  go_wp2_with fail
  (with_reducible refine HS.out.mono ?_)
  rintro e w5 ⟨rfl, hb5⟩
  have hB5 : Below w.heap.size w w5 := hB4.trans (hb5.mono (by omega))
  have hh5 := (hb5.block (w.heap.size + 1) (by omega)).trans HH4.out
  have hrow : row? w5 (w.heap.size + 1) 0 32 = some (hashA zeroHash) := rowHeap hh5 (by simp)
  have hth : there w5 (w.heap.size + 1) 0 32 := there_block hh5 (by simp)
  clear hb5 hh5 hB4 HS HH4
  go_wp2_with (with_reducible refine ret_row2 Try.isAgg24 Try.sizeOf24 name_res (x := .pointer (some ⟨w.heap.size + 1, 0, none⟩)) (y := .int .i64 0) (w.heap.size + 1) 0 ?rrhx (Eq.refl _) ?rrhy ?rrh ?rrhd ?rrhR; (case rrhx => simp only [Array.getD_eq_getD_getElem?, List.getElem?_toArray, List.getElem?_cons_succ, List.getElem?_cons_zero, Option.getD_some]); (case rrhy => simp only [Array.getD_eq_getD_getElem?, List.getElem?_toArray, List.getElem?_cons_succ, List.getElem?_cons_zero, Option.getD_some]); (case rrhd => exact rfl); (case rrh => go_simp); (case rrhR => ((refine ⟨?_, ?_⟩; (case refine_1 => (go_simp; done)); (case refine_2 => ((repeat' (first | (with_reducible first | exact Below.refl _ _ | assumption | refine bel_trans (by assumption) ?_ ?_ | refine bel_grown (by assumption) ?_ ?_ ?_ | refine Below.alloc ?_ ?_ _ | refine Below.drew ?_ | refine below_drewN ?_ _ | refine Below.setCell ?_ ?_ _ | refine below_put ?_ ?_ _ _ | exact Nat.le_refl _) | omega | (with_reducible first | refine Nat.le_trans ?_ (Below.size (by assumption)) | refine Nat.le_trans ?_ (World.grownBy.size (by assumption))) | (simp only [World.size_alloc, World.size_setCell, World.size_drew, size_drewN]; omega) | (simp only [World.size_alloc, World.size_setCell, World.size_drew, size_drewN, size_put]; omega) | (intro k hk; simp [Value.ownBlock] at hk; first | done | omega) | (simp [size_drewN] at *; omega)))))))))
end Go.Proofs.Ythdjhbiigmcecaa

/- Chains of headers, plainly: names, parents, ancestors of 1, 2, 4, .. steps, what stands at an epoch. -/
namespace Go.Proofs.Ythdjhbiigmcecaa

/-- a header, with its checkpoint, and its parent's place -/
structure Blk where
 p : Pt
 h : Hdr
 par : Option Nat
def zeroHdr : Hdr := ⟨zeroHash, 0, []⟩
def chNew (p : Pt) : List Blk := [⟨p, zeroHdr, none⟩]
def chAt (C : List Blk) (n : Hash) : Option Nat := C.findIdx? fun b => decide (b.p.name = n)
def epAt (C : List Blk) (i : Nat) : Nat := ((C[i]?).map fun b => b.p.epoch.toNat).getD 0
def parAt (C : List Blk) (i : Nat) : Option Nat := (C[i]?).bind (·.par)
/-- what comes of a header: its checkpoint, and an error -/
def chCheck (C : List Blk) (h : Hdr) : Pt × Int :=
 if hdrMay h then
  match chAt C (hdName h) with
  | some _ => (zeroPt, 11)
  | none =>
   match chAt C h.parent with
   | none => (zeroPt, 12)
   | some i => if h.epoch.toNat ≤ epAt C i then (zeroPt, 13) else if 4096 < C.length then (zeroPt, 5) else (⟨h.epoch, hdName h⟩, 0)
 else (zeroPt, 2)
def chAdd (C : List Blk) (h : Hdr) : List Blk := if (chCheck C h).2 = 0 then C ++ [⟨(chCheck C h).1, h, chAt C h.parent⟩] else C
/-- a block and its ancestors, up to the anchor -/
def pth (C : List Blk) (i : Nat) : List Nat := i :: match parAt C i with | none => [] | some j => if _h : j < i then pth C j else []
termination_by i
/-- what a new block of a parent keeps: its ancestors of 1, 2, 4, .. steps -/
def climb (U : List (List Nat)) (i k : Nat) : List Nat := i :: match (U[i]?).bind (·[k]?) with | none => [] | some j => if _h : j < i then climb U j (k + 1) else []
termination_by i
def upStep (U : List (List Nat)) (b : Blk) : List (List Nat) := U ++ [match b.par with | none => [] | some i => climb U i 0]
def ups (C : List Blk) : List (List Nat) := C.foldl upStep []
def chs (C : List Blk) (i : Nat) : List Nat := (List.range C.length).filter fun j => decide (parAt C j = some i)
/-- a block, or its ancestor, of the greatest epoch that is at most e (the anchor, if there is none) -/
def bk (C : List Blk) (e : Nat) (i : Nat) : Nat := if epAt C i ≤ e then i else match parAt C i with | none => i | some j => if _h : j < i then bk C e j else i
termination_by i

structure ChnOk (C : List Blk) : Prop where
 pos : 0 < C.length
 len : C.length ≤ 4097
 root : parAt C 0 = none
 par : ∀ i b, C[i]? = some b → 0 < i → ∃ j c, b.par = some j ∧ j < i ∧ C[j]? = some c ∧ c.p.epoch.toNat < b.p.epoch.toNat ∧ b.h.parent = c.p.name
 names : (C.map (·.p.name)).Nodup
 hdr : ∀ i b, C[i]? = some b → 0 < i → b.p = ⟨b.h.epoch, hdName b.h⟩ ∧ hdrMay b.h = true

theorem epAt_of {C : List Blk} {i : Nat} {b : Blk} (h : C[i]? = some b) : epAt C i = b.p.epoch.toNat := by simp [epAt, h]
theorem parAt_of {C : List Blk} {i : Nat} {b : Blk} (h : C[i]? = some b) : parAt C i = b.par := by simp [parAt, h]
theorem chNew_ok (p : Pt) : ChnOk (chNew p) := by
 refine ⟨by simp [chNew], by simp [chNew], rfl, fun i b hb hi => ?_, by simp [chNew], fun i b hb hi => ?_⟩
 ·have : i < 1 := (List.getElem?_eq_some_iff.1 hb).1
  omega
 ·have : i < 1 := (List.getElem?_eq_some_iff.1 hb).1
  omega
theorem parAt_some {C : List Blk} (h : ChnOk C) {i j : Nat} (hj : parAt C i = some j) : j < i ∧ i < C.length ∧ epAt C j < epAt C i := by
 unfold parAt at hj
 cases hb : C[i]? with
 | none => rw [hb] at hj; cases hj
 | some b =>
  have hi : 0 < i := by
   rcases Nat.eq_zero_or_pos i with rfl | h0
   ·have := h.root
    unfold parAt at this
    rw [hj] at this
    cases this
   ·exact h0
  obtain ⟨j', c, e1, e2, e3, e4, _⟩ := h.par i b hb hi
  rw [hb] at hj
  simp only [Option.bind_some] at hj
  rw [e1] at hj
  cases hj
  exact ⟨e2, (List.getElem?_eq_some_iff.1 hb).1, by rw [epAt_of e3, epAt_of hb]; exact e4⟩
theorem parAt_none {C : List Blk} (h : ChnOk C) {i : Nat} (hi : i < C.length) (hj : parAt C i = none) : i = 0 := by
 rcases Nat.eq_zero_or_pos i with h0 | h0
 ·exact h0
 ·obtain ⟨j', c, e1, _⟩ := h.par i _ (List.getElem?_eq_getElem hi) h0
  rw [parAt_of (List.getElem?_eq_getElem hi), e1] at hj
  cases hj
theorem pth_root {C : List Blk} {i : Nat} (hj : parAt C i = none) : pth C i = [i] := by rw [pth, hj]
theorem pth_par {C : List Blk} (h : ChnOk C) {i j : Nat} (hj : parAt C i = some j) : pth C i = i :: pth C j := by
 rw [pth, hj]
 simp only [(parAt_some h hj).1, dite_true]
theorem pth_self (C : List Blk) (i : Nat) : i ∈ pth C i := by rw [pth]; exact List.mem_cons_self ..
theorem pth_le {C : List Blk} : ∀ (i a : Nat), a ∈ pth C i → a ≤ i := by
 intro i
 induction i using Nat.strongRecOn with
 | ind i ih =>
  intro a ha
  rw [pth] at ha
  rcases List.mem_cons.1 ha with rfl | ha
  ·exact Nat.le_refl _
  ·split at ha
   ·cases ha
   ·split at ha
    ·rename_i j _ hlt
     exact Nat.le_trans (ih j hlt a ha) (Nat.le_of_lt hlt)
    ·cases ha
theorem pth_trans {C : List Blk} {a b : Nat} : ∀ (c : Nat), a ∈ pth C b → b ∈ pth C c → a ∈ pth C c := by
 intro c
 induction c using Nat.strongRecOn with
 | ind c ih =>
  intro hab hbc
  rw [pth] at hbc
  rcases List.mem_cons.1 hbc with rfl | hbc
  ·exact hab
  ·rw [pth]
   refine List.mem_cons_of_mem _ ?_
   split at hbc
   ·cases hbc
   ·split at hbc
    ·rename_i j hj hlt
     simp only [hlt, dite_true]
     exact ih j hlt hab hbc
    ·cases hbc
theorem pth_epoch {C : List Blk} (h : ChnOk C) {a : Nat} : ∀ (c : Nat), a ∈ pth C c → a ≠ c → epAt C a < epAt C c := by
 intro c
 induction c using Nat.strongRecOn with
 | ind c ih =>
  intro hac hne
  cases hj : parAt C c with
  | none =>
   rw [pth_root hj] at hac
   exact absurd (List.mem_singleton.1 hac) hne
  | some j =>
   obtain ⟨h1, _, h3⟩ := parAt_some h hj
   rw [pth_par h hj] at hac
   rcases List.mem_cons.1 hac with rfl | hac
   ·exact absurd rfl hne
   ·by_cases haj : a = j
    ·rw [haj]; exact h3
    ·exact Nat.lt_trans (ih j h1 hac haj) h3
theorem bk_le {C : List Blk} {e i : Nat} (h : epAt C i ≤ e) : bk C e i = i := by rw [bk, if_pos h]
theorem bk_root {C : List Blk} {e i : Nat} (h : parAt C i = none) : bk C e i = i := by rw [bk, h]; simp
theorem bk_par {C : List Blk} (h : ChnOk C) {e i j : Nat} (hj : parAt C i = some j) (he : e < epAt C i) : bk C e i = bk C e j := by
 rw [bk, if_neg (by omega), hj]
 simp only [(parAt_some h hj).1, dite_true]
theorem bk_skip {C : List Blk} (h : ChnOk C) {e a : Nat} (ha : e < epAt C a) : ∀ (i : Nat), a ∈ pth C i → bk C e i = bk C e a := by
 intro i
 induction i using Nat.strongRecOn with
 | ind i ih =>
  intro hm
  by_cases hai : a = i
  ·rw [hai]
  ·have he := pth_epoch h i hm hai
   cases hj : parAt C i with
   | none =>
    rw [pth_root hj] at hm
    exact absurd (List.mem_singleton.1 hm) hai
   | some j =>
    rw [pth_par h hj] at hm
    rcases List.mem_cons.1 hm with rfl | hm
    ·exact absurd rfl hai
    ·rw [bk_par h hj (by omega)]
     exact ih j (parAt_some h hj).1 hm
theorem bk_mem {C : List Blk} (e : Nat) : ∀ (i : Nat), bk C e i ∈ pth C i := by
 intro i
 induction i using Nat.strongRecOn with
 | ind i ih =>
  rw [bk]
  split
  ·exact pth_self C i
  ·split
   ·exact pth_self C i
   ·split
    ·rename_i j hj hlt
     rw [pth, hj]
     simp only [hlt, dite_true]
     exact List.mem_cons_of_mem _ (ih j hlt)
    ·exact pth_self C i
theorem bk_fold {C : List Blk} (h : ChnOk C) {e : Nat} : ∀ (i : Nat), i < C.length → (pth C i).foldr (fun n w => if epAt C n ≤ e then n else w) 0 = bk C e i := by
 intro i
 induction i using Nat.strongRecOn with
 | ind i ih =>
  intro hi
  cases hj : parAt C i with
  | none =>
   obtain rfl := parAt_none h hi hj
   rw [pth_root hj, bk_root hj]
   simp
  | some j =>
   have hji := (parAt_some h hj).1
   rw [pth_par h hj, List.foldr_cons, ih j hji (by omega)]
   by_cases he : epAt C i ≤ e
   ·rw [if_pos he, bk_le he]
   ·rw [if_neg he, bk_par h hj (by omega)]
theorem pth_lt {C : List Blk} {i a : Nat} (hi : i < C.length) (ha : a ∈ pth C i) : a < C.length := Nat.lt_of_le_of_lt (pth_le i a ha) hi
/-- the path's length -/
theorem pth_length {C : List Blk} : ∀ (i : Nat), (pth C i).length ≤ i + 1 := by
 intro i
 induction i using Nat.strongRecOn with
 | ind i ih =>
  rw [pth, List.length_cons]
  split
  ·simp
  ·split
   ·rename_i j _ hlt
    have := ih j hlt
    omega
   ·simp

theorem ups_snoc (C : List Blk) (b : Blk) : ups (C ++ [b]) = ups C ++ [match b.par with | none => [] | some i => climb (ups C) i 0] := by
 unfold ups
 rw [List.foldl_append]
 rfl
theorem ups_length (C : List Blk) : (ups C).length = C.length := by
 suffices ∀ (C : List Blk) (U : List (List Nat)), (C.foldl upStep U).length = U.length + C.length by simpa [ups] using this C []
 intro C
 induction C with
 | nil => intro U; simp
 | cons b C ih =>
  intro U
  rw [List.foldl_cons, ih, upStep]
  simp
  omega
theorem climb_app {U V : List (List Nat)} : ∀ (i k : Nat), i < U.length → climb (U ++ V) i k = climb U i k := by
 intro i
 induction i using Nat.strongRecOn with
 | ind i ih =>
  intro k hi
  rw [climb, climb, List.getElem?_append_left hi]
  congr 1
  cases hx : (U[i]?).bind (·[k]?) with
  | none => rfl
  | some j =>
   simp only
   by_cases hlt : j < i
   ·simp only [hlt, dite_true]
    exact ih j hlt _ (by omega)
   ·simp only [hlt, dite_false]
theorem parAt_old {C : List Blk} {b : Blk} {i : Nat} (hi : i < C.length) : parAt (C ++ [b]) i = parAt C i := by unfold parAt; rw [List.getElem?_append_left hi]
theorem parAt_new (C : List Blk) (b : Blk) : parAt (C ++ [b]) C.length = b.par := by unfold parAt; simp
/-- what each block keeps -/
theorem ups_at {C : List Blk} (h : ∀ i j, parAt C i = some j → j < i) : ∀ i, i < C.length → (ups C)[i]? = some (match parAt C i with | none => [] | some j => climb (ups C) j 0) := by
 suffices ∀ (D : List Blk), (∀ i j, parAt D i = some j → j < i) → ∀ i, i < D.length → (ups D)[i]? = some (match parAt D i with | none => [] | some j => climb (ups D) j 0) from this C h
 intro D
 obtain ⟨n, hn⟩ : ∃ n, n = D.length := ⟨_, rfl⟩
 induction n generalizing D with
 | zero => intro _ i hi; omega
 | succ n ihn =>
  obtain rfl | ⟨D, b, rfl⟩ := List.eq_nil_or_concat D
  ·simp at hn
  rw [List.concat_eq_append] at hn ⊢
  have ih := ihn D (by simp at hn; omega)
  intro hD i hi
  rw [ups_snoc]
  have hl := ups_length D
  by_cases hid : i < D.length
  ·rw [List.getElem?_append_left (by omega), ih (fun i j hj => hD i j (by
    have hi2 : i < D.length := by
     unfold parAt at hj
     cases hx : D[i]? with
     | none => rw [hx] at hj; cases hj
     | some _ => exact (List.getElem?_eq_some_iff.1 hx).1
    rw [parAt_old hi2]; exact hj)) i hid, parAt_old hid]
   cases hj : parAt D i with
   | none => rfl
   | some j =>
    have hlt := hD i j (by rw [parAt_old hid]; exact hj)
    simp only
    rw [climb_app j 0 (by omega)]
  ·have hi' : i = D.length := by simp at hi; omega
   subst hi'
   rw [List.getElem?_append_right (by omega), hl, Nat.sub_self, parAt_new]
   cases hj : b.par with
   | none => rfl
   | some j =>
    have hlt := hD D.length j (by rw [parAt_new]; exact hj)
    simp only [List.getElem?_cons_zero]
    rw [climb_app j 0 (by omega)]
theorem climb_mem {C : List Blk} (h : ChnOk C) : ∀ (i k x : Nat), i < C.length → x ∈ climb (ups C) i k → x ∈ pth C i := by
 have hp : ∀ i j, parAt C i = some j → j < i := fun i j hj => (parAt_some h hj).1
 intro i
 induction i using Nat.strongRecOn with
 | ind i ih =>
  intro k x hi hx
  rw [climb] at hx
  rcases List.mem_cons.1 hx with rfl | hx
  ·exact pth_self C x
  ·split at hx
   ·cases hx
   ·split at hx
    ·rename_i j hj hlt
     have hxj := ih j hlt (k + 1) x (by omega) hx
     rw [ups_at hp i hi] at hj
     simp only [Option.bind_some] at hj
     cases hpar : parAt C i with
     | none => rw [hpar] at hj; simp at hj
     | some q =>
      rw [hpar] at hj
      simp only at hj
      have hqi := hp i q hpar
      have hjq := ih q hqi 0 j (by omega) (List.mem_of_getElem? hj)
      rw [pth_par h hpar]
      exact List.mem_cons_of_mem _ (pth_trans q hxj hjq)
    ·cases hx
/-- each of them is an ancestor -/
theorem ups_mem {C : List Blk} (h : ChnOk C) {i k j : Nat} {u : List Nat} (hu : (ups C)[i]? = some u) (hj : u[k]? = some j) : j ∈ pth C i ∧ j < i := by
 have hp : ∀ i j, parAt C i = some j → j < i := fun i j hj => (parAt_some h hj).1
 have hi : i < C.length := by rw [← ups_length C]; exact (List.getElem?_eq_some_iff.1 hu).1
 rw [ups_at hp i hi] at hu
 injection hu with hu
 cases hpar : parAt C i with
 | none => rw [hpar] at hu; simp only at hu; subst hu; simp at hj
 | some q =>
  rw [hpar] at hu
  simp only at hu
  subst hu
  have hqi := hp i q hpar
  have hm := climb_mem h q 0 j (by omega) (List.mem_of_getElem? hj)
  exact ⟨by rw [pth_par h hpar]; exact List.mem_cons_of_mem _ hm, Nat.lt_of_le_of_lt (pth_le q j hm) hqi⟩
/-- the first of them is the parent -/
theorem ups_zero {C : List Blk} (h : ChnOk C) {i : Nat} {u : List Nat} (hu : (ups C)[i]? = some u) : u[0]? = parAt C i := by
 have hp : ∀ i j, parAt C i = some j → j < i := fun i j hj => (parAt_some h hj).1
 have hi : i < C.length := by rw [← ups_length C]; exact (List.getElem?_eq_some_iff.1 hu).1
 rw [ups_at hp i hi] at hu
 injection hu with hu
 subst hu
 cases hpar : parAt C i with
 | none => rfl
 | some q => simp only; rw [climb]; rfl
theorem climb_length {U : List (List Nat)} : ∀ (i k : Nat), (climb U i k).length ≤ i + 1 := by
 intro i
 induction i using Nat.strongRecOn with
 | ind i ih =>
  intro k
  rw [climb, List.length_cons]
  split
  ·simp
  ·split
   ·rename_i j _ hlt
    have := ih j hlt (k + 1)
    omega
   ·simp
theorem ups_le {C : List Blk} (h : ChnOk C) {i : Nat} {u : List Nat} (hu : (ups C)[i]? = some u) : u.length ≤ i := by
 have hp : ∀ i j, parAt C i = some j → j < i := fun i j hj => (parAt_some h hj).1
 have hi : i < C.length := by rw [← ups_length C]; exact (List.getElem?_eq_some_iff.1 hu).1
 rw [ups_at hp i hi] at hu
 injection hu with hu
 subst hu
 cases hpar : parAt C i with
 | none => exact Nat.zero_le _
 | some q =>
  have := hp i q hpar
  have := climb_length (U := ups C) q 0
  simp only
  omega

theorem chs_old {C : List Blk} {b : Blk} (hb : ∀ j, b.par = some j → j < C.length) (hok : ∀ i j, parAt C i = some j → j < i) (i : Nat) : chs (C ++ [b]) i = chs C i ++ (if b.par = some i then [C.length] else []) := by
 unfold chs
 rw [List.length_append, List.length_singleton, List.range_succ, List.filter_append]
 congr 1
 ·refine List.filter_congr fun j hj => ?_
  rw [parAt_old (List.mem_range.1 hj)]
 ·rw [List.filter_cons, List.filter_nil, parAt_new]
  by_cases h : b.par = some i
  ·simp [h]
  ·simp [h]
theorem chs_length (C : List Blk) (i : Nat) : (chs C i).length ≤ C.length := by
 have := List.length_filter_le (fun j => decide (parAt C j = some i)) (List.range C.length)
 simpa [chs] using this
theorem chs_mem {C : List Blk} {i j : Nat} : j ∈ chs C i ↔ parAt C j = some i := by
 unfold chs
 rw [List.mem_filter, List.mem_range, decide_eq_true_iff]
 refine ⟨fun h => h.2, fun h => ⟨?_, h⟩⟩
 unfold parAt at h
 cases hx : C[j]? with
 | none => rw [hx] at h; cases h
 | some _ => exact (List.getElem?_eq_some_iff.1 hx).1

theorem chAt_some {C : List Blk} {n : Hash} {i : Nat} (h : chAt C n = some i) : ∃ b, C[i]? = some b ∧ b.p.name = n := by
 obtain ⟨hlt, hp, _⟩ := List.findIdx?_eq_some_iff_getElem.1 h
 exact ⟨_, List.getElem?_eq_getElem hlt, of_decide_eq_true hp⟩
theorem chAt_none {C : List Blk} {n : Hash} (h : chAt C n = none) : ∀ b ∈ C, b.p.name ≠ n := by
 intro b hb
 have := List.findIdx?_eq_none_iff.1 h b hb
 simpa using this
theorem chAt_lt {C : List Blk} {n : Hash} {i : Nat} (h : chAt C n = some i) : i < C.length := by
 obtain ⟨b, hb, _⟩ := chAt_some h
 exact (List.getElem?_eq_some_iff.1 hb).1
/-- a header that was added -/
theorem check_ok {C : List Blk} {h : Hdr} (hc : (chCheck C h).2 = 0) : hdrMay h = true ∧ chAt C (hdName h) = none ∧ (∃ i, chAt C h.parent = some i ∧ epAt C i < h.epoch.toNat) ∧ C.length ≤ 4096 ∧ (chCheck C h).1 = ⟨h.epoch, hdName h⟩ := by
 unfold chCheck at hc ⊢
 split at hc
 ·rename_i hm
  rw [if_pos hm]
  refine ⟨hm, ?_⟩
  cases h1 : chAt C (hdName h) with
  | some _ => rw [h1] at hc; simp at hc
  | none =>
   rw [h1] at hc
   cases h2 : chAt C h.parent with
   | none => rw [h2] at hc; simp at hc
   | some i =>
    rw [h2] at hc
    simp only at hc ⊢
    split at hc
    ·simp at hc
    ·rename_i h3
     rw [if_neg h3]
     split at hc
     ·simp at hc
     ·rename_i h4
      rw [if_neg h4]
      exact ⟨trivial, ⟨i, rfl, by omega⟩, by omega, rfl⟩
 ·simp at hc
theorem chAdd_ok {C : List Blk} (h : ChnOk C) (x : Hdr) : ChnOk (chAdd C x) := by
 unfold chAdd
 split
 ·rename_i hc
  obtain ⟨hm, hn, ⟨i, hi, hep⟩, hl, hp⟩ := check_ok hc
  rw [hp, hi]
  have hil := chAt_lt hi
  obtain ⟨c, hc1, hc2⟩ := chAt_some hi
  refine ⟨by simp, by simp; omega, by rw [parAt_old h.pos]; exact h.root, fun k b hb hk => ?_, ?_, fun k b hb hk => ?_⟩
  ·by_cases hkl : k < C.length
   ·rw [List.getElem?_append_left hkl] at hb
    obtain ⟨j, c, e1, e2, e3, e4, e5⟩ := h.par k b hb hk
    exact ⟨j, c, e1, e2, by rw [List.getElem?_append_left (by omega)]; exact e3, e4, e5⟩
   ·have hk' : k = C.length := by
     have := (List.getElem?_eq_some_iff.1 hb).1
     simp at this
     omega
    subst hk'
    rw [List.getElem?_append_right (Nat.le_refl _), Nat.sub_self] at hb
    injection hb with hb
    subst hb
    refine ⟨i, c, rfl, hil, by rw [List.getElem?_append_left hil]; exact hc1, ?_, hc2.symm⟩
    rw [epAt_of hc1] at hep
    exact hep
  ·rw [List.map_append, List.nodup_append]
   refine ⟨h.names, by simp, fun a ha b hb => ?_⟩
   simp only [List.map_cons, List.map_nil, List.mem_singleton] at hb
   subst hb
   obtain ⟨y, hy, rfl⟩ := List.mem_map.1 ha
   exact chAt_none hn y hy
  ·by_cases hkl : k < C.length
   ·rw [List.getElem?_append_left hkl] at hb
    exact h.hdr k b hb hk
   ·have hk' : k = C.length := by
     have := (List.getElem?_eq_some_iff.1 hb).1
     simp at this
     omega
    subst hk'
    rw [List.getElem?_append_right (Nat.le_refl _), Nat.sub_self] at hb
    injection hb with hb
    subst hb
    exact ⟨rfl, hm⟩
 ·exact h
end Go.Proofs.Ythdjhbiigmcecaa

/- What changes in blocks of a set alone; what holds whatever is changed in them. Over any program. -/
namespace Go.Proofs.Ythdjhbiigmcecaa
open Go.RowKit

/-- only blocks of M have changed, and blocks have been made -/
structure Asd (M : Nat → Prop) (W W' : World) : Prop where
 os : W'.os = W.os
 tape : W'.tape = W.tape
 output : W'.output = W.output
 size : W.heap.size ≤ W'.heap.size
 block : ∀ k, k < W.heap.size → ¬ M k → W'.heap[k]? = W.heap[k]?
theorem Asd.refl (M : Nat → Prop) (W : World) : Asd M W W := ⟨rfl, rfl, rfl, Nat.le_refl _, fun _ _ _ => rfl⟩
theorem Asd.trans {M : Nat → Prop} {W W1 W2 : World} (h : Asd M W W1) (k : Asd M W1 W2) : Asd M W W2 :=
 ⟨k.os.trans h.os, k.tape.trans h.tape, k.output.trans h.output, Nat.le_trans h.size k.size, fun i hi hm => (k.block i (Nat.lt_of_lt_of_le hi h.size) hm).trans (h.block i hi hm)⟩
theorem Asd.mono {M M' : Nat → Prop} {W W' : World} (h : Asd M W W') (hM : ∀ k, k < W.heap.size → M k → M' k) : Asd M' W W' :=
 ⟨h.os, h.tape, h.output, h.size, fun k hk hm => h.block k hk fun e => hm (hM k hk e)⟩
theorem Asd.trans' {M M' : Nat → Prop} {W W1 W2 : World} (h : Asd M W W1) (k : Asd M' W1 W2) (hM : ∀ k, k < W.heap.size → M' k → M k) : Asd M W W2 :=
 ⟨k.os.trans h.os, k.tape.trans h.tape, k.output.trans h.output, Nat.le_trans h.size k.size, fun i hi hm => (k.block i (Nat.lt_of_lt_of_le hi h.size) fun e => hm (hM i hi e)).trans (h.block i hi hm)⟩
theorem below_off {B : Nat} {W W' : World} (h : Below B W W') {M : Nat → Prop} (hM : ∀ k, k < W.heap.size → B ≤ k → M k) : Asd M W W' :=
 ⟨h.os, h.tape, h.output, h.size, fun k hk hm => h.block k (Nat.lt_of_not_le fun e => hm (hM k hk e))⟩
theorem below_fresh {W W' : World} (h : Below W.heap.size W W') (M : Nat → Prop) : Asd M W W' := below_off h fun _ hk he => absurd hk (Nat.not_lt.2 he)
theorem Asd.below {M : Nat → Prop} {W W' : World} (h : Asd M W W') {B : Nat} (hB : B ≤ W.heap.size) (hM : ∀ k, k < W.heap.size → M k → B ≤ k) : Below B W W' :=
 ⟨h.os, h.tape, h.output, h.size, fun k hk => h.block k (Nat.lt_of_lt_of_le hk hB) fun e => absurd hk (Nat.not_lt.2 (hM k (Nat.lt_of_lt_of_le hk hB) e))⟩
theorem Asd.drew {M : Nat → Prop} {W W' : World} (h : Asd M W W') : Asd M W W'.drew := ⟨h.os, h.tape, h.output, h.size, h.block⟩
theorem asd_grown {W W' : World} {row : Option Nat} (h : W.grownBy W' row) : Asd (fun k => row = some k) W W' := ⟨h.os, h.tape, h.output, h.size, fun k hk hm => h.block k hk fun e => hm e.symm⟩
theorem asd_put (W : World) (b off : Nat) (xs : Array Value) : Asd (fun k => k = b) W (putRow W b off xs) := by
 obtain ⟨h1, h2, h3⟩ := setCells_misc b xs.toList off W
 exact ⟨h1, h2, h3, by unfold putRow; rw [setCells_size]; exact Nat.le_refl _, fun k _ hk => setCells_far _ _ _ _ k hk⟩
theorem asd_set (W : World) (a : Addr) (u : Value) : Asd (fun k => k = a.block) W (W.setCell a u) := ⟨rfl, rfl, rfl, by simp [World.setCell], fun k _ hk => Below.heap_setCell _ _ _ _ hk⟩
section
variable {M : Nat → Prop} {W W' : World} (h : Asd M W W') {b : Nat} (hm : ¬ M b)
include h hm
theorem Asd.row {off n : Nat} {l : Array Value} (hr : row? W b off n = some l) : row? W' b off n = some l := by
 have := h.block b (lt_of_row hr) hm
 unfold row? at hr ⊢
 rw [this]
 exact hr
theorem Asd.cell {off : Nat} {v : Value} (hr : W.cell? ⟨b, off, none⟩ = some v) : W'.cell? ⟨b, off, none⟩ = some v :=
 (World.cell?_of_block (a := ⟨b, off, none⟩) (h.block b (lt_of_cell hr) hm)).trans hr
theorem Asd.there {off n : Nat} (hb : b < W.heap.size) (ht : Proofs.Ythdjhbiigmcecaa.there W b off n) : Proofs.Ythdjhbiigmcecaa.there W' b off n := by
 have e := h.block b hb hm
 intro j hj
 have := ht j hj
 rw [World.cell?_of_block (a := ⟨b, off + j, none⟩) e, World.frozen?_of_block (a := ⟨b, off + j, none⟩) e]
 exact this
end
theorem OwnC.off {M : Nat → Prop} {w w' : World} {base k n : Nat} {v : Value} {xs : List Value} (h : OwnC w base k v n xs) (hb : Asd M w w') (hm : ∀ g, v.ownBlock = some g → ¬ M g) : OwnC w' base k v n xs := by
 refine ⟨h.1, ?_⟩
 rcases h.2 with h2 | ⟨g, cap, rfl, h1, hlt, hn, hm', hc, hf, hx⟩
 ·exact .inl h2
 ·have e := hb.block g hlt (hm g (by simp [Value.ownBlock]))
  have e1 := fun j => World.cell?_of_block (a := ⟨g, j, none⟩) e
  have e2 := fun j => World.frozen?_of_block (a := ⟨g, j, none⟩) e
  exact .inr ⟨g, cap, rfl, h1, Nat.lt_of_lt_of_le hlt hb.size, hn, hm', fun j hj => by rw [e1]; exact hc j hj, fun j hj => by rw [e2]; exact hf j hj, fun j u hu => by rw [e1]; exact hx j u hu⟩

/-- P holds, whatever changes in the blocks of M -/
def Safe (M : Nat → Prop) (W : World) (P : World → Prop) : Prop := ∀ W2, Asd M W W2 → P W2
theorem Safe.now {M : Nat → Prop} {W : World} {P : World → Prop} (h : Safe M W P) : P W := h W (Asd.refl M W)
theorem Safe.step {M M' : Nat → Prop} {W W' : World} {P : World → Prop} (h : Safe M W P) (hb : Asd M W W') (hM : ∀ k, k < W.heap.size → M' k → M k) : Safe M' W' P := fun W2 h2 => h W2 (hb.trans' h2 fun k hk hm => hM k hk hm)
theorem Safe.keep {M : Nat → Prop} {W W' : World} {P : World → Prop} (h : Safe M W P) (hb : Below W.heap.size W W') : Safe M W' P := h.step (below_fresh hb M) fun _ _ h => h
end Go.Proofs.Ythdjhbiigmcecaa

/- Maps from keys to struct{is bool}{true}: lookup, store. -/
namespace Go.Proofs.Ythdjhbiigmcecaa
open Go.RowKit

/-- {true} -/
def yes : Value := .agg #[.bool true]
def hsV (p : Hash) : Value := .agg (hashA p)
theorem eqv_hsh (w : World) (p q : Hash) : (Op.equal 24 (hsV p) (hsV q)).run Try.prog w = .ok (decide (p = q)) w := eq_hash w p q
theorem key_plain {P : Program} {t : TypeId} {k : IntKind} (n : Nat) (e : Bool) (x : Int) (ht : P.underlying t = some (.int k)) (w : World) : (Instr.checkKey e (n + 1) t (.int k x)).run P w = .ok () w := by
 simp [Instr.checkKey, run_underlying ht]
theorem forIn_ok {P : Program} {α : Type} (w : World) (f : α → PUnit → Sem (ForInStep PUnit)) : ∀ (l : List α), (∀ a ∈ l, (f a ⟨⟩).run P w = .ok (.yield ⟨⟩) w) → (forIn l PUnit.unit f).run P w = .ok ⟨⟩ w
 | [], _ => by simp
 | a :: l, h => by
  rw [List.forIn_cons]
  simp only [Sem.run_bind, h a (by simp), Result.andThen_ok]
  exact forIn_ok w f l (fun b hb => h b (by simp [hb]))
theorem forIn_ok' {P : Program} {α : Type} (w : World) (f : α → PUnit → Sem (ForInStep PUnit)) (l : List α) (h : ∀ a ∈ l, (f a ⟨⟩).run P w = .ok (.yield ⟨⟩) w) : (((forIn l PUnit.unit f).run P w).andThen fun _ w' => Sem.run P (pure ()) w') = .ok () w := by
 rw [forIn_ok w f l h]; simp
theorem key_hash {P : Program} {t e : TypeId} (n : Nat) (em : Bool) (h : Hash) (ht : P.underlying t = some (.array 32 e)) (he : P.underlying e = some (.int .u8)) (hs : ∀ w, (Go.sizeOf e).run P w = .ok 1 w) (w : World) : (Instr.checkKey em (n + 2) t (.agg (hashA h))).run P w = .ok () w := by
 rw [Instr.checkKey]
 simp only [Sem.run_bind, run_underlying ht, Result.andThen_ok]
 simp only [Std.Legacy.Range.forIn_eq_forIn_range', Std.Legacy.Range.size, Nat.sub_zero, Nat.add_one_sub_one, Nat.div_one]
 refine forIn_ok' w _ _ fun i hi => ?_
 have hi' : i < 32 := by simpa using hi
 have hx : (hashA h)[i * 1]? = some (.int .u8 ((h.1[i]'(by rw [h.2]; exact hi')).toNat : Int)) := getElem_bytes h.1 i (by rw [h.2]; exact hi')
 have hA : ∀ w, (isAgg e).run P w = .ok false w := fun _ => by simp [isAgg, run_underlying he]
 simp only [Sem.run_bind, hs, Result.andThen_ok, part_one w hA _ _ _ hx, key_plain n em _ he, Sem.run_pure]
theorem u8_size : ∀ w, (Go.sizeOf 5).run Try.prog w = .ok 1 w := fun w => by
 obtain ⟨i, hi⟩ := u8_info
 rw [run_sizeOf w hi, u8_cells]
theorem key_hsh (em : Bool) (p : Hash) (w : World) : (Instr.checkKey em 10000 24 (hsV p)).run Try.prog w = .ok () w :=
 key_hash 9998 em p Try.underlying24 Try.underlying5 u8_size w

/-- block b anew -/
def putB (w : World) (b : Nat) (o : Obj) : World := { w with heap := w.heap.setIfInBounds b o }
theorem putB_at {w : World} {b : Nat} {o o' : Obj} (h : w.heap[b]? = some o) : (putB w b o').heap[b]? = some o' := by
 have := (Array.getElem?_eq_some_iff.1 h).1
 simp [putB, this]
theorem putB_far (w : World) (b : Nat) (o : Obj) (k : Nat) (h : k ≠ b) : (putB w b o).heap[k]? = w.heap[k]? := by
 simp [putB, Array.getElem?_setIfInBounds_ne (Ne.symm h)]
theorem putB_grown (w : World) (b : Nat) (o : Obj) : w.grownBy (putB w b o) (some b) := ⟨rfl, rfl, rfl, by simp [putB], fun k _ hk => putB_far w b o k (fun e => hk (by rw [e]))⟩
end Go.Proofs.Ythdjhbiigmcecaa

/- Maps whose keys are hashes, and whose values are anything: lookup, store of a new key. -/
namespace Go.Proofs.Ythdjhbiigmcecaa
open Go.RowKit

/-- block b is a map that has these, each key once -/
def MapHv (w : World) (b : Nat) (ks : List (Hash × Value)) : Prop := ∃ es clock, w.heap[b]? = some (.map es clock) ∧ es.toList.map (fun e => (e.key, e.val)) = ks.map (fun p => (hsV p.1, p.2)) ∧ (ks.map (·.1)).Nodup ∧ (es.toList.map (·.born)).Nodup ∧ ∀ e ∈ es.toList, e.born < clock
theorem MapHv.lt {w : World} {b : Nat} {ks : List (Hash × Value)} (h : MapHv w b ks) : b < w.heap.size := by
 obtain ⟨es, clock, hb, _⟩ := h
 exact (Array.getElem?_eq_some_iff.1 hb).1
theorem MapHv.of_block {w w' : World} {b : Nat} {ks : List (Hash × Value)} (h : MapHv w b ks) (hb : w'.heap[b]? = w.heap[b]?) : MapHv w' b ks := by
 obtain ⟨es, clock, h1, r⟩ := h
 exact ⟨es, clock, hb.trans h1, r⟩
theorem MapHv.keep {B : Nat} {w w' : World} {b : Nat} {ks : List (Hash × Value)} (h : MapHv w b ks) (hb : Below B w w') (hl : b < B) : MapHv w' b ks := h.of_block (hb.block b hl)
theorem MapHv.new (w : World) : MapHv (w.alloc (.map #[] 0)) w.heap.size [] := ⟨#[], 0, (MapKept.heap_alloc w _).1, rfl, List.nodup_nil, by simp, by simp⟩
/-- what a key has -/
def valOf (ks : List (Hash × Value)) (p : Hash) : Option Value := (ks.find? fun x => decide (x.1 = p)).map (·.2)
theorem valOf_none {ks : List (Hash × Value)} {p : Hash} (h : p ∉ ks.map (·.1)) : valOf ks p = none := by
 unfold valOf
 rw [List.find?_eq_none.2 (fun x hx => by
  have : x.1 ≠ p := fun e => h (List.mem_map.2 ⟨x, hx, e⟩)
  simpa using this)]
 rfl
theorem valOf_some {ks : List (Hash × Value)} {p : Hash} {v : Value} {j : Nat} (hn : (ks.map (·.1)).Nodup) (h : ks[j]? = some (p, v)) : valOf ks p = some v := by
 unfold valOf
 induction ks generalizing j with
 | nil => simp at h
 | cons x ks ih =>
  rw [List.find?_cons]
  by_cases hx : x.1 = p
  ·simp only [hx, decide_true, Option.map_some]
   cases j with
   | zero => simp at h; rw [h]
   | succ j =>
    exfalso
    simp only [List.getElem?_cons_succ] at h
    rw [List.map_cons, List.nodup_cons] at hn
    exact hn.1 (by rw [hx]; exact List.mem_map.2 ⟨_, List.mem_of_getElem? h, rfl⟩)
  ·simp only [hx, decide_false]
   cases j with
   | zero => simp at h; rw [h] at hx; exact absurd rfl hx
   | succ j =>
    rw [List.map_cons, List.nodup_cons] at hn
    exact ih hn.2 (by simpa using h)
theorem find_hv (w : World) (p : Hash) : ∀ (es : List MapEntry) (ks : List (Hash × Value)) (i : Nat), es.map (fun e => (e.key, e.val)) = ks.map (fun p => (hsV p.1, p.2)) →
  (p ∉ ks.map (·.1) ∧ (Instr.findAsking 24 (hsV p) es i).run Try.prog w = .ok none w) ∨ (∃ j v, ks[j]? = some (p, v) ∧ (Instr.findAsking 24 (hsV p) es i).run Try.prog w = .ok (some (i + j, v)) w)
 | [], [], i, _ => .inl ⟨by simp, by simp [Instr.findAsking]⟩
 | [], _ :: _, _, h => by simp at h
 | _ :: _, [], _, h => by simp at h
 | e :: es, q :: ks, i, h => by
  simp only [List.map_cons, List.cons.injEq, Prod.mk.injEq] at h
  obtain ⟨⟨h1, h2⟩, h3⟩ := h
  have he := eqv_hsh w p q.1
  by_cases hpq : p = q.1
  ·right
   refine ⟨0, q.2, by simp [hpq], ?_⟩
   rw [hpq] at he ⊢
   simp [Instr.findAsking, h1, he, h2]
  ·rcases find_hv w p es ks (i + 1) h3 with ⟨a, b⟩ | ⟨j, v, a, b⟩
   ·left
    exact ⟨by rw [List.map_cons, List.mem_cons]; exact fun h => h.elim hpq a, by simp [Instr.findAsking, h1, he, hpq, b]⟩
   ·right
    exact ⟨j + 1, v, by simpa using a, by simp [Instr.findAsking, h1, he, hpq, b, Nat.add_assoc, Nat.add_comm 1 j]⟩
theorem findKey_hv (w : World) (p : Hash) (es : List MapEntry) (ks : List (Hash × Value)) (h : es.map (fun e => (e.key, e.val)) = ks.map (fun p => (hsV p.1, p.2))) :
  (p ∉ ks.map (·.1) ∧ (Instr.findKey 24 (hsV p) es).run Try.prog w = .ok none w) ∨ (∃ j v, ks[j]? = some (p, v) ∧ (Instr.findKey 24 (hsV p) es).run Try.prog w = .ok (some (j, v)) w) := by
 rw [run_findKey_eq (P := Try.prog) w (k := 24) (by rw [Try.underlying24])]
 have := find_hv w p es ks 0 h
 simpa using this
section
variable {t e : TypeId} {z : Value} (ht : Try.prog.underlying t = some (.map 24 e)) (hz : ∀ w, (zeroValue e).run Try.prog w = .ok z w)
include ht hz
theorem look_hv {w : World} {b : Nat} {ks : List (Hash × Value)} (h : MapHv w b ks) (p : Hash) :
  (Instr.lookup t (.map (some b)) (hsV p) false).run Try.prog w = .ok ((valOf ks p).getD z) w := by
 obtain ⟨es, clock, hb, hes, hnd, _, _⟩ := h
 have hk := key_hsh es.isEmpty p w
 have hf := findKey_hv w p es.toList ks hes
 unfold Instr.lookup
 simp only [Sem.run_bind, run_underlying ht, Result.andThen_ok, Go.MapKept.run_getObj_map hb, Sem.run_pure]
 rw [hk]
 simp only [Result.andThen_ok]
 rcases hf with ⟨hn, hr⟩ | ⟨j, v, hj, hr⟩
 ·rw [hr, valOf_none hn]
  simp [hz]
 ·rw [hr, valOf_some hnd hj]
  simp
theorem look_hv_ok {w : World} {b : Nat} {ks : List (Hash × Value)} (h : MapHv w b ks) (p : Hash) :
  (Instr.lookup t (.map (some b)) (hsV p) true).run Try.prog w = .ok (.tuple #[(valOf ks p).getD z, .bool (valOf ks p).isSome]) w := by
 obtain ⟨es, clock, hb, hes, hnd, _, _⟩ := h
 have hk := key_hsh es.isEmpty p w
 have hf := findKey_hv w p es.toList ks hes
 unfold Instr.lookup
 simp only [Sem.run_bind, run_underlying ht, Result.andThen_ok, Go.MapKept.run_getObj_map hb, Sem.run_pure]
 rw [hk]
 simp only [Result.andThen_ok]
 rcases hf with ⟨hn, hr⟩ | ⟨j, v, hj, hr⟩
 ·rw [hr, valOf_none hn]
  simp [hz]
 ·rw [hr, valOf_some hnd hj]
  simp
omit ht hz in
theorem MapHv.push {w' : World} {p : Hash} {v : Value} {b : Nat} {ks : List (Hash × Value)} {es : Array MapEntry} {clock : Nat} (hb : w'.heap[b]? = some (.map (es.push { key := hsV p, val := v, born := clock }) (clock + 1)))
  (hes : es.toList.map (fun e => (e.key, e.val)) = ks.map (fun p => (hsV p.1, p.2))) (hnd : (ks.map (·.1)).Nodup) (hborn : (es.toList.map (·.born)).Nodup) (hclock : ∀ e ∈ es.toList, e.born < clock) (hn : p ∉ ks.map (·.1)) : MapHv w' b (ks ++ [(p, v)]) := by
 refine ⟨_, _, hb, ?_, ?_, ?_, ?_⟩
 ·simp [hes]
 ·rw [List.map_append]
  exact List.nodup_append.2 ⟨hnd, by simp, fun a ha c hc e => by (simp at hc; subst hc; subst e; exact hn ha)⟩
 ·simp only [Array.toList_push, List.map_append, List.map_cons, List.map_nil]
  refine List.nodup_append.2 ⟨hborn, by simp, ?_⟩
  intro a ha c hc e
  obtain ⟨m, hm, rfl⟩ := List.mem_map.1 ha
  simp at hc
  have := hclock m hm
  omega
 ·intro e he
  simp only [Array.toList_push, List.mem_append, List.mem_singleton] at he
  rcases he with he | rfl
  ·have := hclock e he; omega
  ·simp
omit hz in
/-- a literal's entry of a new key -/
theorem insert_hv {w : World} {b : Nat} {ks : List (Hash × Value)} (h : MapHv w b ks) (p : Hash) (v : Value) (hn : p ∉ ks.map (·.1)) :
  ∃ w', (Instr.mapUpdate t (.map (some b)) (hsV p) v).run Try.prog w = .ok () w' ∧ MapHv w' b (ks ++ [(p, v)]) ∧ w.grownBy w' (some b) := by
 obtain ⟨es, clock, hb, hes, hnd, hborn, hclock⟩ := h
 have hk := key_hsh false p w
 have hf := findKey_hv w p es.toList ks hes
 rcases hf with ⟨_, hr⟩ | ⟨j, v', hj, hr⟩
 ·refine ⟨putB w b (.map (es.push { key := hsV p, val := v, born := clock }) (clock + 1)), ?_, MapHv.push (putB_at hb) hes hnd hborn hclock hn, putB_grown _ _ _⟩
  unfold Instr.mapUpdate
  simp only [Sem.run_bind, run_underlying ht, Result.andThen_ok, Go.MapKept.run_getObj_map hb, Sem.run_pure]
  rw [hk]
  simp only [Result.andThen_ok]
  rw [hr]
  simp [Go.MapKept.run_setObj_map _ hb, putB]
 ·exact absurd (List.mem_map.2 ⟨_, List.mem_of_getElem? hj, rfl⟩) hn
/-- a map with an entry of a new key whose value is still to come -/
def MapEnt (w : World) (b : Nat) (ks : List (Hash × Value)) (p : Hash) (st : Nat) : Prop := ∃ (es : Array MapEntry) (v : Value), w.heap[b]? = some (.map (es.push { key := hsV p, val := v, born := st }) (st + 1)) ∧ es.toList.map (fun e => (e.key, e.val)) = ks.map (fun p => (hsV p.1, p.2)) ∧ (ks.map (·.1)).Nodup ∧ (es.toList.map (·.born)).Nodup ∧ (∀ e ∈ es.toList, e.born < st) ∧ p ∉ ks.map (·.1)
omit ht hz in
theorem MapEnt.of_block {w w' : World} {b : Nat} {ks : List (Hash × Value)} {p : Hash} {st : Nat} (h : MapEnt w b ks p st) (hb : w'.heap[b]? = w.heap[b]?) : MapEnt w' b ks p st := by
 obtain ⟨es, v, h1, r⟩ := h
 exact ⟨es, v, hb.trans h1, r⟩
theorem entry_hv {w : World} {b : Nat} {ks : List (Hash × Value)} (h : MapHv w b ks) (p : Hash) (hn : p ∉ ks.map (·.1)) :
  ∃ (st : Nat) (w' : World), (Instr.mapEntry t (.map (some b)) (hsV p)).run Try.prog w = .ok (.tuple #[z, .int .i64 (st : Int)]) w' ∧ MapEnt w' b ks p st ∧ w.grownBy w' (some b) := by
 obtain ⟨es, clock, hb, hes, hnd, hborn, hclock⟩ := h
 have hk := key_hsh false p w
 have hf := findKey_hv w p es.toList ks hes
 rcases hf with ⟨_, hr⟩ | ⟨j, v', hj, hr⟩
 ·refine ⟨clock, putB w b (.map (es.push { key := hsV p, val := z, born := clock }) (clock + 1)), ?_, ⟨es, z, putB_at hb, hes, hnd, hborn, hclock, hn⟩, putB_grown _ _ _⟩
  unfold Instr.mapEntry
  simp only [Sem.run_bind, run_underlying ht, Result.andThen_ok, Go.MapKept.run_getObj_map hb, Sem.run_pure]
  rw [hk]
  simp only [Result.andThen_ok]
  rw [hr]
  simp [hz, Go.MapKept.run_setObj_map _ hb, putB, goInt]
 ·exact absurd (List.mem_map.2 ⟨_, List.mem_of_getElem? hj, rfl⟩) hn
omit ht hz in
theorem entryStore_hv {w : World} {b : Nat} {ks : List (Hash × Value)} {p : Hash} {st : Nat} (h : MapEnt w b ks p st) (v : Value) :
  ∃ w', (Instr.entryStore t (.map (some b)) (.int .i64 (st : Int)) v).run Try.prog w = .ok () w' ∧ MapHv w' b (ks ++ [(p, v)]) ∧ w.grownBy w' (some b) := by
 obtain ⟨es, v0, hb, hes, hnd, hborn, hclock, hn⟩ := h
 have hidx : (es.push { key := hsV p, val := v0, born := st }).findIdx? (fun e => ((e.born : Nat) : Int) == ((st : Nat) : Int)) = some es.size := by
  have h1 := Go.WideElems.findIdx_born (l := (es.push { key := hsV p, val := v0, born := st }).toList) (j := es.size) (e0 := { key := hsV p, val := v0, born := st }) (by
   simp only [Array.toList_push, List.map_append, List.map_cons, List.map_nil]
   refine List.nodup_append.2 ⟨hborn, by simp, fun a ha c hc e1 => ?_⟩
   obtain ⟨m, hm, rfl⟩ := List.mem_map.1 ha
   simp at hc
   have := hclock m hm
   omega) (by simp)
  rw [Go.WideElems.findIdx_arr]
  exact h1
 have hmod : (es.push { key := hsV p, val := v0, born := st }).modify es.size (fun e => { e with val := v }) = es.push { key := hsV p, val := v, born := st } := by
  apply Array.ext'
  rw [Array.toList_modify, Array.toList_push, Array.toList_push, show es.size = es.toList.length by simp, Go.WideElems.modify_last]
 refine ⟨putB w b (.map (es.push { key := hsV p, val := v, born := st }) (st + 1)), ?_, MapHv.push (putB_at hb) hes hnd hborn hclock hn, putB_grown _ _ _⟩
 unfold Instr.entryStore
 simp only [Sem.run_bind, Result.andThen_ok, Go.MapKept.run_getObj_map hb, Sem.run_pure, asInt, asIntOf]
 rw [hidx]
 simp only
 rw [hmod]
 exact Go.MapKept.run_setObj_map _ hb
end
end Go.Proofs.Ythdjhbiigmcecaa

/- Rows of structs of any kind: their cells in one list, reading them, appending one. Over any program. -/
namespace Go.Proofs.Ythdjhbiigmcecaa
open Go.RowKit

/-- a slice of one struct, made on the spot -/
theorem run_buildSlice_one {P : Program} (w : World) {t e : TypeId} {i : TypeInfo} {z : Value} {k : Nat} (ht : P.underlying t = some (.slice e)) (hi : P.info? e = some i) (hz : i.zero = some z) (hs : i.size = k) (hzs : z.cells.size = k) (h0 : 0 < k) (hle : k ≤ 16777216)
  (xs : Array Value) (hxs : xs.size = k) : (Instr.buildSlice t 1 #[(0, .agg xs)]).run P w = .ok (.slice (some ⟨w.heap.size, 0, none⟩) 1 1) (w.alloc (.cells xs e)) := by
 have hfold : ∀ Z : Array Value, Z.size = k → xs.zipIdx.foldl (fun cs (x : Value × Nat) => cs.setIfInBounds (0 + x.2) x.1) Z = xs := fun Z hZ => by
  rw [fold_splice Z xs 0 xs.zipIdx.size (by simp) (by simp; omega), splice_all' _ _ (by omega)]
 have hsz : (Go.sizeOf e).run P w = .ok k w := by simp [Go.sizeOf, typeInfo, hi, hs]
 have hzv : (zeroValue e).run P w = .ok z w := by simp [zeroValue, typeInfo, hi, hz]
 simp only [Instr.buildSlice, Sem.run_bind, run_underlying ht, Result.andThen_ok, hsz, Nat.one_mul]
 rw [if_neg (by omega), if_neg (by omega)]
 simp only [Sem.run_bind, hzv, Result.andThen_ok, Sem.run_pure]
 have hf : Instr.fill (fun i => some (i * k, k)) ((Array.range k).map (z.cells[· % z.cells.size]!)) (#[(0, Value.agg xs)] : Array (Nat × Value)).toList = some xs := by
  simp only [Instr.fill, Value.cells, Nat.zero_mul]
  rw [if_neg (by simp [hxs])]
  refine congrArg some (hfold _ ?_)
  simp
 rw [hf]
 simp [newRow]
section
variable {α : Type} (A : α → Array Value)
/-- the cells of a row of structs -/
def flatC (xs : List α) : List Value := (xs.map fun x => (A x).toList).flatten
theorem flatC_cons (x : α) (xs : List α) : flatC A (x :: xs) = (A x).toList ++ flatC A xs := by simp [flatC]
theorem flatC_append (xs ys : List α) : flatC A (xs ++ ys) = flatC A xs ++ flatC A ys := by simp [flatC]
theorem flatC_one (x : α) : flatC A [x] = (A x).toList := by simp [flatC]
variable {k : Nat} (hk : ∀ x, (A x).size = k)
include hk
theorem flatC_length (xs : List α) : (flatC A xs).length = xs.length * k := by
 induction xs with
 | nil => simp [flatC]
 | cons x xs ih =>
  rw [flatC_cons, List.length_append, ih, List.length_cons, Nat.add_mul, Nat.one_mul, Array.length_toList, hk]
  omega
theorem flatC_get : ∀ (xs : List α) (i r : Nat) (hi : i < xs.length), r < k → (flatC A xs)[i * k + r]? = (A xs[i])[r]?
 | [], _, _, hi, _ => by simp at hi
 | x :: xs, 0, r, hi, hr => by
  rw [flatC_cons, Nat.zero_mul, Nat.zero_add, List.getElem?_append_left (by rw [Array.length_toList, hk]; exact hr)]
  simp
 | x :: xs, i + 1, r, hi, hr => by
  have ih := flatC_get xs i r (by simpa using hi) hr
  rw [flatC_cons, List.getElem?_append_right (by rw [Array.length_toList, hk, Nat.add_mul]; omega), Array.length_toList, hk]
  rw [show (i + 1) * k + r - k = i * k + r by rw [Nat.add_mul]; omega, ih]
  rfl
/-- a row of the call's own, read -/
theorem own_row (hk0 : 0 < k) {w : World} {B n c g : Nat} {xs : List α} (h : OwnC w B k (.slice (some ⟨g, 0, none⟩) n c) xs.length (flatC A xs)) (i : Nat) (hi : i < xs.length) : row? w g (i * k) k = some (A xs[i]) := by
 rcases h.2 with ⟨hv, hn⟩ | ⟨g', cap, hv, _, hlt, hn, _, hc, _, hx⟩
 ·cases hv
 ·injection hv with h1 h2 h3
  injection h1 with h1
  injection h1 with h1
  subst h1
  have hle : i * k + k ≤ xs.length * k := by
   have := Nat.mul_le_mul_right k (show i + 1 ≤ xs.length by omega)
   rw [Nat.add_mul, Nat.one_mul] at this
   exact this
  have hcell : ∀ j, j < k → w.cell? ⟨g, i * k + j, none⟩ = (A xs[i])[j]? := fun j hj => by
   have e := flatC_get A hk xs i j hi hj
   have hj2 : j < (A xs[i]).size := by rw [hk]; exact hj
   rw [Array.getElem?_eq_getElem hj2] at e ⊢
   exact hx _ _ e
  have h0 := hcell 0 hk0
  rw [Nat.add_zero, Array.getElem?_eq_getElem (by rw [hk]; exact hk0)] at h0
  unfold World.cell? at h0
  unfold row?
  cases hg : w.heap[g]? with
  | none => rw [hg] at h0; simp at h0
  | some o =>
   cases o with
   | cells cs t fr =>
    have hcs : ∀ j, j < k → cs[i * k + j]? = (A xs[i])[j]? := fun j hj => by
     rw [← cell_of_row w g (i * k + j) cs t fr hg]
     exact hcell j hj
    have hlast := hcs (k - 1) (by omega)
    have hkl : k - 1 < (A xs[i]).size := by rw [hk]; omega
    rw [Array.getElem?_eq_getElem hkl] at hlast
    have hsz := (Array.getElem?_eq_some_iff.1 hlast).1
    simp only
    rw [if_pos (by omega)]
    congr 1
    apply Array.ext
    ·simp only [Array.size_extract, hk]
     omega
    ·intro j h1 h2
     have hj : j < k := by rw [hk] at h2; exact h2
     have := hcs j hj
     rw [Array.getElem?_eq_getElem h2] at this
     have h3 := Array.getElem?_eq_some_iff.1 this
     simp only [Array.getElem_extract]
     exact h3.2
   | _ => rw [hg] at h0; simp at h0
theorem rows_of_own (hk0 : 0 < k) {w : World} {B : Nat} {s : Sl} {xs : List α} (h : OwnC w B k s.v xs.length (flatC A xs)) : SlR k (fun cs x => cs = A x) w s xs := by
 obtain ⟨sa, sn, sc⟩ := s
 rcases h.2 with ⟨hv, hn⟩ | ⟨g, cap, hv, _, hlt, hn, _, hc, _, hx⟩
 ·injection hv with h1 h2 h3
  subst h2
  have : xs = [] := List.eq_nil_of_length_eq_zero hn
  subst this
  exact ⟨rfl, Nat.zero_le _, fun e => absurd rfl e⟩
 ·injection hv with h1 h2 h3
  subst h1 h2 h3
  refine ⟨rfl, hn, fun _ => ⟨g, 0, rfl, fun i hi => ⟨_, ?_, rfl⟩⟩⟩
  rw [Nat.zero_add]
  exact own_row A hk hk0 h i hi
omit hk in
theorem flatC_onecell (h1 : ∀ x, ∀ u ∈ (A x).toList, u.oneCell' = true) (xs : List α) : ∀ u ∈ flatC A xs, u.oneCell' = true := by
 intro u hu
 simp only [flatC, List.mem_flatten, List.mem_map] at hu
 obtain ⟨l, ⟨x, _, rfl⟩, hu⟩ := hu
 exact h1 x u hu
/-- one element as a source of append -/
theorem src_one {P : Program} {t e : TypeId} (ht : P.underlying t = some (.slice e)) (h1 : ∀ x, ∀ u ∈ (A x).toList, u.oneCell' = true) {w : World} {b c : Nat} {x : α} {e' : TypeId} {fr : Nat × Nat} (hb : w.heap[b]? = some (.cells (A x) e' fr)) :
  Src P k t (.slice (some ⟨b, 0, none⟩) 1 c) 1 (flatC A [x]) w := by
 refine Src.ofSlice w ht ⟨b, 0, none⟩ 1 c (flatC A [x]) (by rw [flatC_length A hk]; rfl) (fun j u hu => ?_) (flatC_onecell A h1 _)
 rw [flatC_one] at hu
 have hadd : (⟨b, 0, none⟩ : Addr).add j = ⟨b, j, none⟩ := by unfold Addr.add; split <;> simp_all
 rw [hadd, cell_of_row w b j _ _ _ hb]
 simpa using hu
theorem run_append_one {P : Program} (w : World) (t : TypeId)
  (h1 : ∀ x, ∀ u ∈ (A x).toList, u.oneCell' = true)
  (base : Nat) (e : TypeId) (i : TypeInfo) (z : Value) (bytes : Nat) (ht : P.underlying t = some (.slice e)) (hi : P.info? e = some i) (hz : i.zero = some z)
  (hsize : i.size = k) (hby : i.bytes = bytes) (hzs : z.cells.size = k)
  (v : Value) (xs : List α) (hown : OwnC w base k v xs.length (flatC A xs)) (b c : Nat) (x : α) {e' : TypeId} {fr : Nat × Nat} (hb : w.heap[b]? = some (.cells (A x) e' fr))
  (hlen : xs.length ≤ 1000000) (hbb : bytes ≤ 1000000) (hbase : base ≤ w.heap.size) :
  ∃ (s' : Sl) (w' : World), (Builtin.append_ #[t, t] t #[v, .slice (some ⟨b, 0, none⟩) 1 c]).run P w = .ok s'.v w' ∧ OwnC w' base k s'.v (xs ++ [x]).length (flatC A (xs ++ [x])) ∧ w.grownBy w' v.ownBlock ∧ (s'.v.ownBlock = v.ownBlock ∨ s'.v.ownBlock = some w.heap.size) := by
 have hm := Nat.mul_le_mul (show xs.length + 1 ≤ 1000001 by omega) hbb
 obtain ⟨v', w', h2, h3, h4, h5⟩ := run_append_ownC (P := P) w base t t t e i z k bytes ht hi hz hsize hby hzs v xs.length (flatC A xs) hown (.slice (some ⟨b, 0, none⟩) 1 c) 1 (flatC A [x]) (src_one A hk ht h1 hb) (by simp only [maxLen]; omega) (by omega) hbase
 obtain ⟨s', rfl⟩ := h3.slice
 exact ⟨s', w', h2, by rw [flatC_append, List.length_append]; exact h3, h4, h5⟩
end
end Go.Proofs.Ythdjhbiigmcecaa

/- Registers and their members: cells, and what they hold. -/
namespace Go.Proofs.Ythdjhbiigmcecaa
open Go.RowKit

structure Mbr where
 key : Hash
 stake : UInt64
 status : Int
 marked : Bool
 deriving DecidableEq
structure Reg where
 members : List Mbr
 coming : List Int
 going : List Int
 churn : UInt64
 deriving DecidableEq
structure GReg where
 members : Sl
 coming : Sl
 going : Sl
 churn : UInt64
def mbrA (m : Mbr) : Array Value := hashA m.key ++ #[.int .u64 (m.stake.toNat : Int), .int .i64 m.status, .bool m.marked]
@[simp] theorem mbrA_size (m : Mbr) : (mbrA m).size = 35 := by simp [mbrA]
def regA (g : GReg) : Array Value := #[g.members.v, g.coming.v, g.going.v, .int .u64 (g.churn.toNat : Int)]
end Go.Proofs.Ythdjhbiigmcecaa

/- Registers, plainly: which may be, and the one behind a header. -/
namespace Go.Proofs.Ythdjhbiigmcecaa

/-! a test of every place -/
/-! members -/
def zeroMbr : Mbr := ⟨zeroHash, 0, 0, false⟩
theorem lt_of_get {α : Type} {l : List α} {i : Nat} {x : α} (h : l[i]? = some x) : i < l.length := by
 rcases Nat.lt_or_ge i l.length with h1 | h1
 ·exact h1
 ·rw [List.getElem?_eq_none h1] at h; cases h
/-! as the document asks -/
/-! the register behind a header -/
end Go.Proofs.Ythdjhbiigmcecaa
