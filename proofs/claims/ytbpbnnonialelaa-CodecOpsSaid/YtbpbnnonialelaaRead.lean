/- Contracts: codec.hash, readPoint. -/
import Derived.Test.YtbpbnnonialelaaWire3
import Derived.Test.YtbpbnnonialelaaStores
import Derived.Laws.CopyOwn
import Derived.Deep.RegionHeld3
import Derived.Deep.RegionLaw
namespace Go.Proofs.Ytbpbnnonialelaa
open Go.RowKit

def toHash (l : List UInt8) : Hash := if h : l.length = 32 then ⟨l, h⟩ else zeroHash
/-- what hash leaves, and hands back -/
def rdHash (st : Option (List UInt8)) : Option (List UInt8) × Hash := ((rdBytes st 32).1, toHash (rdBytes st 32).2)
def rdPoint (st : Option (List UInt8)) : Option (List UInt8) × Pt := ((rdHash (rdNum st 8).1).1, ⟨UInt64.ofNat (rdNum st 8).2, (rdHash (rdNum st 8).1).2⟩)

theorem hash_res : Try.f110.results = #[.cell 2 27] := by kernel_rfl
theorem splice_hash (l : List UInt8) (h : l.length = 32) : Go.splice (hashA zeroHash).toList 0 (l.map byteV) = (l.map byteV) := by
  have := zeroHash.2
  simp [Go.splice, hashA, h, this]

theorem copy_n {W : World} {s : Sl} {l : List UInt8} (hs : BytesR W s l) (hlen : l.length = 0 ∨ l.length = 32) : (l.map byteV).length = Nat.min s.n 32 := by
  rw [List.length_map, hs.1]
  rcases hlen with h | h <;> rw [h] <;> rfl
theorem copy_at {W : World} {s : Sl} {l : List UInt8} (hs : BytesR W s l) (p : Addr) : 0 < (l.map byteV).length → some p = some p ∧ ∃ ad, s.a = some ad ∧ ∀ j v, (l.map byteV)[j]? = some v → W.cell? (ad.add j) = some v := by
  intro h
  obtain ⟨b, off, ha, hc⟩ := hs.2.2 (by intro e; subst e; simp at h)
  refine ⟨rfl, _, ha, fun j v hv => ?_⟩
  have hj : j < l.length := by
    rcases Nat.lt_or_ge j l.length with hj | hj
    · exact hj
    · rw [List.getElem?_eq_none (by simpa using hj)] at hv; cases hv
  have hadd : (⟨b, off, none⟩ : Addr).add j = ⟨b, off + j, none⟩ := by unfold Addr.add; split <;> simp_all
  rw [hadd, hc j hj]
  simpa [hj] using hv
theorem copy_fit {l : List UInt8} (hlen : l.length = 0 ∨ l.length = 32) : 0 + (l.map byteV).length ≤ (hashA zeroHash).toList.length := by
  have := hashA_size zeroHash
  simp
  omega
theorem copy_one (l : List UInt8) : ∀ v ∈ l.map byteV, v.oneCell' = true := by
  intro v hv
  obtain ⟨x, _, rfl⟩ := List.mem_map.1 hv
  rfl

theorem splice_name (l : List UInt8) (hlen : l.length = 0 ∨ l.length = 32) : some (Obj.cells (Go.splice (hashA zeroHash).toList 0 (l.map byteV)).toArray 27 (0, 0)) = some (Obj.cells (hashA (toHash l)) 27 (0, 0)) := by
  rcases hlen with h | h
  · obtain rfl := List.eq_nil_of_length_eq_zero h
    simp [Go.splice, toHash]
  · rw [splice_hash l h]
    simp [toHash, h, hashA]
theorem there_block {w : World} {b n : Nat} {cs : Array Value} {t : TypeId} (h : w.heap[b]? = some (.cells cs t (0, 0))) (hn : n ≤ cs.size) : there w b 0 n := by
  intro j hj
  refine ⟨?_, frozen_of_row w b _ cs t h⟩
  rw [cell_of_row w b _ cs t _ h, Nat.zero_add, Array.getElem?_eq_getElem (by omega)]
  rfl
theorem grown_undrew {w w' : World} {row : Option Nat} (h : w.drew.grownBy w' row) : w.grownBy w' row := ⟨h.os, h.tape, h.output, h.size, h.block⟩

set_option maxRecDepth 100000 in
set_option maxHeartbeats 800000 in
theorem hash_c (r : Nat) (st : Option (List UInt8)) (w : World) {lo : Nat} (h : RdR lo w r st) :
    Calls Try.prog 110 #[.pointer (some ⟨r, 0, none⟩)] w fun e w' => e = .returned (.agg (hashA (rdHash st).2)) ∧ RdR lo w' r (rdHash st).1 ∧ w.grownBy w' (some r) := by
  have hlt := h.lt
  have HC := fun W (hW : RdR lo W r st) => rbytes_c r st 32 W hW (by omega) (by omega)
  have hlen := rdBytes_len st 32
  unfold rdHash
  generalize rdBytes st 32 = res at *
  have Hh := Lib.hid h
  clear h
  go_enter Try.func110, Try.ntmps110
  go_wp2_with fail
  have hg0 : (w.alloc (.cells (hashA zeroHash) 27)).heap[w.heap.size]? = some (.cells (hashA zeroHash) 27 (0, 0)) := heap_alloc_new w _
  have HC := HC (w.alloc (.cells (hashA zeroHash) 27)).drew (Hh.out.keep (bel_ad _ _))
  have hsz : (w.alloc (.cells (hashA zeroHash) 27)).heap.size = w.heap.size + 1 := by simp
  have hne : w.heap.size ≠ r := by omega
  go_region_held3 (fun _ => True) (trivial)
    (first
      | (go_simp; go_at_call 59; (with_reducible refine HC.mono ?_); rintro e w2 ⟨s, rfl, hs, hlo, hr, hg⟩; have hg1 : w2.heap[w.heap.size]? = some (.cells (hashA zeroHash) 27 (0, 0)) := (hg.block _ (by rw [World.size_drew, hsz]; omega) (fun e => hne (by injection e))).trans hg0)
      | (refine step_copy_splice (by rfl) (.tmp 3) (.tmp 5) 35 35 (by rfl) 5 Try.underlying35 (by kernel_rfl) (some ⟨w.heap.size, 0, none⟩) s.a 32 32 s.n s.c (by rfl) (by rfl) w.heap.size 0 (hashA zeroHash).toList 27 hg1 (res.2.map byteV) (copy_n hs.1 hlen) (copy_at hs.1 _) (copy_fit hlen) (copy_one _) w.heap.size w2 (Below.refl _ _) (Nat.le_refl _) ?_; intro w3 hg3 hb3))
  have hblk := (hg3.out).trans (by rw [splice_name res.2 hlen] : _ = some (Obj.cells (hashA (toHash res.2)) 27 (0, 0)))
  have hrow : row? w3 w.heap.size 0 32 = some (hashA (toHash res.2)) := by
    unfold row?
    rw [hblk]
    simp
  have hth : there w3 w.heap.size 0 32 := there_block hblk (by simp)
  have hR := Lib.hid (hr.keepB hlt hb3)
  have hG : w.grownBy w3 (some r) := grown_below ((World.grownBy_alloc w _ _).trans (grown_undrew hg)) hb3 (Nat.le_refl _)
  have HG := Lib.hid hG
  clear hg hg0 hg1 hg3 hblk hr hs hlo hG HC hlen
  go_wp2_with (with_reducible refine ret_row Try.isAgg27 Try.sizeOf27 hash_res (x := .pointer (some ⟨w.heap.size, 0, none⟩)) (w.heap.size) 0 ?rrhx (Eq.refl _) ?rrh ?rrhd ?rrhR; (case rrhx => simp only [Array.getD_eq_getD_getElem?, List.getElem?_toArray, List.getElem?_cons_succ, List.getElem?_cons_zero, Option.getD_some]); (case rrhd => exact rfl); (case rrh => go_simp); (case rrhR => ((refine ⟨?_, hR.out.keepB hlt ?_, grown_below HG.out ?_ (Nat.le_refl _)⟩; (case refine_1 => (go_simp; done)); (case refine_2 => ((repeat' (first | (with_reducible exact Below.refl _ _) | (with_reducible assumption) | (with_reducible refine bel_trans (by assumption) ?_ ?_) | (with_reducible refine bel_grown (by assumption) ?_ ?_ ?_) | (with_reducible refine Below.alloc ?_ ?_ _) | (with_reducible refine Below.drew ?_) | (with_reducible refine below_drewN ?_ _) | (with_reducible refine Below.setCell ?_ ?_ _) | (with_reducible refine below_put ?_ ?_ _ _) | (with_reducible exact Nat.le_refl _) | omega | (with_reducible refine Nat.le_trans ?_ (Below.size (by assumption))) | (with_reducible refine Nat.le_trans ?_ (World.grownBy.size (by assumption))) | (simp only [World.size_alloc, World.size_setCell, World.size_drew, size_drewN]; omega) | (simp only [World.size_alloc, World.size_setCell, World.size_drew, size_drewN, size_put]; omega) | (intro k hk; simp [Value.ownBlock] at hk; done) | (intro k hk; simp [Value.ownBlock] at hk; omega) | (simp [size_drewN] at *; omega))))); (case refine_3 => ((repeat' (first | (with_reducible exact Below.refl _ _) | (with_reducible assumption) | (with_reducible refine bel_trans (by assumption) ?_ ?_) | (with_reducible refine bel_grown (by assumption) ?_ ?_ ?_) | (with_reducible refine Below.alloc ?_ ?_ _) | (with_reducible refine Below.drew ?_) | (with_reducible refine below_drewN ?_ _) | (with_reducible refine Below.setCell ?_ ?_ _) | (with_reducible refine below_put ?_ ?_ _ _) | (with_reducible exact Nat.le_refl _) | omega | (with_reducible refine Nat.le_trans ?_ (Below.size (by assumption))) | (with_reducible refine Nat.le_trans ?_ (World.grownBy.size (by assumption))) | (simp only [World.size_alloc, World.size_setCell, World.size_drew, size_drewN]; omega) | (simp only [World.size_alloc, World.size_setCell, World.size_drew, size_drewN, size_put]; omega) | (intro k hk; simp [Value.ownBlock] at hk; done) | (intro k hk; simp [Value.ownBlock] at hk; omega) | (simp [size_drewN] at *; omega)))))))))

theorem rpoint_res : Try.f89.results = #[.cell 2 29] := by kernel_rfl
set_option maxRecDepth 100000 in
set_option maxHeartbeats 800000 in
theorem readPoint_c (r : Nat) (st : Option (List UInt8)) (w : World) {lo : Nat} (h : RdR lo w r st) :
    Calls Try.prog 89 #[.pointer (some ⟨r, 0, none⟩)] w fun e w' => e = .returned (.agg (pointA (rdPoint st).2)) ∧ RdR lo w' r (rdPoint st).1 ∧ w.grownBy w' (some r) := by
  have hlt := h.lt
  have HC := fun W (hW : RdR lo W r st) => rnum_c r st 8 W hW (by omega)
  have hn := rdNum_lt st 8
  have HH := fun W (hW : RdR lo W r (rdNum st 8).1) => hash_c r (rdNum st 8).1 W hW
  unfold rdPoint
  generalize rdNum st 8 = res at *
  generalize rdHash res.1 = res2 at *
  obtain ⟨s1, n1⟩ := res
  obtain ⟨u, rfl⟩ : ∃ u : UInt64, n1 = u.toNat := ⟨UInt64.ofNat n1, by simp only at hn; simp; omega⟩
  simp only [UInt64.ofNat_toNat]
  have Hh := Lib.hid h
  clear h hn
  go_enter Try.func89, Try.ntmps89
  go_wp2_with fail
  refine (HC _ (Hh.out.keep (bel_a _ _))).mono ?_
  clear HC
  rintro e w1 ⟨rfl, hr1, hg1⟩
  go_wp2_with fail
  refine (HH _ hr1).mono ?_
  clear HH
  rintro e w2 ⟨rfl, hr2, hg2⟩
  have hg := hg1.trans hg2
  have hblk : w2.heap[w.heap.size]? = some (.cells (pointA zeroPt) 29 (0, 0)) := (hg.block _ (by simp) (by intro e; injection e; omega)).trans (heap_alloc_new w _)
  have hrow : row? w2 w.heap.size 0 33 = some (pointA zeroPt) := by
    unfold row?
    rw [hblk]
    simp
  have hth : there w2 w.heap.size 0 33 := there_block hblk (by simp)
  have hR := Lib.hid hr2
  have HG := Lib.hid ((World.grownBy_alloc w (.cells (pointA zeroPt) 29) _).trans hg)
  clear hg hg1 hg2 hblk hr1 hr2
  go_wp2_with (with_reducible refine ret_row Try.isAgg29 Try.sizeOf29 rpoint_res (x := .pointer (some ⟨w.heap.size, 0, none⟩)) (w.heap.size) 0 ?rrhx (Eq.refl _) ?rrh ?rrhd ?rrhR; (case rrhx => simp only [Array.getD_eq_getD_getElem?, List.getElem?_toArray, List.getElem?_cons_succ, List.getElem?_cons_zero, Option.getD_some]); (case rrhd => exact rfl); (case rrh => go_simp); (case rrhR => ((refine ⟨?_, hR.out.keepB hlt ?_, grown_below HG.out ?_ (Nat.le_refl _)⟩; (case refine_1 => (go_simp; done)); (case refine_2 => ((repeat' (first | (with_reducible exact Below.refl _ _) | (with_reducible assumption) | (with_reducible refine bel_trans (by assumption) ?_ ?_) | (with_reducible refine bel_grown (by assumption) ?_ ?_ ?_) | (with_reducible refine Below.alloc ?_ ?_ _) | (with_reducible refine Below.drew ?_) | (with_reducible refine below_drewN ?_ _) | (with_reducible refine Below.setCell ?_ ?_ _) | (with_reducible refine below_put ?_ ?_ _ _) | (with_reducible exact Nat.le_refl _) | omega | (with_reducible refine Nat.le_trans ?_ (Below.size (by assumption))) | (with_reducible refine Nat.le_trans ?_ (World.grownBy.size (by assumption))) | (simp only [World.size_alloc, World.size_setCell, World.size_drew, size_drewN]; omega) | (simp only [World.size_alloc, World.size_setCell, World.size_drew, size_drewN, size_put]; omega) | (intro k hk; simp [Value.ownBlock] at hk; done) | (intro k hk; simp [Value.ownBlock] at hk; omega) | (simp [size_drewN] at *; omega))))); (case refine_3 => ((repeat' (first | (with_reducible exact Below.refl _ _) | (with_reducible assumption) | (with_reducible refine bel_trans (by assumption) ?_ ?_) | (with_reducible refine bel_grown (by assumption) ?_ ?_ ?_) | (with_reducible refine Below.alloc ?_ ?_ _) | (with_reducible refine Below.drew ?_) | (with_reducible refine below_drewN ?_ _) | (with_reducible refine Below.setCell ?_ ?_ _) | (with_reducible refine below_put ?_ ?_ _ _) | (with_reducible exact Nat.le_refl _) | omega | (with_reducible refine Nat.le_trans ?_ (Below.size (by assumption))) | (with_reducible refine Nat.le_trans ?_ (World.grownBy.size (by assumption))) | (simp only [World.size_alloc, World.size_setCell, World.size_drew, size_drewN]; omega) | (simp only [World.size_alloc, World.size_setCell, World.size_drew, size_drewN, size_put]; omega) | (intro k hk; simp [Value.ownBlock] at hk; done) | (intro k hk; simp [Value.ownBlock] at hk; omega) | (simp [size_drewN] at *; omega)))))))))
end Go.Proofs.Ytbpbnnonialelaa
