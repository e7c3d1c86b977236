/- Contracts: Reader.Number, Blob; ref09.hash, point. -/
import Derived.Test.YtbpbnnonialelaaRefRd
import Derived.Test.YtbpbnnonialelaaRead
namespace Go.Proofs.Ytbpbnnonialelaa
open Go.RowKit

theorem RfR.keepN {lo : Nat} {w : World} {r : Nat} {st : Option (List UInt8)} (h : RfR lo w r st) (m : Nat) : RfR lo (w.drewN m) r st := by
  cases st with
  | none => exact h
  | some l => exact h
theorem grown_drewN {w w' : World} {row : Option Nat} (h : w.grownBy w' row) (m : Nat) : w.grownBy (w'.drewN m) row := ⟨h.os, h.tape, h.output, h.size, h.block⟩

theorem fnum_c {lo : Nat} (r : Nat) (st : Option (List UInt8)) (k : Nat) (w : World) (h : RfR lo w r st) (hk : k = 1 ∨ k = 2 ∨ k = 8) :
    Calls Try.prog 67 #[.pointer (some ⟨r, 0, none⟩), .int .i64 k] w fun e w' => e = .returned (.int .u64 (rdNum st k).2) ∧ RfR lo w' r (rdNum st k).1 ∧ w.grownBy w' (some r) := by
  have hlen := rdBytes_len st k
  unfold rdNum
  have b1 : ¬ ((k : Int) < 1) := by omega
  have b2 : ¬ ((8 : Int) < k) := by omega
  have Hk := Lib.hid hk
  have HC := fbytes_c r st k w h (by omega) (by omega)
  clear hk
  generalize rdBytes st (k : Int) = res at *
  go_enter Try.func67, Try.ntmps67
  go_wp2_with fail
  refine HC.mono ?_
  clear HC
  rintro e w1 ⟨s, rfl, hs, _, hr, hg⟩
  go_wp2_with fail
  refine (rget_c s res.2 w1 hs (by have := Hk.out; omega)).mono ?_
  rintro e w2 ⟨rfl, m, rfl⟩
  go_wp2_with fail
  go_ret
  exact ⟨rfl, hr.keepN m, grown_drewN hg m⟩

/-- 32 cells, of which the first ones are filled -/
def fillA (l : List UInt8) (i : Nat) : Array Value := ((l.take i ++ List.replicate (32 - i) 0).map byteV).toArray
theorem fillA_size (l : List UInt8) (i : Nat) (hi : i ≤ l.length) (h : l.length ≤ 32) : (fillA l i).size = 32 := by simp [fillA]; omega
theorem fillA_zero (l : List UInt8) : fillA l 0 = hashA zeroHash := by simp [fillA, hashA, zeroHash]
theorem fillA_all (l : List UInt8) (h : l.length = 32) : fillA l 32 = hashA (toHash l) := by
  simp [fillA, hashA, toHash, h, List.take_of_length_le]
theorem fillA_step (l : List UInt8) (i : Nat) (hi : i < l.length) (h : l.length ≤ 32) : (fillA l i).setIfInBounds i (byteV l[i]) = fillA l (i + 1) := by
  unfold fillA
  rw [List.take_succ_eq_append_getElem hi, show 32 - i = 32 - (i + 1) + 1 by omega, List.replicate_succ]
  simp only [List.map_append, List.map_cons, List.setIfInBounds_toArray]
  have hl : i = ((l.take i).map byteV).length := by simp; omega
  rw [List.set_append_right _ _ (by omega), ← hl]
  simp

theorem fhash_res : Try.f111.results = #[.cell 2 27] := by kernel_rfl
set_option maxRecDepth 100000 in
set_option maxHeartbeats 1600000 in
theorem fhash_c (r : Nat) (st : Option (List UInt8)) (w : World) {lo : Nat} (h : RfR lo w r st) :
    Calls Try.prog 111 #[.pointer (some ⟨r, 0, none⟩)] w fun e w' => e = .returned (.agg (hashA (rdHash st).2)) ∧ RfR lo w' r (rdHash st).1 ∧ w.grownBy w' (some r) := by
  have hlt := h.lt
  have hle := h.le
  have HC := fun W (hW : RfR lo W r st) => fbytes_c r st 32 W hW (by omega) (by omega)
  have hlen := rdBytes_len st 32
  unfold rdHash
  generalize rdBytes st 32 = res at *
  obtain ⟨st1, l⟩ := res
  have Hh := Lib.hid h
  clear h
  go_enter Try.func111, Try.ntmps111
  go_wp2_with fail
  refine (HC _ ((Hh.out.keep (bel_a _ _)).keep (bel_a _ _))).mono ?_
  clear HC
  rintro e w1 ⟨s, rfl, hs, hlow, hr, hg⟩
  obtain ⟨sa, sn, sc⟩ := s
  obtain rfl : sn = l.length := hs.1
  have hz1 : w.heap.size + 2 ≤ w1.heap.size := by have := hg.size; simpa using this
  have hg0 : w1.heap[w.heap.size]? = some (.cells (hashA zeroHash) 27 (0, 0)) := (hg.block _ (by simp; omega) (by intro e; injection e; omega)).trans ((Below.heap_alloc _ _ _ (by simp)).trans (heap_alloc_new w _))
  have hg1 : w1.heap[w.heap.size + 1]? = some (.cells (fillA l 0) 27 (0, 0)) := (hg.block _ (by simp) (by intro e; injection e; omega)).trans (by rw [fillA_zero]; have := heap_alloc_new (w.alloc (.cells (hashA zeroHash) 27)) (.cells (hashA zeroHash) 27); simpa using this)
  have hGG : w.grownBy w1 (some r) := ((World.grownBy_alloc w _ _).trans (World.grownBy_alloc _ _ _)).trans hg
  have Hs := Lib.hid hs
  have Hr := Lib.hid hr
  have HG := Lib.hid hGG
  have Hg0 := Lib.hid hg0
  have Hg1 := Lib.hid hg1
  have Hlow := Lib.hid hlow
  clear hs hr hg hGG hg0 hg1 hlow
  have hl32 : l.length ≤ 32 := by omega
  have Hlen := Lib.hid hlen
  clear hlen
  dsimp only [Sl.v]
  go_wp2_with fail
  go_loopw [5] (fun i w' => ∃ j : Nat, j ≤ l.length ∧ i = .int .i64 j ∧ w'.heap[w.heap.size + 1]? = some (.cells (fillA l j) 27 (0, 0)) ∧ w1.grownBy w' (some (w.heap.size + 1))) (fun i _ => l.length - (intOf i).toNat)
  case atStart => exact ⟨0, Nat.zero_le _, rfl, Hg1.out, World.grownBy.refl _ _⟩
  case round =>
    obtain ⟨j, hj, rfl, hcs, hgr⟩ := hrel
    have hzz := hgr.size
    have hlw : w.heap.size + 1 < wr.heap.size := by omega
    have Hcs := Lib.hid hcs
    have Hgr := Lib.hid hgr
    clear hcs hgr
    by_cases hlt2 : j < l.length
    · obtain ⟨b, off, ha, hc⟩ := Hs.out.2.2 (by intro e; subst e; simp at hlt2)
      simp only at ha
      subst ha
      have hlb := Hlow.out (by intro e; subst e; simp at hlt2) _ rfl
      simp only at hlb
      have hbw : b < w1.heap.size := lt_of_cell (hc j hlt2)
      have hcj : wr.cell? ⟨b, off + j, none⟩ = some (.int .u8 (l[j].toNat : Int)) := (World.cell?_of_block (a := ⟨b, off + j, none⟩) (Hgr.out.block b hbw (by intro e; injection e; omega))).trans (hc j hlt2)
      obtain ⟨x0, hci⟩ : ∃ x, wr.cell? ⟨w.heap.size + 1, j, none⟩ = some x := by
        rw [cell_of_row wr (w.heap.size + 1) j _ _ _ Hcs.out, Array.getElem?_eq_getElem (by rw [fillA_size l j hj hl32]; omega)]
        exact ⟨_, rfl⟩
      have hfi := frozen_of_row wr (w.heap.size + 1) j _ _ Hcs.out
      have hst := Lib.hid (fillA_step l j hlt2 hl32)
      have hi0 : (0 : Int) ≤ (j : Int) := by omega
      have hi1 : (j : Int) < (l.length : Int) := by omega
      have hi2 : (j : Int) < 32 := by omega
      have hv := Lib.hid (show byteV l[j] = .int .u8 (l[j].toNat : Int) from rfl)
      generalize hy : (l[j].toNat : Int) = y at *
      clear hc
      go_wp2_with fail
      go_roundw
      case rel => exact ⟨j + 1, by omega, by go_num, by rw [← hst.out, hv.out]; exact heap_set _ _ _ _ _ _ Hcs.out, Hgr.out.trans (grown_set _ _ _ _)⟩
      case measure => simp [intOf]; omega
    · obtain rfl : j = l.length := by omega
      have hfa : fillA l l.length = hashA (toHash l) := by
        rcases Hlen.out with h0 | h0
        · obtain rfl := List.eq_nil_of_length_eq_zero h0
          rw [show ([] : List UInt8).length = 0 from rfl, fillA_zero]
          simp [toHash]
        · rw [h0, fillA_all l h0]
      have hrow1 : row? wr (w.heap.size + 1) 0 32 = some (hashA (toHash l)) := by
        unfold row?
        rw [Hcs.out, hfa]
        simp
      have hblk : wr.heap[w.heap.size]? = some (.cells (hashA zeroHash) 27 (0, 0)) := (Hgr.out.block _ (by omega) (by intro e; injection e; omega)).trans Hg0.out
      have hrow : row? wr w.heap.size 0 32 = some (hashA zeroHash) := by
        unfold row?
        rw [hblk]
        simp
      have hth : there wr w.heap.size 0 32 := there_block hblk (by simp)
      clear hblk hfa
      have hd : ¬ ((l.length : Int) < (l.length : Int)) := by omega
      have hR : RfR lo wr r st1 := Hr.out.keepB (D := w.heap.size + 1) (by omega) ⟨Hgr.out.os, Hgr.out.tape, Hgr.out.output, Hgr.out.size, fun b hb => Hgr.out.block b (by omega) (by intro e; injection e; omega)⟩
      have hG : w.grownBy wr (some r) := grown_below HG.out (D := w.heap.size + 1) ⟨Hgr.out.os, Hgr.out.tape, Hgr.out.output, Hgr.out.size, fun b hb => Hgr.out.block b (by omega) (by intro e; injection e; omega)⟩ (by omega)
      have hR := Lib.hid hR
      have HG := Lib.hid hG
      clear hG
      go_wp2_with (with_reducible refine ret_row Try.isAgg27 Try.sizeOf27 fhash_res (x := .pointer (some ⟨w.heap.size, 0, none⟩)) (w.heap.size) 0 ?rrhx (Eq.refl _) ?rrh ?rrhd ?rrhR; (case rrhx => simp only [Array.getD_eq_getD_getElem?, List.getElem?_toArray, List.getElem?_cons_succ, List.getElem?_cons_zero, Option.getD_some]); (case rrhd => exact rfl); (case rrh => go_simp); (case rrhR => ((refine ⟨?_, hR.out.keepB hlt ?_, grown_below HG.out ?_ (Nat.le_refl _)⟩; (case refine_1 => (go_simp; done)); (case refine_2 => ((repeat' (first | (with_reducible exact Below.refl _ _) | (with_reducible assumption) | (with_reducible refine bel_trans (by assumption) ?_ ?_) | (with_reducible refine bel_grown (by assumption) ?_ ?_ ?_) | (with_reducible refine Below.alloc ?_ ?_ _) | (with_reducible refine Below.drew ?_) | (with_reducible refine below_drewN ?_ _) | (with_reducible refine Below.setCell ?_ ?_ _) | (with_reducible refine below_put ?_ ?_ _ _) | (with_reducible exact Nat.le_refl _) | omega | (with_reducible refine Nat.le_trans ?_ (Below.size (by assumption))) | (with_reducible refine Nat.le_trans ?_ (World.grownBy.size (by assumption))) | (simp only [World.size_alloc, World.size_setCell, World.size_drew, size_drewN]; omega) | (simp only [World.size_alloc, World.size_setCell, World.size_drew, size_drewN, size_put]; omega) | (intro k hk; simp [Value.ownBlock] at hk; done) | (intro k hk; simp [Value.ownBlock] at hk; omega) | (simp [size_drewN] at *; omega))))); (case refine_3 => ((repeat' (first | (with_reducible exact Below.refl _ _) | (with_reducible assumption) | (with_reducible refine bel_trans (by assumption) ?_ ?_) | (with_reducible refine bel_grown (by assumption) ?_ ?_ ?_) | (with_reducible refine Below.alloc ?_ ?_ _) | (with_reducible refine Below.drew ?_) | (with_reducible refine below_drewN ?_ _) | (with_reducible refine Below.setCell ?_ ?_ _) | (with_reducible refine below_put ?_ ?_ _ _) | (with_reducible exact Nat.le_refl _) | omega | (with_reducible refine Nat.le_trans ?_ (Below.size (by assumption))) | (with_reducible refine Nat.le_trans ?_ (World.grownBy.size (by assumption))) | (simp only [World.size_alloc, World.size_setCell, World.size_drew, size_drewN]; omega) | (simp only [World.size_alloc, World.size_setCell, World.size_drew, size_drewN, size_put]; omega) | (intro k hk; simp [Value.ownBlock] at hk; done) | (intro k hk; simp [Value.ownBlock] at hk; omega) | (simp [size_drewN] at *; omega)))))))))
end Go.Proofs.Ytbpbnnonialelaa
