/- Texts of this proof, one behind the other: ShaS, Slices, Ops, Free, Codec2, Data, Eq. -/
import Derived.Test.YthdjhbiigmcecaaPAD
import Derived.Test.YthdjhbiigmcecaaPAA
import Derived.Handy
import Derived.Deep.QuietTactic
import Derived.BigQuiet
import Derived.Orders
import Derived.Lib.SlBytesConst
import Derived.ChangeKeysEq
set_option linter.unusedVariables false
set_option linter.unusedSimpArgs false
/- sha.Sum. -/
namespace Go.Proofs.Ythdjhbiigmcecaa
open Go.RowKit

theorem start_res : Try.f161.results = #[.cell 0 157] := by kernel_rfl
theorem constants_res : Try.f162.results = #[.cell 0 158] := by kernel_rfl
def kA : Array Value := (shaK.map u32V).toArray
set_option maxRecDepth 100000 in
set_option maxHeartbeats 800000 in
theorem start_c (w : World) : Calls Try.prog 161 #[] w fun e w' => e = .returned (.agg (s8A shaH)) ∧ Below w.heap.size w w' := by
 go_enter Try.func161, Try.ntmps161
 go_wp2_with fail
 have hrr : row? (w.alloc (.cells #[.int .u32 1779033703, .int .u32 3144134277, .int .u32 1013904242, .int .u32 2773480762, .int .u32 1359893119, .int .u32 2600822924, .int .u32 528734635, .int .u32 1541459225] 157)) w.heap.size 0 8 = some (s8A shaH) := by
  rw [row?_new]
  rfl
 refine ret_row Try.isAgg157 Try.sizeOf157 start_res (x := .pointer (some ⟨w.heap.size, 0, none⟩)) w.heap.size 0 rfl rfl (by rw [hrr]; rfl) rfl ?_
 rw [hrr]
 exact ⟨rfl, bel_a _ _⟩
theorem wpList_build_as {P : Program} {ops : Array Oper} {rest : List Oper} {o : Oper} {a : Act} {w : World} {Q : Exit → Act → World → Prop} (hg : o.guard = none) (t : TypeId) (parts : Array (Nat × Operand)) (ho : o.op = .build t parts) (cells : Array Value)
  (hf : P.built t (parts.map fun (i, x) => (i, a.eval x)).toList = some cells)
  (h : wpList P ops Q rest (a.put o.dst (.agg cells)) w) : wpList P ops Q (o :: rest) a w :=
 wpList_build hg t parts ho (by rw [hf]; rfl) (by rw [hf]; exact h)
theorem info_k64 : (Try.prog.info? 158).map (·.size) = some kA.size := by kernel_rfl
theorem kA_size : kA.size = 64 := by kernel_rfl
theorem kA_one : kA.all (·.oneCell') = true := by kernel_rfl
set_option maxRecDepth 100000 in
set_option maxHeartbeats 800000 in
theorem constants_c (w : World) : Calls Try.prog 162 #[] w fun e w' => e = .returned (.agg kA) ∧ Below w.heap.size w w' := by
 go_enter Try.func162, Try.ntmps162
 go_upto_region 1 with fail
 refine wp_region_lit ?_
 refine wpList_build_as rfl 158 _ rfl kA (by kernel_rfl) ?_
 refine wpList_store_row rfl 158 (.tmp 0) (.tmp 1) rfl w.heap.size kA rfl rfl 158 _ (heap_alloc_new w _) info_k64 (by rw [kA_size]; rfl) kA_one ?_
 refine wpList_nil ?_
 rename_i hK
 refine hK _ _ ?_
 have hg := setRow_heap _ w.heap.size _ kA _ _ (heap_alloc_new w (.cells (#[.int .u32 0, .int .u32 0, .int .u32 0, .int .u32 0, .int .u32 0, .int .u32 0, .int .u32 0, .int .u32 0, .int .u32 0, .int .u32 0, .int .u32 0, .int .u32 0, .int .u32 0, .int .u32 0, .int .u32 0, .int .u32 0, .int .u32 0, .int .u32 0, .int .u32 0, .int .u32 0, .int .u32 0, .int .u32 0, .int .u32 0, .int .u32 0, .int .u32 0, .int .u32 0, .int .u32 0, .int .u32 0, .int .u32 0, .int .u32 0, .int .u32 0, .int .u32 0, .int .u32 0, .int .u32 0, .int .u32 0, .int .u32 0, .int .u32 0, .int .u32 0, .int .u32 0, .int .u32 0, .int .u32 0, .int .u32 0, .int .u32 0, .int .u32 0, .int .u32 0, .int .u32 0, .int .u32 0, .int .u32 0, .int .u32 0, .int .u32 0, .int .u32 0, .int .u32 0, .int .u32 0, .int .u32 0, .int .u32 0, .int .u32 0, .int .u32 0, .int .u32 0, .int .u32 0, .int .u32 0, .int .u32 0, .int .u32 0, .int .u32 0, .int .u32 0]) 158))
 have hB : Below w.heap.size w ((w.alloc (.cells (#[.int .u32 0, .int .u32 0, .int .u32 0, .int .u32 0, .int .u32 0, .int .u32 0, .int .u32 0, .int .u32 0, .int .u32 0, .int .u32 0, .int .u32 0, .int .u32 0, .int .u32 0, .int .u32 0, .int .u32 0, .int .u32 0, .int .u32 0, .int .u32 0, .int .u32 0, .int .u32 0, .int .u32 0, .int .u32 0, .int .u32 0, .int .u32 0, .int .u32 0, .int .u32 0, .int .u32 0, .int .u32 0, .int .u32 0, .int .u32 0, .int .u32 0, .int .u32 0, .int .u32 0, .int .u32 0, .int .u32 0, .int .u32 0, .int .u32 0, .int .u32 0, .int .u32 0, .int .u32 0, .int .u32 0, .int .u32 0, .int .u32 0, .int .u32 0, .int .u32 0, .int .u32 0, .int .u32 0, .int .u32 0, .int .u32 0, .int .u32 0, .int .u32 0, .int .u32 0, .int .u32 0, .int .u32 0, .int .u32 0, .int .u32 0, .int .u32 0, .int .u32 0, .int .u32 0, .int .u32 0, .int .u32 0, .int .u32 0, .int .u32 0, .int .u32 0]) 158)).setRow w.heap.size kA) := ⟨rfl, rfl, rfl, by rw [setRow_size]; simp, fun k hk => by rw [setRow_other _ _ _ _ (by omega)]; exact Below.heap_alloc w _ k hk⟩
 generalize (w.alloc _).setRow w.heap.size kA = W1 at *
 have hrr : row? W1 w.heap.size 0 64 = some kA := rowHeap hg kA_size
 have Hg := Lib.hid hg
 clear hg
 go_wp2_with fail
 refine ret_row Try.isAgg158 Try.sizeOf158 constants_res (x := .pointer (some ⟨w.heap.size, 0, none⟩)) w.heap.size 0 rfl rfl (by rw [hrr]; rfl) rfl ?_
 rw [hrr]
 exact ⟨rfl, hB⟩
theorem sum_res : Try.f95.results = #[.cell 2 24] := by kernel_rfl
set_option maxRecDepth 100000 in
set_option maxHeartbeats 1600000 in
theorem sum_c (b c : Nat) (ss : List Sl) (ls : List (List UInt8)) (w : World) (hp : PiecesAt w b ss ls) (hn : ls.length ≤ 1000) (hs : ls.flatten.length ≤ 100000000) :
  Calls Try.prog 95 #[.slice (some ⟨b, 0, none⟩) ls.length c] w fun e w' => e = .returned (.agg (hashA (shaSum ls.flatten))) ∧ Below w.heap.size w w' := by
 obtain ⟨hl, hc, hr⟩ := hp
 have Hl := Lib.hid hl
 have Hc := Lib.hid hc
 have Hr := Lib.hid hr
 clear hl hc hr
 obtain ⟨hv, hhv⟩ : ∃ hv : Hash, hv = shaSum ls.flatten := ⟨_, rfl⟩
 rw [← hhv]
 replace hhv := Lib.hid hhv
 go_enter Try.func95, Try.ntmps95
 go_wp2_with fail
 refine (start_c _).mono ?_
 rintro e w1 ⟨rfl, hb1⟩
 go_wp2_with fail
 refine (constants_c _).mono ?_
 rintro e w2 ⟨rfl, hb2⟩
 rename_i hK
 refine hK _ _ ?_
 refine wpList_build_as rfl 237 _ rfl (strL shaH (List.replicate 64 0) 0 0).toArray (by kernel_rfl) ?_
 have hB2 : Below w.heap.size w w2 := by (repeat' (first | (with_reducible first | exact Below.refl _ _ | assumption | refine bel_trans (by assumption) ?_ ?_ | refine bel_grown (by assumption) ?_ ?_ ?_ | refine Below.alloc ?_ ?_ _ | refine Below.drew ?_ | refine below_drewN ?_ _ | refine Below.setCell ?_ ?_ _ | refine below_put ?_ ?_ _ _ | exact Nat.le_refl _) | omega | (with_reducible first | refine Nat.le_trans ?_ (Below.size (by assumption)) | refine Nat.le_trans ?_ (World.grownBy.size (by assumption))) | (simp only [World.size_alloc, World.size_setCell, World.size_drew, size_drewN]; omega) | (simp only [World.size_alloc, World.size_setCell, World.size_drew, size_drewN, size_put]; omega) | (intro k hk; simp [Value.ownBlock] at hk; first | done | omega) | (simp [size_drewN] at *; omega)))
 have hz2 : w.heap.size < w2.heap.size := by have := hb1.size; have := hb2.size; simp at *; omega
 have hh2 : w2.heap[w.heap.size]? = some (.cells (hashA zeroHash) 24 (0, 0)) := (hb2.block _ (by have := hb1.size; simp at this; omega)).trans ((hb1.block _ (by simp)).trans (heap_alloc_new w _))
 have hX0 := Lib.hid (show StX (w2.alloc (Obj.cells (strL shaH (List.replicate 64 0) 0 0).toArray 237)) w2.heap.size (ls.take 0).flatten (ls.take 0).flatten.length from
  ⟨List.replicate 64 0, ⟨by simp, by
   show _ = some (Obj.cells (strL (shaRun shaH []) (List.replicate 64 0) 0 0).toArray _ _)
   rw [shaRun_short shaH [] (by simp)]
   exact heap_alloc_new w2 _⟩, by simp [shaTail]⟩)
 have hB3 : Below w.heap.size w (w2.alloc (.cells (strL shaH (List.replicate 64 0) 0 0).toArray 237)) := by (repeat' (first | (with_reducible first | exact Below.refl _ _ | assumption | refine bel_trans (by assumption) ?_ ?_ | refine bel_grown (by assumption) ?_ ?_ ?_ | refine Below.alloc ?_ ?_ _ | refine Below.drew ?_ | refine below_drewN ?_ _ | refine Below.setCell ?_ ?_ _ | refine below_put ?_ ?_ _ _ | exact Nat.le_refl _) | omega | (with_reducible first | refine Nat.le_trans ?_ (Below.size (by assumption)) | refine Nat.le_trans ?_ (World.grownBy.size (by assumption))) | (simp only [World.size_alloc, World.size_setCell, World.size_drew, size_drewN]; omega) | (simp only [World.size_alloc, World.size_setCell, World.size_drew, size_drewN, size_put]; omega) | (intro k hk; simp [Value.ownBlock] at hk; first | done | omega) | (simp [size_drewN] at *; omega)))
 have hh3 : (w2.alloc (.cells (strL shaH (List.replicate 64 0) 0 0).toArray 237)).heap[w.heap.size]? = some (.cells (hashA zeroHash) 24 (0, 0)) := (Below.heap_alloc w2 _ _ hz2).trans hh2
 generalize (strL shaH (List.replicate 64 0) 0 0).toArray = cs at *
 clear hb1 hb2 hh2 hB2 hK
 go_wp2_with fail
 generalize w2.alloc (Obj.cells cs 237) = w3 at *
 generalize w2.heap.size = r at *
 have hlen : ∀ k, k ≤ ls.length → (ls.take k).flatten.length ≤ 100000000 := fun k hk => by
  have := congrArg (fun l => l.flatten.length) (List.take_append_drop k ls)
  simp only [List.flatten_append, List.length_append] at this
  omega
 have Hlen := Lib.hid hlen
 have hHB3 := Lib.hid hB3
 have hHh3 := Lib.hid hh3
 clear hlen hB3 hh3 hs
 go_loopw [5, 12] (fun _ i W => ∃ k : Nat, k ≤ ls.length ∧ i = .int .i64 k ∧ Hid (StX W r (ls.take k).flatten (ls.take k).flatten.length) ∧ Hid (w3.grownBy W (some r))) (fun _ i _ => ls.length - (intOf i).toNat)
 case atStart => exact ⟨0, Nat.zero_le _, rfl, hX0, Lib.hid (World.grownBy.refl _ _)⟩
 case round =>
  clear hX0
  obtain ⟨k, hk, rfl, hX, hG⟩ := hrel
  have i0 : (0 : Int) ≤ (k : Int) := by omega
  have hBw : Below w.heap.size w wr := bel_grown hG.out hHB3.out hHB3.out.size (fun j hj => by injection hj with hj; omega)
  by_cases hkx : k < ls.length
  ·have hks : k < ss.length := by have := Hl.out; omega
   have hcell0 := Hc.out k hks
   have hbr := Hr.out k hks hkx
   have hbw : b < w.heap.size := lt_of_cell hcell0
   have hcell := (hBw.cell (p := ⟨b, k, none⟩) hbw).trans hcell0
   have hfl : (ls.take (k + 1)).flatten = (ls.take k).flatten ++ ls[k] := by
    rw [List.take_succ_eq_append_getElem hkx, List.flatten_append]
    simp only [List.flatten_cons, List.flatten_nil, List.append_nil]
   have hle := Hlen.out (k + 1) hkx
   rw [hfl, List.length_append] at hle
   have hoff : Off r ss[k] ls[k] := fun hne a ha => by
    obtain ⟨b1, o1, e1, hc1⟩ := hbr.2.2 hne
    rw [ha] at e1
    injection e1 with e1
    rw [e1]
    have := lt_of_cell (hc1 0 (by cases hl : ls[k] with
     | nil => exact absurd hl hne
     | cons x xs => simp))
    show b1 ≠ r
    omega
   have HA := fun (W : World) (hW : StX W r (ls.take k).flatten (ls.take k).flatten.length) (h2 : BytesR W ss[k] ls[k]) => add_c r (ls.take k).flatten (ls.take k).flatten.length ss[k] ls[k] W hW h2 hoff (by omega)
   have hbk := Lib.hid (hbr.keep hBw)
   generalize ls[k] = lk at *
   generalize ss[k] = sk at *
   have Hfl := Lib.hid hfl
   clear hfl hbr hcell0 hoff
   have i1 : (k : Int) < (ls.length : Int) := by omega
   obtain ⟨sa, sn, sc⟩ := sk
   dsimp only [Sl.v] at hcell
   go_wp2_with fail
   (with_reducible refine (HA _ hX.out hbk.out).mono ?_)
   rintro e w4 ⟨rfl, hX4, hG4⟩
   have hX5 := Lib.hid (show StX w4 r (ls.take (k + 1)).flatten (ls.take (k + 1)).flatten.length from by
    rw [Hfl.out, List.length_append]
    exact hX4)
   have hG5 := Lib.hid (hG.out.trans hG4)
   clear HA hX4 hG4 hX hG hle
   go_wp2_with fail
   go_roundw
   case rel => exact ⟨k + 1, by omega, by go_num, hX5, hG5⟩
   case measure => (first | (simp [intOf]; done) | (simp [intOf]; omega))
  ·have hfl : ls.take k = ls := List.take_of_length_le (by omega)
   have hle := Hlen.out k hk
   rw [hfl] at hX hle
   clear hfl
   have hr3 : w.heap.size < r := hz2
   have HE : ∀ (W : World) (hW : StX W r ls.flatten ls.flatten.length), Calls Try.prog 164 #[.pointer (some ⟨r, 0, none⟩)] W fun e w' => e = .returned (.agg (hashA hv)) ∧ W.grownBy w' (some r) := fun W hW => by
    have := end_c r ls.flatten W hW hle
    rw [← hhv.out] at this
    exact this
   have hh := (hG.out.block w.heap.size (by rcases Nat.lt_or_ge w.heap.size w3.heap.size with h | h; exact h; exfalso; have := hHh3.out; rw [Array.getElem?_eq_none h] at this; cases this) (by intro e; injection e; omega)).trans hHh3.out
   have hwl : w.heap.size < wr.heap.size := by
    rcases Nat.lt_or_ge w.heap.size wr.heap.size with h | h
    ·exact h
    ·rw [Array.getElem?_eq_none h] at hh; cases hh
   go_wp2_with fail
   (with_reducible refine (HE _ hX.out).mono ?_)
   rintro e w4 ⟨rfl, hG4⟩
   have hh4 := (hG4.block w.heap.size hwl (by intro e; injection e; omega)).trans hh
   have hB4 : Below w.heap.size w w4 := bel_grown hG4 hBw hBw.size (fun j hj => by injection hj with hj; omega)
   have hrow : row? w4 w.heap.size 0 32 = some (hashA zeroHash) := rowHeap hh4 (by simp)
   have hth : there w4 w.heap.size 0 32 := there_block hh4 (by simp)
   clear hh hh4 hG4 HE hX hG hBw
   go_wp2_with (with_reducible refine ret_row Try.isAgg24 Try.sizeOf24 sum_res (x := .pointer (some ⟨w.heap.size, 0, none⟩)) (w.heap.size) 0 ?rrhx (Eq.refl _) ?rrh ?rrhd ?rrhR; (case rrhx => simp only [Array.getD_eq_getD_getElem?, List.getElem?_toArray, List.getElem?_cons_succ, List.getElem?_cons_zero, Option.getD_some]); (case rrhd => exact rfl); (case rrh => go_simp); (case rrhR => ((refine ⟨?_, ?_⟩; (case refine_1 => (go_simp; done)); (case refine_2 => ((repeat' (first | (with_reducible first | exact Below.refl _ _ | assumption | refine bel_trans (by assumption) ?_ ?_ | refine bel_grown (by assumption) ?_ ?_ ?_ | refine Below.alloc ?_ ?_ _ | refine Below.drew ?_ | refine below_drewN ?_ _ | refine Below.setCell ?_ ?_ _ | refine below_put ?_ ?_ _ _ | exact Nat.le_refl _) | omega | (with_reducible first | refine Nat.le_trans ?_ (Below.size (by assumption)) | refine Nat.le_trans ?_ (World.grownBy.size (by assumption))) | (simp only [World.size_alloc, World.size_setCell, World.size_drew, size_drewN]; omega) | (simp only [World.size_alloc, World.size_setCell, World.size_drew, size_drewN, size_put]; omega) | (intro k hk; simp [Value.ownBlock] at hk; first | done | omega) | (simp [size_drewN] at *; omega)))))))))
end Go.Proofs.Ythdjhbiigmcecaa

/- Contracts of package slices and cmp at bytes: Equal, Compare, Or. -/
namespace Go.Proofs.Ythdjhbiigmcecaa
open Go.RowKit

theorem take_succ_eq (x y : List UInt8) (k : Nat) (hx : k < x.length) (hy : k < y.length) (h : x.take k = y.take k) (he : x[k] = y[k]) : x.take (k + 1) = y.take (k + 1) := by
 rw [List.take_succ_eq_append_getElem hx, List.take_succ_eq_append_getElem hy, h, he]
theorem ne_of_at (x y : List UInt8) (k : Nat) (hx : k < x.length) (hy : k < y.length) (he : x[k] ≠ y[k]) : x ≠ y := by
 intro h
 subst h
 exact he rfl

set_option maxRecDepth 100000 in
set_option maxHeartbeats 800000 in
theorem sequal_c (s t : Sl) (x y : List UInt8) (w : World) (hs : BytesR w s x) (ht : BytesR w t y) (hx : x.length ≤ 9223372036854775807) :
  Calls Try.prog 81 #[s.v, t.v] w fun e w' => e = .returned (.bool (decide (x = y))) ∧ ∃ n, w' = w.drewN n := by
 have hs1 := hs.1
 have ht1 := ht.1
 obtain ⟨sa, sn, sc⟩ := s
 obtain ⟨ta, tn, tc⟩ := t
 simp only at hs1 ht1
 subst hs1
 subst ht1
 have Hs := Lib.hid hs
 have Ht := Lib.hid ht
 clear hs ht
 change Calls Try.prog _ #[.slice sa x.length sc, .slice ta y.length tc] w _
 by_cases hlen : x.length = y.length
 ·have hl1 : (x.length : Int) = y.length := by omega
  have hb : ((x.length : Int) != (y.length : Int)) = false := by simp [hl1]
  have Hlen := Lib.hid hlen
  clear hlen hl1
  go_enter Try.func81, Try.ntmps81
  go_wp2_with fail
  go_loopw [13] (fun i w' => ∃ k : Nat, k ≤ x.length ∧ x.take k = y.take k ∧ i = .int .i64 k ∧ ∃ n, w' = w.drewN n) (fun i _ => x.length - (intOf i).toNat)
  case atStart => exact ⟨0, Nat.zero_le _, by simp, rfl, 0, rfl⟩
  case round =>
   obtain ⟨k, hk, hl, rfl, n, rfl⟩ := hrel
   have Hl := Lib.hid hl
   clear hl
   by_cases hkx : k < x.length
   ·have hyk : k < y.length := by have := Hlen.out; omega
    obtain ⟨b, off, e, _, hc⟩ := Hs.out.at (by omega)
    have e1 := congrArg Sl.a e
    simp only at e1
    subst e1
    clear e
    have hcx : ∀ n, (w.drewN n).cell? ⟨b, off + k, none⟩ = some (.int .u8 (x[k].toNat : Int)) := fun _ => hc k hkx
    clear hc
    obtain ⟨b2, off2, e, _, hc⟩ := Ht.out.at (by omega)
    have e1 := congrArg Sl.a e
    simp only at e1
    subst e1
    clear e
    have hcy : ∀ n, (w.drewN n).cell? ⟨b2, off2 + k, none⟩ = some (.int .u8 (y[k].toNat : Int)) := fun _ => hc k hyk
    clear hc
    have i0 : (0 : Int) ≤ (k : Int) := by omega
    have i1 : (k : Int) < (x.length : Int) := by omega
    have i2 : (k : Int) < (y.length : Int) := by omega
    have hne := ne_of_at x y k hkx hyk
    have htk := take_succ_eq x y k hkx hyk Hl.out
    generalize hxk : x[k] = xk at *
    generalize hyk' : y[k] = yk at *
    have Hne := Lib.hid hne
    have Htk := Lib.hid htk
    clear hxk hyk' hne htk
    by_cases hz : xk = yk
    ·subst hz
     have hb : ((xk.toNat : Int) != (xk.toNat : Int)) = false := by simp
     go_wp2_with fail
     go_quiet (fail)
     go_wp2_with fail
     go_roundw
     case rel => exact ⟨k + 1, by omega, Htk.out (by first | rfl | trivial), by go_num, _, rfl⟩
     case measure => simp [intOf]; omega
    ·have hb : ((xk.toNat : Int) != (yk.toNat : Int)) = true := by
      rw [bne_iff_ne]
      intro h
      exact hz (UInt8.toNat_inj.1 (by omega))
     have hd : decide (x = y) = false := decide_eq_false (Hne.out hz)
     have Hd := Lib.hid hd
     clear hd hz
     go_wp2_with fail
     go_quiet (fail)
     go_wp2_with fail
     go_ret
     exact ⟨ret_bool Hd.out.symm, _, World.drewN_drewN _ _ _⟩
   ·have hd : decide (x = y) = true := decide_eq_true (by
     have h1 := Hl.out
     have h2 := Hlen.out
     rw [List.take_of_length_le (by omega), List.take_of_length_le (by omega)] at h1
     exact h1)
    have Hd := Lib.hid hd
    clear hd
    go_wp2_with fail
    go_ret
    exact ⟨ret_bool Hd.out.symm, _, rfl⟩
 ·have hb : ((x.length : Int) != (y.length : Int)) = true := by simp; omega
  have hd : decide (x = y) = false := decide_eq_false (fun h => hlen (by rw [h]))
  rw [hd]
  clear hlen hd
  go_enter Try.func81, Try.ntmps81
  go_wp2_with fail
  go_ret
  exact ⟨rfl, 0, rfl⟩
end Go.Proofs.Ythdjhbiigmcecaa

/- Contracts: codec.bare, sameOp, MayOp, MayHeader. -/
namespace Go.Proofs.Ythdjhbiigmcecaa
open Go.RowKit
/-- an operation with what it names alone -/
def bareOp (o : GOp) : GOp :=
 if o.kind = 1 then { o with validator := 0, evidence := ⟨none, 0, 0⟩ }
 else if o.kind = 3 then { o with key := zeroHash, stake := 0 }
 else if o.kind = 2 then { o with key := zeroHash, stake := 0, evidence := ⟨none, 0, 0⟩ }
 else { kind := o.kind, key := zeroHash, stake := 0, validator := 0, evidence := ⟨none, 0, 0⟩ }

theorem bare_res : Try.f159.results = #[.cell 2 97] := by kernel_rfl
set_option maxHeartbeats 1000000 in
set_option maxRecDepth 100000 in
theorem bare_c (o : GOp) (w : World) : Calls Try.prog 159 #[.agg (opA o)] w fun e w' => e = .returned (.agg (opA (bareOp o))) ∧ Below w.heap.size w w' := by
 go_enter Try.func159, Try.ntmps159
 go_wp2_with (with_reducible refine ret_row Try.isAgg97 Try.sizeOf97 bare_res (x := .pointer (some ⟨w.heap.size + 1, 0, none⟩)) (w.heap.size + 1) 0 ?rrhx (Eq.refl _) ?rrh ?rrhd ?rrhR; (case rrhx => simp only [Array.getD_eq_getD_getElem?, List.getElem?_toArray, List.getElem?_cons_succ, List.getElem?_cons_zero, Option.getD_some]); (case rrhd => exact rfl); (case rrh => go_simp); (case rrhR => (refine And.intro ?rra ?rrb; (case rra => (go_simp; first | (simp_all [bareOp]; done) )); (case rrb => ((repeat' (first | (with_reducible first | exact Below.refl _ _ | assumption | refine bel_trans (by assumption) ?_ ?_ | refine bel_grown (by assumption) ?_ ?_ ?_ | refine Below.alloc ?_ ?_ _ | refine Below.drew ?_ | refine below_drewN ?_ _ | refine Below.setCell ?_ ?_ _ | refine below_put ?_ ?_ _ _ | exact Nat.le_refl _) | omega | (with_reducible first | refine Nat.le_trans ?_ (Below.size (by assumption)) | refine Nat.le_trans ?_ (World.grownBy.size (by assumption))) | (simp only [World.size_alloc, World.size_setCell, World.size_drew, size_drewN]; omega) | (simp only [World.size_alloc, World.size_setCell, World.size_drew, size_drewN, size_put]; omega) | (intro k hk; simp [Value.ownBlock] at hk; first | done | omega) | (simp [size_drewN] at *; omega))))))))
 go_region
 go_wp2_with (with_reducible refine ret_row Try.isAgg97 Try.sizeOf97 bare_res (x := .pointer (some ⟨w.heap.size + 1, 0, none⟩)) (w.heap.size + 1) 0 ?rrhx (Eq.refl _) ?rrh ?rrhd ?rrhR; (case rrhx => simp only [Array.getD_eq_getD_getElem?, List.getElem?_toArray, List.getElem?_cons_succ, List.getElem?_cons_zero, Option.getD_some]); (case rrhd => exact rfl); (case rrh => go_simp); (case rrhR => (refine And.intro ?rra ?rrb; (case rra => (go_simp; first | (simp_all [bareOp]; done) )); (case rrb => ((repeat' (first | (with_reducible first | exact Below.refl _ _ | assumption | refine bel_trans (by assumption) ?_ ?_ | refine bel_grown (by assumption) ?_ ?_ ?_ | refine Below.alloc ?_ ?_ _ | refine Below.drew ?_ | refine below_drewN ?_ _ | refine Below.setCell ?_ ?_ _ | refine below_put ?_ ?_ _ _ | exact Nat.le_refl _) | omega | (with_reducible first | refine Nat.le_trans ?_ (Below.size (by assumption)) | refine Nat.le_trans ?_ (World.grownBy.size (by assumption))) | (simp only [World.size_alloc, World.size_setCell, World.size_drew, size_drewN]; omega) | (simp only [World.size_alloc, World.size_setCell, World.size_drew, size_drewN, size_put]; omega) | (intro k hk; simp [Value.ownBlock] at hk; first | done | omega) | (simp [size_drewN] at *; omega))))))))
end Go.Proofs.Ythdjhbiigmcecaa

/- A region that draws its order and makes memory: where what each operation yields is told by a fact that lasts while old memory stays, every order ends alike. Over any program. -/
namespace Go.Proofs.Ythdjhbiigmcecaa
open Go.RowKit

/-- slot k of an act -/
def sl (a : Act) (k : Nat) : Value := a.tmps.getD k undef

/-- what is known in the midst of the region: L says which operations are done -/
structure Free (n : Nat) (d : Nat → Nat) (F : Nat → Value → World → Prop) (a0 : Act) (W0 : World) (L : Nat → Bool) (a : Act) (w : World) : Prop where
 defers : a.defers = a0.defers
 size : a.tmps.size = a0.tmps.size
 below : Below W0.heap.size W0 w
 got : ∀ i, i < n → L i = true → F i (sl a (d i)) w
 rest : ∀ k, (∀ i, i < n → L i = true → d i ≠ k) → sl a k = sl a0 k

theorem sl_put_same (a : Act) (k : Nat) (v : Value) (h : k < a.tmps.size) : sl (a.put (some k) v) k = v := by simp [sl, Act.put, h]
theorem sl_put_other (a : Act) (k j : Nat) (v : Value) (h : k ≠ j) : sl (a.put (some k) v) j = sl a j := by
 simp only [sl, Act.put, Array.getD_eq_getD_getElem?]
 rw [Array.getElem?_setIfInBounds_ne h]

theorem countP_lt {p q : Nat → Bool} : ∀ (l : List Nat), (∀ x ∈ l, p x = true → q x = true) → (∃ y ∈ l, q y = true ∧ p y = false) → l.countP p < l.countP q
 | [], _, ⟨y, h, _⟩ => by cases h
 | x :: l, hpq, ⟨y, hy, hq, hp⟩ => by
  have hle : l.countP p ≤ l.countP q := List.countP_mono_left fun x hx => hpq x (List.mem_cons_of_mem _ hx)
  rw [List.countP_cons, List.countP_cons]
  rcases List.mem_cons.1 hy with rfl | hy
  ·simp [hq, hp]; omega
  ·have := countP_lt l (fun x hx => hpq x (List.mem_cons_of_mem _ hx)) ⟨y, hy, hq, hp⟩
   have h2 := hpq x (List.mem_cons_self ..)
   cases hpx : p x <;> cases hqx : q x <;> simp_all <;> omega

theorem wp_region_free (Rel : World → World → Prop) {P : Program} {id : Nat} {ops : Array Oper} {Q : Exit → Act → World → Prop} {a0 : Act} {W0 : World} (hm : P.follows .mixedOrders = true)
  (d : Nat → Nat) (F : Nat → Value → World → Prop)
  (hop : ∀ i o, ops[i]? = some o → o.guard = none ∧ o.dst = some (d i) ∧ ∀ e ∈ o.after, Region.binds .any e = true → e.on < i)
  (hdist : ∀ i j, i < ops.size → j < ops.size → d i = d j → i = j) (hlt : ∀ i, i < ops.size → d i < a0.tmps.size)
  (hrel : ∀ w w', Rel w w' → Below W0.heap.size W0 w → Below W0.heap.size W0 w')
  (hstable : ∀ i v w w', F i v w → Rel w w' → F i v w')
  (hstep : ∀ (i : Nat) (o : Oper), ops[i]? = some o → ∀ L a w, Free ops.size d F a0 W0 L a w → (∀ e ∈ o.after, Region.binds .any e = true → L e.on = true) →
   o.wp P a w (fun a' w' => ∃ v, a' = a.put (some (d i)) v ∧ F i v w' ∧ Rel w w') Q)
  (hfin : ∀ a w, Free ops.size d F a0 W0 (fun _ => true) a w → Q .normal a w) : (Code.region id ops true).wp P Q a0 W0 := by
 refine wp_region_any hm ?_
 have done : ∀ (listed : Array Bool) (a : Act) (w : World), listed.size = ops.size → Free ops.size d F a0 W0 (fun i => listed.getD i false) a w → Region.ready .any ops listed = [] → Q .normal a w := by
  intro listed a w hs hf hr
  have hall : ∀ i, i < ops.size → listed.getD i false = true := by
   intro i
   induction i using Nat.strongRecOn with
   | ind i ih =>
    intro hi
    cases hb : listed.getD i false with
    | true => rfl
    | false =>
     exfalso
     have hmem : i ∈ Region.ready .any ops listed := by
      refine mem_ready.2 ⟨?_, ops[i], Array.getElem?_eq_getElem hi, fun e he hb' => ih e.on ((hop i _ (Array.getElem?_eq_getElem hi)).2.2 e he hb') ?_⟩
      ·simpa [Array.getD, hs, hi] using hb
      ·exact Nat.lt_trans ((hop i _ (Array.getElem?_eq_getElem hi)).2.2 e he hb') hi
     rw [hr] at hmem
     cases hmem
  exact hfin a w ⟨hf.defers, hf.size, hf.below, fun i hi _ => hf.got i hi (hall i hi), fun k hk => hf.rest k fun i hi _ => hk i hi rfl⟩
 have main : ∀ (fuel : Nat) (listed : Array Bool) (a : Act) (w : World), listed.size = ops.size → (List.range ops.size).countP (fun i => !listed.getD i false) ≤ fuel →
   Free ops.size d F a0 W0 (fun i => listed.getD i false) a w → wpAny P .any ops Q fuel listed a w := by
  intro fuel
  induction fuel with
  | zero =>
   intro listed a w hs hc hf
   have hr : Region.ready .any ops listed = [] := by
    cases hr : Region.ready .any ops listed with
    | nil => rfl
    | cons x xs =>
     exfalso
     obtain ⟨hx, o, ho, _⟩ := mem_ready.1 (show x ∈ Region.ready .any ops listed by rw [hr]; exact List.mem_cons_self ..)
     have hxl : x < ops.size := (Array.getElem?_eq_some_iff.1 ho).1
     have : 0 < (List.range ops.size).countP (fun i => !listed.getD i false) := List.countP_pos_iff.2 ⟨x, List.mem_range.2 hxl, by simpa [Array.getD, hs, hxl] using hx⟩
     omega
   exact ⟨hr, done listed a w hs hf hr⟩
  | succ fuel ih =>
   intro listed a w hs hc hf
   refine ⟨done listed a w hs hf, fun i hi => ?_⟩
   obtain ⟨hx, o, ho, hdep⟩ := mem_ready.1 hi
   have hil : i < ops.size := (Array.getElem?_eq_some_iff.1 ho).1
   have hxf : listed.getD i false = false := by simpa [Array.getD, hs, hil] using hx
   unfold wpOp
   simp only [ho]
   have hw : Region.wanted o (yielded ops a.tmps) = true := by simp [Region.wanted, (hop i o ho).1]
   rw [if_pos hw]
   refine .inl (Oper.wp_mono ?_ (hstep i o ho _ a w hf hdep))
   rintro a' w' ⟨v, rfl, hF, hb⟩
   refine ih _ _ _ (by simpa using hs) ?_ ?_
   ·have hlt' := countP_lt (p := fun j => !(listed.setIfInBounds i true).getD j false) (q := fun j => !listed.getD j false) (List.range ops.size)
     (fun x _ hp => by
      by_cases hxi : i = x
      ·subst hxi; simp [Array.getD, hs, hil] at hp
      ·simpa [getD_set_ne false hxi] using hp)
     ⟨i, List.mem_range.2 hil, by simpa using hxf, by simp [Array.getD, hs, hil]⟩
    omega
   ·refine ⟨hf.defers, by simp [Act.put, hf.size], hrel _ _ hb hf.below, fun j hj hLj => ?_, fun k hk => ?_⟩
    ·by_cases hij : i = j
     ·subst hij
      rw [sl_put_same _ _ _ (by rw [hf.size]; exact hlt i hil)]
      exact hF
     ·rw [sl_put_other _ _ _ _ (fun e => hij (hdist i j hil hj e))]
      exact hstable _ _ _ _ (hf.got j hj (by rw [← hLj, getD_set_ne false hij])) hb
    ·rw [sl_put_other _ _ _ _ (hk i hil (by simp [Array.getD, hs, hil]))]
     exact hf.rest k fun j hj hLj => hk j hj (by
      by_cases hij : i = j
      ·subst hij; simp [Array.getD, hs, hil]
      ·rw [getD_set_ne false hij]; exact hLj)
 refine main ops.size _ a0 _ (by simp) (by exact Nat.le_trans List.countP_le_length (by simp)) ⟨rfl, rfl, (Below.refl _ _).drew, fun i hi h => ?_, fun _ _ => rfl⟩
 simp [Array.getD, hi] at h

/-- slots written one by one -/
def putL (t : Array Value) : List (Nat × Value) → Array Value
 | [] => t
 | p :: r => putL (t.setIfInBounds p.1 p.2) r
theorem eq_putL (A : Array Value) : ∀ (l : List (Nat × Value)) (t : Array Value), A.size = t.size → (∀ p ∈ l, A.getD p.1 undef = p.2) → (∀ k, (∀ p ∈ l, p.1 ≠ k) → A.getD k undef = t.getD k undef) → A = putL t l
 | [], t, hs, _, hk => by
  refine Array.ext hs fun i h1 h2 => ?_
  have := hk i (fun p hp => by cases hp)
  have h2' : i < t.size := h2
  show A[i] = t[i]
  simpa [Array.getD, h1, h2'] using this
 | p :: r, t, hs, hp, hk => by
  refine eq_putL A r _ (by simpa using hs) (fun q hq => hp q (List.mem_cons_of_mem _ hq)) fun k hkr => ?_
  by_cases hpk : p.1 = k
  ·subst hpk
   rw [hp p (List.mem_cons_self ..)]
   by_cases hlt : p.1 < t.size
   ·simp [Array.getD, hlt]
   ·have h1 := hp p (List.mem_cons_self ..)
    have h2 : ¬ p.1 < A.size := by omega
    simp [Array.getD, h2] at h1
    simp [Array.getD, hlt, ← h1]
  ·rw [hk k (fun q hq => (by rcases List.mem_cons.1 hq with rfl | hq <;> first | exact hpk | exact hkr q hq))]
   simp only [Array.getD_eq_getD_getElem?]
   rw [Array.getElem?_setIfInBounds_ne hpk]
/-- at the region's end: the frame, written out -/
theorem Free.all {n : Nat} {d : Nat → Nat} {F : Nat → Value → World → Prop} {a0 : Act} {W0 : World} {a : Act} {w : World} (h : Free n d F a0 W0 (fun _ => true) a w) :
  ∃ vs : List Value, vs.length = n ∧ (∀ i (hi : i < vs.length), F i vs[i] w) ∧ a = ⟨putL a0.tmps (((List.range n).map d).zip vs), a0.defers⟩ := by
 refine ⟨(List.range n).map fun i => sl a (d i), by simp, fun i hi => by simp at hi ⊢; exact h.got i hi rfl, ?_⟩
 obtain ⟨t, df⟩ := a
 have h1 := h.defers
 simp only at h1
 subst h1
 congr 1
 refine eq_putL t _ _ h.size (fun p hp => ?_) fun k hk => h.rest k fun i hi _ e => ?_
 ·obtain ⟨i, hi, he⟩ := List.getElem_of_mem hp
  simp at he
  rw [← he]
  rfl
 ·subst e
  exact hk (d i, sl ⟨t, a0.defers⟩ (d i)) (List.mem_iff_getElem.2 ⟨i, by simpa using hi, by simp⟩) rfl

/-- the region's shape, asked of the kernel -/
def regionOk (ops : Array Oper) (ds : List Nat) (N : Nat) : Bool :=
 decide (ops.size = ds.length) && decide ds.Nodup && ds.all (fun k => decide (k < N)) &&
  (List.range ops.size).all fun i => ((ops[i]?).map fun o => o.guard.isNone && (o.dst == some (ds.getD i 0)) && o.after.all fun e => !Region.binds .any e || decide (e.on < i)).getD false
/-- one operation's step -/
def FreeStep (Rel : World → World → Prop) (P : Program) (n : Nat) (d : Nat → Nat) (F : Nat → Value → World → Prop) (a0 : Act) (W0 : World) (Q : Exit → Act → World → Prop) (i : Nat) (o : Oper) : Prop :=
 ∀ L a w, Free n d F a0 W0 L a w → (∀ e ∈ o.after, Region.binds .any e = true → L e.on = true) →
  o.wp P a w (fun a' w' => ∃ v, a' = a.put (some (d i)) v ∧ F i v w' ∧ Rel w w') Q
def FreeSteps (Rel : World → World → Prop) (P : Program) (n : Nat) (d : Nat → Nat) (F : Nat → Value → World → Prop) (a0 : Act) (W0 : World) (Q : Exit → Act → World → Prop) : Nat → List Oper → Prop
 | _, [] => True
 | i, o :: r => FreeStep Rel P n d F a0 W0 Q i o ∧ FreeSteps Rel P n d F a0 W0 Q (i + 1) r
theorem FreeSteps.at {Rel : World → World → Prop} {P : Program} {n : Nat} {d : Nat → Nat} {F : Nat → Value → World → Prop} {a0 : Act} {W0 : World} {Q : Exit → Act → World → Prop} :
  ∀ (l : List Oper) (k : Nat), FreeSteps Rel P n d F a0 W0 Q k l → ∀ i o, l[i]? = some o → FreeStep Rel P n d F a0 W0 Q (k + i) o
 | [], _, _, _, _, h => by simp at h
 | o :: r, k, h, 0, o', ho => by
  simp at ho
  subst ho
  exact h.1
 | o :: r, k, h, i + 1, o', ho => by
  have := FreeSteps.at r (k + 1) h.2 i o' (by simpa using ho)
  rwa [Nat.add_assoc, Nat.add_comm 1 i] at this
theorem wp_region_free_l (Rel : World → World → Prop) {P : Program} {id : Nat} {ops : List Oper} {Q : Exit → Act → World → Prop} {a0 : Act} {W0 : World} (hm : P.follows .mixedOrders = true)
  (ds : List Nat) (Fs : List (Value → World → Prop)) (hok : regionOk ops.toArray ds a0.tmps.size = true)
  (hrel : ∀ w w', Rel w w' → Below W0.heap.size W0 w → Below W0.heap.size W0 w')
  (hstable : ∀ f ∈ Fs, ∀ v w w', f v w → Rel w w' → f v w')
  (hstep : FreeSteps Rel P ds.length (fun i => ds.getD i 0) (fun i => Fs.getD i fun _ _ => True) a0 W0 Q 0 ops)
  (hfin : ∀ (vs : List Value) w, vs.length = ds.length → (∀ i (hi : i < vs.length), Fs.getD i (fun _ _ => True) vs[i] w) → Below W0.heap.size W0 w → Q .normal ⟨putL a0.tmps (ds.zip vs), a0.defers⟩ w) :
  (Code.region id ops.toArray true).wp P Q a0 W0 := by
 unfold regionOk at hok
 simp only [Bool.and_eq_true, decide_eq_true_eq, List.all_eq_true, List.mem_range] at hok
 obtain ⟨⟨⟨h1, h2⟩, h3⟩, h4⟩ := hok
 have hn : ops.length = ds.length := by simpa using h1
 have hop : ∀ (i : Nat) (o : Oper), ops.toArray[i]? = some o → o.guard = none ∧ o.dst = some (ds.getD i 0) ∧ ∀ e ∈ o.after, Region.binds .any e = true → e.on < i := by
  intro i o ho
  have hi := (Array.getElem?_eq_some_iff.1 ho).1
  have := h4 i hi
  rw [ho] at this
  simp only [Option.map_some, Option.getD_some, Bool.and_eq_true, Option.isNone_iff_eq_none, beq_iff_eq, Array.all_eq_true_iff_forall_mem, Bool.or_eq_true, Bool.not_eq_true', decide_eq_true_eq] at this
  refine ⟨this.1.1, this.1.2, fun e he hb => (this.2 e he).resolve_left (by simp [hb])⟩
 have hsz : ops.toArray.size = ds.length := by simpa using hn
 refine wp_region_free Rel hm (fun i => ds.getD i 0) (fun i => Fs.getD i fun _ _ => True) hop (fun i j hi hj he => ?_) (fun i hi => ?_) hrel (fun i v w w' hv hb => ?_) (fun i o ho => ?_) (fun a w hf => ?_)
 ·rw [hsz] at hi hj
  simp only [List.getD_eq_getElem?_getD, List.getElem?_eq_getElem hi, List.getElem?_eq_getElem hj, Option.getD_some] at he
  exact (List.getElem_inj h2).1 he
 ·rw [hsz] at hi
  simp only [List.getD_eq_getElem?_getD, List.getElem?_eq_getElem hi, Option.getD_some]
  exact h3 _ (List.getElem_mem _)
 ·by_cases hi : i < Fs.length
  ·simp only [List.getD_eq_getElem?_getD, List.getElem?_eq_getElem hi, Option.getD_some] at hv ⊢
   exact hstable _ (List.getElem_mem _) _ _ _ hv hb
  ·simp only [List.getD_eq_getElem?_getD, List.getElem?_eq_none (Nat.le_of_not_lt hi), Option.getD_none]
 ·have := FreeSteps.at ops 0 hstep i o (by simpa using ho)
  rw [Nat.zero_add] at this
  rw [hsz]
  exact this
 ·rw [hsz] at hf
  obtain ⟨vs, hl, hF, rfl⟩ := hf.all
  have := hfin vs w hl hF hf.below
  have e : (List.range ds.length).map (fun i => ds.getD i 0) = ds := by
   apply List.ext_getElem (by simp)
   intro i h1 h2
   simp [h2]
  rw [e]
  exact this

theorem slv {a : Act} {k : Nat} {v : Value} (h : sl a k = v) : a.tmps[k]?.getD undef = v := by simpa [sl] using h
theorem Free.out {ds : List Nat} {F : Nat → Value → World → Prop} {a0 : Act} {W0 : World} {L : Nat → Bool} {a : Act} {w : World} (h : Free ds.length (fun i => ds.getD i 0) F a0 W0 L a w) (k : Nat) (hk : k ∉ ds) {v : Value} (hv : sl a0 k = v) : a.tmps[k]?.getD undef = v := by
 refine slv (Eq.trans (h.rest k fun i hi _ e => hk ?_) hv)
 simp only [List.getD_eq_getElem?_getD, List.getElem?_eq_getElem hi, Option.getD_some] at e
 rw [← e]
 exact List.getElem_mem _

theorem free_run {P : Program} {o : Oper} {a : Act} {W W' : World} {d : Nat} {v : Value} {F : Value → World → Prop} {Rel : World → World → Prop} {Q : Exit → Act → World → Prop} (ho : o.dst = some d)
  (h : (execOp a.eval o).run P W = .ok (.value v) W') (hF : F v W') (hr : Rel W W') : o.wp P a W (fun a' w' => ∃ v, a' = a.put (some d) v ∧ F v w' ∧ Rel W w') Q := by
 unfold Oper.wp
 rw [h]
 exact ⟨v, by rw [ho], hF, hr⟩
theorem free_call {P : Program} {o : Oper} {a : Act} {W : World} {d : Nat} {f : FuncId} {args : Array Value} {F : Value → World → Prop} {Rel : World → World → Prop} {Q : Exit → Act → World → Prop} (ho : o.dst = some d)
  (h : (execOp a.eval o).run P W = .ok (.enter f args) W) (hc : Calls P f args W fun e w' => ∃ v, e = .returned v ∧ F v w' ∧ Rel W w') : o.wp P a W (fun a' w' => ∃ v, a' = a.put (some d) v ∧ F v w' ∧ Rel W w') Q := by
 unfold Oper.wp
 rw [h]
 refine hc.mono ?_
 rintro e w' ⟨v, rfl, hF, hr⟩
 exact ⟨v, by rw [ho], hF, hr⟩

/-- cells stay; marks may come -/
structure CellsKept (B : Nat) (w w' : World) : Prop where
 os : w'.os = w.os
 tape : w'.tape = w.tape
 output : w'.output = w.output
 size : w.heap.size ≤ w'.heap.size
 block : ∀ k, k < B → w'.heap[k]? = w.heap[k]?
 cells : ∀ (k : Nat) (C : Array Value) (e : TypeId) (fr : Nat × Nat), w.heap[k]? = some (Obj.cells C e fr) → ∃ fr' : Nat × Nat, w'.heap[k]? = some (Obj.cells C e fr')
theorem CellsKept.below {B : Nat} {w0 w w' : World} (h : CellsKept B w w') (hb : Below B w0 w) : Below B w0 w' :=
 ⟨h.os.trans hb.os, h.tape.trans hb.tape, h.output.trans hb.output, Nat.le_trans hb.size h.size, fun k hk => (h.block k hk).trans (hb.block k hk)⟩
theorem CellsKept.cell {B : Nat} {w w' : World} (h : CellsKept B w w') {b o : Nat} {v : Value} (hc : w.cell? ⟨b, o, none⟩ = some v) : w'.cell? ⟨b, o, none⟩ = some v := by
 have hc' := hc
 unfold World.cell? at hc
 split at hc
 ·rename_i C e fr hb
  obtain ⟨fr', hb'⟩ := h.cells b C e fr hb
  rw [cell_of_row w b o C e fr hb] at hc'
  rw [cell_of_row w' b o C e fr' hb']
  exact hc'
 ·cases hc
theorem freeze_kept (w : World) (b o B : Nat) (hB : B ≤ b) : CellsKept B w (w.freeze ⟨b, o, none⟩ 1) := by
 unfold World.freeze
 rw [if_neg (by decide)]
 refine ⟨rfl, rfl, rfl, by simp, fun k hk => ?_, fun k C e fr hk => ?_⟩
 ·show (w.heap.modify b _)[k]? = _
  rw [Array.getElem?_modify, if_neg (by omega)]
 ·show ∃ fr' : Nat × Nat, (w.heap.modify b _)[k]? = some (Obj.cells C e fr')
  rw [Array.getElem?_modify]
  by_cases hbk : b = k
  ·subst hbk
   rw [if_pos rfl, hk]
   obtain ⟨lo, hi⟩ := fr
   exact ⟨_, rfl⟩
  ·rw [if_neg hbk]
   exact ⟨fr, hk⟩
/-- '[]byte("..")': the row that was made for it is marked -/
theorem run_convert_lit {P : Program} (w : World) (t e : TypeId) (C : Array Value) (fr : Nat × Nat) (b n c : Nat) (ht : P.underlying t = some (.slice e)) (he : P.underlying e = some (.int .u8)) (hb : w.heap[b]? = some (.cells C e fr)) :
  (convert t t (.slice (some ⟨b, 0, none⟩) n c)).run P w = .ok (.slice (some ⟨b, 0, none⟩) n c) (w.freeze ⟨b, C.size, none⟩ 1) := by
 have hsh : w.shape? b = some (e, C.size) := by
  unfold World.shape?
  rw [hb]
 simp [convert, run_underlying ht, run_underlying he, markStringish, hsh]
/-- an operation's value is known -/
def Is (c : Value) (v : Value) (_ : World) : Prop := v = c
end Go.Proofs.Ythdjhbiigmcecaa

/- Contracts of package codec: votes as bytes; what is signed of them. -/
namespace Go.Proofs.Ythdjhbiigmcecaa
open Go.RowKit

/-- api.Vote -/
structure Vote where
 validator : Int
 source : Pt
 target : Pt
 sig : List UInt8
 deriving DecidableEq
/-- a vote's bytes -/
def vtBytes (v : Vote) : List UInt8 := be 1 v.validator.toNat ++ ptBytes v.source ++ ptBytes v.target ++ (be 2 v.sig.length ++ v.sig)
/-- a vote that lies in memory reads as v -/
def VoteR (w : World) (g : GVote) (v : Vote) : Prop := g.validator = v.validator ∧ g.source = v.source ∧ g.target = v.target ∧ BytesR w g.sig v.sig

theorem keepVote {B : Nat} {b : Nat} {g : GVote} {W W' : World} (hb : Below B W W') (h : b < B)
  (hs : W.cell? ⟨b, 0, none⟩ = some (.int .i64 g.validator) ∧ row? W b 1 33 = some (pointA g.source) ∧ row? W b 34 33 = some (pointA g.target)) :
  W'.cell? ⟨b, 0, none⟩ = some (.int .i64 g.validator) ∧ row? W' b 1 33 = some (pointA g.source) ∧ row? W' b 34 33 = some (pointA g.target) :=
 ⟨(hb.cell (p := ⟨b, 0, none⟩) h).trans hs.1, (row?_below _ _ _ hb h).trans hs.2.1, (row?_below _ _ _ hb h).trans hs.2.2⟩

set_option maxRecDepth 100000 in
set_option maxHeartbeats 400000 in
theorem vote_c (g : GVote) (v : Vote) (w : World) (hv : VoteR w g v) (h1 : 1 ≤ v.validator) (h64 : v.validator ≤ 64) (hs : v.sig.length ≤ 4096) :
  Calls Try.prog 151 #[.agg (voteA g)] w fun e w' => ∃ x, e = .returned x ∧ Own w' w.heap.size x (vtBytes v) ∧ Below w.heap.size w w' := by
 obtain ⟨e1, e2, e3, hsig⟩ := hv
 have g1 : 1 ≤ g.validator := by omega
 have g2 : g.validator ≤ 64 := by omega
 have HN := fun W => number1 g.validator.toNat W (by omega)
 rw [Int.toNat_of_nonneg (by omega : 0 ≤ g.validator)] at HN
 have HB := fun W h => blob_c g.sig v.sig W h (by omega)
 have E1 := Lib.hid e1
 have E2 := Lib.hid e2
 have E3 := Lib.hid e3
 have Hs := Lib.hid hsig
 clear e1 e2 e3 hsig h1 h64
 go_enter Try.func151, Try.ntmps151
 go_wp2_with fail
 refine (HB _ (Hs.out.keep (by (repeat' (first | (with_reducible first | exact Below.refl _ _ | assumption | refine bel_trans (by assumption) ?_ ?_ | refine bel_grown (by assumption) ?_ ?_ ?_ | refine Below.alloc ?_ ?_ _ | refine Below.drew ?_ | refine below_drewN ?_ _ | refine Below.setCell ?_ ?_ _ | refine below_put ?_ ?_ _ _ | exact Nat.le_refl _) | omega | (with_reducible first | refine Nat.le_trans ?_ (Below.size (by assumption)) | refine Nat.le_trans ?_ (World.grownBy.size (by assumption))) | (simp only [World.size_alloc, World.size_setCell, World.size_drew, size_drewN]; omega) | (simp only [World.size_alloc, World.size_setCell, World.size_drew, size_drewN, size_put]; omega) | (intro k hk; simp [Value.ownBlock] at hk; first | done | omega) | (simp [size_drewN] at *; omega)))))).mono ?_
 clear HB
 rintro e w1 ⟨x0, rfl, o0, hb0⟩
 obtain ⟨k1, k2, k3⟩ := kept hb0
 have hz0 : w.heap.size < w1.heap.size := by (have := hb0.size; (try simp at this); omega)
 go_wp2_with fail
 have hS0 : w1.cell? ⟨w.heap.size, 0, none⟩ = some (.int .i64 g.validator) ∧ row? w1 w.heap.size 1 33 = some (pointA g.source) ∧ row? w1 w.heap.size 34 33 = some (pointA g.target) :=
  ⟨by rw [k1 _ _ (by simp)]; simp, by rw [k3 _ _ _ (by simp), row?_new]; simp, by rw [k3 _ _ _ (by simp), row?_new]; simp⟩
 have hS1 : w1.drew.cell? ⟨w.heap.size, 0, none⟩ = some (.int .i64 g.validator) ∧ row? w1.drew w.heap.size 1 33 = some (pointA g.source) ∧ row? w1.drew w.heap.size 34 33 = some (pointA g.target) := hS0
 obtain ⟨s0, rfl⟩ := o0.slice
 have hw : IntKind.u64.wrap g.validator = g.validator := IntWalk.u64_in _ (by omega)
 go_region_held3 (fun w' => w'.cell? ⟨w.heap.size, 0, none⟩ = some (.int .i64 g.validator) ∧ row? w' w.heap.size 1 33 = some (pointA g.source) ∧ row? w' w.heap.size 34 33 = some (pointA g.target))
  (first | (with_reducible assumption) | (with_reducible exact hS1) | (with_reducible exact (keepVote hb1 (by first | omega | (simp; omega)) hS1)) | (with_reducible exact (keepVote hb2 (by first | omega | (simp; omega)) (keepVote hb1 (by first | omega | (simp; omega)) hS1))) | (with_reducible exact (keepVote hb3 (by first | omega | (simp; omega)) (keepVote hb2 (by first | omega | (simp; omega)) (keepVote hb1 (by first | omega | (simp; omega)) hS1)))) | (with_reducible exact (keepVote hb4 (by first | omega | (simp; omega)) (keepVote hb3 (by first | omega | (simp; omega)) (keepVote hb2 (by first | omega | (simp; omega)) (keepVote hb1 (by first | omega | (simp; omega)) hS1))))) | (with_reducible exact keepVote ((Below.refl _ _).alloc (Nat.le_refl _) _) (by first | omega | (simp; omega)) (keepVote hb3 (by first | omega | (simp; omega)) (keepVote hb2 (by first | omega | (simp; omega)) (keepVote hb1 (by first | omega | (simp; omega)) hS1)))))
  (first
   | (go_simp; go_at_call 166; (with_reducible refine (HN _).mono ?_); rintro e w2 ⟨v1, rfl, o1, hb1⟩; obtain ⟨s1, rfl⟩ := o1.slice; have hb1w : Below w1.heap.size w1 w2 := undrew hb1; have hz1 : w.heap.size < w2.heap.size := by (have := hb1.size; (try simp at this); omega))
   | (go_simp; go_at_call 146; (with_reducible refine (point_c g.source _).mono ?_); rintro e w3 ⟨v2, rfl, o2, hb2⟩; obtain ⟨s2, rfl⟩ := o2.slice; have hz2 : w.heap.size < w3.heap.size := by (have := hb2.size; (try simp at this); omega))
   | (go_simp; go_at_call 146; (with_reducible refine (point_c g.target _).mono ?_); rintro e w4 ⟨v3, rfl, o3, hb3⟩; obtain ⟨s3, rfl⟩ := o3.slice; have hz3 : w.heap.size < w4.heap.size := by (have := hb3.size; (try simp at this); omega))
   | (go_simp; go_at_call 139; (with_reducible refine (join4 _ s1 s2 s3 s0 (be 1 g.validator.toNat) (ptBytes g.source) (ptBytes g.target) (be 2 v.sig.length ++ v.sig) w4 ((o1.reads.keep hb2).keep hb3) (o2.reads.keep hb3) o3.reads (((o0.reads.keep hb1w).keep hb2).keep hb3) (by simp [be_length]) (by simp [be_length, ptBytes_length]; omega)).mono ?_); rintro e w5 ⟨x, rfl, o4, hb4⟩))
 go_wp2_with fail
 go_ret
 refine ⟨x, rfl, ?_, by (repeat' (first | (with_reducible first | exact Below.refl _ _ | assumption | refine bel_trans (by assumption) ?_ ?_ | refine bel_grown (by assumption) ?_ ?_ ?_ | refine Below.alloc ?_ ?_ _ | refine Below.drew ?_ | refine below_drewN ?_ _ | refine Below.setCell ?_ ?_ _ | refine below_put ?_ ?_ _ _ | exact Nat.le_refl _) | omega | (with_reducible first | refine Nat.le_trans ?_ (Below.size (by assumption)) | refine Nat.le_trans ?_ (World.grownBy.size (by assumption))) | (simp only [World.size_alloc, World.size_setCell, World.size_drew, size_drewN]; omega) | (simp only [World.size_alloc, World.size_setCell, World.size_drew, size_drewN, size_put]; omega) | (intro k hk; simp [Value.ownBlock] at hk; first | done | omega) | (simp [size_drewN] at *; omega)))⟩
 have := o4.more (base' := w.heap.size) (by omega)
 rw [vtBytes, ← E1.out, ← E2.out, ← E3.out]
 exact this

/-- a value that is a slice of these bytes -/
def IsB (l : List UInt8) (v : Value) (w : World) : Prop := ∃ s : Sl, v = s.v ∧ BytesR w s l
def Pieces (ls : List (List UInt8)) (v : Value) (w : World) : Prop := ∃ (b : Nat) (ss : List Sl), v = .slice (some ⟨b, 0, none⟩) ls.length ls.length ∧ ss.length = ls.length ∧ (∀ (i : Nat) (h : i < ss.length), w.cell? ⟨b, i, none⟩ = some ss[i].v) ∧ ∀ (i : Nat) (h : i < ss.length) (h' : i < ls.length), BytesR w ss[i] ls[i]

end Go.Proofs.Ythdjhbiigmcecaa

/- Operations and headers as data; how they lie in memory. -/
namespace Go.Proofs.Ythdjhbiigmcecaa
open Go.RowKit

/-- api.HeaderOp -/
structure Op where
 kind : Int
 key : Hash
 stake : UInt64
 validator : Int
 evidence : List Vote
 deriving DecidableEq
/-- api.Header -/
structure Hdr where
 parent : Hash
 epoch : UInt64
 ops : List Op
 deriving DecidableEq

/-- cells that are a vote's -/
def VoteC (w : World) (cs : Array Value) (v : Vote) : Prop := ∃ g, cs = voteA g ∧ VoteR w g v
abbrev VotesR (w : World) (s : Sl) (l : List Vote) : Prop := SlR 68 (VoteC w) w s l
def OpR (w : World) (g : GOp) (o : Op) : Prop := g.kind = o.kind ∧ g.key = o.key ∧ g.stake = o.stake ∧ g.validator = o.validator ∧ VotesR w g.evidence o.evidence
def OpC (w : World) (cs : Array Value) (o : Op) : Prop := ∃ g, cs = opA g ∧ OpR w g o
abbrev OpsR (w : World) (s : Sl) (l : List Op) : Prop := SlR 36 (OpC w) w s l
def HdrR (w : World) (g : GHeader) (h : Hdr) : Prop := g.parent = h.parent ∧ g.epoch = h.epoch ∧ OpsR w g.ops h.ops

theorem VoteR.keep' {w w' : World} {g : GVote} {v : Vote} (h : VoteR w g v) (hb : Below w.heap.size w w') : VoteR w' g v :=
 ⟨h.1, h.2.1, h.2.2.1, h.2.2.2.keep hb⟩
theorem VotesR.keep' {w w' : World} {s : Sl} {l : List Vote} (h : VotesR w s l) (hb : Below w.heap.size w w') : VotesR w' s l :=
 SlR.keep h hb fun _ _ ⟨g, e, hv⟩ => ⟨g, e, hv.keep' hb⟩
theorem OpR.keep' {w w' : World} {g : GOp} {o : Op} (h : OpR w g o) (hb : Below w.heap.size w w') : OpR w' g o :=
 ⟨h.1, h.2.1, h.2.2.1, h.2.2.2.1, VotesR.keep' h.2.2.2.2 hb⟩
theorem OpsR.keep' {w w' : World} {s : Sl} {l : List Op} (h : OpsR w s l) (hb : Below w.heap.size w w') : OpsR w' s l :=
 SlR.keep h hb fun _ _ ⟨g, e, hv⟩ => ⟨g, e, hv.keep' hb⟩
theorem HdrR.keep' {w w' : World} {g : GHeader} {o : Hdr} (h : HdrR w g o) (hb : Below w.heap.size w w') : HdrR w' g o :=
 ⟨h.1, h.2.1, OpsR.keep' h.2.2 hb⟩

def voteMay (v : Vote) : Bool := mayMem v.validator && mayPt v.source && mayPt v.target && decide (v.sig.length ≤ 4096)
theorem VoteR.may {w : World} {g : GVote} {v : Vote} (h : VoteR w g v) : mayV g = voteMay v := by
 obtain ⟨h1, h2, h3, h4⟩ := h
 simp [mayV, voteMay, h1, h2, h3, h4.1]

/-- an operation with what it names alone -/
def bareO (o : Op) : Op :=
 if o.kind = 1 then { o with validator := 0, evidence := [] }
 else if o.kind = 3 then { o with key := zeroHash, stake := 0 }
 else if o.kind = 2 then { o with key := zeroHash, stake := 0, evidence := [] }
 else { kind := o.kind, key := zeroHash, stake := 0, validator := 0, evidence := [] }
/-- may an operation be? -/
def opMay (o : Op) : Bool :=
 decide (o = bareO o) && (if o.kind = 1 then decide (1 ≤ o.stake.toNat ∧ o.stake.toNat ≤ 4294967296) else if o.kind = 2 then mayMem o.validator
  else if o.kind = 3 then mayMem o.validator && decide (o.evidence.length = 2) && o.evidence.all voteMay else false)
/-- may a header be? -/
def hdrMay (h : Hdr) : Bool := decide (1 ≤ h.epoch.toNat ∧ h.epoch.toNat ≤ 4611686018427387904) && decide (h.ops.length ≤ 16) && h.ops.all opMay

/-- an operation's bytes -/
def opBytes (o : Op) : List UInt8 :=
 UInt8.ofNat (o.kind % 256).toNat :: if o.kind = 1 then o.key.1 ++ be 8 o.stake.toNat else UInt8.ofNat (o.validator % 256).toNat :: (o.evidence.map vtBytes).flatten
/-- a header's bytes -/
def hdBytes (h : Hdr) : List UInt8 := h.parent.1 ++ be 8 h.epoch.toNat ++ [UInt8.ofNat h.ops.length] ++ (h.ops.map opBytes).flatten
end Go.Proofs.Ythdjhbiigmcecaa

/- '==' of arrays and structs as a whole: hashes, points, links. Over any program; then for the walk. -/
namespace Go.Proofs.Ythdjhbiigmcecaa
open Go.RowKit

section
variable {P : Program} (w : World)
theorem getElem_bytes (xs : List UInt8) (k : Nat) (h : k < xs.length) : (xs.map byteV).toArray[k * 1]? = some (.int .u8 (xs[k].toNat : Int)) := by
 simp [h, byteV]
theorem eqItems_bytes (d : Nat) {e : TypeId} (he : P.underlying e = some (.int .u8)) (xs ys : List UInt8) (hl : xs.length = ys.length) :
  ∀ (n k : Nat), k + n = xs.length → (Op.eqItems (d + 1) e 1 (xs.map byteV).toArray (ys.map byteV).toArray (List.range' k n)).run P w = .ok (decide (xs.drop k = ys.drop k)) w
 | 0, k, hk => by
  rw [List.drop_of_length_le (by omega), List.drop_of_length_le (by omega)]
  simp [Op.eqItems]
 | n + 1, k, hk => by
  have ih := eqItems_bytes d he xs ys hl n (k + 1) (by omega)
  have hx : k < xs.length := by omega
  have hy : k < ys.length := by omega
  have p1 : (part e (xs.map byteV).toArray (k * 1)).run P w = .ok (.int .u8 (xs[k].toNat : Int)) w := by
   have := getElem_bytes xs k hx
   simp only [part, isAgg, Sem.run_bind, run_underlying he, Result.andThen_ok, Sem.run_pure, this]
   rfl
  have p2 : (part e (ys.map byteV).toArray (k * 1)).run P w = .ok (.int .u8 (ys[k].toNat : Int)) w := by
   have := getElem_bytes ys k hy
   simp only [part, isAgg, Sem.run_bind, run_underlying he, Result.andThen_ok, Sem.run_pure, this]
   rfl
  have p3 := run_equalIn_int (P := P) w d e .u8 .u8 (xs[k].toNat : Int) (ys[k].toNat : Int) he
  rw [List.range'_succ]
  simp only [Op.eqItems, Sem.run_bind, p1, p2, p3, Result.andThen_ok]
  have hd : (xs.drop k = ys.drop k) ↔ (xs[k] = ys[k] ∧ xs.drop (k + 1) = ys.drop (k + 1)) := by
   rw [List.drop_eq_getElem_cons hx, List.drop_eq_getElem_cons hy, List.cons.injEq]
  by_cases h : xs[k] = ys[k]
  ·have hb : ((xs[k].toNat : Int) == (ys[k].toNat : Int)) = true := by simp [h]
   simp only [hb, Bool.not_true, Bool.false_eq_true, if_false, ih]
   congr 2
   exact propext ⟨fun x => hd.2 ⟨h, x⟩, fun x => (hd.1 x).2⟩
  ·have hb : ((xs[k].toNat : Int) == (ys[k].toNat : Int)) = false := by
    rw [beq_eq_false_iff_ne]
    intro e
    exact h (UInt8.toNat_inj.1 (by omega))
   have hn : ¬ xs.drop k = ys.drop k := fun x => h (hd.1 x).1
   simp [hb, hn]
theorem fields2 {t : TypeId} {n0 n1 : String} {t0 t1 : TypeId} {o0 o1 : Nat} (hf : (P.fieldsOf t).toList.map (fun f => (f.name, f.type, f.offset)) = [(n0, t0, o0), (n1, t1, o1)]) :
  ∃ f0 f1, (P.fieldsOf t).toList = [f0, f1] ∧ f0.name = n0 ∧ f1.name = n1 ∧ f0.type = t0 ∧ f1.type = t1 ∧ f0.offset = o0 ∧ f1.offset = o1 := by
 generalize (P.fieldsOf t).toList = l at hf
 match l, hf with
 | [f0, f1], hf => simp at hf; exact ⟨f0, f1, rfl, hf.1.1, hf.2.1, hf.1.2.1, hf.2.2.1, hf.1.2.2, hf.2.2.2⟩
theorem eqHash_run (d : Nat) {t e : TypeId} {i : TypeInfo} (hu : P.underlying t = some (.array 32 e)) (hi : P.info? e = some i) (hc : P.cellsOf e = 1) (he : P.underlying e = some (.int .u8)) (a b : Hash) :
  (Op.equalIn (d + 2) t (.agg (hashA a)) (.agg (hashA b))).run P w = .ok (decide (a = b)) w := by
 rw [run_equalIn_array w (d + 1) _ _ hu hi, hc, List.range_eq_range']
 have := eqItems_bytes (P := P) w d he a.1 b.1 (by rw [a.2, b.2]) 32 0 (by rw [a.2])
 simp only [List.drop_zero] at this
 unfold hashA
 rw [this]
 congr 2
 exact propext (Subtype.ext_iff).symm
theorem part_agg {t : TypeId} {n off : Nat} (hA : ∀ w, (isAgg t).run P w = .ok true w) (hS : ∀ w, (Go.sizeOf t).run P w = .ok n w) (xs : Array Value) (h : off + n ≤ xs.size) : (part t xs off).run P w = .ok (.agg (xs.extract off (off + n))) w := by
 simp [part, Sem.run_bind, hA, hS, h]
theorem part_one {t : TypeId} (hA : ∀ w, (isAgg t).run P w = .ok false w) (xs : Array Value) (off : Nat) (v : Value) (h : xs[off]? = some v) : (part t xs off).run P w = .ok v w := by
 simp [part, Sem.run_bind, hA, h]
theorem eqPoint_run (d : Nat) {t tu th e : TypeId} {i : TypeInfo} {n0 n1 : String} (hf : (P.fieldsOf t).toList.map (fun f => (f.name, f.type, f.offset)) = [(n0, tu, 0), (n1, th, 1)]) (hu : P.underlying t = some (.struct (P.fieldsOf t))) (hp : P.stoodInHeld t = false)
  (h0 : n0 ≠ "_") (h1 : n1 ≠ "_") (hu0 : P.underlying tu = some (.int .u64)) (hA0 : ∀ w, (isAgg tu).run P w = .ok false w)
  (hA : ∀ w, (isAgg th).run P w = .ok true w) (hS : ∀ w, (Go.sizeOf th).run P w = .ok 32 w) (huh : P.underlying th = some (.array 32 e)) (hi : P.info? e = some i) (hc : P.cellsOf e = 1) (he : P.underlying e = some (.int .u8)) (a b : Pt) :
  (Op.equalIn (d + 3) t (.agg (pointA a)) (.agg (pointA b))).run P w = .ok (decide (a = b)) w := by
 obtain ⟨f0, f1, hf, m0, m1, t0, t1, o0, o1⟩ := fields2 hf
 rw [run_equalIn_struct w (d + 2) t _ _ hu hp, hf]
 subst t0
 subst t1
 subst m0
 subst m1
 have p1 := fun p : Pt => part_one (P := P) w hA0 (pointA p) 0 _ (pointA_epoch p)
 have p2 := fun p : Pt => part_agg (P := P) w hA hS (pointA p) (off := 1) (by simp)
 simp only [Nat.reduceAdd, pointA_name] at p2
 have q1 := run_equalIn_int (P := P) w (d + 1) f0.type .u64 .u64 (a.epoch.toNat : Int) (b.epoch.toNat : Int) hu0
 have q2 := eqHash_run (P := P) w d huh hi hc he a.name b.name
 simp only [Op.eqFields, h0, h1, o0, o1, ne_eq, not_false_eq_true, if_true, Sem.run_bind, p1, Result.andThen_ok, q1]
 have e1 : ((a.epoch.toNat : Int) == (b.epoch.toNat : Int)) = decide (a.epoch = b.epoch) := by
  rw [Bool.eq_iff_iff]
  simp only [beq_iff_eq, decide_eq_true_eq]
  exact ⟨fun h => UInt64.toNat_inj.1 (by omega), fun h => by rw [h]⟩
 have e2 : decide (a = b) = (decide (a.epoch = b.epoch) && decide (a.name = b.name)) := by
  rw [Bool.eq_iff_iff]
  cases a; cases b
  simp
 rw [e1, e2]
 by_cases h : a.epoch = b.epoch
 ·simp only [h, decide_true, Bool.not_true, Bool.false_eq_true, if_false, Bool.true_and, Sem.run_bind, p2, q2, Result.andThen_ok]
  cases decide (a.name = b.name) <;> simp
 ·simp [h]
theorem eqLink_run (d : Nat) {t tp : TypeId} {n0 n1 : String} (hf : (P.fieldsOf t).toList.map (fun f => (f.name, f.type, f.offset)) = [(n0, tp, 0), (n1, tp, 33)]) (hu : P.underlying t = some (.struct (P.fieldsOf t))) (hp : P.stoodInHeld t = false)
  (h0 : n0 ≠ "_") (h1 : n1 ≠ "_")
  (hA : ∀ w, (isAgg tp).run P w = .ok true w) (hS : ∀ w, (Go.sizeOf tp).run P w = .ok 33 w) (hq : ∀ a b : Pt, (Op.equalIn d tp (.agg (pointA a)) (.agg (pointA b))).run P w = .ok (decide (a = b)) w) (a b : Lnk) :
  (Op.equalIn (d + 1) t (.agg (linkA a)) (.agg (linkA b))).run P w = .ok (decide (a = b)) w := by
 obtain ⟨f0, f1, hf, m0, m1, t0, t1, o0, o1⟩ := fields2 hf
 rw [run_equalIn_struct w d t _ _ hu hp, hf]
 subst m0
 subst m1
 have p1 := fun p : Lnk => part_agg (P := P) w hA hS (linkA p) (off := 0) (by simp)
 have p2 := fun p : Lnk => part_agg (P := P) w hA hS (linkA p) (off := 33) (by simp)
 simp only [linkA_source, linkA_target, Nat.zero_add, Nat.reduceAdd] at p1 p2
 simp only [Op.eqFields, h0, h1, o0, o1, t0, t1, ne_eq, not_false_eq_true, if_true, Sem.run_bind, p1, Result.andThen_ok, hq]
 have e2 : decide (a = b) = (decide (a.source = b.source) && decide (a.target = b.target)) := by
  rw [Bool.eq_iff_iff]
  cases a; cases b
  simp
 rw [e2]
 by_cases h : a.source = b.source
 ·simp only [h, decide_true, Bool.not_true, Bool.false_eq_true, if_false, Bool.true_and, Sem.run_bind, p2, hq, Result.andThen_ok]
  cases decide (a.target = b.target) <;> simp
 ·simp [h]
end

theorem u8_info : ∃ i, Try.prog.info? 5 = some i := info_of_underlying Try.underlying5
theorem u8_cells : Try.prog.cellsOf 5 = 1 := by kernel_rfl
theorem eq_hash (w : World) (a b : Hash) : (Op.equalIn 10000 24 (.agg (hashA a)) (.agg (hashA b))).run Try.prog w = .ok (decide (a = b)) w := by
 obtain ⟨i, hi⟩ := u8_info
 exact eqHash_run w 9998 Try.underlying24 hi u8_cells Try.underlying5 a b
attribute [go_sem ↓] eq_hash
theorem point_fields : (Try.prog.fieldsOf 26).toList.map (fun f => (f.name, f.type, f.offset)) = [("Epoch", 22, 0), ("Name", 24, 1)] := by kernel_rfl
theorem eq_point_d (d : Nat) (w : World) (a b : Pt) : (Op.equalIn (d + 3) 26 (.agg (pointA a)) (.agg (pointA b))).run Try.prog w = .ok (decide (a = b)) w := by
 obtain ⟨i, hi⟩ := u8_info
 exact eqPoint_run w d point_fields (by kernel_rfl) (by kernel_rfl) (by decide) (by decide) Try.underlying22 (fun _ => by simp [isAgg, run_underlying Try.underlying22]) Try.isAgg24 Try.sizeOf24 Try.underlying24 hi u8_cells Try.underlying5 a b
theorem eq_point (w : World) (a b : Pt) : (Op.equalIn 10000 26 (.agg (pointA a)) (.agg (pointA b))).run Try.prog w = .ok (decide (a = b)) w := eq_point_d 9997 w a b
attribute [go_sem ↓] eq_point
theorem link_fields : (Try.prog.fieldsOf 28).toList.map (fun f => (f.name, f.type, f.offset)) = [("Source", 26, 0), ("Target", 26, 33)] := by kernel_rfl
theorem eq_link (w : World) (a b : Lnk) : (Op.equalIn 10000 28 (.agg (linkA a)) (.agg (linkA b))).run Try.prog w = .ok (decide (a = b)) w :=
 eqLink_run w 9999 link_fields (by kernel_rfl) (by kernel_rfl) (by decide) (by decide) Try.isAgg26 Try.sizeOf26 (fun a b => eq_point_d 9996 w a b) a b
attribute [go_sem ↓] eq_link
end Go.Proofs.Ythdjhbiigmcecaa
