/- Texts of this proof, one behind the other: ShaR2. -/
import Derived.Test.YthdjhbiigmcecaaPAN
import Derived.Test.YthdjhbiigmcecaaPAA
import Derived.Test.YthdjhbiigmcecaaPAB
import Derived.Deep.RegionHeld3
import Derived.Deep.CutRange
set_option linter.unusedVariables false
set_option linter.unusedSimpArgs false
/- Contracts of the document's numbers by digits: times, above, digits, fraction. -/
namespace Go.Proofs.Ythdjhbiigmcecaa
open Go.RowKit

def wideA (d : List Nat) : Array Value := (d.map fun (x : Nat) => Value.int .u64 (x : Int)).toArray
theorem wideA_size (d : List Nat) : (wideA d).size = d.length := by simp [wideA]
theorem wideA_one (d : List Nat) : oneCells (wideA d) := by simp [oneCells, wideA, Value.oneCell']
theorem wideA_at (d : List Nat) (i : Nat) (h : i < d.length) : (wideA d)[i]? = some (.int .u64 (d[i] : Int)) := by
 unfold wideA
 rw [List.getElem?_toArray, List.getElem?_map, List.getElem?_eq_getElem h]
 rfl
theorem wideA_set (d : List Nat) (i x : Nat) : (wideA d).setIfInBounds i (.int .u64 (x : Int)) = wideA (d.set i x) := by
 unfold wideA
 rw [List.setIfInBounds_toArray, List.map_set]
def zeros12 : List Nat := List.replicate 12 0
theorem zeros12_wide : Wide zeros12 := ⟨rfl, fun x hx => by rw [List.eq_of_mem_replicate hx]; omega⟩
theorem zeros12_val : wval zeros12 = 0 := by decide
theorem Wide.set {d : List Nat} (h : Wide d) (i x : Nat) (hx : x < 65536) : Wide (d.set i x) :=
 ⟨by rw [List.length_set]; exact h.1, fun y hy => by
  rcases List.mem_or_eq_of_mem_set hy with hy | rfl
  ·exact h.2 y hy
  ·exact hx⟩
theorem Wide.at {d : List Nat} (h : Wide d) (i : Nat) (hi : i < 12) : d[i]'(by rw [h.1]; exact hi) < 65536 := h.2 _ (List.getElem_mem _)
theorem zero_wide : #[.int .u64 0, .int .u64 0, .int .u64 0, .int .u64 0, .int .u64 0, .int .u64 0, .int .u64 0, .int .u64 0, .int .u64 0, .int .u64 0, .int .u64 0, .int .u64 0] = wideA zeros12 := rfl
theorem load_w12_s (x : Value) : Instr.loadAt 267 x = loadAgg 267 x := rfl
theorem load_w12 (w : World) (b off : Nat) (h : (row? w b off 12).isSome = true) : (loadAgg 267 (.pointer (some ⟨b, off, none⟩))).run Try.prog w = .ok (.agg ((row? w b off 12).getD #[])) w := run_loadAgg Try.isAgg267 Try.sizeOf267 w b off h
theorem store_w12_s (x v : Value) : Instr.storeAt 267 x v = storeAgg 267 x v := rfl
theorem info_w12 : (Try.prog.info? 267).map (·.size) = some 12 := by kernel_rfl
theorem store_w12 (w : World) (b off : Nat) (xs : Array Value) (hn : xs.size = 12) (h1 : oneCells xs) (ht : there w b off 12) : (storeAgg 267 (.pointer (some ⟨b, off, none⟩)) (.agg xs)).run Try.prog w = .ok () (putRow w b off xs) := run_storeAgg info_w12 w b off xs hn h1 ht
attribute [go_sem ↓] load_w12_s store_w12_s
attribute [go_sem] load_w12 store_w12 zero_wide
theorem row?_of_heap {w : World} {b : Nat} {cs : Array Value} {t : TypeId} {n : Nat} (h : w.heap[b]? = some (.cells cs t (0, 0))) (hn : cs.size = n) : row? w b 0 n = some cs := by
 unfold row?
 rw [h]
 simp only [Nat.zero_add]
 rw [if_pos (by omega)]
 subst hn
 simp
theorem times_res : Try.f204.results = #[.cell 4 267] := by kernel_rfl
set_option maxRecDepth 100000 in
set_option maxHeartbeats 3200000 in
theorem times_c (a b : List Nat) (ha : Wide a) (hb : Wide b) (w : World) :
  Calls Try.prog 204 #[.agg (wideA a), .agg (wideA b)] w fun e w' => ∃ p, e = .returned (.agg (wideA p)) ∧ Wide p ∧ wval p = (wval a * wval b) % 65536 ^ 12 ∧ Below w.heap.size w w' := by
 have hoa := wideA_one a
 have hob := wideA_one b
 have hsa := (wideA_size a).trans ha.1
 have hsb := (wideA_size b).trans hb.1
 obtain ⟨W0, hW0⟩ : ∃ W0, W0 = (((w.alloc (.cells (wideA a) 267)).alloc (.cells (wideA b) 267)).alloc (.cells (wideA zeros12) 267)).alloc (.cells (wideA zeros12) 267) := ⟨_, rfl⟩
 have hB0 : Below w.heap.size w W0 := by rw [hW0]; (repeat' (first | (with_reducible first | exact Below.refl _ _ | assumption | refine bel_trans (by assumption) ?_ ?_ | refine bel_grown (by assumption) ?_ ?_ ?_ | refine Below.alloc ?_ ?_ _ | refine Below.drew ?_ | refine below_drewN ?_ _ | refine Below.setCell ?_ ?_ _ | refine below_put ?_ ?_ _ _ | exact Nat.le_refl _) | omega | (with_reducible first | refine Nat.le_trans ?_ (Below.size (by assumption)) | refine Nat.le_trans ?_ (World.grownBy.size (by assumption))) | (simp only [World.size_alloc, World.size_setCell, World.size_drew, size_drewN]; omega) | (simp only [World.size_alloc, World.size_setCell, World.size_drew, size_drewN, size_put]; omega) | (intro k hk; simp [Value.ownBlock] at hk; first | done | omega) | (simp [size_drewN] at *; omega)))
 have hs0 : W0.heap.size = w.heap.size + 4 := by rw [hW0]; simp
 have hA0 : W0.heap[w.heap.size]? = some (.cells (wideA a) 267 (0, 0)) := by
  rw [hW0]
  exact (Below.block (B := w.heap.size + 1) (by (repeat' (first | (with_reducible first | exact Below.refl _ _ | assumption | refine bel_trans (by assumption) ?_ ?_ | refine bel_grown (by assumption) ?_ ?_ ?_ | refine Below.alloc ?_ ?_ _ | refine Below.drew ?_ | refine below_drewN ?_ _ | refine Below.setCell ?_ ?_ _ | refine below_put ?_ ?_ _ _ | exact Nat.le_refl _) | omega | (with_reducible first | refine Nat.le_trans ?_ (Below.size (by assumption)) | refine Nat.le_trans ?_ (World.grownBy.size (by assumption))) | (simp only [World.size_alloc, World.size_setCell, World.size_drew, size_drewN]; omega) | (simp only [World.size_alloc, World.size_setCell, World.size_drew, size_drewN, size_put]; omega) | (intro k hk; simp [Value.ownBlock] at hk; first | done | omega) | (simp [size_drewN] at *; omega))) : Below (w.heap.size + 1) (w.alloc (.cells (wideA a) 267)) _) _ (by omega)).trans (heap_alloc_new w _)
 have hb0 : W0.heap[w.heap.size + 1]? = some (.cells (wideA b) 267 (0, 0)) := by
  rw [hW0]
  refine (Below.block (B := w.heap.size + 1 + 1) (by (repeat' (first | (with_reducible first | exact Below.refl _ _ | assumption | refine bel_trans (by assumption) ?_ ?_ | refine bel_grown (by assumption) ?_ ?_ ?_ | refine Below.alloc ?_ ?_ _ | refine Below.drew ?_ | refine below_drewN ?_ _ | refine Below.setCell ?_ ?_ _ | refine below_put ?_ ?_ _ _ | exact Nat.le_refl _) | omega | (with_reducible first | refine Nat.le_trans ?_ (Below.size (by assumption)) | refine Nat.le_trans ?_ (World.grownBy.size (by assumption))) | (simp only [World.size_alloc, World.size_setCell, World.size_drew, size_drewN]; omega) | (simp only [World.size_alloc, World.size_setCell, World.size_drew, size_drewN, size_put]; omega) | (intro k hk; simp [Value.ownBlock] at hk; first | done | omega) | (simp [size_drewN] at *; omega))) : Below (w.heap.size + 1 + 1) ((w.alloc (.cells (wideA a) 267)).alloc (.cells (wideA b) 267)) _) _ (by omega)).trans ?_
  have := heap_alloc_new (w.alloc (.cells (wideA a) 267)) (.cells (wideA b) 267)
  simpa using this
 have hR0 : W0.heap[w.heap.size + 2]? = some (.cells (wideA zeros12) 267 (0, 0)) := by
  rw [hW0]
  refine (Below.block (B := w.heap.size + 1 + 1 + 1) (by (repeat' (first | (with_reducible first | exact Below.refl _ _ | assumption | refine bel_trans (by assumption) ?_ ?_ | refine bel_grown (by assumption) ?_ ?_ ?_ | refine Below.alloc ?_ ?_ _ | refine Below.drew ?_ | refine below_drewN ?_ _ | refine Below.setCell ?_ ?_ _ | refine below_put ?_ ?_ _ _ | exact Nat.le_refl _) | omega | (with_reducible first | refine Nat.le_trans ?_ (Below.size (by assumption)) | refine Nat.le_trans ?_ (World.grownBy.size (by assumption))) | (simp only [World.size_alloc, World.size_setCell, World.size_drew, size_drewN]; omega) | (simp only [World.size_alloc, World.size_setCell, World.size_drew, size_drewN, size_put]; omega) | (intro k hk; simp [Value.ownBlock] at hk; first | done | omega) | (simp [size_drewN] at *; omega))) : Below (w.heap.size + 1 + 1 + 1) (((w.alloc (.cells (wideA a) 267)).alloc (.cells (wideA b) 267)).alloc (.cells (wideA zeros12) 267)) _) _ (by omega)).trans ?_
  have := heap_alloc_new ((w.alloc (.cells (wideA a) 267)).alloc (.cells (wideA b) 267)) (.cells (wideA zeros12) 267)
  simpa using this
 have hP0 : W0.heap[w.heap.size + 3]? = some (.cells (wideA zeros12) 267 (0, 0)) := by
  rw [hW0]
  have := heap_alloc_new (((w.alloc (.cells (wideA a) 267)).alloc (.cells (wideA b) 267)).alloc (.cells (wideA zeros12) 267)) (.cells (wideA zeros12) 267)
  simpa using this
 have hV0 : Hid (wval zeros12 % 65536 ^ 12 = (wval (a.take 0) * wval b) % 65536 ^ 12) := Lib.hid (by rw [zeros12_val, List.take_zero]; show 0 % _ = (0 * _) % _; rw [Nat.zero_mul])
 replace hB0 := Lib.hid hB0
 replace hA0 := Lib.hid hA0
 replace hb0 := Lib.hid hb0
 replace hR0 := Lib.hid hR0
 replace hP0 := Lib.hid hP0
 have hza := Lib.hid ha
 have hzb := Lib.hid hb
 go_enter Try.func204, Try.ntmps204
 go_wp2_with fail
 rw [← hW0]
 clear hW0 hoa hob hsa hsb
 go_loopw [6, 7, 8, 9] (fun i _ _ _ W => ∃ (k : Nat) (p : List Nat), k ≤ 12 ∧ i = .int .i64 k ∧ Hid (Wide p) ∧ Hid (wval p % 65536 ^ 12 = (wval (a.take k) * wval b) % 65536 ^ 12) ∧ Hid (W.heap[w.heap.size + 3]? = some (.cells (wideA p) 267 (0, 0))) ∧ Hid (Below (w.heap.size + 3) W0 W)) (fun i _ _ _ _ => 12 - (intOf i).toNat)
 case atStart => exact ⟨0, zeros12, Nat.zero_le _, rfl, Lib.hid zeros12_wide, hV0, hP0, Lib.hid (Below.refl _ _)⟩
 case round =>
  clear hV0 hP0
  obtain ⟨k, p0, hk, rfl, hp0, hV, hP, hB⟩ := hrel
  by_cases hkx : k < 12
  ·have ka : k < a.length := by rw [ha.1]; exact hkx
   have hnext := Lib.hid (fun V => times_next (a := a) (b := b) (i := k) (V := V) ka)
   have hx := ha.at k hkx
   have hca := (cell_of_row W0 w.heap.size k _ _ _ hA0.out).trans (wideA_at a k ka)
   generalize hax : a[k] = x at *
   clear hax
   have j0 : (0 : Int) ≤ (k : Int) := by omega
   have j1 : (k : Int) < 12 := by omega
   have hx0 : (0 : Int) ≤ (x : Int) := by omega
   have hx1 : (x : Int) < 65536 := by omega
   generalize wr = w1 at *
   go_wp2_with fail
   go_loopw [7, 8, 9] (fun c i _ W => ∃ (kk cc : Nat) (p : List Nat), k + kk ≤ 12 ∧ i = .int .i64 kk ∧ c = .int .u64 (cc : Int) ∧ cc < 65536 ∧ Hid (Wide p) ∧ Hid (wval p + cc * 65536 ^ (k + kk) = wval p0 + x * 65536 ^ k * wval (b.take kk)) ∧ Hid (W.heap[w.heap.size + 3]? = some (.cells (wideA p) 267 (0, 0))) ∧ Hid (Below (w.heap.size + 3) W0 W)) (fun _ i _ _ => 12 - (intOf i).toNat)
   case atStart => exact ⟨0, 0, p0, by omega, rfl, rfl, by omega, hp0, Lib.hid (by simp [wval]), hP, hB⟩
   case round =>
    clear hB hP
    obtain ⟨kk, cc, p, hkk, rfl, rfl, hcc, hp, hI, hP, hB⟩ := hrel
    by_cases hkx2 : k + kk < 12
    ·have kb : kk < b.length := by rw [hb.1]; omega
     have kp : k + kk < p.length := by rw [hp.out.1]; exact hkx2
     have hy := hb.at kk (by omega)
     have hz := hp.out.at (k + kk) hkx2
     have hcb := (cell_of_row W0 (w.heap.size + 1) kk _ _ _ hb0.out).trans (wideA_at b kk kb)
     have hcp := (cell_of_row wr (w.heap.size + 3) (k + kk) _ _ _ hP.out).trans (wideA_at p (k + kk) kp)
     have hfp := frozen_of_row wr (w.heap.size + 3) (k + kk) _ _ hP.out
     have hca' := (hB.out.cell (p := ⟨w.heap.size, k, none⟩) (by show w.heap.size < _; omega)).trans hca
     have hcb' := (hB.out.cell (p := ⟨w.heap.size + 1, kk, none⟩) (by show w.heap.size + 1 < _; omega)).trans hcb
     have htk := Lib.hid (wval_take_succ b kk kb)
     have hst := Lib.hid (fun y s (hs : s = p[k + kk] + x * y + cc) => times_step (p := p) (i := k) (k := kk) (c := cc) (x := x) (y := y) (V0 := wval p0) (T := wval (b.take kk)) (s := s) kp hs hI.out)
     have hset := Lib.hid (fun s : Nat => heap_set wr (w.heap.size + 3) (k + kk) _ _ (.int .u64 ((s % 65536 : Nat) : Int)) hP.out)
     generalize b[kk] = y at *
     generalize p[k + kk] = z at *
     obtain ⟨hs1, hs2⟩ := times_bound hx hy hcc hz
     obtain ⟨s, hs⟩ : ∃ s, s = z + x * y + cc := ⟨_, rfl⟩
     rw [← hs] at hs1 hs2
     have hxy : (x : Int) * (y : Int) = ((x * y : Nat) : Int) := (Int.natCast_mul x y).symm
     have hxy2 := Lib.hid hxy
     have hxl : x * y ≤ 4294967295 := by have := Nat.mul_le_mul (show x ≤ 65535 by omega) (show y ≤ 65535 by omega); omega
     have e1 : IntKind.u64.wrap ((x : Int) * (y : Int)) = ((x * y : Nat) : Int) := by rw [hxy, IntKind.wrap_u64]; omega
     have e2 : IntKind.u64.wrap ((z : Int) + ((x * y : Nat) : Int)) = ((z + x * y : Nat) : Int) := by rw [IntKind.wrap_u64]; omega
     have e3 : IntKind.u64.wrap (((z + x * y : Nat) : Int) + (cc : Int)) = (s : Int) := by rw [IntKind.wrap_u64]; omega
     have i0 : (0 : Int) ≤ (kk : Int) := by omega
     have i1 : (kk : Int) < 12 := by omega
     have i2 : (k : Int) + (kk : Int) < 12 := by omega
     have i3 : IntKind.i64.wrap ((k : Int) + (kk : Int)) = (k : Int) + (kk : Int) := IntWalk.i64_in _ (by omega)
     have i4 : ((k : Int) + (kk : Int)).toNat = k + kk := by omega
     have i5 : (0 : Int) ≤ (k : Int) + (kk : Int) := by omega
     clear hxy hs1 hx hy hz hcc
     have c1 := fun n => (cell_drewN wr n ⟨w.heap.size, k, none⟩).trans hca'
     have c2 := fun n => (cell_drewN wr n ⟨w.heap.size + 1, kk, none⟩).trans hcb'
     have c3 := fun n => (cell_drewN wr n ⟨w.heap.size + 3, k + kk, none⟩).trans hcp
     go_upto_region 9 with fail
     go_quiet (fail)
     have e4 : (z : Int) + (x : Int) * (y : Int) + (cc : Int) = (s : Int) := by rw [hxy2.out, hs]; omega
     rw [e4]
     have hI2 := Lib.hid (hst.out y s hs)
     rw [← Nat.add_assoc] at hI2
     have hpw := Lib.hid (hp.out.set (k + kk) (s % 65536) (Nat.mod_lt _ (by omega)))
     have hset2 := Lib.hid ((hset.out s).trans (by rw [wideA_set] : _ = some (Obj.cells (wideA (p.set (k + kk) (s % 65536))) 267 (0, 0))))
     have hB2 := Lib.hid (show Below (w.heap.size + 3) W0 ((wr.drewN nq).setCell ⟨w.heap.size + 3, k + kk, none⟩ (.int .u64 ((s % 65536 : Nat) : Int))) from Below.setCell (hB.out.trans ((below_drewN (Below.refl wr.heap.size wr) nq).mono (by have := hB.out.size; omega))) (Nat.le_refl _) _)
     have hs65 := hs2
     have s0 : (0 : Int) ≤ (s : Int) := by omega
     have hmod : ((s % 65536 : Nat) : Int) = (s : Int) % 65536 := by omega
     have hdiv : ((s / 65536 : Nat) : Int) = (s : Int) / 65536 := by omega
     rw [hmod] at hset2 hB2
     clear hs e1 e2 e3 e4 c1 c2 c3 hca' hcb' hst hset hp hI hP hB hmod hs2 hxl
     replace hdiv := Lib.hid hdiv
     replace hxy2 := hxy2
     go_wp2_with fail
     go_roundw
     case rel => exact ⟨kk + 1, s / 65536, p.set (k + kk) (s % 65536), by omega, by go_num, by rw [hdiv.out], hs65, hpw, by rw [htk.out]; exact hI2, hset2, hB2⟩
     case measure => (first | omega | (simp [intOf]; done) | (simp [intOf]; omega))
    ·obtain rfl : kk = 12 - k := by omega
     have hV2 := Lib.hid (show wval p % 65536 ^ 12 = (wval (a.take (k + 1)) * wval b) % 65536 ^ 12 from by
      rw [← hnext.out (wval p0) hV.out]
      exact times_row hb.1 (by omega) hI.out)
     have i2 : ¬ (k : Int) + ((12 - k : Nat) : Int) < 12 := by omega
     clear hI hV hnext
     go_wp2_with fail
     go_roundw
     case rel => exact ⟨k + 1, p, by omega, by go_num, hp, hV2, hP, hB⟩
     case measure => (first | omega | (simp [intOf]; done) | (simp [intOf]; omega))
  ·obtain rfl : k = 12 := by omega
   have hrow : row? wr (w.heap.size + 3) 0 12 = some (wideA p0) := row?_of_heap hP.out (by rw [wideA_size]; exact hp0.out.1)
   have hth : there wr (w.heap.size + 2) 0 12 := there_below hB.out (by omega) (there_block hR0.out (by rw [wideA_size]; decide))
   have ho := wideA_one p0
   have hsz : (wideA p0).size = 12 := by rw [wideA_size]; exact hp0.out.1
   have hfin := Lib.hid (show wval p0 = (wval a * wval b) % 65536 ^ 12 from by
    have h1 := hV.out
    rw [List.take_of_length_le (by rw [ha.1]; omega)] at h1
    rw [← h1]
    have := wval_lt p0 hp0.out.2
    rw [hp0.out.1] at this
    exact (Nat.mod_eq_of_lt this).symm)
   clear hP hV
   go_wp2_with fail
   have hrr : row? (putRow wr (w.heap.size + 1 + 1) 0 (wideA p0)) (w.heap.size + 1 + 1) 0 12 = some (wideA p0) := row?_put_same _ _ _ _ _ hsz (by omega) hth
   refine ret_row Try.isAgg267 Try.sizeOf267 times_res (x := .pointer (some ⟨w.heap.size + 1 + 1, 0, none⟩)) (w.heap.size + 1 + 1) 0 rfl rfl (by rw [hrr]; rfl) rfl ?_
   rw [hrr]
   exact ⟨p0, rfl, hp0.out, hfin.out, by have h1 := hB0.out; have h2 := hB.out.mono (show w.heap.size ≤ w.heap.size + 3 by omega); (repeat' (first | (with_reducible first | exact Below.refl _ _ | assumption | refine bel_trans (by assumption) ?_ ?_ | refine bel_grown (by assumption) ?_ ?_ ?_ | refine Below.alloc ?_ ?_ _ | refine Below.drew ?_ | refine below_drewN ?_ _ | refine Below.setCell ?_ ?_ _ | refine below_put ?_ ?_ _ _ | exact Nat.le_refl _) | omega | (with_reducible first | refine Nat.le_trans ?_ (Below.size (by assumption)) | refine Nat.le_trans ?_ (World.grownBy.size (by assumption))) | (simp only [World.size_alloc, World.size_setCell, World.size_drew, size_drewN]; omega) | (simp only [World.size_alloc, World.size_setCell, World.size_drew, size_drewN, size_put]; omega) | (intro k hk; simp [Value.ownBlock] at hk; first | done | omega) | (simp [size_drewN] at *; omega)))⟩

set_option maxRecDepth 100000 in
set_option maxHeartbeats 3200000 in
theorem above_c (a b : List Nat) (ha : Wide a) (hb : Wide b) (w : World) :
  Calls Try.prog 205 #[.agg (wideA a), .agg (wideA b)] w fun e w' => e = .returned (.bool (decide (wval b < wval a))) ∧ Below w.heap.size w w' := by
 have hoa := wideA_one a
 have hob := wideA_one b
 have hsa := (wideA_size a).trans ha.1
 have hsb := (wideA_size b).trans hb.1
 obtain ⟨W0, hW0⟩ : ∃ W0, W0 = (w.alloc (.cells (wideA a) 267)).alloc (.cells (wideA b) 267) := ⟨_, rfl⟩
 have hB0 : Below w.heap.size w W0 := by rw [hW0]; (repeat' (first | (with_reducible first | exact Below.refl _ _ | assumption | refine bel_trans (by assumption) ?_ ?_ | refine bel_grown (by assumption) ?_ ?_ ?_ | refine Below.alloc ?_ ?_ _ | refine Below.drew ?_ | refine below_drewN ?_ _ | refine Below.setCell ?_ ?_ _ | refine below_put ?_ ?_ _ _ | exact Nat.le_refl _) | omega | (with_reducible first | refine Nat.le_trans ?_ (Below.size (by assumption)) | refine Nat.le_trans ?_ (World.grownBy.size (by assumption))) | (simp only [World.size_alloc, World.size_setCell, World.size_drew, size_drewN]; omega) | (simp only [World.size_alloc, World.size_setCell, World.size_drew, size_drewN, size_put]; omega) | (intro k hk; simp [Value.ownBlock] at hk; first | done | omega) | (simp [size_drewN] at *; omega)))
 have hs0 : W0.heap.size = w.heap.size + 2 := by rw [hW0]; simp
 have hA0 : W0.heap[w.heap.size]? = some (.cells (wideA a) 267 (0, 0)) := by
  rw [hW0]
  exact (Below.block (B := w.heap.size + 1) (by (repeat' (first | (with_reducible first | exact Below.refl _ _ | assumption | refine bel_trans (by assumption) ?_ ?_ | refine bel_grown (by assumption) ?_ ?_ ?_ | refine Below.alloc ?_ ?_ _ | refine Below.drew ?_ | refine below_drewN ?_ _ | refine Below.setCell ?_ ?_ _ | refine below_put ?_ ?_ _ _ | exact Nat.le_refl _) | omega | (with_reducible first | refine Nat.le_trans ?_ (Below.size (by assumption)) | refine Nat.le_trans ?_ (World.grownBy.size (by assumption))) | (simp only [World.size_alloc, World.size_setCell, World.size_drew, size_drewN]; omega) | (simp only [World.size_alloc, World.size_setCell, World.size_drew, size_drewN, size_put]; omega) | (intro k hk; simp [Value.ownBlock] at hk; first | done | omega) | (simp [size_drewN] at *; omega))) : Below (w.heap.size + 1) (w.alloc (.cells (wideA a) 267)) _) _ (by omega)).trans (heap_alloc_new w _)
 have hb0 : W0.heap[w.heap.size + 1]? = some (.cells (wideA b) 267 (0, 0)) := by
  rw [hW0]
  have := heap_alloc_new (w.alloc (.cells (wideA a) 267)) (.cells (wideA b) 267)
  simpa using this
 replace hB0 := Lib.hid hB0
 replace hA0 := Lib.hid hA0
 replace hb0 := Lib.hid hb0
 go_enter Try.func205, Try.ntmps205
 go_wp2_with fail
 rw [← hW0]
 clear hW0 hoa hob hsa hsb
 go_loopw [5] (fun i W => ∃ (z : Int) (k : Nat), i = .int .i64 z ∧ k ≤ 12 ∧ Hid (z = (k : Int) - 1) ∧ Hid (∀ j (h1 : j < a.length) (h2 : j < b.length), k ≤ j → a[j] = b[j]) ∧ Hid (Below W0.heap.size W0 W)) (fun i _ => (intOf i + 1).toNat)
 case atStart => exact ⟨11, 12, rfl, Nat.le_refl _, Lib.hid rfl, Lib.hid (fun j h1 _ h3 => by rw [ha.1] at h1; omega), Lib.hid (Below.refl _ _)⟩
 case round =>
  obtain ⟨z, k, rfl, hk, hz, hE, hB⟩ := hrel
  by_cases hkx : 0 < k
  ·obtain ⟨m, rfl⟩ : ∃ m, k = m + 1 := ⟨k - 1, by omega⟩
   obtain rfl : z = (m : Int) := by have := hz.out; omega
   have ma : m < a.length := by rw [ha.1]; omega
   have mb : m < b.length := by rw [hb.1]; omega
   have hca := ((hB.out.cell (p := ⟨w.heap.size, m, none⟩) (by show w.heap.size < _; omega)).trans ((cell_of_row W0 w.heap.size m _ _ _ hA0.out).trans (wideA_at a m ma)))
   have hcb := ((hB.out.cell (p := ⟨w.heap.size + 1, m, none⟩) (by show w.heap.size + 1 < _; omega)).trans ((cell_of_row W0 (w.heap.size + 1) m _ _ _ hb0.out).trans (wideA_at b m mb)))
   have hat := Lib.hid (above_at ha hb m (by omega) (fun j h1 h2 h3 => hE.out j h1 h2 (by omega)))
   have hstep := Lib.hid (show a[m] = b[m] → ∀ j (h1 : j < a.length) (h2 : j < b.length), m ≤ j → a[j] = b[j] from fun e j h1 h2 h3 => by
    by_cases hj : j = m
    ·subst hj
     exact e
    ·exact hE.out j h1 h2 (by omega))
   have j0 : (0 : Int) ≤ (m : Int) := by omega
   have j1 : (m : Int) < 12 := by omega
   generalize a[m] = x at *
   generalize b[m] = y at *
   have c1 := fun n => (cell_drewN wr n ⟨w.heap.size, m, none⟩).trans hca
   have c2 := fun n => (cell_drewN wr n ⟨w.heap.size + 1, m, none⟩).trans hcb
   have hBn := fun n => Lib.hid (hB.out.trans ((below_drewN (Below.refl wr.heap.size wr) n).mono hB.out.size))
   by_cases hxy : x = y
   ·have hne : ((x : Int) != (y : Int)) = false := by rw [hxy]; simp
    have hst := Lib.hid (hstep.out hxy)
    clear hstep hat hxy hE hz
    go_wp2_with fail
    go_quiet (fail)
    go_wp2_with fail
    go_roundw
    case rel => exact ⟨(m : Int) - 1, m, rfl, by omega, Lib.hid rfl, hst, hBn _⟩
    case measure => (first | (simp [intOf]; done) | (simp [intOf]; omega))
   ·have hne : ((x : Int) != (y : Int)) = true := by rw [bne_iff_ne]; omega
    have hd := Lib.hid (show decide (y < x) = decide (wval b < wval a) from decide_eq_decide.2 (hat.out hxy))
    clear hstep hat hE hz
    go_wp2_with fail
    go_quiet (fail)
    go_wp2_with fail
    go_quiet (fail)
    go_wp2_with fail
    go_ret
    exact ⟨congrArg (fun b => Ending.returned (.bool b)) hd.out, by have := hB0.out; have := hB.out; (repeat' (first | (with_reducible first | exact Below.refl _ _ | assumption | refine bel_trans (by assumption) ?_ ?_ | refine bel_grown (by assumption) ?_ ?_ ?_ | refine Below.alloc ?_ ?_ _ | refine Below.drew ?_ | refine below_drewN ?_ _ | refine Below.setCell ?_ ?_ _ | refine below_put ?_ ?_ _ _ | exact Nat.le_refl _) | omega | (with_reducible first | refine Nat.le_trans ?_ (Below.size (by assumption)) | refine Nat.le_trans ?_ (World.grownBy.size (by assumption))) | (simp only [World.size_alloc, World.size_setCell, World.size_drew, size_drewN]; omega) | (simp only [World.size_alloc, World.size_setCell, World.size_drew, size_drewN, size_put]; omega) | (intro k hk; simp [Value.ownBlock] at hk; first | done | omega) | (simp [size_drewN] at *; omega)))⟩
  ·obtain rfl : k = 0 := by omega
   obtain rfl : z = -1 := by have := hz.out; omega
   have hEq : a = b := wide_ext ha hb (fun j h1 h2 => hE.out j h1 h2 (Nat.zero_le _))
   have hd := Lib.hid (show false = decide (wval b < wval a) by rw [hEq]; exact (decide_eq_false (Nat.lt_irrefl _)).symm)
   clear hE hz hEq
   go_wp2_with fail
   go_ret
   exact ⟨congrArg (fun b => Ending.returned (.bool b)) hd.out, by have := hB0.out; have := hB.out; (repeat' (first | (with_reducible first | exact Below.refl _ _ | assumption | refine bel_trans (by assumption) ?_ ?_ | refine bel_grown (by assumption) ?_ ?_ ?_ | refine Below.alloc ?_ ?_ _ | refine Below.drew ?_ | refine below_drewN ?_ _ | refine Below.setCell ?_ ?_ _ | refine below_put ?_ ?_ _ _ | exact Nat.le_refl _) | omega | (with_reducible first | refine Nat.le_trans ?_ (Below.size (by assumption)) | refine Nat.le_trans ?_ (World.grownBy.size (by assumption))) | (simp only [World.size_alloc, World.size_setCell, World.size_drew, size_drewN]; omega) | (simp only [World.size_alloc, World.size_setCell, World.size_drew, size_drewN, size_put]; omega) | (intro k hk; simp [Value.ownBlock] at hk; first | done | omega) | (simp [size_drewN] at *; omega)))⟩

/-- the first k digits, the rest nought -/
def digK (n k : Nat) : List Nat := (digitsL n).take k ++ List.replicate (12 - k) 0
theorem digits_res : Try.f203.results = #[.cell 2 267] := by kernel_rfl
set_option maxRecDepth 100000 in
set_option maxHeartbeats 3200000 in
theorem digits_c (n : Nat) (hn : n < 18446744073709551616) (w : World) :
  Calls Try.prog 203 #[.int .u64 (n : Int)] w fun e w' => e = .returned (.agg (wideA (digitsL n))) ∧ Below w.heap.size w w' := by
 obtain ⟨W0, hW0⟩ : ∃ W0, W0 = (w.alloc (.cells (wideA zeros12) 267)).alloc (.cells (wideA zeros12) 267) := ⟨_, rfl⟩
 have hB0 : Below w.heap.size w W0 := by rw [hW0]; (repeat' (first | (with_reducible first | exact Below.refl _ _ | assumption | refine bel_trans (by assumption) ?_ ?_ | refine bel_grown (by assumption) ?_ ?_ ?_ | refine Below.alloc ?_ ?_ _ | refine Below.drew ?_ | refine below_drewN ?_ _ | refine Below.setCell ?_ ?_ _ | refine below_put ?_ ?_ _ _ | exact Nat.le_refl _) | omega | (with_reducible first | refine Nat.le_trans ?_ (Below.size (by assumption)) | refine Nat.le_trans ?_ (World.grownBy.size (by assumption))) | (simp only [World.size_alloc, World.size_setCell, World.size_drew, size_drewN]; omega) | (simp only [World.size_alloc, World.size_setCell, World.size_drew, size_drewN, size_put]; omega) | (intro k hk; simp [Value.ownBlock] at hk; first | done | omega) | (simp [size_drewN] at *; omega)))
 have hs0 : W0.heap.size = w.heap.size + 2 := by rw [hW0]; simp
 have hR0 : there W0 w.heap.size 0 12 := by
  rw [hW0]
  exact there_old _ _ _ _ _ (by simp) (there_new _ _ _ _ _ (by rw [wideA_size]; decide))
 have hP0 : W0.heap[w.heap.size + 1]? = some (.cells (wideA (digK n 0)) 267 (0, 0)) := by
  rw [hW0, show digK n 0 = zeros12 from rfl]
  have := heap_alloc_new (w.alloc (.cells (wideA zeros12) 267)) (.cells (wideA zeros12) 267)
  simpa using this
 have n0 : (0 : Int) ≤ (n : Int) := by omega
 have hdn := Lib.hid (digitsL_wide n)
 replace hB0 := Lib.hid hB0
 replace hR0 := Lib.hid hR0
 replace hP0 := Lib.hid hP0
 replace hn := Lib.hid hn
 go_enter Try.func203, Try.ntmps203
 go_wp2_with fail
 rw [← hW0]
 clear hW0
 go_loopw [4] (fun i W => ∃ z : Int, i = .int .i64 z ∧ 0 ≤ z ∧ z ≤ 4 ∧ Hid (W.heap[w.heap.size + 1]? = some (.cells (wideA (digK n z.toNat)) 267 (0, 0))) ∧ Hid (Below (w.heap.size + 1) W0 W)) (fun i _ => 4 - (intOf i).toNat)
 case atStart => exact ⟨0, rfl, by omega, by omega, hP0, Lib.hid (Below.refl _ _)⟩
 case round =>
  clear hP0
  obtain ⟨z, rfl, hz0, hz4, hP, hB⟩ := hrel
  by_cases hzx : z < 4
  ·have q0 := cell_of_row wr (w.heap.size + 1) 0 _ _ _ hP.out
   have q1 := cell_of_row wr (w.heap.size + 1) 1 _ _ _ hP.out
   have q2 := cell_of_row wr (w.heap.size + 1) 2 _ _ _ hP.out
   have q3 := cell_of_row wr (w.heap.size + 1) 3 _ _ _ hP.out
   have f0 := frozen_of_row wr (w.heap.size + 1) 0 _ _ hP.out
   have f1 := frozen_of_row wr (w.heap.size + 1) 1 _ _ hP.out
   have f2 := frozen_of_row wr (w.heap.size + 1) 2 _ _ hP.out
   have f3 := frozen_of_row wr (w.heap.size + 1) 3 _ _ hP.out
   have hl : (digK n z.toNat).length = 12 := by
    rcases (show z = 0 ∨ z = 1 ∨ z = 2 ∨ z = 3 by omega) with rfl | rfl | rfl | rfl <;> rfl
   rw [wideA_at _ _ (by omega)] at q0 q1 q2 q3
   have hset := Lib.hid (fun (i x : Nat) => (heap_set wr (w.heap.size + 1) i _ _ (.int .u64 (x : Int)) hP.out).trans (by rw [wideA_set] : _ = some (Obj.cells (wideA ((digK n z.toNat).set i x)) 267 (0, 0))))
   have hBs := Lib.hid (fun (i x : Nat) => ((show Below (w.heap.size + 1) W0 (wr.setCell ⟨w.heap.size + 1, i, none⟩ (.int .u64 (x : Int))) from Below.setCell hB.out (Nat.le_refl _) _)))
   generalize (digK n z.toNat)[0] = v0 at *
   generalize (digK n z.toNat)[1] = v1 at *
   generalize (digK n z.toNat)[2] = v2 at *
   generalize (digK n z.toNat)[3] = v3 at *
   clear hB hP hl
   rcases (show z = 0 ∨ z = 1 ∨ z = 2 ∨ z = 3 by omega) with rfl | rfl | rfl | rfl
   all_goals clear hz0 hz4
   all_goals clear hzx
   all_goals
    go_wp2_with fail
    go_roundw
    case rel =>
     first
      | exact ⟨1, rfl, by omega, by omega, Lib.hid (hset.out 0 (n % 65536)), Lib.hid (hBs.out 0 (n % 65536))⟩
      | exact ⟨2, rfl, by omega, by omega, Lib.hid (hset.out 1 (n / 65536 % 65536)), Lib.hid (hBs.out 1 (n / 65536 % 65536))⟩
      | exact ⟨3, rfl, by omega, by omega, Lib.hid (hset.out 2 (n / 4294967296 % 65536)), Lib.hid (hBs.out 2 (n / 4294967296 % 65536))⟩
      | exact ⟨4, rfl, by omega, by omega, Lib.hid (hset.out 3 (n / 281474976710656 % 65536)), Lib.hid (hBs.out 3 (n / 281474976710656 % 65536))⟩
    case measure => (first | (simp [intOf]; done) | (simp [intOf]; omega))
  ·obtain rfl : z = 4 := by omega
   have hrow : row? wr (w.heap.size + 1) 0 12 = some (wideA (digitsL n)) := row?_of_heap hP.out (by rw [wideA_size]; rfl)
   have hth : there wr w.heap.size 0 12 := there_below hB.out (by omega) hR0.out
   have ho := wideA_one (digitsL n)
   have hsz : (wideA (digitsL n)).size = 12 := by rw [wideA_size]; rfl
   clear hP hn hdn
   obtain ⟨dg, hdg⟩ : ∃ dg, dg = digitsL n := ⟨_, rfl⟩
   rw [← hdg] at hrow ho hsz
   replace hdg := Lib.hid hdg
   go_wp2_with fail
   have hrr : row? (putRow wr w.heap.size 0 (wideA dg)) w.heap.size 0 12 = some (wideA dg) := row?_put_same _ _ _ _ _ hsz (by omega) hth
   refine ret_row Try.isAgg267 Try.sizeOf267 digits_res (x := .pointer (some ⟨w.heap.size, 0, none⟩)) w.heap.size 0 rfl rfl (by rw [hrr]; rfl) rfl ?_
   rw [hrr]
   exact ⟨by rw [← hdg.out]; rfl, by have h1 := hB0.out; have h2 := hB.out.mono (show w.heap.size ≤ w.heap.size + 1 by omega); (repeat' (first | (with_reducible first | exact Below.refl _ _ | assumption | refine bel_trans (by assumption) ?_ ?_ | refine bel_grown (by assumption) ?_ ?_ ?_ | refine Below.alloc ?_ ?_ _ | refine Below.drew ?_ | refine below_drewN ?_ _ | refine Below.setCell ?_ ?_ _ | refine below_put ?_ ?_ _ _ | exact Nat.le_refl _) | omega | (with_reducible first | refine Nat.le_trans ?_ (Below.size (by assumption)) | refine Nat.le_trans ?_ (World.grownBy.size (by assumption))) | (simp only [World.size_alloc, World.size_setCell, World.size_drew, size_drewN]; omega) | (simp only [World.size_alloc, World.size_setCell, World.size_drew, size_drewN, size_put]; omega) | (intro k hk; simp [Value.ownBlock] at hk; first | done | omega) | (simp [size_drewN] at *; omega)))⟩

theorem pow_small (v i : Nat) (hv : v ≤ 274877906944) (hi : i ≤ 3) : v ^ i < 65536 ^ 12 := by
 have h1 : v ^ i ≤ 274877906944 ^ i := Nat.pow_le_pow_left hv i
 have h2 : 274877906944 ^ i ≤ 274877906944 ^ 3 := Nat.pow_le_pow_right (by omega) hi
 have h3 : (274877906944 : Nat) ^ 3 < 65536 ^ 12 := by decide
 omega
theorem frLoop_step (P pw j root : Nat) : frLoop P pw (j + 1) root = frLoop P pw j (if (root + 2 ^ j) ^ pw ≤ P then root + 2 ^ j else root) := rfl
theorem most_val (p k : Nat) (hk : k < 12) : wval (zeros12.set k p) = p * 65536 ^ k := by
 have hl : k < zeros12.length := hk
 have := wval_set zeros12 k p hl
 rw [zeros12_val] at this
 have h0 : zeros12[k]'hl = 0 := List.getElem_replicate ..
 rw [h0] at this
 omega
theorem most_wide (p k : Nat) (hp : p < 65536) : Wide (zeros12.set k p) := zeros12_wide.set k p hp
theorem pow_65536 (pw : Nat) : 65536 ^ (2 * pw) = 2 ^ (32 * pw) := by
 rw [show (65536 : Nat) = 2 ^ 16 from rfl, ← Nat.pow_mul]
 congr 1
 omega
set_option maxRecDepth 100000 in
set_option maxHeartbeats 6400000 in
theorem fraction_c (p pw : Nat) (hp : p < 65536) (h2 : 2 ≤ pw) (h3 : pw ≤ 3) (w : World) :
  Calls Try.prog 169 #[.int .u64 (p : Int), .int .i64 (pw : Int)] w fun e w' => e = .returned (.int .u32 ((frac p pw : Nat) : Int)) ∧ Below w.heap.size w w' := by
 have hMv := Lib.hid (show wval (zeros12.set (2 * pw) p) = p * 2 ^ (32 * pw) from by rw [most_val _ _ (by omega), pow_65536])
 have hMw := Lib.hid (most_wide p (2 * pw) hp)
 have hfr := Lib.hid (show frac p pw = frLoop (p * 2 ^ (32 * pw)) pw 38 0 % 4294967296 from rfl)
 obtain ⟨W0, hW0⟩ : ∃ W0, W0 = w.alloc (.cells ((wideA zeros12).setIfInBounds (2 * pw) (.int .u64 (p : Int))) 267) := ⟨_, rfl⟩
 have hB0 : Below w.heap.size w W0 := by rw [hW0]; (repeat' (first | (with_reducible first | exact Below.refl _ _ | assumption | refine bel_trans (by assumption) ?_ ?_ | refine bel_grown (by assumption) ?_ ?_ ?_ | refine Below.alloc ?_ ?_ _ | refine Below.drew ?_ | refine below_drewN ?_ _ | refine Below.setCell ?_ ?_ _ | refine below_put ?_ ?_ _ _ | exact Nat.le_refl _) | omega | (with_reducible first | refine Nat.le_trans ?_ (Below.size (by assumption)) | refine Nat.le_trans ?_ (World.grownBy.size (by assumption))) | (simp only [World.size_alloc, World.size_setCell, World.size_drew, size_drewN]; omega) | (simp only [World.size_alloc, World.size_setCell, World.size_drew, size_drewN, size_put]; omega) | (intro k hk; simp [Value.ownBlock] at hk; first | done | omega) | (simp [size_drewN] at *; omega)))
 have hM0 : W0.heap[w.heap.size]? = some (.cells (wideA (zeros12.set (2 * pw) p)) 267 (0, 0)) := by
  rw [hW0, ← wideA_set]
  exact heap_alloc_new w _
 have hs0 : W0.heap.size = w.heap.size + 1 := by rw [hW0]; simp
 generalize zeros12.set (2 * pw) p = most at *
 generalize hPP : p * 2 ^ (32 * pw) = P at *
 clear hPP
 generalize frac p pw = fr at *
 have j0 : (0 : Int) ≤ (pw : Int) := by omega
 have j1 : (pw : Int) ≤ 3 := by omega
 have j2 : (2 : Int) ≤ (pw : Int) := by omega
 have j3 : (2 * (pw : Int)).toNat = 2 * pw := by omega
 have j4 : 2 * (pw : Int) < 12 := by omega
 have j5 : (0 : Int) ≤ 2 * (pw : Int) := by omega
 have y0 := cell_of_row (w.alloc (.cells (wideA zeros12) 267)) w.heap.size (2 * pw) _ _ _ (heap_alloc_new w _)
 have g0 := frozen_of_row (w.alloc (.cells (wideA zeros12) 267)) w.heap.size (2 * pw) _ _ (heap_alloc_new w _)
 rw [wideA_at _ _ (by show 2 * pw < 12; omega)] at y0
 replace hB0 := Lib.hid hB0
 replace hM0 := Lib.hid hM0
 go_enter Try.func169, Try.ntmps169
 go_wp2_with fail
 rw [← hW0]
 clear hW0 j0 j3 j4 j5 y0 g0
 go_loopw [6, 7, 8, 9, 10] (fun rt i _ _ _ W => ∃ (m root : Nat) (z : Int), i = .int .i64 z ∧ Hid (z = (m : Int) - 1) ∧ m ≤ 38 ∧ rt = .int .u64 (root : Int) ∧ Hid (root + 2 ^ m ≤ 2 ^ 38) ∧ Hid (frLoop P pw m root = frLoop P pw 38 0) ∧ Hid (Below W0.heap.size W0 W)) (fun _ i _ _ _ _ => (intOf i + 1).toNat)
 case atStart => exact ⟨38, 0, 37, rfl, Lib.hid (by omega), Nat.le_refl _, rfl, Lib.hid (by omega), Lib.hid rfl, Lib.hid (Below.refl _ _)⟩
 case round =>
  obtain ⟨m, root, z, rfl, hz, hm, rfl, hroot, hfl, hB⟩ := hrel
  by_cases hmx : 0 < m
  ·obtain ⟨j, rfl⟩ : ∃ j, m = j + 1 := ⟨m - 1, by omega⟩
   obtain rfl : z = (j : Int) := by have := hz.out; omega
   have hst := hfl.out
   rw [frLoop_step] at hst
   have hrt := hroot.out
   rw [Nat.pow_succ] at hrt
   have hq0 : 0 < 2 ^ j := Nat.pow_pos (by omega)
   have hpw : (2 : Int) ^ j = ((2 ^ j : Nat) : Int) := by rw [Int.natCast_pow]; rfl
   have hj37 : j ≤ 37 := by omega
   obtain ⟨q, hq⟩ : ∃ q, q = 2 ^ j := ⟨_, rfl⟩
   rw [← hq] at hst hrt hq0 hpw
   have hqj := Lib.hid hq
   clear hq
   obtain ⟨v, hv⟩ : ∃ v, v = root + q := ⟨_, rfl⟩
   have hv38 : v ≤ 274877906944 := by omega
   have hD := fun W => digits_c v (by omega) W
   have hdw := digitsL_wide v
   have hdv := digitsL_val v (by omega)
   have hvc : (v : Int) = (root : Int) + (q : Int) := by omega
   rw [hvc] at hD
   have q0 : (0 : Int) ≤ (j : Int) := by omega
   have q1 : (j : Int) ≤ 37 := by omega
   have q2 : (0 : Int) ≤ (root : Int) := by omega
   have q3 : (root : Int) + (q : Int) ≤ 274877906944 := by omega
   have q4 : (0 : Int) ≤ (q : Int) := by omega
   have q5 : (q : Int) ≤ 274877906944 := by omega
   rw [← hv] at hst
   obtain ⟨dg, hdg⟩ : ∃ dg, dg = digitsL v := ⟨_, rfl⟩
   rw [← hdg] at hD hdw hdv
   have ho := wideA_one dg
   have hsz := (wideA_size dg).trans hdw.1
   replace hdg := Lib.hid hdg
   replace hst := Lib.hid hst
   replace hvc := Lib.hid hvc
   replace hv := Lib.hid hv
   replace hdv := Lib.hid hdv
   replace hdw := Lib.hid hdw
   replace hrt := Lib.hid hrt
   clear hz hroot hfl hmx
   go_wp2_with fail
   refine (hD _).mono ?_
   rintro e w2 ⟨rfl, hb2⟩
   have hB2 := Lib.hid (hB.out.trans (hb2.mono hB.out.size))
   clear hD
   have ht8 := there_new w2 (wideA zeros12) 267 0 12 (by rw [wideA_size]; decide)
   have hrX : row? (putRow (w2.alloc (.cells (wideA zeros12) 267)) w2.heap.size 0 (wideA dg)) w2.heap.size 0 12 = some (wideA dg) := row?_put_same _ _ _ _ _ hsz (by omega) ht8
   go_upto_region 8 with fail
   obtain ⟨w3, hw3⟩ : ∃ w3, w3 = putRow (w2.alloc (.cells (wideA zeros12) 267)) w2.heap.size 0 (wideA dg) := ⟨_, rfl⟩
   have hz3 : w3.heap.size = w2.heap.size + 1 := by rw [hw3, size_put]; simp
   have hB3 := Lib.hid (show Below W0.heap.size W0 w3 from by have := hB2.out; rw [hw3]; (repeat' (first | (with_reducible first | exact Below.refl _ _ | assumption | refine bel_trans (by assumption) ?_ ?_ | refine bel_grown (by assumption) ?_ ?_ ?_ | refine Below.alloc ?_ ?_ _ | refine Below.drew ?_ | refine below_drewN ?_ _ | refine Below.setCell ?_ ?_ _ | refine below_put ?_ ?_ _ _ | exact Nat.le_refl _) | omega | (with_reducible first | refine Nat.le_trans ?_ (Below.size (by assumption)) | refine Nat.le_trans ?_ (World.grownBy.size (by assumption))) | (simp only [World.size_alloc, World.size_setCell, World.size_drew, size_drewN]; omega) | (simp only [World.size_alloc, World.size_setCell, World.size_drew, size_drewN, size_put]; omega) | (intro k hk; simp [Value.ownBlock] at hk; first | done | omega) | (simp [size_drewN] at *; omega))))
   have hX3 : row? w3 w2.heap.size 0 12 = some (wideA dg) := by rw [hw3]; exact hrX
   have hlx : w2.heap.size < w3.heap.size := by omega
   have hxb0 : W0.heap.size ≤ w2.heap.size := hB2.out.size
   rw [← hw3]
   clear hw3 hrX ht8 hB2 hb2 hz3
   generalize w2.heap.size = xb at *
   have ht9 := there_new w3 (wideA zeros12) 267 0 12 (by rw [wideA_size]; decide)
   have hrY : row? (putRow (w3.alloc (.cells (wideA zeros12) 267)) w3.heap.size 0 (wideA dg)) w3.heap.size 0 12 = some (wideA dg) := row?_put_same _ _ _ _ _ hsz (by omega) ht9
   have hne : ¬ xb = w3.heap.size := by omega
   go_upto_region 9 with fail
   obtain ⟨w4, hw4⟩ : ∃ w4, w4 = putRow (w3.alloc (.cells (wideA zeros12) 267)) w3.heap.size 0 (wideA dg) := ⟨_, rfl⟩
   obtain ⟨yb, hyb⟩ : ∃ yb, yb = w3.heap.size := ⟨_, rfl⟩
   have hY4 : row? w4 yb 0 12 = some (wideA dg) := by rw [hw4, hyb]; exact hrY
   have hT4 : there w4 yb 0 12 := by rw [hw4, hyb]; exact there_put _ _ _ _ _ _ _ ht9
   have hb34 : Below w3.heap.size w3 w4 := by rw [hw4]; (repeat' (first | (with_reducible first | exact Below.refl _ _ | assumption | refine bel_trans (by assumption) ?_ ?_ | refine bel_grown (by assumption) ?_ ?_ ?_ | refine Below.alloc ?_ ?_ _ | refine Below.drew ?_ | refine below_drewN ?_ _ | refine Below.setCell ?_ ?_ _ | refine below_put ?_ ?_ _ _ | exact Nat.le_refl _) | omega | (with_reducible first | refine Nat.le_trans ?_ (Below.size (by assumption)) | refine Nat.le_trans ?_ (World.grownBy.size (by assumption))) | (simp only [World.size_alloc, World.size_setCell, World.size_drew, size_drewN]; omega) | (simp only [World.size_alloc, World.size_setCell, World.size_drew, size_drewN, size_put]; omega) | (intro k hk; simp [Value.ownBlock] at hk; first | done | omega) | (simp [size_drewN] at *; omega)))
   have hX4 : row? w4 xb 0 12 = some (wideA dg) := (row?_below _ _ _ hb34 hlx).trans hX3
   have hB4 := Lib.hid (hB3.out.trans (hb34.mono hB3.out.size))
   have hlx4 : xb < yb := by omega
   have hW0x : W0.heap.size ≤ xb := hxb0
   rw [← hw4, ← hyb]
   clear hw4 hrY ht9 hb34 hyb hX3 hB3 hne hlx
   go_wp2_with fail
   -- the power
   go_loopw [10] (fun i W => ∃ (k : Nat) (d : List Nat), 1 ≤ k ∧ k ≤ pw ∧ i = .int .i64 k ∧ Hid (Wide d ∧ wval d = v ^ k) ∧ row? W yb 0 12 = some (wideA d) ∧ there W yb 0 12 ∧ row? W xb 0 12 = some (wideA dg) ∧ Hid (Below W0.heap.size W0 W) ∧ yb < W.heap.size) (fun i _ => pw - (intOf i).toNat)
   case atStart => exact ⟨1, dg, Nat.le_refl _, by omega, rfl, Lib.hid ⟨hdw.out, by rw [hdv.out, Nat.pow_one]⟩, hY4, hT4, hX4, hB4, lt_of_row hY4⟩
   case round =>
    clear hY4 hT4 hX4 hB4
    obtain ⟨k, d, hk1, hkp, rfl, hd, hY, hT, hX, hBk, hly⟩ := hrel
    have k0 : (0 : Int) ≤ (k : Int) := by omega
    have hsd := (wideA_size d).trans hd.out.1.1
    have hod := wideA_one d
    by_cases hkx : k < pw
    ·have k1 : (k : Int) < (pw : Int) := by omega
     have k3 : (k : Int) ≤ 3 := by omega
     have HT := fun W => times_c d dg hd.out.1 hdw.out W
     have hpk := Lib.hid (show (wval d * wval dg) % 65536 ^ 12 = v ^ (k + 1) by
      rw [hd.out.2, hdv.out, ← Nat.pow_succ]
      exact Nat.mod_eq_of_lt (pow_small v (k + 1) hv38 (by omega)))
     go_wp2_with fail
     (with_reducible refine (HT _).mono ?_)
     clear HT
     rintro e w5 ⟨p5, rfl, hp5, hv5, hb5⟩
     have hop := wideA_one p5
     have hsp := (wideA_size p5).trans hp5.1
     have hY5 := (row?_below _ 0 12 hb5 hly).trans hY
     have hT5 := there_below hb5 hly hT
     have hX5 := (row?_below _ 0 12 hb5 (by omega : xb < wr.heap.size)).trans hX
     have hl5 : yb < w5.heap.size := Nat.lt_of_lt_of_le hly hb5.size
     have hB5 := hBk.out.trans (hb5.mono hBk.out.size)
     have hY6 : row? (putRow w5 yb 0 (wideA p5)) yb 0 12 = some (wideA p5) := row?_put_same _ _ _ _ _ hsp (by omega) hT5
     have hT6 : there (putRow w5 yb 0 (wideA p5)) yb 0 12 := there_put _ _ _ _ _ _ _ hT5
     have hX6 : row? (putRow w5 yb 0 (wideA p5)) xb 0 12 = some (wideA dg) := (row?_put_far _ _ _ _ _ _ _ (by omega)).trans hX5
     have hB6 := Lib.hid (show Below W0.heap.size W0 (putRow w5 yb 0 (wideA p5)) from below_put hB5 (by omega) _ _)
     have hl6 : yb < (putRow w5 yb 0 (wideA p5)).heap.size := by rw [size_put]; exact hl5
     have hd6 := Lib.hid (show Wide p5 ∧ wval p5 = v ^ (k + 1) from ⟨hp5, hv5.trans hpk.out⟩)
     clear hb5 hY hT hX hBk hd hY5 hX5 hB5
     go_wp2_with fail
     go_roundw
     case rel => exact ⟨k + 1, p5, by omega, by omega, by go_num, hd6, hY6, hT6, hX6, hB6, hl6⟩
     case measure => (first | (simp [intOf]; done) | (simp [intOf]; omega))
    ·obtain rfl : k = pw := by omega
     have HA := fun W => above_c d most hd.out.1 hMw.out W
     rw [hMv.out, hd.out.2] at HA
     have hM4 : row? wr w.heap.size 0 12 = some (wideA most) := (row?_below _ 0 12 hBk.out (by omega)).trans (row?_of_heap hM0.out ((wideA_size most).trans hMw.out.1))
     clear hdw hdv hd hX hT
     go_wp2_with fail
     (with_reducible refine (HA _).mono ?_)
     clear HA
     rintro e w5 ⟨rfl, hb5⟩
     have hB5 := Lib.hid (hBk.out.trans (hb5.mono hBk.out.size))
     clear hb5 hBk hY hM4
     by_cases hle : v ^ k ≤ P
     ·have hdd : decide (P < v ^ k) = false := decide_eq_false (by omega)
      have hst2 := Lib.hid (show frLoop P k j v = frLoop P k 38 0 by have := hst.out; rwa [if_pos hle] at this)
      have hrr := Lib.hid (show v + 2 ^ j ≤ 2 ^ 38 from by have := hrt.out; have := hv.out; have := hqj.out; omega)
      clear hst hle
      go_wp2_with fail
      go_roundw
      case rel => exact ⟨j, v, (j : Int) - 1, rfl, Lib.hid rfl, by omega, congrArg (Value.int .u64) hvc.out.symm, hrr, hst2, hB5⟩
      case measure => (first | (simp [intOf]; done) | (simp [intOf]; omega))
     ·have hdd : decide (P < v ^ k) = true := decide_eq_true (by omega)
      have hst2 := Lib.hid (show frLoop P k j root = frLoop P k 38 0 by have := hst.out; rwa [if_neg hle] at this)
      have hrr := Lib.hid (show root + 2 ^ j ≤ 2 ^ 38 from by have := hrt.out; have := hqj.out; omega)
      clear hst hle
      go_wp2_with fail
      go_roundw
      case rel => exact ⟨j, root, (j : Int) - 1, rfl, Lib.hid rfl, by omega, rfl, hrr, hst2, hB5⟩
      case measure => (first | (simp [intOf]; done) | (simp [intOf]; omega))
  ·obtain rfl : m = 0 := by omega
   obtain rfl : z = -1 := by have := hz.out; omega
   have hre : root % 4294967296 = fr := by rw [hfr.out, ← hfl.out]; rfl
   have hx : (root : Int) % 4294967296 = (fr : Int) := by omega
   have q0 : (0 : Int) ≤ (root : Int) := by omega
   clear hre
   clear hfl hfr hroot hz
   go_wp2_with fail
   go_ret
   exact ⟨rfl, hB0.out.trans (hB.out.mono hB0.out.size)⟩
end Go.Proofs.Ythdjhbiigmcecaa
