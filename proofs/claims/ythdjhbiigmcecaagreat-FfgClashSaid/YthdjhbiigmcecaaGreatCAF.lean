/- Texts of this proof, one behind the other: Codec1, Concat, ShaS, Slices, Ops. -/
import Derived.Test.YthdjhbiigmcecaaGreatCAE
import Derived.Deep.RegionHeld3
import Derived.Test.YthdjhbiigmcecaaGreatCAB
import Derived.Test.YthdjhbiigmcecaaGreatCAC
import Derived.Handy
import Derived.Deep.QuietTactic
import Derived.BigQuiet
set_option linter.unusedVariables false
set_option linter.unusedSimpArgs false
/- Contracts of package codec: numbers, points, votes as bytes. -/
namespace Go.Proofs.YthdjhbiigmcecaaGreat
open Go.RowKit

theorem number8 (n : Nat) (w : World) (hn : n < 18446744073709551616) : Calls Tryz.prog 63 #[.int .u64 n, .int .i64 8] w fun e w' => ∃ v, e = .returned v ∧ Own w' w.heap.size v (be 8 n) ∧ Below w.heap.size w w' := by
 have HC := put8 n w hn
 clear hn
 go_enter Tryz.func63, Tryz.ntmps63
 go_wp2_with fail
 refine HC.mono ?_
 clear HC
 rintro e w1 ⟨v, rfl, ho, hb⟩
 go_wp2_with fail
 go_ret
 exact ⟨v, rfl, ho, hb⟩
theorem number1 (n : Nat) (w : World) (hn : n < 256) : Calls Tryz.prog 63 #[.int .u64 n, .int .i64 1] w fun e w' => ∃ v, e = .returned v ∧ Own w' w.heap.size v (be 1 n) ∧ Below w.heap.size w w' := by
 have HC := put1 n w hn
 clear hn
 go_enter Tryz.func63, Tryz.ntmps63
 go_wp2_with fail
 refine HC.mono ?_
 clear HC
 rintro e w1 ⟨v, rfl, ho, hb⟩
 go_wp2_with fail
 go_ret
 exact ⟨v, rfl, ho, hb⟩

/-- a point's bytes -/
def ptBytes (p : Pt) : List UInt8 := be 8 p.epoch.toNat ++ p.name.1
theorem ptBytes_length (p : Pt) : (ptBytes p).length = 40 := by simp [ptBytes, be_length, p.name.2]

/-- the name's cells of a point that lies in memory -/
theorem name_reads {w : World} {b off : Nat} {p : Pt} (h : row? w b off 33 = some (pointA p)) (c : Nat) (hc : 32 ≤ c) : BytesR w ⟨some ⟨b, off + 1, none⟩, 32, c⟩ p.name.1 := by
 obtain ⟨cs, t, fr, hg, hle, hl⟩ := row?_some h
 refine ⟨p.name.2.symm, hc, fun _ => ⟨b, off + 1, rfl, fun i hi => ?_⟩⟩
 rw [cell_of_row w b _ cs t fr hg]
 have e1 : (pointA p)[1 + i]? = some (byteV p.name.1[i]) := by
  have := p.name.2
  rw [pointA, Array.getElem?_append_right (by simp)]
  simp [hashA, hi]
 rw [hl, Array.getElem?_extract] at e1
 have := p.name.2
 simp only [show 1 + i < min (off + 33) cs.size - off by omega, if_true] at e1
 rw [← e1]
 congr 1
 omega

set_option maxRecDepth 100000 in
set_option maxHeartbeats 800000 in
theorem point_c (p : Pt) (w : World) : Calls Tryz.prog 101 #[.agg (pointA p)] w fun e w' => ∃ v, e = .returned v ∧ Own w' w.heap.size v (ptBytes p) ∧ Below w.heap.size w w' := by
 obtain ⟨i0, hi, hz0, hz1, hz2⟩ := info_parts info_u8
 have hn := p.epoch.toNat_lt
 have HC := fun W => number8 p.epoch.toNat W (by omega)
 clear hn
 go_enter Tryz.func101, Tryz.ntmps101
 go_wp2_with fail
 go_region_held3 (fun w' => w'.cell? ⟨w.heap.size, 0, none⟩ = some (.int .u64 (p.epoch.toNat : Int)))
  (first | go_keep | (rw [k1 _ _ (by simp)]; simp) | (rw [hb2.cell (p := ⟨w.heap.size, 0, none⟩) (by simp)]; simp))
  (first
   | (go_simp; go_at_call 63; refine (HC _).mono ?_; clear HC; rintro e w1 ⟨v, rfl, ho, hb⟩; obtain ⟨k1, k2, k3⟩ := kept hb)
   | (refine step_append_bytes _ (by rfl) (.tmp 5) (.tmp 7) _ (by rfl) w.heap.size 5 i0 _ Tryz.underlying74 hi hz0 hz1 hz2 rfl v (be 8 p.epoch.toNat) (by rfl) (ho.more (by simp)) ⟨some ⟨w.heap.size, 1, none⟩, 32, 32⟩ p.name.1 (by rfl) (name_reads (off := 0) (by rw [k3 _ _ _ (by simp)]; simp [row?_drew, row?_new, ext_self]) 32 (Nat.le_refl _)) (by simp [be_length, p.name.2]) (by have := hb.size; simp at this; omega) ?_; intro v' w2 hown hg _; have hb2 := bel_grown hg hb hb.size (fun k hk => (ho.lt k hk).1)))
 go_wp2_with fail
 go_ret
 exact ⟨v', rfl, hown, by (repeat' (first | (with_reducible first | exact Below.refl _ _ | assumption | refine bel_trans (by assumption) ?_ ?_ | refine bel_grown (by assumption) ?_ ?_ ?_ | refine Below.alloc ?_ ?_ _ | refine Below.drew ?_ | refine below_drewN ?_ _ | refine Below.setCell ?_ ?_ _ | refine below_put ?_ ?_ _ _ | exact Nat.le_refl _) | omega | (with_reducible first | refine Nat.le_trans ?_ (Below.size (by assumption)) | refine Nat.le_trans ?_ (World.grownBy.size (by assumption))) | (simp only [World.size_alloc, World.size_setCell, World.size_drew, size_drewN]; omega) | (simp only [World.size_alloc, World.size_setCell, World.size_drew, size_drewN, size_put]; omega) | (intro k hk; simp [Value.ownBlock] at hk; first | done | omega) | (simp [size_drewN] at *; omega)))⟩
end Go.Proofs.YthdjhbiigmcecaaGreat

/- Contracts: slices.Grow of nil, slices.Concat, of bytes. -/
namespace Go.Proofs.YthdjhbiigmcecaaGreat
open Go.RowKit

theorem run_append_zeros {P : Program} (w : World) (t tx ty e : TypeId) (i : TypeInfo) (z : Value) (ht : P.underlying t = some (.slice e)) (hx : P.underlying tx = some (.int .i64)) (hi : P.info? e = some i) (hz : i.zero = some z) (hs : i.size = 1) (hb : i.bytes = 1)
  (n : Nat) (h0 : 0 < n) (hn : n ≤ 140737488355328) :
  (Builtin.append_ #[t, tx] ty #[.slice none 0 0, .int .i64 (n : Int)]).run P w =
   .ok (.slice (some ⟨w.heap.size, 0, none⟩) n (grownCap w n 0 e)) (w.drew.alloc (.cells (Builtin.zeroCells z.cells n ++ Builtin.zeroCells z.cells (grownCap w n 0 e - n)) e)) := by
 have hw : IntKind.i64.wrap (n : Int) = n := IntWalk.i64_in _ (by omega)
 have h1 : ¬ ((n : Int) < 0) := by omega
 have h2 : ¬ (281474976710656 < (n : Int)) := by omega
 have h3 : ¬ (9223372036854775807 < (n : Int)) := by omega
 have h4 : ¬ (281474976710656 < Builtin.nextslicecap n 0) := by
  have := nextslicecap_zero h0
  omega
 have h5 : n ≠ 0 := by omega
 simp [Builtin.append_, run_underlying ht, run_underlying hx, sizeOf, typeInfo, zeroValue, hi, hz, hs, hb, hw, h1, h2, h3, h4, h5, asInt, asIntOf, Builtin.firstCells, Question.forced, newRow, grownCap]

theorem wpList_append_run {P : Program} (w : World) {ops : Array Oper} {rest : List Oper} {o : Oper} {a : Act} {Q : Exit → Act → World → Prop} (hgd : o.guard = none) (px py : Operand) (t tx : TypeId)
  (ho : o.op = .call { callee := .builtin .append, args := #[px, py], argTypes := #[t, tx] }) (x y v' : Value) (w' : World) (hx : a.eval px = x) (hy : a.eval py = y)
  (hrun : (Builtin.append_ #[t, tx] o.type #[x, y]).run P w = .ok v' w') (h : wpList P ops Q rest (a.put o.dst v') w') : wpList P ops Q (o :: rest) a w :=
 wpList_plain hgd fun K hK => by
  unfold Oper.wp execOp
  simp only [ho, resolve, invoke, builtin, Sem.run_bind, Sem.run_pure, Result.andThen_ok, List.map_toArray, List.map_cons, List.map_nil, hx, hy, hrun]
  exact hK _ _ h

set_option maxRecDepth 100000 in
theorem growBytes_c (n : Nat) (w : World) (h0 : 0 < n) (hn : n ≤ 140737488355328) :
  Calls Tryz.prog 80 #[.slice none 0 0, .int .i64 n] w fun e w' => ∃ v, e = .returned v ∧ Own w' w.heap.size v [] ∧ Below w.heap.size w w' := by
 obtain ⟨i0, hi, hz0, hz1, hz2⟩ := info_parts info_u8
 have hr := fun ty W => run_append_zeros (P := Tryz.prog) W 74 3 ty 5 i0 _ Tryz.underlying74 Tryz.underlying3 hi hz0 hz1 hz2 n h0 hn
 have hge := grownCap_ge w n 0 5
 have hle := grownCap_le_maxLen w n 0 5 (by simp only [maxLen]; omega)
 have HO : Own (w.drew.alloc (.cells (Builtin.zeroCells (Value.int .u8 0).cells n ++ Builtin.zeroCells (Value.int .u8 0).cells (grownCap w n 0 5 - n)) 5)) w.heap.size (.slice (some ⟨w.heap.size, 0, none⟩) 0 (grownCap w n 0 5)) [] := by
  refine ⟨by simp, .inr ⟨w.heap.size, _, rfl, Nat.le_refl _, by simp, Nat.zero_le _, hle, fun j hj => ?_, fun j _ => frozen_of_row _ w.heap.size j _ 5 (heap_alloc_new w.drew _), fun j u hu => by simp at hu⟩⟩
  rw [cell_of_row _ w.heap.size j _ 5 _ (heap_alloc_new w.drew _)]
  have hsz : (Builtin.zeroCells (Value.int .u8 0).cells n ++ Builtin.zeroCells (Value.int .u8 0).cells (grownCap w n 0 5 - n)).size = grownCap w n 0 5 := by
   rw [Array.size_append, size_zeroCells, size_zeroCells]
   simp [Value.cells]
   omega
  rw [Array.getElem?_eq_getElem (by rw [hsz]; omega)]
  rfl
 have HO := Lib.hid HO
 have h1 : ¬ ((n : Int) < 0) := by omega
 have i0' : (0 : Int) ≤ (n : Int) := by omega
 generalize hcap : grownCap w n 0 5 = cap at *
 have Hcap := Lib.hid hcap
 clear hle
 have hce : (0 : Int) ≤ (cap : Int) := by omega
 go_enter Tryz.func80, Tryz.ntmps80
 go_wp2_with (at_builtin; refine wpList_append_run _ rfl _ _ _ _ rfl _ _ _ _ rfl rfl (hr _ _) ?_)
 go_ret
 exact ⟨_, rfl, HO.out, by (repeat' (first | (with_reducible first | exact Below.refl _ _ | assumption | refine bel_trans (by assumption) ?_ ?_ | refine bel_grown (by assumption) ?_ ?_ ?_ | refine Below.alloc ?_ ?_ _ | refine Below.drew ?_ | refine below_drewN ?_ _ | refine Below.setCell ?_ ?_ _ | refine below_put ?_ ?_ _ _ | exact Nat.le_refl _) | omega | (with_reducible first | refine Nat.le_trans ?_ (Below.size (by assumption)) | refine Nat.le_trans ?_ (World.grownBy.size (by assumption))) | (simp only [World.size_alloc, World.size_setCell, World.size_drew, size_drewN]; omega) | (simp only [World.size_alloc, World.size_setCell, World.size_drew, size_drewN, size_put]; omega) | (intro k hk; simp [Value.ownBlock] at hk; first | done | omega) | (simp [size_drewN] at *; omega)))⟩

/-- pieces, in a row of slices -/
def PiecesAt (w : World) (b : Nat) (ss : List Sl) (ls : List (List UInt8)) : Prop := ss.length = ls.length ∧ (∀ (i : Nat) (h : i < ss.length), w.cell? ⟨b, i, none⟩ = some ss[i].v) ∧ ∀ (i : Nat) (h : i < ss.length) (h' : i < ls.length), BytesR w ss[i] ls[i]
def sumLen (ls : List (List UInt8)) : Nat := (ls.map List.length).sum
theorem sumLen_succ (ls : List (List UInt8)) (k : Nat) (h : k < ls.length) : sumLen (ls.take (k + 1)) = sumLen (ls.take k) + ls[k].length := by
 rw [List.take_succ_eq_append_getElem h, sumLen, List.map_append, List.sum_append]
 rfl
theorem sumLen_le (ls : List (List UInt8)) (k : Nat) : sumLen (ls.take k) ≤ sumLen ls := by
 have := congrArg sumLen (List.take_append_drop k ls)
 simp only [sumLen, List.map_append, List.sum_append] at this ⊢
 omega
theorem flatten_length' (ls : List (List UInt8)) : ls.flatten.length = sumLen ls := by simp [sumLen, List.length_flatten]
theorem flatten_succ (ls : List (List UInt8)) (k : Nat) (h : k < ls.length) : (ls.take (k + 1)).flatten = (ls.take k).flatten ++ ls[k] := by
 rw [List.take_succ_eq_append_getElem h, List.flatten_append]
 simp only [List.flatten_cons, List.flatten_nil, List.append_nil]

set_option maxRecDepth 100000 in
set_option maxHeartbeats 800000 in
theorem concat_c (b c : Nat) (ss : List Sl) (ls : List (List UInt8)) (w : World) (hp : PiecesAt w b ss ls) (hn : ls.length ≤ 1000) (h0 : 0 < sumLen ls) (hs : sumLen ls ≤ 140737488355328) :
  Calls Tryz.prog 62 #[.slice (some ⟨b, 0, none⟩) ls.length c] w fun e w' => ∃ v, e = .returned v ∧ Own w' w.heap.size v ls.flatten ∧ Below w.heap.size w w' := by
 obtain ⟨i0, hi, hz0, hz1, hz2⟩ := info_parts info_u8
 obtain ⟨hl, hc, hr⟩ := hp
 have Hl := Lib.hid hl
 have Hc := Lib.hid hc
 have Hr := Lib.hid hr
 clear hl hc hr
 go_enter Tryz.func62, Tryz.ntmps62
 go_wp2_with fail
 go_loop [3, 11] (fun u i => ∃ k : Nat, k ≤ ls.length ∧ u = .int .i64 (sumLen (ls.take k) : Nat) ∧ i = .int .i64 k) (fun _ i => ls.length - (intOf i).toNat)
 case atStart => exact ⟨0, Nat.zero_le _, rfl, rfl⟩
 case round =>
  obtain ⟨k, hk, rfl, rfl⟩ := hrel
  have hle := sumLen_le ls k
  have i0' : (0 : Int) ≤ (k : Int) := by omega
  by_cases hkx : k < ls.length
  ·have hks : k < ss.length := by have := Hl.out; omega
   have hcell := Hc.out k hks
   have hlen := (Hr.out k hks hkx).1
   have hsu := sumLen_succ ls k hkx
   have hle1 := sumLen_le ls (k + 1)
   have i1 : (k : Int) < (ls.length : Int) := by omega
   generalize ls[k] = lk at *
   generalize ss[k] = sk at *
   obtain ⟨sa, sn, sc⟩ := sk
   simp only at hlen
   subst hlen
   dsimp only [Sl.v] at hcell
   generalize sumLen (ls.take k) = sk at *
   have Hsu := Lib.hid hsu
   have i2 : sk + lk.length ≤ sumLen ls := by omega
   have i3 : ¬ ((sk : Int) + (lk.length : Int) < 0) := by omega
   clear hsu hle1
   go_wp2_with fail
   go_round
   case rel => exact ⟨k + 1, by omega, by rw [Hsu.out]; go_num, by go_num⟩
   case measure => simp [intOf]; omega
  ·have hsu : sumLen (ls.take k) = sumLen ls := by rw [List.take_of_length_le (by omega)]
   rw [hsu]
   clear hsu hle
   go_wp2_with fail
   refine (growBytes_c (sumLen ls) w h0 hs).mono ?_
   rintro e w1 ⟨v, rfl, ho, hb1⟩
   go_wp2_with fail
   go_loopw [6, 27] (fun u i w' => ∃ k : Nat, k ≤ ls.length ∧ Own w' w.heap.size u (ls.take k).flatten ∧ i = .int .i64 k ∧ Below w.heap.size w w') (fun _ i _ => ls.length - (intOf i).toNat)
   case atStart => exact ⟨0, Nat.zero_le _, ho, rfl, hb1⟩
   case round =>
    obtain ⟨k, hk, hown, rfl, hB⟩ := hrel
    have i0' : (0 : Int) ≤ (k : Int) := by omega
    by_cases hkx : k < ls.length
    ·have hks : k < ss.length := by have := Hl.out; omega
     have hbl := lt_of_cell (Hc.out k hks)
     have hcell := (hB.cell (p := ⟨b, k, none⟩) hbl).trans (Hc.out k hks)
     have hread := (Hr.out k hks hkx).keep hB
     have hfl := flatten_succ ls k hkx
     have hlen := flatten_length' (ls.take k)
     have hle := sumLen_le ls (k + 1)
     have hsu := sumLen_succ ls k hkx
     have i1 : (k : Int) < (ls.length : Int) := by omega
     have hfit : (ls.take k).flatten.length + ls[k].length ≤ 140737488355328 := by omega
     generalize ls[k] = lk at *
     generalize ss[k] = sk at *
     have Hfl := Lib.hid hfl
     have Hread := Lib.hid hread
     clear hfl hread hlen hle hsu
     have hz := hB.size
     go_wp2_with (at_builtin; refine wpList_append_bytes _ rfl _ _ _ rfl w.heap.size 5 i0 _ Tryz.underlying74 hi hz0 hz1 hz2 rfl _ _ rfl hown sk lk rfl Hread.out hfit hz ?_; intro v' w2 hown2 hg2 _)
     have hB2 : Below w.heap.size w w2 := bel_grown hg2 hB hz (fun k hk => (hown.lt k hk).1)
     go_roundw
     case rel => exact ⟨k + 1, by omega, by rw [Hfl.out]; exact hown2, by go_num, hB2⟩
     case measure => simp [intOf]; omega
    ·have hfl : (ls.take k).flatten = ls.flatten := by rw [List.take_of_length_le (by omega)]
     rw [hfl] at hown
     clear hfl
     go_wp2_with fail
     go_ret
     exact ⟨_, rfl, hown, hB⟩
end Go.Proofs.YthdjhbiigmcecaaGreat

/- sha.Sum. -/
namespace Go.Proofs.YthdjhbiigmcecaaGreat
open Go.RowKit

theorem start_res : Tryz.f58.results = #[.cell 0 117] := by kernel_rfl
theorem constants_res : Tryz.f59.results = #[.cell 0 119] := by kernel_rfl
def kA : Array Value := (shaK.map u32V).toArray
set_option maxRecDepth 100000 in
set_option maxHeartbeats 800000 in
theorem start_c (w : World) : Calls Tryz.prog 58 #[] w fun e w' => e = .returned (.agg (s8A shaH)) ∧ Below w.heap.size w w' := by
 go_enter Tryz.func58, Tryz.ntmps58
 go_wp2_with fail
 have hrr : row? (w.alloc (.cells #[.int .u32 1779033703, .int .u32 3144134277, .int .u32 1013904242, .int .u32 2773480762, .int .u32 1359893119, .int .u32 2600822924, .int .u32 528734635, .int .u32 1541459225] 117)) w.heap.size 0 8 = some (s8A shaH) := by
  rw [row?_new]
  rfl
 refine ret_row Tryz.isAgg117 Tryz.sizeOf117 start_res (x := .pointer (some ⟨w.heap.size, 0, none⟩)) w.heap.size 0 rfl rfl (by rw [hrr]; rfl) rfl ?_
 rw [hrr]
 exact ⟨rfl, bel_a _ _⟩
theorem wpList_build_as {P : Program} {ops : Array Oper} {rest : List Oper} {o : Oper} {a : Act} {w : World} {Q : Exit → Act → World → Prop} (hg : o.guard = none) (t : TypeId) (parts : Array (Nat × Operand)) (ho : o.op = .build t parts) (cells : Array Value)
  (hf : P.built t (parts.map fun (i, x) => (i, a.eval x)).toList = some cells)
  (h : wpList P ops Q rest (a.put o.dst (.agg cells)) w) : wpList P ops Q (o :: rest) a w :=
 wpList_build hg t parts ho (by rw [hf]; rfl) (by rw [hf]; exact h)
theorem info_k64 : (Tryz.prog.info? 119).map (·.size) = some kA.size := by kernel_rfl
theorem kA_size : kA.size = 64 := by kernel_rfl
theorem kA_one : kA.all (·.oneCell') = true := by kernel_rfl
set_option maxRecDepth 100000 in
set_option maxHeartbeats 800000 in
theorem constants_c (w : World) : Calls Tryz.prog 59 #[] w fun e w' => e = .returned (.agg kA) ∧ Below w.heap.size w w' := by
 go_enter Tryz.func59, Tryz.ntmps59
 go_upto_region 1 with fail
 refine wp_region_lit ?_
 refine wpList_build_as rfl 119 _ rfl kA (by kernel_rfl) ?_
 refine wpList_store_row rfl 119 (.tmp 0) (.tmp 1) rfl w.heap.size kA rfl rfl 119 _ (heap_alloc_new w _) info_k64 (by rw [kA_size]; rfl) kA_one ?_
 refine wpList_nil ?_
 rename_i hK
 refine hK _ _ ?_
 have hg := setRow_heap _ w.heap.size _ kA _ _ (heap_alloc_new w (.cells (#[.int .u32 0, .int .u32 0, .int .u32 0, .int .u32 0, .int .u32 0, .int .u32 0, .int .u32 0, .int .u32 0, .int .u32 0, .int .u32 0, .int .u32 0, .int .u32 0, .int .u32 0, .int .u32 0, .int .u32 0, .int .u32 0, .int .u32 0, .int .u32 0, .int .u32 0, .int .u32 0, .int .u32 0, .int .u32 0, .int .u32 0, .int .u32 0, .int .u32 0, .int .u32 0, .int .u32 0, .int .u32 0, .int .u32 0, .int .u32 0, .int .u32 0, .int .u32 0, .int .u32 0, .int .u32 0, .int .u32 0, .int .u32 0, .int .u32 0, .int .u32 0, .int .u32 0, .int .u32 0, .int .u32 0, .int .u32 0, .int .u32 0, .int .u32 0, .int .u32 0, .int .u32 0, .int .u32 0, .int .u32 0, .int .u32 0, .int .u32 0, .int .u32 0, .int .u32 0, .int .u32 0, .int .u32 0, .int .u32 0, .int .u32 0, .int .u32 0, .int .u32 0, .int .u32 0, .int .u32 0, .int .u32 0, .int .u32 0, .int .u32 0, .int .u32 0]) 119))
 have hB : Below w.heap.size w ((w.alloc (.cells (#[.int .u32 0, .int .u32 0, .int .u32 0, .int .u32 0, .int .u32 0, .int .u32 0, .int .u32 0, .int .u32 0, .int .u32 0, .int .u32 0, .int .u32 0, .int .u32 0, .int .u32 0, .int .u32 0, .int .u32 0, .int .u32 0, .int .u32 0, .int .u32 0, .int .u32 0, .int .u32 0, .int .u32 0, .int .u32 0, .int .u32 0, .int .u32 0, .int .u32 0, .int .u32 0, .int .u32 0, .int .u32 0, .int .u32 0, .int .u32 0, .int .u32 0, .int .u32 0, .int .u32 0, .int .u32 0, .int .u32 0, .int .u32 0, .int .u32 0, .int .u32 0, .int .u32 0, .int .u32 0, .int .u32 0, .int .u32 0, .int .u32 0, .int .u32 0, .int .u32 0, .int .u32 0, .int .u32 0, .int .u32 0, .int .u32 0, .int .u32 0, .int .u32 0, .int .u32 0, .int .u32 0, .int .u32 0, .int .u32 0, .int .u32 0, .int .u32 0, .int .u32 0, .int .u32 0, .int .u32 0, .int .u32 0, .int .u32 0, .int .u32 0, .int .u32 0]) 119)).setRow w.heap.size kA) := ⟨rfl, rfl, rfl, by rw [setRow_size]; simp, fun k hk => by rw [setRow_other _ _ _ _ (by omega)]; exact Below.heap_alloc w _ k hk⟩
 generalize (w.alloc _).setRow w.heap.size kA = W1 at *
 have hrr : row? W1 w.heap.size 0 64 = some kA := rowHeap hg kA_size
 have Hg := Lib.hid hg
 clear hg
 go_wp2_with fail
 refine ret_row Tryz.isAgg119 Tryz.sizeOf119 constants_res (x := .pointer (some ⟨w.heap.size, 0, none⟩)) w.heap.size 0 rfl rfl (by rw [hrr]; rfl) rfl ?_
 rw [hrr]
 exact ⟨rfl, hB⟩
theorem sum_res : Tryz.f46.results = #[.cell 2 24] := by kernel_rfl
set_option maxRecDepth 100000 in
set_option maxHeartbeats 1600000 in
theorem sum_c (b c : Nat) (ss : List Sl) (ls : List (List UInt8)) (w : World) (hp : PiecesAt w b ss ls) (hn : ls.length ≤ 1000) (hs : ls.flatten.length ≤ 100000000) :
  Calls Tryz.prog 46 #[.slice (some ⟨b, 0, none⟩) ls.length c] w fun e w' => e = .returned (.agg (hashA (shaSum ls.flatten))) ∧ Below w.heap.size w w' := by
 obtain ⟨hl, hc, hr⟩ := hp
 have Hl := Lib.hid hl
 have Hc := Lib.hid hc
 have Hr := Lib.hid hr
 clear hl hc hr
 obtain ⟨hv, hhv⟩ : ∃ hv : Hash, hv = shaSum ls.flatten := ⟨_, rfl⟩
 rw [← hhv]
 replace hhv := Lib.hid hhv
 go_enter Tryz.func46, Tryz.ntmps46
 go_wp2_with fail
 refine (start_c _).mono ?_
 rintro e w1 ⟨rfl, hb1⟩
 go_wp2_with fail
 refine (constants_c _).mono ?_
 rintro e w2 ⟨rfl, hb2⟩
 rename_i hK
 refine hK _ _ ?_
 refine wpList_build_as rfl 123 _ rfl (strL shaH (List.replicate 64 0) 0 0).toArray (by kernel_rfl) ?_
 have hB2 : Below w.heap.size w w2 := by (repeat' (first | (with_reducible first | exact Below.refl _ _ | assumption | refine bel_trans (by assumption) ?_ ?_ | refine bel_grown (by assumption) ?_ ?_ ?_ | refine Below.alloc ?_ ?_ _ | refine Below.drew ?_ | refine below_drewN ?_ _ | refine Below.setCell ?_ ?_ _ | refine below_put ?_ ?_ _ _ | exact Nat.le_refl _) | omega | (with_reducible first | refine Nat.le_trans ?_ (Below.size (by assumption)) | refine Nat.le_trans ?_ (World.grownBy.size (by assumption))) | (simp only [World.size_alloc, World.size_setCell, World.size_drew, size_drewN]; omega) | (simp only [World.size_alloc, World.size_setCell, World.size_drew, size_drewN, size_put]; omega) | (intro k hk; simp [Value.ownBlock] at hk; first | done | omega) | (simp [size_drewN] at *; omega)))
 have hz2 : w.heap.size < w2.heap.size := by have := hb1.size; have := hb2.size; simp at *; omega
 have hh2 : w2.heap[w.heap.size]? = some (.cells (hashA zeroHash) 24 (0, 0)) := (hb2.block _ (by have := hb1.size; simp at this; omega)).trans ((hb1.block _ (by simp)).trans (heap_alloc_new w _))
 have hX0 := Lib.hid (show StX (w2.alloc (Obj.cells (strL shaH (List.replicate 64 0) 0 0).toArray 123)) w2.heap.size (ls.take 0).flatten (ls.take 0).flatten.length from
  ⟨List.replicate 64 0, ⟨by simp, by
   show _ = some (Obj.cells (strL (shaRun shaH []) (List.replicate 64 0) 0 0).toArray _ _)
   rw [shaRun_short shaH [] (by simp)]
   exact heap_alloc_new w2 _⟩, by simp [shaTail]⟩)
 have hB3 : Below w.heap.size w (w2.alloc (.cells (strL shaH (List.replicate 64 0) 0 0).toArray 123)) := by (repeat' (first | (with_reducible first | exact Below.refl _ _ | assumption | refine bel_trans (by assumption) ?_ ?_ | refine bel_grown (by assumption) ?_ ?_ ?_ | refine Below.alloc ?_ ?_ _ | refine Below.drew ?_ | refine below_drewN ?_ _ | refine Below.setCell ?_ ?_ _ | refine below_put ?_ ?_ _ _ | exact Nat.le_refl _) | omega | (with_reducible first | refine Nat.le_trans ?_ (Below.size (by assumption)) | refine Nat.le_trans ?_ (World.grownBy.size (by assumption))) | (simp only [World.size_alloc, World.size_setCell, World.size_drew, size_drewN]; omega) | (simp only [World.size_alloc, World.size_setCell, World.size_drew, size_drewN, size_put]; omega) | (intro k hk; simp [Value.ownBlock] at hk; first | done | omega) | (simp [size_drewN] at *; omega)))
 have hh3 : (w2.alloc (.cells (strL shaH (List.replicate 64 0) 0 0).toArray 123)).heap[w.heap.size]? = some (.cells (hashA zeroHash) 24 (0, 0)) := (Below.heap_alloc w2 _ _ hz2).trans hh2
 generalize (strL shaH (List.replicate 64 0) 0 0).toArray = cs at *
 clear hb1 hb2 hh2 hB2 hK
 go_wp2_with fail
 generalize w2.alloc (Obj.cells cs 123) = w3 at *
 generalize w2.heap.size = r at *
 have hlen : ∀ k, k ≤ ls.length → (ls.take k).flatten.length ≤ 100000000 := fun k hk => by
  have := congrArg (fun l => l.flatten.length) (List.take_append_drop k ls)
  simp only [List.flatten_append, List.length_append] at this
  omega
 have Hlen := Lib.hid hlen
 have hHB3 := Lib.hid hB3
 have hHh3 := Lib.hid hh3
 clear hlen hB3 hh3 hs
 go_loopw [5, 12] (fun _ i W => ∃ k : Nat, k ≤ ls.length ∧ i = .int .i64 k ∧ Hid (StX W r (ls.take k).flatten (ls.take k).flatten.length) ∧ Hid (w3.grownBy W (some r))) (fun _ i _ => ls.length - (intOf i).toNat)
 case atStart => exact ⟨0, Nat.zero_le _, rfl, hX0, Lib.hid (World.grownBy.refl _ _)⟩
 case round =>
  clear hX0
  obtain ⟨k, hk, rfl, hX, hG⟩ := hrel
  have i0 : (0 : Int) ≤ (k : Int) := by omega
  have hBw : Below w.heap.size w wr := bel_grown hG.out hHB3.out hHB3.out.size (fun j hj => by injection hj with hj; omega)
  by_cases hkx : k < ls.length
  ·have hks : k < ss.length := by have := Hl.out; omega
   have hcell0 := Hc.out k hks
   have hbr := Hr.out k hks hkx
   have hbw : b < w.heap.size := lt_of_cell hcell0
   have hcell := (hBw.cell (p := ⟨b, k, none⟩) hbw).trans hcell0
   have hfl : (ls.take (k + 1)).flatten = (ls.take k).flatten ++ ls[k] := by
    rw [List.take_succ_eq_append_getElem hkx, List.flatten_append]
    simp only [List.flatten_cons, List.flatten_nil, List.append_nil]
   have hle := Hlen.out (k + 1) hkx
   rw [hfl, List.length_append] at hle
   have hoff : Off r ss[k] ls[k] := fun hne a ha => by
    obtain ⟨b1, o1, e1, hc1⟩ := hbr.2.2 hne
    rw [ha] at e1
    injection e1 with e1
    rw [e1]
    have := lt_of_cell (hc1 0 (by cases hl : ls[k] with
     | nil => exact absurd hl hne
     | cons x xs => simp))
    show b1 ≠ r
    omega
   have HA := fun (W : World) (hW : StX W r (ls.take k).flatten (ls.take k).flatten.length) (h2 : BytesR W ss[k] ls[k]) => add_c r (ls.take k).flatten (ls.take k).flatten.length ss[k] ls[k] W hW h2 hoff (by omega)
   have hbk := Lib.hid (hbr.keep hBw)
   generalize ls[k] = lk at *
   generalize ss[k] = sk at *
   have Hfl := Lib.hid hfl
   clear hfl hbr hcell0 hoff
   have i1 : (k : Int) < (ls.length : Int) := by omega
   obtain ⟨sa, sn, sc⟩ := sk
   dsimp only [Sl.v] at hcell
   go_wp2_with fail
   (with_reducible refine (HA _ hX.out hbk.out).mono ?_)
   rintro e w4 ⟨rfl, hX4, hG4⟩
   have hX5 := Lib.hid (show StX w4 r (ls.take (k + 1)).flatten (ls.take (k + 1)).flatten.length from by
    rw [Hfl.out, List.length_append]
    exact hX4)
   have hG5 := Lib.hid (hG.out.trans hG4)
   clear HA hX4 hG4 hX hG hle
   go_wp2_with fail
   go_roundw
   case rel => exact ⟨k + 1, by omega, by go_num, hX5, hG5⟩
   case measure => (first | (simp [intOf]; done) | (simp [intOf]; omega))
  ·have hfl : ls.take k = ls := List.take_of_length_le (by omega)
   have hle := Hlen.out k hk
   rw [hfl] at hX hle
   clear hfl
   have hr3 : w.heap.size < r := hz2
   have HE : ∀ (W : World) (hW : StX W r ls.flatten ls.flatten.length), Calls Tryz.prog 61 #[.pointer (some ⟨r, 0, none⟩)] W fun e w' => e = .returned (.agg (hashA hv)) ∧ W.grownBy w' (some r) := fun W hW => by
    have := end_c r ls.flatten W hW hle
    rw [← hhv.out] at this
    exact this
   have hh := (hG.out.block w.heap.size (by rcases Nat.lt_or_ge w.heap.size w3.heap.size with h | h; exact h; exfalso; have := hHh3.out; rw [Array.getElem?_eq_none h] at this; cases this) (by intro e; injection e; omega)).trans hHh3.out
   have hwl : w.heap.size < wr.heap.size := by
    rcases Nat.lt_or_ge w.heap.size wr.heap.size with h | h
    ·exact h
    ·rw [Array.getElem?_eq_none h] at hh; cases hh
   go_wp2_with fail
   (with_reducible refine (HE _ hX.out).mono ?_)
   rintro e w4 ⟨rfl, hG4⟩
   have hh4 := (hG4.block w.heap.size hwl (by intro e; injection e; omega)).trans hh
   have hB4 : Below w.heap.size w w4 := bel_grown hG4 hBw hBw.size (fun j hj => by injection hj with hj; omega)
   have hrow : row? w4 w.heap.size 0 32 = some (hashA zeroHash) := rowHeap hh4 (by simp)
   have hth : there w4 w.heap.size 0 32 := there_block hh4 (by simp)
   clear hh hh4 hG4 HE hX hG hBw
   go_wp2_with (with_reducible refine ret_row Tryz.isAgg24 Tryz.sizeOf24 sum_res (x := .pointer (some ⟨w.heap.size, 0, none⟩)) (w.heap.size) 0 ?rrhx (Eq.refl _) ?rrh ?rrhd ?rrhR; (case rrhx => simp only [Array.getD_eq_getD_getElem?, List.getElem?_toArray, List.getElem?_cons_succ, List.getElem?_cons_zero, Option.getD_some]); (case rrhd => exact rfl); (case rrh => go_simp); (case rrhR => ((refine ⟨?_, ?_⟩; (case refine_1 => (go_simp; done)); (case refine_2 => ((repeat' (first | (with_reducible first | exact Below.refl _ _ | assumption | refine bel_trans (by assumption) ?_ ?_ | refine bel_grown (by assumption) ?_ ?_ ?_ | refine Below.alloc ?_ ?_ _ | refine Below.drew ?_ | refine below_drewN ?_ _ | refine Below.setCell ?_ ?_ _ | refine below_put ?_ ?_ _ _ | exact Nat.le_refl _) | omega | (with_reducible first | refine Nat.le_trans ?_ (Below.size (by assumption)) | refine Nat.le_trans ?_ (World.grownBy.size (by assumption))) | (simp only [World.size_alloc, World.size_setCell, World.size_drew, size_drewN]; omega) | (simp only [World.size_alloc, World.size_setCell, World.size_drew, size_drewN, size_put]; omega) | (intro k hk; simp [Value.ownBlock] at hk; first | done | omega) | (simp [size_drewN] at *; omega)))))))))
end Go.Proofs.YthdjhbiigmcecaaGreat

/- Contracts of package slices and cmp at bytes: Equal, Compare, Or. -/
namespace Go.Proofs.YthdjhbiigmcecaaGreat
open Go.RowKit

theorem isNaN64_c (n : Int) (w : World) : Calls Tryz.prog 73 #[.int .u64 n] w fun e w' => e = .returned (.bool false) ∧ w = w' := by
 go_enter Tryz.func73, Tryz.ntmps73
 go_wp2_with fail
 go_ret
 exact ⟨ret_bool (by simp), rfl⟩
def cmpI (x y : Int) : Int := if x < y then -1 else if y < x then 1 else 0
theorem compare64_c (x y : Int) (w : World) : Calls Tryz.prog 55 #[.int .u64 x, .int .u64 y] w fun e w' => e = .returned (.int .i64 (cmpI x y)) ∧ w = w' := by
 rcases Int.lt_trichotomy x y with h | h | h
 all_goals
  go_enter Tryz.func55, Tryz.ntmps55
  go_wp2_with (go_at_call 73; refine (isNaN64_c _ _).mono ?_; rintro e w' ⟨rfl, rfl⟩)
  go_ret
  exact ⟨ret_int (by unfold cmpI; first | (rw [if_pos (by omega)]) | (rw [if_neg (by omega), if_neg (by omega)]) | (rw [if_neg (by omega), if_pos (by omega)])), rfl⟩
/-- bytes in order -/
def lexC : List UInt8 → List UInt8 → Int
 | [], [] => 0
 | [], _ :: _ => -1
 | _ :: _, [] => 1
 | a :: x, b :: y => if cmpI a.toNat b.toNat = 0 then lexC x y else cmpI a.toNat b.toNat

theorem take_succ_eq (x y : List UInt8) (k : Nat) (hx : k < x.length) (hy : k < y.length) (h : x.take k = y.take k) (he : x[k] = y[k]) : x.take (k + 1) = y.take (k + 1) := by
 rw [List.take_succ_eq_append_getElem hx, List.take_succ_eq_append_getElem hy, h, he]
theorem ne_of_at (x y : List UInt8) (k : Nat) (hx : k < x.length) (hy : k < y.length) (he : x[k] ≠ y[k]) : x ≠ y := by
 intro h
 subst h
 exact he rfl

set_option maxRecDepth 100000 in
set_option maxHeartbeats 800000 in
theorem sequal_c (s t : Sl) (x y : List UInt8) (w : World) (hs : BytesR w s x) (ht : BytesR w t y) (hx : x.length ≤ 9223372036854775807) :
  Calls Tryz.prog 116 #[s.v, t.v] w fun e w' => e = .returned (.bool (decide (x = y))) ∧ ∃ n, w' = w.drewN n := by
 have hs1 := hs.1
 have ht1 := ht.1
 obtain ⟨sa, sn, sc⟩ := s
 obtain ⟨ta, tn, tc⟩ := t
 simp only at hs1 ht1
 subst hs1
 subst ht1
 have Hs := Lib.hid hs
 have Ht := Lib.hid ht
 clear hs ht
 change Calls Tryz.prog _ #[.slice sa x.length sc, .slice ta y.length tc] w _
 by_cases hlen : x.length = y.length
 ·have hl1 : (x.length : Int) = y.length := by omega
  have hb : ((x.length : Int) != (y.length : Int)) = false := by simp [hl1]
  have Hlen := Lib.hid hlen
  clear hlen hl1
  go_enter Tryz.func116, Tryz.ntmps116
  go_wp2_with fail
  go_loopw [13] (fun i w' => ∃ k : Nat, k ≤ x.length ∧ x.take k = y.take k ∧ i = .int .i64 k ∧ ∃ n, w' = w.drewN n) (fun i _ => x.length - (intOf i).toNat)
  case atStart => exact ⟨0, Nat.zero_le _, by simp, rfl, 0, rfl⟩
  case round =>
   obtain ⟨k, hk, hl, rfl, n, rfl⟩ := hrel
   have Hl := Lib.hid hl
   clear hl
   by_cases hkx : k < x.length
   ·have hyk : k < y.length := by have := Hlen.out; omega
    obtain ⟨b, off, e, _, hc⟩ := Hs.out.at (by omega)
    have e1 := congrArg Sl.a e
    simp only at e1
    subst e1
    clear e
    have hcx : ∀ n, (w.drewN n).cell? ⟨b, off + k, none⟩ = some (.int .u8 (x[k].toNat : Int)) := fun _ => hc k hkx
    clear hc
    obtain ⟨b2, off2, e, _, hc⟩ := Ht.out.at (by omega)
    have e1 := congrArg Sl.a e
    simp only at e1
    subst e1
    clear e
    have hcy : ∀ n, (w.drewN n).cell? ⟨b2, off2 + k, none⟩ = some (.int .u8 (y[k].toNat : Int)) := fun _ => hc k hyk
    clear hc
    have i0 : (0 : Int) ≤ (k : Int) := by omega
    have i1 : (k : Int) < (x.length : Int) := by omega
    have i2 : (k : Int) < (y.length : Int) := by omega
    have hne := ne_of_at x y k hkx hyk
    have htk := take_succ_eq x y k hkx hyk Hl.out
    generalize hxk : x[k] = xk at *
    generalize hyk' : y[k] = yk at *
    have Hne := Lib.hid hne
    have Htk := Lib.hid htk
    clear hxk hyk' hne htk
    by_cases hz : xk = yk
    ·subst hz
     have hb : ((xk.toNat : Int) != (xk.toNat : Int)) = false := by simp
     go_wp2_with fail
     go_quiet (fail)
     go_wp2_with fail
     go_roundw
     case rel => exact ⟨k + 1, by omega, Htk.out (by first | rfl | trivial), by go_num, _, rfl⟩
     case measure => simp [intOf]; omega
    ·have hb : ((xk.toNat : Int) != (yk.toNat : Int)) = true := by
      rw [bne_iff_ne]
      intro h
      exact hz (UInt8.toNat_inj.1 (by omega))
     have hd : decide (x = y) = false := decide_eq_false (Hne.out hz)
     have Hd := Lib.hid hd
     clear hd hz
     go_wp2_with fail
     go_quiet (fail)
     go_wp2_with fail
     go_ret
     exact ⟨ret_bool Hd.out.symm, _, World.drewN_drewN _ _ _⟩
   ·have hd : decide (x = y) = true := decide_eq_true (by
     have h1 := Hl.out
     have h2 := Hlen.out
     rw [List.take_of_length_le (by omega), List.take_of_length_le (by omega)] at h1
     exact h1)
    have Hd := Lib.hid hd
    clear hd
    go_wp2_with fail
    go_ret
    exact ⟨ret_bool Hd.out.symm, _, rfl⟩
 ·have hb : ((x.length : Int) != (y.length : Int)) = true := by simp; omega
  have hd : decide (x = y) = false := decide_eq_false (fun h => hlen (by rw [h]))
  rw [hd]
  clear hlen hd
  go_enter Tryz.func116, Tryz.ntmps116
  go_wp2_with fail
  go_ret
  exact ⟨rfl, 0, rfl⟩
end Go.Proofs.YthdjhbiigmcecaaGreat

/- Contracts: codec.bare, sameOp, MayOp, MayHeader. -/
namespace Go.Proofs.YthdjhbiigmcecaaGreat
open Go.RowKit
/-- an operation with what it names alone -/
def bareOp (o : GOp) : GOp :=
 if o.kind = 1 then { o with validator := 0, evidence := ⟨none, 0, 0⟩ }
 else if o.kind = 3 then { o with key := zeroHash, stake := 0 }
 else if o.kind = 2 then { o with key := zeroHash, stake := 0, evidence := ⟨none, 0, 0⟩ }
 else { kind := o.kind, key := zeroHash, stake := 0, validator := 0, evidence := ⟨none, 0, 0⟩ }

theorem bare_res : Tryz.f76.results = #[.cell 2 73] := by kernel_rfl
set_option maxHeartbeats 1000000 in
set_option maxRecDepth 100000 in
theorem bare_c (o : GOp) (w : World) : Calls Tryz.prog 76 #[.agg (opA o)] w fun e w' => e = .returned (.agg (opA (bareOp o))) ∧ Below w.heap.size w w' := by
 go_enter Tryz.func76, Tryz.ntmps76
 go_wp2_with (with_reducible refine ret_row Tryz.isAgg73 Tryz.sizeOf73 bare_res (x := .pointer (some ⟨w.heap.size + 1, 0, none⟩)) (w.heap.size + 1) 0 ?rrhx (Eq.refl _) ?rrh ?rrhd ?rrhR; (case rrhx => simp only [Array.getD_eq_getD_getElem?, List.getElem?_toArray, List.getElem?_cons_succ, List.getElem?_cons_zero, Option.getD_some]); (case rrhd => exact rfl); (case rrh => go_simp); (case rrhR => (refine And.intro ?rra ?rrb; (case rra => (go_simp; first | (simp_all [bareOp]; done) )); (case rrb => ((repeat' (first | (with_reducible first | exact Below.refl _ _ | assumption | refine bel_trans (by assumption) ?_ ?_ | refine bel_grown (by assumption) ?_ ?_ ?_ | refine Below.alloc ?_ ?_ _ | refine Below.drew ?_ | refine below_drewN ?_ _ | refine Below.setCell ?_ ?_ _ | refine below_put ?_ ?_ _ _ | exact Nat.le_refl _) | omega | (with_reducible first | refine Nat.le_trans ?_ (Below.size (by assumption)) | refine Nat.le_trans ?_ (World.grownBy.size (by assumption))) | (simp only [World.size_alloc, World.size_setCell, World.size_drew, size_drewN]; omega) | (simp only [World.size_alloc, World.size_setCell, World.size_drew, size_drewN, size_put]; omega) | (intro k hk; simp [Value.ownBlock] at hk; first | done | omega) | (simp [size_drewN] at *; omega))))))))
 go_region
 go_wp2_with (with_reducible refine ret_row Tryz.isAgg73 Tryz.sizeOf73 bare_res (x := .pointer (some ⟨w.heap.size + 1, 0, none⟩)) (w.heap.size + 1) 0 ?rrhx (Eq.refl _) ?rrh ?rrhd ?rrhR; (case rrhx => simp only [Array.getD_eq_getD_getElem?, List.getElem?_toArray, List.getElem?_cons_succ, List.getElem?_cons_zero, Option.getD_some]); (case rrhd => exact rfl); (case rrh => go_simp); (case rrhR => (refine And.intro ?rra ?rrb; (case rra => (go_simp; first | (simp_all [bareOp]; done) )); (case rrb => ((repeat' (first | (with_reducible first | exact Below.refl _ _ | assumption | refine bel_trans (by assumption) ?_ ?_ | refine bel_grown (by assumption) ?_ ?_ ?_ | refine Below.alloc ?_ ?_ _ | refine Below.drew ?_ | refine below_drewN ?_ _ | refine Below.setCell ?_ ?_ _ | refine below_put ?_ ?_ _ _ | exact Nat.le_refl _) | omega | (with_reducible first | refine Nat.le_trans ?_ (Below.size (by assumption)) | refine Nat.le_trans ?_ (World.grownBy.size (by assumption))) | (simp only [World.size_alloc, World.size_setCell, World.size_drew, size_drewN]; omega) | (simp only [World.size_alloc, World.size_setCell, World.size_drew, size_drewN, size_put]; omega) | (intro k hk; simp [Value.ownBlock] at hk; first | done | omega) | (simp [size_drewN] at *; omega))))))))
end Go.Proofs.YthdjhbiigmcecaaGreat
