/- Contracts: slices.Grow of nil, slices.Concat, of bytes. -/
import Derived.Test.YtbpbnnonialelaaCodec1
namespace Go.Proofs.Ytbpbnnonialelaa
open Go.RowKit

theorem run_append_zeros {P : Program} (w : World) (t tx ty e : TypeId) (i : TypeInfo) (z : Value) (ht : P.underlying t = some (.slice e)) (hx : P.underlying tx = some (.int .i64)) (hi : P.info? e = some i) (hz : i.zero = some z) (hs : i.size = 1) (hb : i.bytes = 1)
    (n : Nat) (h0 : 0 < n) (hn : n ≤ 140737488355328) :
    (Builtin.append_ #[t, tx] ty #[.slice none 0 0, .int .i64 (n : Int)]).run P w =
      .ok (.slice (some ⟨w.heap.size, 0, none⟩) n (grownCap w n 0 e)) (w.drew.alloc (.cells (Builtin.zeroCells z.cells n ++ Builtin.zeroCells z.cells (grownCap w n 0 e - n)) e)) := by
  have hw : IntKind.i64.wrap (n : Int) = n := IntWalk.i64_in _ (by omega)
  have h1 : ¬ ((n : Int) < 0) := by omega
  have h2 : ¬ (281474976710656 < (n : Int)) := by omega
  have h3 : ¬ (9223372036854775807 < (n : Int)) := by omega
  have h4 : ¬ (281474976710656 < Builtin.nextslicecap n 0) := by
    have := nextslicecap_zero h0
    omega
  have h5 : n ≠ 0 := by omega
  simp [Builtin.append_, run_underlying ht, run_underlying hx, sizeOf, typeInfo, zeroValue, hi, hz, hs, hb, hw, h1, h2, h3, h4, h5, asInt, asIntOf, Builtin.firstCells, Question.forced, newRow, grownCap]

theorem wpList_append_run {P : Program} (w : World) {ops : Array Oper} {rest : List Oper} {o : Oper} {a : Act} {Q : Exit → Act → World → Prop} (hgd : o.guard = none) (px py : Operand) (t tx : TypeId)
    (ho : o.op = .call { callee := .builtin .append, args := #[px, py], argTypes := #[t, tx] }) (x y v' : Value) (w' : World) (hx : a.eval px = x) (hy : a.eval py = y)
    (hrun : (Builtin.append_ #[t, tx] o.type #[x, y]).run P w = .ok v' w') (h : wpList P ops Q rest (a.put o.dst v') w') : wpList P ops Q (o :: rest) a w :=
  wpList_plain hgd fun K hK => by
    unfold Oper.wp execOp
    simp only [ho, resolve, invoke, builtin, Sem.run_bind, Sem.run_pure, Result.andThen_ok, List.map_toArray, List.map_cons, List.map_nil, hx, hy, hrun]
    exact hK _ _ h

set_option maxRecDepth 100000 in
theorem growBytes_c (n : Nat) (w : World) (h0 : 0 < n) (hn : n ≤ 140737488355328) :
    Calls Try.prog 120 #[.slice none 0 0, .int .i64 n] w fun e w' => ∃ v, e = .returned v ∧ Own w' w.heap.size v [] ∧ Below w.heap.size w w' := by
  obtain ⟨i0, hi, hz0, hz1, hz2⟩ := info_parts info_u8
  have hr := fun ty W => run_append_zeros (P := Try.prog) W 35 3 ty 5 i0 _ Try.underlying35 Try.underlying3 hi hz0 hz1 hz2 n h0 hn
  have hge := grownCap_ge w n 0 5
  have hle := grownCap_le_maxLen w n 0 5 (by simp only [maxLen]; omega)
  have HO : Own (w.drew.alloc (.cells (Builtin.zeroCells (Value.int .u8 0).cells n ++ Builtin.zeroCells (Value.int .u8 0).cells (grownCap w n 0 5 - n)) 5)) w.heap.size (.slice (some ⟨w.heap.size, 0, none⟩) 0 (grownCap w n 0 5)) [] := by
    refine ⟨by simp, .inr ⟨w.heap.size, _, rfl, Nat.le_refl _, by simp, Nat.zero_le _, hle, fun j hj => ?_, fun j _ => frozen_of_row _ w.heap.size j _ 5 (heap_alloc_new w.drew _), fun j u hu => by simp at hu⟩⟩
    rw [cell_of_row _ w.heap.size j _ 5 _ (heap_alloc_new w.drew _)]
    have hsz : (Builtin.zeroCells (Value.int .u8 0).cells n ++ Builtin.zeroCells (Value.int .u8 0).cells (grownCap w n 0 5 - n)).size = grownCap w n 0 5 := by
      rw [Array.size_append, size_zeroCells, size_zeroCells]
      simp [Value.cells]
      omega
    rw [Array.getElem?_eq_getElem (by rw [hsz]; omega)]
    rfl
  have HO := Lib.hid HO
  have h1 : ¬ ((n : Int) < 0) := by omega
  have i0' : (0 : Int) ≤ (n : Int) := by omega
  generalize hcap : grownCap w n 0 5 = cap at *
  have Hcap := Lib.hid hcap
  clear hle
  have hce : (0 : Int) ≤ (cap : Int) := by omega
  go_enter Try.func120, Try.ntmps120
  go_wp2_with (at_builtin; refine wpList_append_run _ rfl _ _ _ _ rfl _ _ _ _ rfl rfl (hr _ _) ?_)
  go_ret
  exact ⟨_, rfl, HO.out, by (repeat' (first | (with_reducible exact Below.refl _ _) | (with_reducible assumption) | (with_reducible refine bel_trans (by assumption) ?_ ?_) | (with_reducible refine bel_grown (by assumption) ?_ ?_ ?_) | (with_reducible refine Below.alloc ?_ ?_ _) | (with_reducible refine Below.drew ?_) | (with_reducible refine below_drewN ?_ _) | (with_reducible refine Below.setCell ?_ ?_ _) | (with_reducible refine below_put ?_ ?_ _ _) | (with_reducible exact Nat.le_refl _) | omega | (with_reducible refine Nat.le_trans ?_ (Below.size (by assumption))) | (with_reducible refine Nat.le_trans ?_ (World.grownBy.size (by assumption))) | (simp only [World.size_alloc, World.size_setCell, World.size_drew, size_drewN]; omega) | (simp only [World.size_alloc, World.size_setCell, World.size_drew, size_drewN, size_put]; omega) | (intro k hk; simp [Value.ownBlock] at hk; done) | (intro k hk; simp [Value.ownBlock] at hk; omega) | (simp [size_drewN] at *; omega)))⟩

/-- pieces, in a row of slices -/
def PiecesAt (w : World) (b : Nat) (ss : List Sl) (ls : List (List UInt8)) : Prop := ss.length = ls.length ∧ (∀ (i : Nat) (h : i < ss.length), w.cell? ⟨b, i, none⟩ = some ss[i].v) ∧ ∀ (i : Nat) (h : i < ss.length) (h' : i < ls.length), BytesR w ss[i] ls[i]
def sumLen (ls : List (List UInt8)) : Nat := (ls.map List.length).sum
theorem sumLen_succ (ls : List (List UInt8)) (k : Nat) (h : k < ls.length) : sumLen (ls.take (k + 1)) = sumLen (ls.take k) + ls[k].length := by
  rw [List.take_succ_eq_append_getElem h, sumLen, List.map_append, List.sum_append]
  rfl
theorem sumLen_le (ls : List (List UInt8)) (k : Nat) : sumLen (ls.take k) ≤ sumLen ls := by
  have := congrArg sumLen (List.take_append_drop k ls)
  simp only [sumLen, List.map_append, List.sum_append] at this ⊢
  omega
theorem flatten_length' (ls : List (List UInt8)) : ls.flatten.length = sumLen ls := by simp [sumLen, List.length_flatten]
theorem flatten_succ (ls : List (List UInt8)) (k : Nat) (h : k < ls.length) : (ls.take (k + 1)).flatten = (ls.take k).flatten ++ ls[k] := by
  rw [List.take_succ_eq_append_getElem h, List.flatten_append]
  simp only [List.flatten_cons, List.flatten_nil, List.append_nil]

set_option maxRecDepth 100000 in
set_option maxHeartbeats 800000 in
theorem concat_c (b c : Nat) (ss : List Sl) (ls : List (List UInt8)) (w : World) (hp : PiecesAt w b ss ls) (hn : ls.length ≤ 1000) (h0 : 0 < sumLen ls) (hs : sumLen ls ≤ 140737488355328) :
    Calls Try.prog 103 #[.slice (some ⟨b, 0, none⟩) ls.length c] w fun e w' => ∃ v, e = .returned v ∧ Own w' w.heap.size v ls.flatten ∧ Below w.heap.size w w' := by
  obtain ⟨i0, hi, hz0, hz1, hz2⟩ := info_parts info_u8
  obtain ⟨hl, hc, hr⟩ := hp
  have Hl := Lib.hid hl
  have Hc := Lib.hid hc
  have Hr := Lib.hid hr
  clear hl hc hr
  go_enter Try.func103, Try.ntmps103
  go_wp2_with fail
  go_loop [3, 11] (fun u i => ∃ k : Nat, k ≤ ls.length ∧ u = .int .i64 (sumLen (ls.take k) : Nat) ∧ i = .int .i64 k) (fun _ i => ls.length - (intOf i).toNat)
  case atStart => exact ⟨0, Nat.zero_le _, rfl, rfl⟩
  case round =>
    obtain ⟨k, hk, rfl, rfl⟩ := hrel
    have hle := sumLen_le ls k
    have i0' : (0 : Int) ≤ (k : Int) := by omega
    by_cases hkx : k < ls.length
    · have hks : k < ss.length := by have := Hl.out; omega
      have hcell := Hc.out k hks
      have hlen := (Hr.out k hks hkx).1
      have hsu := sumLen_succ ls k hkx
      have hle1 := sumLen_le ls (k + 1)
      have i1 : (k : Int) < (ls.length : Int) := by omega
      generalize ls[k] = lk at *
      generalize ss[k] = sk at *
      obtain ⟨sa, sn, sc⟩ := sk
      simp only at hlen
      subst hlen
      dsimp only [Sl.v] at hcell
      generalize sumLen (ls.take k) = sk at *
      have Hsu := Lib.hid hsu
      have i2 : sk + lk.length ≤ sumLen ls := by omega
      have i3 : ¬ ((sk : Int) + (lk.length : Int) < 0) := by omega
      clear hsu hle1
      go_wp2_with fail
      go_round
      case rel => exact ⟨k + 1, by omega, by rw [Hsu.out]; go_num, by go_num⟩
      case measure => simp [intOf]; omega
    · have hsu : sumLen (ls.take k) = sumLen ls := by rw [List.take_of_length_le (by omega)]
      rw [hsu]
      clear hsu hle
      go_wp2_with fail
      refine (growBytes_c (sumLen ls) w h0 hs).mono ?_
      rintro e w1 ⟨v, rfl, ho, hb1⟩
      go_wp2_with fail
      go_loopw [6, 27] (fun u i w' => ∃ k : Nat, k ≤ ls.length ∧ Own w' w.heap.size u (ls.take k).flatten ∧ i = .int .i64 k ∧ Below w.heap.size w w') (fun _ i _ => ls.length - (intOf i).toNat)
      case atStart => exact ⟨0, Nat.zero_le _, ho, rfl, hb1⟩
      case round =>
        obtain ⟨k, hk, hown, rfl, hB⟩ := hrel
        have i0' : (0 : Int) ≤ (k : Int) := by omega
        by_cases hkx : k < ls.length
        · have hks : k < ss.length := by have := Hl.out; omega
          have hbl := lt_of_cell (Hc.out k hks)
          have hcell := (hB.cell (p := ⟨b, k, none⟩) hbl).trans (Hc.out k hks)
          have hread := (Hr.out k hks hkx).keep hB
          have hfl := flatten_succ ls k hkx
          have hlen := flatten_length' (ls.take k)
          have hle := sumLen_le ls (k + 1)
          have hsu := sumLen_succ ls k hkx
          have i1 : (k : Int) < (ls.length : Int) := by omega
          have hfit : (ls.take k).flatten.length + ls[k].length ≤ 140737488355328 := by omega
          generalize ls[k] = lk at *
          generalize ss[k] = sk at *
          have Hfl := Lib.hid hfl
          have Hread := Lib.hid hread
          clear hfl hread hlen hle hsu
          have hz := hB.size
          go_wp2_with (at_builtin; refine wpList_append_bytes _ rfl _ _ _ rfl w.heap.size 5 i0 _ Try.underlying35 hi hz0 hz1 hz2 rfl _ _ rfl hown sk lk rfl Hread.out hfit hz ?_; intro v' w2 hown2 hg2 _)
          have hB2 : Below w.heap.size w w2 := bel_grown hg2 hB hz (fun k hk => (hown.lt k hk).1)
          go_roundw
          case rel => exact ⟨k + 1, by omega, by rw [Hfl.out]; exact hown2, by go_num, hB2⟩
          case measure => simp [intOf]; omega
        · have hfl : (ls.take k).flatten = ls.flatten := by rw [List.take_of_length_le (by omega)]
          rw [hfl] at hown
          clear hfl
          go_wp2_with fail
          go_ret
          exact ⟨_, rfl, hown, hB⟩
end Go.Proofs.Ytbpbnnonialelaa
