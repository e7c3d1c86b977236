/- Texts of this proof, one behind the other: ZfCmp, ZfKeys, ZfCollect, ZfMayP, ZfGad, ZfFPlain. -/
import Derived.Test.YthdjhbiigmcecaaGreatCAB
import Derived.Test.YthdjhbiigmcecaaGreatCAC
import Derived.Test.YthdjhbiigmcecaaGreatCAY
import Derived.Lib.Bytealg
import Derived.StillTailTactics
import Derived.Deep.QuietTactic
import Derived.BigQuiet
import Derived.Handy
import Derived.Sort.Grow
import Derived.Sort.Statements
import Derived.Maps.Range
import Derived.RangeFuncNested
import Derived.RangeFuncBound
import Derived.RangeFuncCalls
import Derived.RangeFuncLeaves
import Derived.RangeFuncBox
import Derived.Maps.AppendAt
import Derived.Sort.MapsRangeIn
import Derived.Shelf.Abstract
import Derived.Shelf.RegionOpen
import Derived.WalkKit
import Derived.OwnWalkIn
import Derived.TacticsInMore
import Derived.LoopNIn
import Derived.LoopIn
import Derived.Carry
set_option linter.unusedVariables false
set_option linter.unusedSimpArgs false
/- Contracts: cmp.Compare, cmp.Or, bytes.Compare; the order by which sorted sorts. -/
namespace Go.Proofs.YthdjhbiigmcecaaGreat.F13
open Go.RowKit

theorem isNaN64_c (n : Int) (w : World) : Calls Tryz.prog 73 #[.int .u64 n] w fun e w' => e = .returned (.bool false) ∧ w = w' := by
  go_enter Tryz.func73, Tryz.ntmps73
  go_wp2_with fail
  go_ret
  exact ⟨ret_bool (by simp), rfl⟩
def cmpI (x y : Int) : Int := if x < y then -1 else if y < x then 1 else 0
theorem compare64_c (x y : Int) (w : World) : Calls Tryz.prog 55 #[.int .u64 x, .int .u64 y] w fun e w' => e = .returned (.int .i64 (cmpI x y)) ∧ w = w' := by
  rcases Int.lt_trichotomy x y with h | h | h
  all_goals
    go_enter Tryz.func55, Tryz.ntmps55
    go_wp2_with (go_at_call 73; refine (isNaN64_c _ _).mono ?_; rintro e w' ⟨rfl, rfl⟩)
    go_ret
    exact ⟨ret_int (by unfold cmpI; first | (rw [if_pos (by omega)]) | (rw [if_neg (by omega), if_neg (by omega)]) | (rw [if_neg (by omega), if_pos (by omega)])), rfl⟩
set_option maxHeartbeats 800000 in
theorem or_c (b c : Nat) (x y : Int) (w : World) (h0 : w.cell? ⟨b, 0, none⟩ = some (.int .i64 x)) (h1 : w.cell? ⟨b, 1, none⟩ = some (.int .i64 y)) :
    Calls Tryz.prog 54 #[.slice (some ⟨b, 0, none⟩) 2 c] w fun e w' => e = .returned (.int .i64 (if x = 0 then y else x)) ∧ w' = w := by
  by_cases hx : x = 0
  · have hb : (x != 0) = false := by simp [hx]
    rw [if_pos hx]
    clear hx
    by_cases hy : y = 0
    · have hc : (y != 0) = false := by simp [hy]
      go_enter Tryz.func54, Tryz.ntmps54
      go_wp2_with fail
      go_rounds 3
      go_ret
      exact ⟨ret_int hy.symm, rfl⟩
    · have hc : (y != 0) = true := by simp [hy]
      clear hy
      go_enter Tryz.func54, Tryz.ntmps54
      go_wp2_with fail
      go_rounds 2
      go_ret
      exact ⟨rfl, rfl⟩
  · have hb : (x != 0) = true := by simp [hx]
    rw [if_neg hx]
    clear hx
    go_enter Tryz.func54, Tryz.ntmps54
    go_wp2_with fail
    go_rounds 1
    go_ret
    exact ⟨rfl, rfl⟩

theorem run_loadBytes {P : Program} (w : World) : ∀ (l : List UInt8) (b off : Nat) (acc : ByteArray), (∀ (i : Nat) (hi : i < l.length), w.cell? ⟨b, off + i, none⟩ = some (byteV l[i])) →
    (Extern.Bytes.loadBytes ⟨b, off, none⟩ l.length acc).run P w = .ok ⟨acc.data ++ l.toArray⟩ w
  | [], b, off, acc, _ => by simp [Extern.Bytes.loadBytes]
  | x :: l, b, off, acc, h => by
    have h0 := h 0 (by simp)
    have ih := run_loadBytes (P := P) w l b (off + 1) (acc.push x) (fun i hi => by
      have := h (i + 1) (by simpa using hi)
      rw [show off + 1 + i = off + (i + 1) by omega]
      simpa using this)
    simp only [Nat.add_zero, List.getElem_cons_zero] at h0
    have hadd : (⟨b, off, none⟩ : Addr).add 1 = ⟨b, off + 1, none⟩ := by unfold Addr.add; rfl
    simp only [List.length_cons, Extern.Bytes.loadBytes, Sem.run_bind, run_load, h0, Result.andThen_ok, byteV, hadd]
    have hx : ((x.toNat : Int).toNat).toUInt8 = x := by simp
    rw [hx, ih]
    congr 2
    simp
theorem run_bytesOf {P : Program} {w : World} {s : Sl} {l : List UInt8} (h : BytesR w s l) : (Extern.Bytes.bytesOf s.v).run P w = .ok ⟨l.toArray⟩ w := by
  obtain ⟨sa, sn, sc⟩ := s
  obtain rfl : sn = l.length := h.1
  by_cases hl : l = []
  · subst hl
    cases sa with
    | none => simp [Extern.Bytes.bytesOf]; rfl
    | some a => simp [Extern.Bytes.bytesOf, Extern.Bytes.loadBytes]; rfl
  · obtain ⟨b, off, ha, hc⟩ := h.2.2 hl
    simp only at ha
    subst ha
    show (Extern.Bytes.loadBytes ⟨b, off, none⟩ l.length .empty).run P w = _
    rw [run_loadBytes w l b off .empty hc]
    congr 2
    exact Array.empty_append
theorem run_compareBytes {P : Program} {w : World} {s t : Sl} {x y : List UInt8} (hs : BytesR w s x) (ht : BytesR w t y) :
    (Extern.BytealgCompare.compare #[s.v, t.v]).run P w = .ok (.int .i64 (Lib.compareBytes x y)) w := by
  have h : (Extern.BytealgCompare.compare #[s.v, t.v]) = (do pure (goInt (Extern.BytealgCompare.cmp (← Extern.Bytes.bytesOf s.v) (← Extern.Bytes.bytesOf t.v)))) := rfl
  rw [h]
  simp only [Sem.run_bind, run_bytesOf hs, run_bytesOf ht, Sem.run_pure, Result.andThen_ok]
  rw [Lib.cmp_eq]
  rfl
set_option maxRecDepth 100000 in
theorem bcompare_c (s t : Sl) (x y : List UInt8) (w : World) (hs : BytesR w s x) (ht : BytesR w t y) :
    Calls Tryz.prog 56 #[s.v, t.v] w fun e w' => e = .returned (.int .i64 (Lib.compareBytes x y)) ∧ w' = w := by
  go_enter Tryz.func56, Tryz.ntmps56
  go_wp2_with fail
  rw [run_callFunc_extern Tryz.func74 (by kernel_rfl) (by kernel_rfl) (by kernel_rfl) (e := Extern.BytealgCompare.compare) (by kernel_rfl), run_compareBytes hs ht]
  simp only [Result.andThen]
  rw [Oper.upon_value]
  go_wp2_with fail
  go_ret
  exact ⟨rfl, rfl⟩

theorem name_reads {w : World} {b off : Nat} {p : Pt} (h : row? w b off 33 = some (pointA p)) (c : Nat) (hc : 32 ≤ c) : BytesR w ⟨some ⟨b, off + 1, none⟩, 32, c⟩ p.name.1 := by
  refine ⟨p.name.2.symm, hc, fun _ => ⟨b, off + 1, rfl, fun i hi => ?_⟩⟩
  have := p.name.2
  rw [Nat.add_assoc, cell_of_row? h (1 + i) (by omega)]
  have hk := congrArg (fun a => a[i]?) (pointA_name p)
  simp only [Array.getElem?_extract] at hk
  rw [if_pos (by simp; omega)] at hk
  rw [hk]
  simp [hashA, hi]
/-- how sorted compares -/
def ptCmp (p q : Pt) : Int := if cmpI p.epoch.toNat q.epoch.toNat = 0 then Lib.compareBytes p.name.1 q.name.1 else cmpI p.epoch.toNat q.epoch.toNat

set_option maxRecDepth 100000 in
set_option maxHeartbeats 800000 in
theorem closure_c (p q : Pt) (w : World) : Calls Tryz.prog 53 #[.agg (pointA p), .agg (pointA q)] w fun e w' => e = .returned (.int .i64 (ptCmp p q)) ∧ ∃ k os', w' = Go.Sort.grow (w.drewN k) os' := by
  have hC : ∀ W, Calls Tryz.prog 55 #[.int .u64 p.epoch.toNat, .int .u64 q.epoch.toNat] W fun e w' => e = .returned (.int .i64 (cmpI p.epoch.toNat q.epoch.toNat)) ∧ w' = W := fun W => (compare64_c p.epoch.toNat q.epoch.toNat W).mono (fun _ _ h => ⟨h.1, h.2.symm⟩)
  obtain ⟨W1, hW1⟩ : ∃ W1, W1 = ((w.alloc (.cells (pointA p) 26)).alloc (.cells (pointA q) 26)).drew := ⟨_, rfl⟩
  have hr1 : row? W1 w.heap.size 0 33 = some (pointA p) := by rw [hW1, row?_drew, row?_old _ _ _ _ _ (by simp), row?_new]; simp
  have hr2 : row? W1 (w.heap.size + 1) 0 33 = some (pointA q) := by rw [hW1, row?_drew, row?_new_at _ _ _ _ _ _ (by simp)]; simp
  have hB := bcompare_c ⟨some ⟨w.heap.size, 1, none⟩, 32, 32⟩ ⟨some ⟨w.heap.size + 1, 1, none⟩, 32, 32⟩ p.name.1 q.name.1 W1 (name_reads (off := 0) hr1 32 (Nat.le_refl _)) (name_reads (off := 0) hr2 32 (Nat.le_refl _))
  have c1 := cell_of_row? hr1 0 (by omega)
  have c2 := cell_of_row? hr2 0 (by omega)
  simp only [Nat.zero_add, pointA_epoch] at c1 c2
  have hgr : ∀ o : Obj, ∃ k os', W1.alloc o = Go.Sort.grow (w.drewN k) os' := fun o => ⟨1, #[.cells (pointA p) 26, .cells (pointA q) 26, o], by rw [hW1, Go.Sort.alloc_eq_grow, Go.Sort.alloc_eq_grow, Go.Sort.alloc_eq_grow, Go.Sort.grow_grow, Go.Sort.drew_grow, Go.Sort.grow_grow]; rfl⟩
  unfold ptCmp
  generalize Lib.compareBytes p.name.1 q.name.1 = y at *
  generalize cmpI (p.epoch.toNat : Int) (q.epoch.toNat : Int) = x at *
  clear hr1 hr2
  obtain ⟨v, hv⟩ : ∃ v, v = if x = 0 then y else x := ⟨_, rfl⟩
  rw [← hv]
  replace hv := Lib.hid hv
  go_enter Tryz.func53, Tryz.ntmps53
  go_wp2_with fail
  refine wp_region_still_tail 10 (by kernel_rfl) (by kernel_rfl) ?_
  simp only [List.take_succ_cons, List.take_zero, List.drop_succ_cons, List.drop_zero]
  rw [show ({ (w.alloc (.cells (pointA p) 26)).alloc (.cells (pointA q) 26) with drawn := ((w.alloc (.cells (pointA p) 26)).alloc (.cells (pointA q) 26)).drawn + 1 } : World) = W1 from hW1.symm]
  clear hW1
  still_step
  still_step
  still_step
  still_step
  still_call (hC W1)
  still_step
  still_step
  still_step
  still_step
  still_call hB
  try refine wpStill_nil ?_
  have hO := or_c W1.heap.size 2 x y (W1.alloc (.cells #[.int .i64 x, .int .i64 y] 3)) (by simp) (by simp)
  rw [← hv.out] at hO
  go_wp2_with (go_at_call 54; (with_reducible refine hO.mono ?_); rintro e w' ⟨rfl, rfl⟩)
  go_ret
  exact ⟨rfl, hgr _⟩
end Go.Proofs.YthdjhbiigmcecaaGreat.F13

/- A range over a map of checkpoints, and the iterator that maps.Keys hands back: each key once, in some order. -/
namespace Go.Proofs.YthdjhbiigmcecaaGreat.F13
open Go.RowKit Go.Maps Go.MapKept Go.Shelf Go.ChangeMaps

/-- block r goes through map b: these have come -/
def RangePts (w : World) (b r : Nat) (ks ss : List Pt) : Prop :=
  ∃ es clock since seen c0, w.heap[b]? = some (.map es clock) ∧ es.toList.map (fun e => (e.key, e.val)) = ks.map (fun p => (ptV p, yes)) ∧ ks.Nodup ∧ (es.toList.map (·.born)).Nodup ∧
    w.heap[r]? = some (.mapIter (some b) since seen c0) ∧ (∀ x ∈ es.toList, x.born < since) ∧ since ≤ c0 ∧ since ≤ clock ∧ ss.Nodup ∧ (∀ p ∈ ss, p ∈ ks) ∧ ∀ e ∈ es.toList, ∀ p, e.key = ptV p → (p ∈ ss ↔ seen.contains e.born = true)
theorem RangePts.walk {w : World} {b r : Nat} {ks ss : List Pt} (h : RangePts w b r ks ss) : ∃ o, w.heap[r]? = some o ∧ o.isWalk = true := by
  obtain ⟨es, clock, since, seen, c0, _, _, _, _, hr, _⟩ := h
  exact ⟨_, hr, rfl⟩
theorem RangePts.of_walks {w w' : World} {b r : Nat} {ks ss : List Pt} (h : RangePts w b r ks ss) (hk : KeepsWalks w w') : RangePts w' b r ks ss := by
  obtain ⟨es, clock, since, seen, c0, hb, h1, h2, h3, hr, rest⟩ := h
  exact ⟨es, clock, since, seen, c0, hk.same b _ hb rfl, h1, h2, h3, hk.same r _ hr rfl, rest⟩
theorem RangePts.kept {w w' : World} {row : Option Nat} {b r : Nat} {ks ss : List Pt} (h : RangePts w b r ks ss) (hg : w.grownBy w' row) (hb' : some b ≠ row) (hr' : some r ≠ row) : RangePts w' b r ks ss := by
  obtain ⟨es, clock, since, seen, c0, hb, h1, h2, h3, hr, rest⟩ := h
  exact ⟨es, clock, since, seen, c0, (hg.block b (Array.getElem?_eq_some_iff.1 hb).1 hb').trans hb, h1, h2, h3, (hg.block r (Array.getElem?_eq_some_iff.1 hr).1 hr').trans hr, rest⟩
theorem RangePts.left_kept {w w' : World} {row : Option Nat} {b r : Nat} {ks ss : List Pt} (h : RangePts w b r ks ss) (hg : w.grownBy w' row) (hb' : some b ≠ row := by simp) (hr' : some r ≠ row := by simp) : w'.rangeLeft b r = w.rangeLeft b r := by
  obtain ⟨es, clock, since, seen, c0, hb, _, _, _, hr, _⟩ := h
  have h1 := (hg.block b (Array.getElem?_eq_some_iff.1 hb).1 hb').trans hb
  have h2 := (hg.block r (Array.getElem?_eq_some_iff.1 hr).1 hr').trans hr
  simp only [World.rangeLeft, hb, hr, h1, h2]
theorem RangePts.left_walks {w w' : World} {b r : Nat} {ks ss : List Pt} (h : RangePts w b r ks ss) (hk : KeepsWalks w w') : w'.rangeLeft b r = w.rangeLeft b r := by
  obtain ⟨es, clock, since, seen, c0, hb, _, _, _, hr, _⟩ := h
  have h1 := hk.same b _ hb rfl
  have h2 := hk.same r _ hr rfl
  simp only [World.rangeLeft, hb, hr, h1, h2]
theorem RangePts.start {w : World} {b : Nat} {ks : List Pt} (h : MapPts w b ks) :
    ∃ w', (Instr.range 82 (.map (some b))).run Tryz.prog w = .ok (.pointer (some ⟨w.heap.size, 0, none⟩)) w' ∧ RangePts w' b w.heap.size ks [] ∧ w.grownBy w' none ∧ w'.heap.size = w.heap.size + 1 := by
  have hlt := h.lt
  obtain ⟨es, clock, hb, hes, hnd, hborn, hclock⟩ := h
  refine ⟨_, run_range_map w _ _ _ b es clock Tryz.underlying82 hb, ⟨es, clock, clock, #[], clock, ((MapKept.heap_alloc w _).2 b hlt).trans hb, hes, hnd, hborn, (MapKept.heap_alloc w _).1, hclock, Nat.le_refl _, Nat.le_refl _, List.nodup_nil, by simp, by simp⟩, World.grownBy_alloc w _ none, by simp⟩

theorem entry_pt {es : List MapEntry} {ks : List Pt} (h : es.map (fun e => (e.key, e.val)) = ks.map (fun p => (ptV p, yes))) {e : MapEntry} (he : e ∈ es) : ∃ p ∈ ks, e.key = ptV p ∧ e.val = yes := by
  have : (e.key, e.val) ∈ ks.map (fun p => (ptV p, yes)) := by rw [← h]; exact List.mem_map.2 ⟨e, he, rfl⟩
  obtain ⟨p, hp, e1⟩ := List.mem_map.1 this
  injection e1 with e1 e2
  exact ⟨p, hp, e1.symm, e2.symm⟩
theorem entry_of {es : List MapEntry} {ks : List Pt} (h : es.map (fun e => (e.key, e.val)) = ks.map (fun p => (ptV p, yes))) {p : Pt} (hp : p ∈ ks) : ∃ e ∈ es, e.key = ptV p ∧ e.val = yes := by
  have : (ptV p, yes) ∈ es.map (fun e => (e.key, e.val)) := by rw [h]; exact List.mem_map.2 ⟨p, hp, rfl⟩
  obtain ⟨e, he, e1⟩ := List.mem_map.1 this
  injection e1 with e1 e2
  exact ⟨e, he, e1, e2⟩
/-- entries of one key have one stamp -/
theorem entry_one {es : List MapEntry} {ks : List Pt} (h : es.map (fun e => (e.key, e.val)) = ks.map (fun p => (ptV p, yes))) (hnd : ks.Nodup) {x y : MapEntry} (hx : x ∈ es) (hy : y ∈ es) (hk : x.key = y.key) : x = y := by
  obtain ⟨i, hi, rfl⟩ := List.mem_iff_getElem.1 hx
  obtain ⟨j, hj, rfl⟩ := List.mem_iff_getElem.1 hy
  have hlen : es.length = ks.length := by have := congrArg List.length h; simpa using this
  have e1 : ∀ (i : Nat) (hi : i < es.length), es[i].key = ptV (ks[i]'(by omega)) := fun i hi => by
    have := congrArg (fun l => l[i]?) h
    simp only [List.getElem?_map, List.getElem?_eq_getElem hi, List.getElem?_eq_getElem (show i < ks.length by omega), Option.map_some, Option.some.injEq, Prod.mk.injEq] at this
    exact this.1
  have h2 := ptV_inj ((e1 i hi).symm.trans (hk.trans (e1 j hj)))
  have h3 := (List.getElem_inj hnd).1 h2
  subst h3
  rfl

theorem RangePts.next {w : World} {b r : Nat} {ks ss : List Pt} (h : RangePts w b r ks ss) (ty : TypeId) :
    ((∀ p ∈ ks, p ∈ ss) ∧ (Instr.next (.pointer (some ⟨r, 0, none⟩)) false ty).run Tryz.prog w = .ok (.tuple #[.bool false]) w) ∨
    ∃ p w', p ∈ ks ∧ p ∉ ss ∧ (Instr.next (.pointer (some ⟨r, 0, none⟩)) false ty).run Tryz.prog w = .ok (.tuple #[.bool true, ptV p, yes]) w' ∧ RangePts w' b r ks (ss ++ [p]) ∧ w'.rangeLeft b r < w.rangeLeft b r ∧
      w.grownBy w' (some r) ∧ w'.heap.size = w.heap.size ∧ (Instr.entry (.pointer (some ⟨r, 0, none⟩))).run Tryz.prog w' = .ok (.tuple #[ptV p, yes]) w' := by
  obtain ⟨es, clock, since, seen, c0, hb, hes, hnd, hborn, hr, hold, hsc, hsk, hss, hsub, hseen⟩ := h
  have hne : r ≠ b := by
    intro e
    rw [e, hb] at hr
    cases hr
  rcases run_next_at (P := Tryz.prog) w ty r b since c0 seen es clock hr hb hold hsc with ⟨h0, hrun⟩ | ⟨e, he, w1, hal, hrun⟩
  · refine .inl ⟨fun p hp => ?_, hrun⟩
    obtain ⟨x, hx, hk, _⟩ := entry_of hes hp
    exact (hseen x hx p hk).2 (all_seen es seen h0 x hx)
  · obtain ⟨hem, hun⟩ := mem_left he
    obtain ⟨p, hp, hk, hv⟩ := entry_pt hes hem
    have hr1 : w1.heap[r]? = some (.mapIter (some b) since seen c0) := by rcases hal with rfl | rfl <;> exact hr
    have hb1 : w1.heap[b]? = some (.map es clock) := by rcases hal with rfl | rfl <;> exact hb
    have hset := Go.MapKept.heap_set (o' := .mapIter (some b) since (seen.push e.born) clock) hr1
    have hb' : (setBlock w1 r (.mapIter (some b) since (seen.push e.born) clock)).heap[b]? = some (.map es clock) := (hset.2 b (fun e1 => hne e1.symm)).trans hb1
    have hr' : (setBlock w1 r (.mapIter (some b) since (seen.push e.born) clock)).heap[r]? = some (.mapIter (some b) since (seen.push e.born) clock) := hset.1
    have hps : p ∉ ss := fun hin => by
      have := (hseen e hem p hk).1 hin
      rw [hun] at this
      cases this
    refine .inr ⟨p, _, hp, hps, by rw [hrun, hk, hv], ⟨es, clock, since, seen.push e.born, clock, hb', hes, hnd, hborn, hset.1, hold, hsk, hsk, ?_, ?_, ?_⟩, ?_, ?_, ?_, ?_⟩
    · exact List.nodup_append.2 ⟨hss, by simp, fun a ha c hc e1 => by (simp at hc; subst hc; subst e1; exact hps ha)⟩
    · intro q hq
      rcases List.mem_append.1 hq with hq | hq
      · exact hsub q hq
      · simp at hq; subst hq; exact hp
    · intro x hx q hq
      rw [contains_push, Bool.or_eq_true, List.mem_append, hseen x hx q hq]
      refine or_congr Iff.rfl ?_
      simp only [List.mem_singleton, beq_iff_eq]
      constructor
      · rintro rfl
        rw [entry_one hes hnd hx hem (hq.trans hk.symm)]
      · intro hb2
        have : x = e := born_inj hborn hx hem hb2
        subst this
        exact ptV_inj (hq.symm.trans hk)
    · simp only [World.rangeLeft, hb, hr, hb', hr']
      exact left_shrinks es seen e he
    · rcases hal with rfl | rfl <;> exact ⟨rfl, rfl, rfl, by simp [setBlock], fun i _ hi => hset.2 i (fun e1 => hi (by rw [e1]))⟩
    · rcases hal with rfl | rfl <;> simp [setBlock]
    · rw [← hk, ← hv]
      exact run_entry_at _ r b since seen es clock e hset.1 hb' hem hborn

section
variable {F : Fence} {n : Nat} {ops : Array Oper} {rest : List Oper} {Q : Exit → Go.Act → World → Prop} {a : Go.Act} {w : World} {o : Oper}
theorem wpListIn_range_pts (hg : o.guard = none) (m : Operand) (hop : o.op = Op.range 82 m) (b : Nat) (ks : List Pt) (hm : a.eval m = .map (some b)) (hown : MapPts w b ks)
    (hK : ∀ w', RangePts w' b w.heap.size ks [] → w.grownBy w' none → w'.heap.size = w.heap.size + 1 → wpListIn F n Tryz.prog ops Q rest (a.put o.dst (.pointer (some ⟨w.heap.size, 0, none⟩))) w') :
    wpListIn F n Tryz.prog ops Q (o :: rest) a w := by
  refine wpListIn_plain hg fun K' hK' => ?_
  obtain ⟨w', hrun, r1, r2, r3⟩ := RangePts.start hown
  unfold Oper.wpIn
  refine ⟨?_, ?_⟩
  · simp [Oper.about, hop]
  · rw [Oper.semAt_plain F _ _ (by rw [hop]; intro c hc'; cases hc')]
    simp [execOp, hop, hm, hrun, Result.andThen]
    exact hK' _ _ (hK w' r1 r2 r3)
theorem wpListIn_next_pts (hg : o.guard = none) (it : Operand) (hop : o.op = Op.next it false) (b r : Nat) (ks ss : List Pt) (hit : a.eval it = .pointer (some ⟨r, 0, none⟩)) (h : RangePts w b r ks ss)
    (hDone : (∀ p ∈ ks, p ∈ ss) → wpListIn F n Tryz.prog ops Q rest (a.put o.dst (.tuple #[.bool false])) w)
    (hMore : ∀ (p : Pt) (w' : World), p ∈ ks → p ∉ ss → RangePts w' b r ks (ss ++ [p]) → w'.rangeLeft b r < w.rangeLeft b r → w.grownBy w' (some r) → w'.heap.size = w.heap.size →
      (Instr.entry (.pointer (some ⟨r, 0, none⟩))).run Tryz.prog w' = .ok (.tuple #[ptV p, yes]) w' → wpListIn F n Tryz.prog ops Q rest (a.put o.dst (.tuple #[.bool true, ptV p, yes])) w') :
    wpListIn F n Tryz.prog ops Q (o :: rest) a w := by
  refine wpListIn_plain hg fun K' hK' => ?_
  unfold Oper.wpIn
  refine ⟨by simp [Oper.about, hop], ?_⟩
  rw [Oper.semAt_plain F _ _ (by rw [hop]; intro c hc'; cases hc')]
  rcases h.next o.type with ⟨h0, hrun⟩ | ⟨p, w', h1, h2, hrun, h3, h4, h5, h6, h7⟩
  · simp [execOp, hop, hit, hrun, Result.andThen]
    exact hK' _ _ (hDone h0)
  · simp [execOp, hop, hit, hrun, Result.andThen]
    exact hK' _ _ (hMore p w' h1 h2 h3 h4 h5 h6 h7)
end

theorem nodup_len {α : Type} [DecidableEq α] : ∀ (l m : List α), l.Nodup → (∀ x ∈ l, x ∈ m) → l.length ≤ m.length
  | [], _, _, _ => Nat.zero_le _
  | x :: l, m, hnd, hs => by
    have h1 := hs x (by simp)
    obtain ⟨h2, h3⟩ := List.nodup_cons.1 hnd
    have h4 := nodup_len l (m.erase x) h3 (fun y hy => (List.mem_erase_of_ne (fun e => h2 (by rw [← e]; exact hy))).2 (hs y (by simp [hy])))
    rw [List.length_erase_of_mem h1] at h4
    have := List.length_pos_of_mem h1
    simp only [List.length_cons]
    omega
theorem MapPts.nodup {w : World} {b : Nat} {ks : List Pt} (h : MapPts w b ks) : ks.Nodup := by
  obtain ⟨_, _, _, _, h, _⟩ := h
  exact h
set_option maxRecDepth 100000 in
set_option maxHeartbeats 1000000 in
/-- 'func(yield func(K) bool) { for k := range m { if !yield(k) { return } } }' -/
theorem keys1_in (F : Fence) (n : Nat) (hF : F.fn 72) (hro : F.round = none) (hn : 1 ≤ n) (l Bm b : Nat) (ks : List Pt) (J Jx : List Pt → World → Prop)
    (hY : ∀ pre x W, J pre W → pre.length < ks.length → YieldAt F (n - 1) Tryz.prog l #[ptV x] W fun e W' => (e = .returned (.bool true) ∧ J (pre ++ [x]) W' ∧ KeepsWalks W W') ∨ (e = .returned (.bool false) ∧ Jx (pre ++ [x]) W'))
    (W : World) (hJ : AbidesFrom W.heap.size J) (hm : W.cell? ⟨Bm, 0, none⟩ = some (.map (some b))) (hown : MapPts W b ks) (h0 : J [] W) :
    CallsIn F n Tryz.prog 72 #[.func (.yield l) #[] #[], .pointer (some ⟨Bm, 0, none⟩)] W fun e W' => (∃ v, e = .returned v) ∧ ((∃ ss, ss.Perm ks ∧ J ss W') ∨ (∃ pre, True ∧ Jx pre W')) := by
  refine callsIn_of_wp Tryz.func72 rfl hF ?_ hro
  simp only [Tryz.ntmps72, List.size_toArray, List.length_cons, List.length_nil, Nat.reduceAdd, Nat.reduceSub, Array.replicate_succ, Array.replicate_zero, List.push_toArray, List.append_toArray, List.nil_append, List.cons_append]
  gi_wp2_with (first | (gi_at_range; refine wpListIn_range_pts rfl _ rfl b ks rfl hown ?_; intro w0 hrg0 hg0 hs0) | gi_in)
  go_frame
  gi_loopw [3] (fun _ wr => ∃ (ss : List Pt), RangePts wr b W.heap.size ks ss ∧ (∀ p ∈ ss, p ∈ ks) ∧ ss.Nodup ∧ J ss wr) (fun _ wr => wr.rangeLeft b W.heap.size)
  case atStart =>
    exact ⟨[], hrg0, by simp, by simp, hJ [] W w0 none h0 hg0 (fun r e => by cases e)⟩
  case round =>
    obtain ⟨ss, hrg, hsub, hnd, hJs⟩ := hrel
    gi_wp2_with (first | (gi_at_next; refine wpListIn_next_pts rfl _ rfl b W.heap.size ks ss rfl hrg ?_ ?_) | gi_in)
    · intro hall
      gi_wp2
      go_end0
      exact ⟨⟨_, rfl⟩, .inl ⟨ss, (List.perm_ext_iff_of_nodup hnd hown.nodup).2 (fun p => ⟨hsub p, hall p⟩), hJs⟩⟩
    · intro p w2 hpk hps hrg2 hlt hg2 hs2 hen
      have hJ2 : J ss w2 := hJ ss wr w2 (some W.heap.size) hJs hg2 (fun r e => by cases e; exact ⟨Nat.le_refl _, hrg.walk⟩)
      have hnd2 : (ss ++ [p]).Nodup := List.nodup_append.2 ⟨hnd, by simp, fun a ha c hc e1 => by (simp at hc; subst hc; subst e1; exact hps ha)⟩
      have hsub2 : ∀ q ∈ ss ++ [p], q ∈ ks := fun q hq => by
        rcases List.mem_append.1 hq with hq | hq
        · exact hsub q hq
        · simp at hq; subst hq; exact hpk
      have hlen := nodup_len _ _ hnd2 hsub2
      rw [List.length_append] at hlen
      have hlen : ss.length < ks.length := by simp at hlen; omega
      have hg3 : w2.grownBy (putRow (w2.alloc (.cells (pointA zeroPt) 26)) w2.heap.size 0 (pointA p)) none := by
        refine ⟨?_, ?_, ?_, ?_, fun k hk _ => ?_⟩
        · exact (setCells_misc _ _ _ _).1
        · exact (setCells_misc _ _ _ _).2.1
        · exact (setCells_misc _ _ _ _).2.2
        · rw [size_put]; simp
        · exact (setCells_far _ _ _ _ k (Nat.ne_of_lt hk)).trans (Below.heap_alloc _ _ k hk)
      have hJ3 := hJ ss w2 _ none hJ2 hg3 (fun r e => by cases e)
      have hrg3 := hrg2.kept hg3 (by simp) (by simp)
      have hleft : (putRow (w2.alloc (.cells (pointA zeroPt) 26)) w2.heap.size 0 (pointA p)).rangeLeft b W.heap.size = w2.rangeLeft b W.heap.size := hrg2.left_kept hg3
      obtain ⟨fn, tmps, assign, body, hy, hR⟩ := hY ss p _ hJ3 hlen
      clear hs2 hJ2 hg2
      unfold ptV at *
      gi_wp2
      generalize putRow (w2.alloc (Obj.cells (pointA zeroPt) 26)) w2.heap.size 0 (pointA p) = w3 at *
      refine hR.mono ?_
      rintro e W4 (⟨rfl, hJ4, hk4⟩ | ⟨rfl, hJx4⟩)
      · gi_wp2
        have hrg4 := hrg3.of_walks hk4
        go_roundw
        case rel => exact ⟨ss ++ [p], hrg4, hsub2, hnd2, hJ4⟩
        case measure => rw [hrg3.left_walks hk4, hleft]; exact hlt
      · gi_wp2
        refine bodyPost_ret (results_none rfl _ _ _) rfl ?_
        exact ⟨⟨_, rfl⟩, .inr ⟨ss ++ [p], trivial, hJx4⟩⟩

/-- maps.Keys(m): the map is boxed; the function value captures the box -/
theorem keys_in (F : Fence) (n : Nat) (hF : F.fn 52) (hro : F.round = none) (mb : Option Nat) (w : World) :
    CallsIn F n Tryz.prog 52 #[.map mb] w fun e w' =>
      e = .returned (.func (.func 72) #[] #[.pointer (some ⟨w.heap.size, 0, none⟩)]) ∧ w' = w.alloc (.cells #[.map mb] 82) := by
  refine callsIn_of_wp Tryz.func52 rfl hF ?_ hro
  simp only [Tryz.ntmps52, List.size_toArray, List.length_cons, List.length_nil, Nat.reduceAdd, Nat.reduceSub, Array.replicate_succ, Array.replicate_zero, List.push_toArray, List.append_toArray, List.nil_append, List.cons_append]
  gi_wp2
  go_ret
  exact ⟨rfl, rfl⟩
theorem keys_stops (F : Fence) (n : Nat) (hF : F.fn 72) (hro : F.round = none) (hn : 1 ≤ n) (Bm b : Nat) (ks : List Pt) (w : World) (hBm : Bm < w.heap.size)
    (hm : w.cell? ⟨Bm, 0, none⟩ = some (.map (some b))) (hown : MapPts w b ks) :
    SeqStopsK F n Tryz.prog 72 #[.pointer (some ⟨Bm, 0, none⟩)] (fun p : Pt => #[ptV p]) KeepsWalks (fun ss => ss.Perm ks) (fun _ => True) ks.length w := fun l J Jx W hW hJ _ hY h0 =>
  keys1_in F n hF hro hn l Bm b ks J Jx hY W hJ ((hW.cell (p := ⟨Bm, 0, none⟩) hBm).trans hm) (hown.keep hW hown.lt) h0
end Go.Proofs.YthdjhbiigmcecaaGreat.F13

/- slices.AppendSeq, slices.Collect at checkpoints, against whatever iterator. -/
namespace Go.Proofs.YthdjhbiigmcecaaGreat.F13
open Go.RowKit Go.Maps Go.MapKept Go.Shelf
attribute [local go_sem] Oper.semAt_some

/-- the checkpoints' cells, one behind the other -/
def ptCells (ps : List Pt) : List Value := (ps.map fun p => (pointA p).toList).flatten
theorem ptCells_cons (p : Pt) (ps : List Pt) : ptCells (p :: ps) = (pointA p).toList ++ ptCells ps := by simp [ptCells]
theorem ptCells_append (ps qs : List Pt) : ptCells (ps ++ qs) = ptCells ps ++ ptCells qs := by simp [ptCells]
theorem ptCells_one (p : Pt) : ptCells [p] = (pointA p).toList := by simp [ptCells]
theorem ptCells_length (ps : List Pt) : (ptCells ps).length = ps.length * 33 := by
  induction ps with
  | nil => rfl
  | cons g gs ih =>
    rw [ptCells_cons, List.length_append, ih]
    simp
    omega
theorem ptCells_get : ∀ (ps : List Pt) (i r : Nat) (hi : i < ps.length), r < 33 → (ptCells ps)[i * 33 + r]? = (pointA ps[i])[r]?
  | [], i, r, hi, _ => absurd hi (by simp)
  | g :: gs, 0, r, _, hr => by
    rw [ptCells_cons, List.getElem?_append_left (by simp; omega)]
    simp
  | g :: gs, i + 1, r, hi, hr => by
    have := ptCells_get gs i r (by simpa using hi) hr
    rw [ptCells_cons, List.getElem?_append_right (by simp; omega)]
    simp only [List.getElem_cons_succ]
    rw [← this]
    congr 1
    simp
    omega
theorem pointA_one (p : Pt) : ∀ u ∈ (pointA p).toList, u.oneCell' = true := by
  intro u hu
  simp only [pointA, hashA, Array.toList_append, List.mem_append, List.mem_cons, List.not_mem_nil, or_false, List.mem_map] at hu
  rcases hu with rfl | ⟨x, _, rfl⟩ <;> rfl

theorem fold_all (A B : Array Value) (n : Nat) (hn : B.size = n) (h : A.size = n) : Array.foldl (fun cs (x : Value × Nat) => cs.setIfInBounds x.2 x.1) A B.zipIdx 0 n = B := by
  have := fold_splice A B 0 n hn (by omega)
  simp only [Nat.zero_add] at this
  rw [this]
  exact splice_all A B (by omega)
attribute [go_sem] fold_all

/-- a checkpoint in a row of its own -/
def PtBox (W : World) (B : Nat) (p : Pt) : Prop := row? W B 0 33 = some (pointA p)
theorem PtBox.own {X Y : World} {row : Option Nat} {B : Nat} {p : Pt} (h : PtBox X B p) (hg : X.grownBy Y row) (hr : ∀ r, row = some r → ∃ o : Obj, X.heap[r]? = some o ∧ o.isCells = false) : PtBox Y B p := by
  obtain ⟨cs, t, fr, hb, _⟩ := row?_some h
  have hlt := (Array.getElem?_eq_some_iff.1 hb).1
  have hne : some B ≠ row := fun e => by
    obtain ⟨o, ho, hc⟩ := hr B e.symm
    rw [hb] at ho
    cases ho
    cases hc
  unfold PtBox row?
  rw [hg.block B hlt hne]
  exact h
theorem info_pt : (Tryz.prog.info? 26).map (fun i => (i.zero, i.size, i.bytes)) = some (some (.agg (pointA zeroPt)), 33, 40) := by kernel_rfl
theorem cell_pt_new (w : World) (p : Pt) (t : TypeId) : ∀ j u, (ptCells [p])[j]? = some u → (w.alloc (.cells (pointA p) t)).cell? ((⟨w.heap.size, 0, none⟩ : Addr).add j) = some u := by
  intro j u hj
  rw [ptCells_one] at hj
  have hadd : (⟨w.heap.size, 0, none⟩ : Addr).add j = ⟨w.heap.size, j, none⟩ := by unfold Addr.add; split <;> simp_all
  rw [hadd, cell_alloc, if_pos rfl]
  simpa using hj

theorem grown_box (w : World) (p : Pt) : w.grownBy (putRow (w.alloc (.cells (pointA zeroPt) 26)) w.heap.size 0 (pointA p)) none := by
  refine ⟨?_, ?_, ?_, ?_, fun k hk _ => ?_⟩
  · exact (setCells_misc _ _ _ _).1
  · exact (setCells_misc _ _ _ _).2.1
  · exact (setCells_misc _ _ _ _).2.2
  · rw [size_put]; simp
  · exact (setCells_far _ _ _ _ k (Nat.ne_of_lt hk)).trans (Below.heap_alloc _ _ k hk)
set_option maxRecDepth 100000 in
set_option maxHeartbeats 2000000 in
theorem appendSeq_in (F : Fence) (n : Nat) (hF : F.fn 91) (hro : F.round = none) (hn : 2 ≤ n) (g : Nat) (lb : Array Value) (hFg : F.fn g) (eg : ∀ args w, (callFunc g args).run Tryz.prog w = .ok (.enter g args) w)
    (S : List Pt → Prop) (N : Nat) (hN : N ≤ maxLen) (hNb : N * 40 ≤ 140737488355328) (w : World) (hseq : SeqStopsK F (n - 1) Tryz.prog g lb (fun p : Pt => #[ptV p]) KeepsWalks S (fun _ => True) N w) :
    CallsIn F n Tryz.prog 91 #[.slice none 0 0, .func (.func g) #[] lb] w fun e w' => ∃ (v : Value) (ss : List Pt), e = .returned v ∧ S ss ∧ w'.ownsRow w.heap.size 26 33 v ss.length (ptCells ss) ∧ Below w.heap.size w w' := by
  have h1 : 1 ≤ n := by omega
  obtain ⟨i0, hi, hz0, hz1, hz2⟩ := info_parts info_pt
  refine callsIn_of_wp_marks Tryz.func91 rfl hF ?_ hro
  simp only [Tryz.ntmps91, List.size_toArray, List.length_cons, List.length_nil, Nat.reduceAdd, Nat.reduceSub, Array.replicate_succ, Array.replicate_zero, List.push_toArray, List.append_toArray, List.nil_append, List.cons_append]
  gi_wp2
  have bO := Boxed.new w 49 (.slice none 0 0)
  have hB0 : Below w.heap.size w (w.alloc (.cells #[.slice none 0 0] 49)) := (Below.refl _ w).alloc (Nat.le_refl _) _
  have hseq' : SeqStopsK F (n - 1) Tryz.prog g lb (fun p : Pt => #[ptV p]) KeepsWalks S (fun _ => True) N (w.alloc (.cells #[.slice none 0 0] 49)) :=
    fun l J Jx W hW => hseq l J Jx W (hB0.trans (hW.mono (by simp)))
  have hown0 : Go.Own (fun (pre : List Pt) (W : World) => ∃ v, Boxed W w.heap.size 49 v ∧ W.ownsRow w.heap.size 26 33 v pre.length (ptCells pre) ∧ True) :=
    holdsRow_own (β := List Pt) w.heap.size w.heap.size 49 26 33 (fun pre => pre.length) (fun pre => ptCells pre) (fun _ _ => True)
  refine wpIn_rangeFunc_ownH hro h1 (gf := g) (lb := lb) rfl hFg eg (w0 := w.alloc (.cells #[.slice none 0 0] 49)) hseq' walksK_t walksK_b (Below.refl _ _) (fun _ => rfl)
    (fun pre W => (∃ v, Boxed W w.heap.size 49 v ∧ W.ownsRow w.heap.size 26 33 v pre.length (ptCells pre) ∧ True) ∧ Below w.heap.size w W)
    (fun _ _ _ => False)
    (OwnFrom.and (Go.Own.from hown0 _) (ownFrom_below (Nat.le_refl _) (by simp)))
    (fun _ _ _ _ _ hs _ _ => hs)
    ⟨⟨_, bO, World.ownsRow_nil _ _ _ _, trivial⟩, hB0⟩
    (fun x a' W => ∃ Bx, w.heap.size < Bx ∧ PtBox W Bx x ∧ a' = { tmps := #[.slice none 0 0, .func (.func g) #[] lb, .pointer (some ⟨w.heap.size, 0, none⟩), undef, .slice none 0 0, .pointer (some ⟨Bx, 0, none⟩), .func (.func g) #[] lb, ptV x, undef, undef, undef, undef, undef], defers := [] })
    (fun x a' _ X Y row hs hg hr => by obtain ⟨Bx, h1, h2, h3⟩ := hs; exact ⟨Bx, h1, h2.own hg (fun r e => (hr r e).2), h3⟩)
    ?assign ?body ?done ?stop
  case assign =>
    rintro l pre x W K ⟨⟨v, hv, hrow, _⟩, hB⟩ hK
    have hg := grown_box W x
    have hbx : PtBox (putRow (W.alloc (.cells (pointA zeroPt) 26)) W.heap.size 0 (pointA x)) W.heap.size x := by
      unfold PtBox
      go_simp
    unfold ptV
    gi_wp2
    generalize putRow (W.alloc (Obj.cells (pointA zeroPt) 26)) W.heap.size 0 (pointA x) = X at *
    have hko : KeepsOthers W X := KeepsOthers.of_grownBy hg (fun j o e => by cases e)
    exact hK _ _ (hko.from _) hko.walks ⟨⟨v, hv.kept hg (by simp), hrow.kept hg (Decidable.em (v.ownBlock = none)), trivial⟩, hB.grown hg hB.size (fun k e => by cases e)⟩ ⟨W.heap.size, hv.lt, hbx, rfl⟩
  case body =>
    rintro l pre x a' W hl ⟨r, hr⟩ ⟨⟨v, hv, hrow, _⟩, hB⟩ ⟨Bx, hBx, bX, rfl⟩ hlt
    have hc := hv.cell
    have hf := hv.frozen
    unfold PtBox at bX
    have hpl : pre.length + 1 ≤ N := hlt
    unfold ptV
    gi_wp2_with (gi_at_builtin; refine wpListIn_append_own _ rfl _ _ 49 rfl w.heap.size 26 i0 (.agg (pointA zeroPt)) 33 40 Tryz.underlying49 hi hz0 hz1 hz2 (by simp [Value.cells]) (by decide) _ _ _ rfl (hrow.alloc _) ⟨W.heap.size, 0, none⟩ 1 1 (ptCells [x]) rfl (by rw [ptCells_length]; rfl) (cell_pt_new _ _ _) (by rw [ptCells_one]; exact pointA_one x) (by omega) (by omega) (by have := hB.size; simp; omega) ?_; intro v' w1 hown' hgrow _; obtain ⟨g', cap', rfl⟩ := ownsRow_succ hown'; obtain ⟨hv1, hv2, hr2, hk2, hb2⟩ := hv.appended (by decide) hrow hB.size (Nat.le_refl _) hown' hgrow; have hc1 := hv1.cell; have hf1 := hv1.frozen)
    exact ⟨hk2.from _, hk2.walks, ⟨⟨_, hv2, by rw [ptCells_append, List.length_append]; exact hr2, trivial⟩, hB.trans hb2⟩⟩
  case done =>
    rintro D0 D W hD hS ⟨⟨v, hv, hrow, _⟩, hB⟩ hK
    have hc := hv.cell
    gi_wp2
    refine ⟨by simp, .inl ⟨_, _, rfl, run_takeDeferred hK, ?_⟩⟩
    exact ⟨_, results_tmp rfl _ _ _, v, D, rfl, hS, ownsRow_putObj hrow _ hK rfl, hB.trans (belowK_b (w := w) (Nat.le_refl _) W _ _ _ (by simp at hD; omega) hK rfl rfl)⟩
  case stop =>
    rintro D c pre W _ _ h _
    exact h.elim
end Go.Proofs.YthdjhbiigmcecaaGreat.F13

/- Contract: codec.MayPoint. -/
namespace Go.Proofs.YthdjhbiigmcecaaGreat.F13
open Go.RowKit

def mayPt (p : Pt) : Bool := decide (p.epoch.toNat ≤ 4611686018427387904)
theorem mayPoint_c (p : Pt) (w : World) : Calls Tryz.prog 26 #[.agg (pointA p)] w fun e w' => e = .returned (.bool (mayPt p)) ∧ Below w.heap.size w w' := by
  go_enter Tryz.func26, Tryz.ntmps26
  go_wp2_with fail
  go_ret
  exact ⟨ret_bool (by simp [mayPt]; omega), by (repeat' (first | (with_reducible first | exact Below.refl _ _ | assumption | refine bel_trans (by assumption) ?_ ?_ | refine bel_grown (by assumption) ?_ ?_ ?_ | refine Below.alloc ?_ ?_ _ | refine Below.drew ?_ | refine below_drewN ?_ _ | refine Below.setCell ?_ ?_ _ | refine below_put ?_ ?_ _ _ | exact Nat.le_refl _) | omega | (with_reducible first | refine Nat.le_trans ?_ (Below.size (by assumption)) | refine Nat.le_trans ?_ (World.grownBy.size (by assumption))) | (simp only [World.size_alloc, World.size_setCell, World.size_drew, size_drewN]; omega) | (simp only [World.size_alloc, World.size_setCell, World.size_drew, size_drewN, size_put]; omega) | (intro k hk; simp [Value.ownBlock] at hk; first | done | omega) | (simp [size_drewN] at *; omega)))⟩
end Go.Proofs.YthdjhbiigmcecaaGreat.F13

/- Contracts: ffg.New, there. -/
namespace Go.Proofs.YthdjhbiigmcecaaGreat.F13
open Go.RowKit

theorem size_putB (w : World) (b : Nat) (o : Obj) : (putB w b o).heap.size = w.heap.size := by simp [putB]
theorem row?_putB (w : World) (b : Nat) (o : Obj) (c off n : Nat) (h : c ≠ b) : row? (putB w b o) c off n = row? w c off n := by simp [row?, putB_far w b o c h]
theorem cell_putB (w : World) (b : Nat) (o : Obj) (a : Addr) (h : a.block ≠ b) : (putB w b o).cell? a = w.cell? a := World.cell?_of_block (putB_far w b o a.block h)
attribute [go_sem] size_putB row?_putB cell_putB
/-- block b is an empty map -/
def EMap (w : World) (b : Nat) : Prop := w.heap[b]? = some (.map #[] 0)
theorem EMap_new (w : World) (b : Nat) (h : b = w.heap.size) : EMap (w.alloc (.map #[] 0)) b ↔ True := by
  subst h
  exact ⟨fun _ => trivial, fun _ => heap_alloc_new w _⟩
theorem EMap_old (w : World) (o : Obj) (b : Nat) (h : b < w.heap.size) : EMap (w.alloc o) b ↔ EMap w b := by
  unfold EMap
  rw [Below.heap_alloc w o b h]
theorem EMap_drew (w : World) (b : Nat) : EMap w.drew b ↔ EMap w b := Iff.rfl
theorem EMap_far (w : World) (b : Nat) (o : Obj) (k : Nat) (h : k ≠ b) : EMap (putB w b o) k ↔ EMap w k := by
  unfold EMap
  rw [putB_far w b o k h]
attribute [go_sem] EMap_new EMap_old EMap_drew EMap_far
theorem ins_pts (p : Pt) (W : World) (b : Nat) (h : EMap W b) :
    (Instr.mapUpdate 82 (.map (some b)) (.agg (pointA p)) (.agg #[.bool true])).run Tryz.prog W = .ok () (putB W b (.map #[{ key := ptV p, val := yes, born := 0 }] 1)) := by
  have h : W.heap[b]? = some (.map #[] 0) := h
  have hk := key_point false p W
  unfold Instr.mapUpdate
  simp only [Sem.run_bind, run_underlying Tryz.underlying82, Result.andThen_ok, Go.MapKept.run_getObj_map h, Sem.run_pure]
  unfold ptV at hk
  rw [hk]
  simp only [Result.andThen_ok]
  have hf : (Instr.findKey 26 (.agg (pointA p)) (#[] : Array MapEntry).toList).run Tryz.prog W = .ok none W := by
    rw [run_findKey_eq (P := Tryz.prog) W (k := 26) (by rw [Tryz.underlying26])]
    simp [Instr.findAsking]
  rw [hf]
  simp [Go.MapKept.run_setObj_map _ h, putB, ptV, yes]

theorem hp_drew' (w : World) (b : Nat) : w.drew.heap[b]? = w.heap[b]? := rfl
theorem hp_putB (w : World) (b : Nat) (o : Obj) (k : Nat) : (putB w b o).heap[k]? = if k = b then (if b < w.heap.size then some o else none) else w.heap[k]? := by
  by_cases h : k = b
  · subst h
    rw [if_pos rfl]
    split
    · simp [putB, *]
    · simp [putB]; omega
  · rw [if_neg h, putB_far w b o k h]
theorem hp_alloc (w : World) (o : Obj) (k : Nat) : (w.alloc o).heap[k]? = if k = w.heap.size then some o else w.heap[k]? := by
  exact Array.getElem?_push
theorem MapPts.one {w : World} {b : Nat} {p : Pt} (h : w.heap[b]? = some (.map #[{ key := ptV p, val := yes, born := 0 }] 1)) : MapPts w b [p] :=
  ⟨_, _, h, by simp, by simp, by simp, by simp⟩
theorem below_putB {B : Nat} {a w : World} {b : Nat} {o : Obj} (h : Below B a w) (hb : B ≤ b) : Below B a (putB w b o) :=
  ⟨h.os, h.tape, h.output, by rw [size_putB]; exact h.size, fun k hk => (putB_far w b o k (by omega)).trans (h.block k hk)⟩
/-- what New leaves -/
def NewR (w : World) (r b1 b2 : Nat) (p : Pt) : Prop :=
  w.heap[r]? = some (.cells #[.slice none 0 0, .map (some b1), .map (some b2)] 85 (0, 0)) ∧ MapPts w b1 [p] ∧ MapPts w b2 [p] ∧ b1 ≠ b2 ∧ r ≠ b1 ∧ r ≠ b2
theorem NewR.mk {X : World} {b1 b2 : Nat} {p : Pt} (h1 : X.heap[b1]? = some (.map #[{ key := ptV p, val := yes, born := 0 }] 1)) (h2 : X.heap[b2]? = some (.map #[{ key := ptV p, val := yes, born := 0 }] 1)) (hne : b1 ≠ b2) (r : Nat) (hr : r = X.heap.size) :
    NewR (X.alloc (.cells #[.slice none 0 0, .map (some b1), .map (some b2)] 85)) r b1 b2 p := by
  subst hr
  have l1 := (Array.getElem?_eq_some_iff.1 h1).1
  have l2 := (Array.getElem?_eq_some_iff.1 h2).1
  exact ⟨heap_alloc_new X _, MapPts.one ((Below.heap_alloc X _ b1 l1).trans h1), MapPts.one ((Below.heap_alloc X _ b2 l2).trans h2), hne, by omega, by omega⟩

set_option maxRecDepth 100000 in
set_option maxHeartbeats 800000 in
theorem new_c (p : Pt) (w : World) (hp : mayPt p = true) : Calls Tryz.prog 12 #[.agg (pointA p)] w fun e w' => ∃ r b1 b2, e = .returned (.tuple #[.pointer (some ⟨r, 0, none⟩), .int .i64 0]) ∧ NewR w' r b1 b2 p ∧ w.heap.size ≤ r ∧ w.heap.size ≤ b1 ∧ w.heap.size ≤ b2 ∧ Below w.heap.size w w' := by
  have HM := fun W => mayPoint_c p W
  rw [hp] at HM
  have hi := ins_pts p
  have hmm := @run_makeMap Tryz.prog
  go_enter Tryz.func12, Tryz.ntmps12
  go_wp2_with fail
  refine (HM _).mono ?_
  clear HM
  rintro e w1 ⟨rfl, hb⟩
  obtain ⟨k1, k2, k3⟩ := kept hb
  have hrow : row? w1 w.heap.size 0 33 = some (pointA p) := by rw [k3 _ _ _ (by simp), row?_new]; simp
  have hz : w.heap.size < w1.heap.size := by have := hb.size; simp at this; omega
  have hne : w.heap.size ≠ w1.heap.size := by omega
  have hne1 : w.heap.size ≠ w1.heap.size + 1 := by omega
  have hz1 : w.heap.size < w1.heap.size + 1 := by omega
  have hB : Below w.heap.size w w1 := by (repeat' (first | (with_reducible first | exact Below.refl _ _ | assumption | refine bel_trans (by assumption) ?_ ?_ | refine bel_grown (by assumption) ?_ ?_ ?_ | refine Below.alloc ?_ ?_ _ | refine Below.drew ?_ | refine below_drewN ?_ _ | refine Below.setCell ?_ ?_ _ | refine below_put ?_ ?_ _ _ | exact Nat.le_refl _) | omega | (with_reducible first | refine Nat.le_trans ?_ (Below.size (by assumption)) | refine Nat.le_trans ?_ (World.grownBy.size (by assumption))) | (simp only [World.size_alloc, World.size_setCell, World.size_drew, size_drewN]; omega) | (simp only [World.size_alloc, World.size_setCell, World.size_drew, size_drewN, size_put]; omega) | (intro k hk; simp [Value.ownBlock] at hk; first | done | omega) | (simp [size_drewN] at *; omega)))
  clear k1 k2 k3 hb
  have HB := Lib.hid hB
  clear hB
  go_wp2_with fail
  go_region
  all_goals clear hi hmm hrow
  all_goals go_wp2_with fail
  all_goals go_ret2
  all_goals refine ⟨_, _, _, rfl, NewR.mk ?_ ?_ ?_ _ ?_, ?_, ?_, ?_, ?_⟩
  all_goals clear hz1 hne1
  all_goals first
    | omega
    | (simp only [size_putB, World.size_alloc, World.size_drew] <;> omega)
    | ((repeat' (first | (exact HB.out) | (refine Below.alloc ?_ ?_ _) | (refine below_putB ?_ ?_) | (refine Below.drew ?_) | (simp only [size_putB, World.size_alloc, World.size_drew] <;> omega) | omega)); done)
    | (simp only [hp_putB, hp_alloc, hp_drew', size_putB, World.size_alloc, World.size_drew]; ((repeat' split) <;> first | rfl | contradiction | (exfalso; omega) | omega | (exact absurd trivial (by assumption))))
end Go.Proofs.YthdjhbiigmcecaaGreat.F13

/- Justified and final checkpoints, and lists in order: plain Lean. -/
namespace Go.Proofs.YthdjhbiigmcecaaGreat.F13

/-- a checkpoint is ahead of another one -/
def ptLt (p q : Pt) : Prop := p.epoch.toNat < q.epoch.toNat ∨ (p.epoch = q.epoch ∧ p.name.1 < q.name.1)
instance (p q : Pt) : Decidable (ptLt p q) := by unfold ptLt; infer_instance
theorem ptLt_irrefl (p : Pt) : ¬ ptLt p p := by
  rintro (h | ⟨_, h⟩)
  · omega
  · exact List.lt_irrefl _ h
theorem ptLt_trans {p q r : Pt} (h1 : ptLt p q) (h2 : ptLt q r) : ptLt p r := by
  rcases h1 with h1 | ⟨e1, h1⟩
  · rcases h2 with h2 | ⟨e2, h2⟩
    · exact .inl (by omega)
    · exact .inl (by rw [← e2]; exact h1)
  · rcases h2 with h2 | ⟨e2, h2⟩
    · exact .inl (by rw [e1]; exact h2)
    · exact .inr ⟨e1.trans e2, List.lt_trans h1 h2⟩
theorem ptLt_tri {p q : Pt} (h1 : ¬ ptLt p q) (h2 : ¬ ptLt q p) : p = q := by
  simp only [ptLt, not_or, not_and] at h1 h2
  have he : p.epoch = q.epoch := UInt64.toNat_inj.1 (by omega)
  have hn := List.le_antisymm (List.not_lt.1 (h2.2 he.symm)) (List.not_lt.1 (h1.2 he))
  cases p; cases q
  simp only [Pt.mk.injEq]
  exact ⟨he, Subtype.ext hn⟩
theorem ptLt_asymm {p q : Pt} (h1 : ptLt p q) : ¬ ptLt q p := fun h2 => ptLt_irrefl _ (ptLt_trans h1 h2)

/-- lists in order are the same if they have the same members -/
theorem sorted_uniq : ∀ {l m : List Pt}, l.Pairwise ptLt → m.Pairwise ptLt → (∀ p, p ∈ l ↔ p ∈ m) → l = m
  | [], [], _, _, _ => rfl
  | [], b :: m, _, _, h => absurd ((h b).2 (by simp)) (by simp)
  | a :: l, [], _, _, h => absurd ((h a).1 (by simp)) (by simp)
  | a :: l, b :: m, hl, hm, h => by
    rw [List.pairwise_cons] at hl hm
    have hab : a = b := by
      rcases List.mem_cons.1 ((h a).1 (by simp)) with e | ha
      · exact e
      · rcases List.mem_cons.1 ((h b).2 (by simp)) with e | hb
        · exact e.symm
        · exact absurd (hm.1 _ ha) (ptLt_asymm (hl.1 _ hb))
    subst hab
    congr 1
    refine sorted_uniq hl.2 hm.2 fun p => ⟨fun hp => ?_, fun hp => ?_⟩
    · rcases List.mem_cons.1 ((h p).1 (List.mem_cons_of_mem _ hp)) with e | hp'
      · subst e; exact absurd (hl.1 _ hp) (ptLt_irrefl _)
      · exact hp'
    · rcases List.mem_cons.1 ((h p).2 (List.mem_cons_of_mem _ hp)) with e | hp'
      · subst e; exact absurd (hm.1 _ hp) (ptLt_irrefl _)
      · exact hp'
/-- how many at the head are ahead of x -/
def insAt (x : Pt) : List Pt → Nat
  | [] => 0
  | p :: l => if ptLt p x then insAt x l + 1 else 0
def insPt (x : Pt) (l : List Pt) : List Pt := l.take (insAt x l) ++ x :: l.drop (insAt x l)
theorem insAt_le (x : Pt) : ∀ l : List Pt, insAt x l ≤ l.length
  | [] => Nat.le_refl _
  | p :: l => by
    unfold insAt
    split
    · simpa using insAt_le x l
    · simp
theorem insAt_lt (x : Pt) : ∀ (l : List Pt) (i : Nat) (hi : i < l.length), i < insAt x l → ptLt l[i] x
  | p :: l, i, hi, h => by
    unfold insAt at h
    split at h
    · cases i with
      | zero => simpa
      | succ i => simpa using insAt_lt x l i (by simpa using hi) (by omega)
    · omega
theorem insAt_eq (x : Pt) : ∀ (l : List Pt) (h : insAt x l < l.length), ¬ ptLt l[insAt x l] x
  | p :: l, h => by
    by_cases hp : ptLt p x
    · have e : insAt x (p :: l) = insAt x l + 1 := by rw [insAt, if_pos hp]
      simp only [e, List.getElem_cons_succ]
      exact insAt_eq x l (by rw [e] at h; simpa using h)
    · have e : insAt x (p :: l) = 0 := by rw [insAt, if_neg hp]
      simpa only [e, List.getElem_cons_zero]
theorem insPt_mem (x p : Pt) (l : List Pt) : p ∈ insPt x l ↔ p = x ∨ p ∈ l := by
  unfold insPt
  have h := List.take_append_drop (insAt x l) l
  constructor
  · intro hp
    simp only [List.mem_append, List.mem_cons] at hp
    rcases hp with hp | hp | hp
    · exact .inr (List.mem_of_mem_take hp)
    · exact .inl hp
    · exact .inr (List.mem_of_mem_drop hp)
  · intro hp
    simp only [List.mem_append, List.mem_cons]
    rcases hp with hp | hp
    · exact .inr (.inl hp)
    · rw [← h, List.mem_append] at hp
      rcases hp with hp | hp
      · exact .inl hp
      · exact .inr (.inr hp)
theorem insPt_length (x : Pt) (l : List Pt) : (insPt x l).length = l.length + 1 := by
  have := insAt_le x l
  unfold insPt
  simp
  omega
theorem insPt_sorted (x : Pt) (l : List Pt) (h : l.Pairwise ptLt) (hx : x ∉ l) : (insPt x l).Pairwise ptLt := by
  unfold insPt
  have hle := insAt_le x l
  have h1 : ∀ p ∈ l.take (insAt x l), ptLt p x := by
    intro p hp
    obtain ⟨i, hi, rfl⟩ := List.mem_iff_getElem.1 hp
    rw [List.getElem_take]
    have : i < insAt x l := by simp at hi; omega
    exact insAt_lt x l i (by omega) this
  have h2 : ∀ p ∈ l.drop (insAt x l), ptLt x p := by
    intro p hp
    obtain ⟨i, hi, rfl⟩ := List.mem_iff_getElem.1 hp
    rw [List.getElem_drop]
    simp at hi
    have hk : insAt x l < l.length := by omega
    have hn := insAt_eq x l hk
    have hxk : ptLt x l[insAt x l] := by
      by_cases h' : ptLt x l[insAt x l]
      · exact h'
      · exact absurd (List.getElem_mem hk) (by rw [← ptLt_tri h' hn]; exact hx)
    cases i with
    | zero => exact hxk
    | succ i => exact ptLt_trans hxk (List.pairwise_iff_getElem.1 h _ _ hk (by omega) (by omega))
  refine List.pairwise_append.2 ⟨h.sublist (List.take_sublist _ _), List.pairwise_cons.2 ⟨h2, h.sublist (List.drop_sublist _ _)⟩, ?_⟩
  intro p hp q hq
  rcases List.mem_cons.1 hq with e | hq
  · subst e; exact h1 _ hp
  · exact ptLt_trans (h1 _ hp) (h2 _ hq)
/-- the document's sort -/
def srtPt (l : List Pt) : List Pt := l.foldl (fun o x => insPt x o) []
theorem srt_fold : ∀ (l o : List Pt), (l.foldl (fun o x => insPt x o) o).length = o.length + l.length ∧ (∀ p, p ∈ l.foldl (fun o x => insPt x o) o ↔ p ∈ o ∨ p ∈ l) ∧ (o.Pairwise ptLt → l.Nodup → (∀ p ∈ l, p ∉ o) → (l.foldl (fun o x => insPt x o) o).Pairwise ptLt)
  | [], o => ⟨rfl, fun p => by simp, fun h _ _ => h⟩
  | x :: l, o => by
    obtain ⟨h1, h2, h3⟩ := srt_fold l (insPt x o)
    simp only [List.foldl_cons]
    refine ⟨by rw [h1, insPt_length]; simp; omega, fun p => ?_, fun ho hn hd => ?_⟩
    · rw [h2, insPt_mem]
      simp only [List.mem_cons]
      constructor
      · rintro ((h | h) | h)
        · exact .inr (.inl h)
        · exact .inl h
        · exact .inr (.inr h)
      · rintro (h | h | h)
        · exact .inl (.inr h)
        · exact .inl (.inl h)
        · exact .inr h
    · rw [List.nodup_cons] at hn
      refine h3 (insPt_sorted x o ho (hd x (by simp))) hn.2 fun p hp hi => ?_
      rcases (insPt_mem x p o).1 hi with e | hi
      · subst e; exact hn.1 hp
      · exact hd p (List.mem_cons_of_mem _ hp) hi
theorem srt_mem (l : List Pt) (p : Pt) : p ∈ srtPt l ↔ p ∈ l := by
  have := (srt_fold l []).2.1 p
  simpa [srtPt] using this
theorem srt_length (l : List Pt) : (srtPt l).length = l.length := by
  have := (srt_fold l []).1
  simpa [srtPt] using this
theorem srt_sorted (l : List Pt) (h : l.Nodup) : (srtPt l).Pairwise ptLt := (srt_fold l []).2.2 List.Pairwise.nil h (by simp)
/-- whatever is in order and has these members is the document's list -/
theorem srt_of {l m : List Pt} (hm : m.Pairwise ptLt) (hl : l.Nodup) (h : ∀ p, p ∈ m ↔ p ∈ l) : m = srtPt l :=
  sorted_uniq hm (srt_sorted l hl) fun p => by rw [h, srt_mem]
theorem srt_eq {l m : List Pt} (hm : m.Nodup) (hl : l.Nodup) (h : ∀ p, p ∈ m ↔ p ∈ l) : srtPt m = srtPt l := srt_of (srt_sorted m hm) hl fun p => by rw [srt_mem, h]

/-- justified -/
inductive Jus (a : Pt) (ls : List Lnk) : Pt → Prop
  | anchor : Jus a ls a
  | step (l : Lnk) : l ∈ ls → Jus a ls l.source → Jus a ls l.target
theorem Jus.mono {a : Pt} {ls ms : List Lnk} (h : ∀ l ∈ ls, l ∈ ms) {p : Pt} (hp : Jus a ls p) : Jus a ms p := by
  induction hp with
  | anchor => exact .anchor
  | step l hl _ ih => exact .step l (h l hl) ih
/-- the next epoch's -/
def Nxt (l : Lnk) : Prop := l.target.epoch = l.source.epoch + 1
instance (l : Lnk) : Decidable (Nxt l) := by unfold Nxt; infer_instance
def Fin (a : Pt) (ls : List Lnk) (p : Pt) : Prop := p = a ∨ ∃ l ∈ ls, l.source = p ∧ Jus a ls p ∧ Nxt l
theorem Fin.mono {a : Pt} {ls ms : List Lnk} (h : ∀ l ∈ ls, l ∈ ms) {p : Pt} (hp : Fin a ls p) : Fin a ms p := by
  rcases hp with e | ⟨l, hl, e, hj, hn⟩
  · exact .inl e
  · exact .inr ⟨l, h l hl, e, hj.mono h, hn⟩
theorem Fin.jus {a : Pt} {ls : List Lnk} {p : Pt} (h : Fin a ls p) : Jus a ls p := by
  rcases h with e | ⟨_, _, _, hj, _⟩
  · subst e; exact .anchor
  · exact hj
/-- has the anchor, and is closed under the links -/
def Clo (ls : List Lnk) (js : List Pt) : Prop := ∀ l ∈ ls, l.source ∈ js → l.target ∈ js
theorem Clo.jus {a : Pt} {ls : List Lnk} {js : List Pt} (hc : Clo ls js) (ha : a ∈ js) {p : Pt} (hp : Jus a ls p) : p ∈ js := by
  induction hp with
  | anchor => exact ha
  | step l hl _ ih => exact hc l hl ih
/-- what a gadget knows: of what is justified, and final -/
structure Knows (a : Pt) (ls : List Lnk) (js fs : List Pt) : Prop where
  jn : js.Nodup
  fn : fs.Nodup
  j : ∀ p, p ∈ js ↔ Jus a ls p
  f : ∀ p, p ∈ fs ↔ Fin a ls p
theorem Knows.start (a : Pt) : Knows a [] [a] [a] := by
  have hj : ∀ p, p ∈ [a] ↔ Jus a [] p := fun p => ⟨fun h => by simp at h; subst h; exact .anchor, fun h => Clo.jus (fun l hl => by cases hl) (by simp) h⟩
  exact ⟨by simp, by simp, hj, fun p => ⟨fun h => .inl (by simpa using h), fun h => (hj p).2 h.jus⟩⟩
/-! the document's rounds -/
def one1 (l : List Pt) (x : Lnk) : List Pt := if x.source ∈ l ∧ x.target ∉ l then l ++ [x.target] else l
def pass (ls : List Lnk) (l : List Pt) : List Pt := ls.foldl one1 l
def passes (ls : List Lnk) : Nat → List Pt → List Pt
  | 0, l => l
  | n + 1, l => pass ls (passes ls n l)
theorem one1_sub (l : List Pt) (x : Lnk) : ∀ p ∈ l, p ∈ one1 l x := by
  intro p hp
  unfold one1
  split
  · exact List.mem_append_left _ hp
  · exact hp
theorem one1_length (l : List Pt) (x : Lnk) : l.length ≤ (one1 l x).length := by
  unfold one1
  split <;> simp
theorem one1_nodup (l : List Pt) (x : Lnk) (h : l.Nodup) : (one1 l x).Nodup := by
  unfold one1
  split
  · rename_i hx
    refine List.nodup_append.2 ⟨h, by simp, fun a ha b hb => ?_⟩
    simp only [List.mem_singleton] at hb
    subst hb
    intro e
    subst e
    exact hx.2 ha
  · exact h
theorem pass_inv : ∀ (ls : List Lnk) (l : List Pt), l.length ≤ (pass ls l).length ∧ (∀ p ∈ l, p ∈ pass ls l) ∧ (l.Nodup → (pass ls l).Nodup) ∧ (∀ p ∈ pass ls l, p ∈ l ∨ ∃ x ∈ ls, x.target = p) ∧ ((pass ls l).length = l.length → pass ls l = l ∧ Clo ls l)
  | [], l => ⟨Nat.le_refl _, fun _ h => h, fun h => h, fun _ h => .inl h, fun _ => ⟨rfl, fun _ h => by cases h⟩⟩
  | x :: ls, l => by
    obtain ⟨h1, h2, h3, h4, h5⟩ := pass_inv ls (one1 l x)
    have e : pass (x :: ls) l = pass ls (one1 l x) := rfl
    have hl := one1_length l x
    rw [e]
    refine ⟨by omega, fun p hp => h2 p (one1_sub l x p hp), fun h => h3 (one1_nodup l x h), fun p hp => ?_, fun hlen => ?_⟩
    · rcases h4 p hp with h | ⟨y, hy, rfl⟩
      · unfold one1 at h
        split at h
        · rcases List.mem_append.1 h with h | h
          · exact .inl h
          · exact .inr ⟨x, by simp, by rw [List.mem_singleton] at h; exact h.symm⟩
        · exact .inl h
      · exact .inr ⟨y, List.mem_cons_of_mem _ hy, rfl⟩
    · have hx : ¬ (x.source ∈ l ∧ x.target ∉ l) := by
        intro hx
        have : (one1 l x).length = l.length + 1 := by unfold one1; rw [if_pos hx]; simp
        omega
      have eo : one1 l x = l := by unfold one1; rw [if_neg hx]
      rw [eo] at h5 ⊢ hlen
      obtain ⟨g1, g2⟩ := h5 hlen
      refine ⟨g1, fun y hy hs => ?_⟩
      rcases List.mem_cons.1 hy with rfl | hy
      · exact Classical.byContradiction fun h => hx ⟨hs, h⟩
      · exact g2 y hy hs
theorem pass_jus (a : Pt) (all : List Lnk) : ∀ (ls : List Lnk) (l : List Pt), (∀ x ∈ ls, x ∈ all) → (∀ p ∈ l, Jus a all p) → ∀ p ∈ pass ls l, Jus a all p
  | [], _, _, h => h
  | x :: ls, l, hs, h => by
    refine pass_jus a all ls (one1 l x) (fun y hy => hs y (List.mem_cons_of_mem _ hy)) fun p hp => ?_
    unfold one1 at hp
    split at hp
    · rename_i hx
      rcases List.mem_append.1 hp with hp | hp
      · exact h p hp
      · simp only [List.mem_singleton] at hp
        subst hp
        exact .step x (hs x (by simp)) (h _ hx.1)
    · exact h p hp
theorem nodup_sub_length {l m : List Pt} (hl : l.Nodup) (h : ∀ p ∈ l, p ∈ m) : l.length ≤ m.length := by
  induction l generalizing m with
  | nil => simp
  | cons a l ih =>
    rw [List.nodup_cons] at hl
    have ha := h a (by simp)
    have hp := List.perm_cons_erase ha
    have := ih (m := m.erase a) hl.2 (fun p hp' => by
      have hne : p ≠ a := fun e => by subst e; exact hl.1 hp'
      exact (List.mem_erase_of_ne hne).2 (h p (List.mem_cons_of_mem _ hp')))
    have hlen := hp.length_eq
    simp only [List.length_cons] at hlen ⊢
    omega
theorem passes_inv (a : Pt) (ls : List Lnk) : ∀ n, (passes ls n [a]).Nodup ∧ a ∈ passes ls n [a] ∧ (∀ p ∈ passes ls n [a], Jus a ls p) ∧ (∀ p ∈ passes ls n [a], p = a ∨ ∃ x ∈ ls, x.target = p) ∧ (Clo ls (passes ls n [a]) ∨ n + 1 ≤ (passes ls n [a]).length)
  | 0 => ⟨by simp [passes], by simp [passes], fun p hp => by simp [passes] at hp; subst hp; exact .anchor, fun p hp => by simp [passes] at hp; exact .inl hp, .inr (by simp [passes])⟩
  | n + 1 => by
    obtain ⟨h1, h2, h3, h4, h5⟩ := passes_inv a ls n
    obtain ⟨g1, g2, g3, g4, g5⟩ := pass_inv ls (passes ls n [a])
    show (pass ls (passes ls n [a])).Nodup ∧ _ ∧ _ ∧ _ ∧ _
    refine ⟨g3 h1, g2 _ h2, pass_jus a ls ls _ (fun _ h => h) h3, fun p hp => ?_, ?_⟩
    · rcases g4 p hp with h | h
      · exact h4 p h
      · exact .inr h
    · by_cases hl : (pass ls (passes ls n [a])).length = (passes ls n [a]).length
      · obtain ⟨e1, e2⟩ := g5 hl
        left
        show Clo ls (pass ls (passes ls n [a]))
        rw [e1]
        exact e2
      · rcases h5 with h5 | h5
        · exfalso
          have hsame : ∀ (ms : List Lnk) (l : List Pt), (∀ x ∈ ms, x ∈ ls) → Clo ls l → pass ms l = l := by
            intro ms
            induction ms with
            | nil => intro l _ _; rfl
            | cons x ms ih =>
              intro l hms hc
              have : one1 l x = l := by
                unfold one1
                rw [if_neg]
                rintro ⟨q1, q2⟩
                exact q2 (hc x (hms x (by simp)) q1)
              show pass ms (one1 l x) = l
              rw [this]
              exact ih l (fun y hy => hms y (List.mem_cons_of_mem _ hy)) hc
          exact hl (by rw [hsame ls _ (fun _ h => h) h5])
        · right
          show n + 1 + 1 ≤ (pass ls (passes ls n [a])).length
          omega
def refJus (a : Pt) (ls : List Lnk) : List Pt := passes ls (ls.length + 1) [a]
theorem refJus_nodup (a : Pt) (ls : List Lnk) : (refJus a ls).Nodup := (passes_inv a ls _).1
theorem refJus_mem (a : Pt) (ls : List Lnk) (p : Pt) : p ∈ refJus a ls ↔ Jus a ls p := by
  obtain ⟨h1, h2, h3, h4, h5⟩ := passes_inv a ls (ls.length + 1)
  refine ⟨h3 p, fun hp => ?_⟩
  rcases h5 with h5 | h5
  · exact h5.jus h2 hp
  · have := nodup_sub_length (m := a :: ls.map (·.target)) h1 (fun p hp => by
      rcases h4 p hp with h | ⟨x, hx, h⟩
      · simp [h]
      · exact List.mem_cons_of_mem _ (List.mem_map.2 ⟨x, hx, h⟩))
    simp only [List.length_cons, List.length_map] at this
    omega
def fone (j : List Pt) (l : List Pt) (x : Lnk) : List Pt := if x.source ∈ j ∧ Nxt x ∧ x.source ∉ l then l ++ [x.source] else l
def refFin (a : Pt) (ls : List Lnk) (j : List Pt) : List Pt := ls.foldl (fone j) [a]
theorem fone_fold (j : List Pt) : ∀ (ls : List Lnk) (l : List Pt), (l.Nodup → (ls.foldl (fone j) l).Nodup) ∧ ∀ p, p ∈ ls.foldl (fone j) l ↔ p ∈ l ∨ ∃ x ∈ ls, x.source = p ∧ p ∈ j ∧ Nxt x
  | [], l => ⟨fun h => h, fun p => by simp⟩
  | x :: ls, l => by
    obtain ⟨h1, h2⟩ := fone_fold j ls (fone j l x)
    simp only [List.foldl_cons]
    refine ⟨fun h => h1 ?_, fun p => ?_⟩
    · unfold fone
      split
      · rename_i hx
        refine List.nodup_append.2 ⟨h, by simp, fun a ha b hb => ?_⟩
        simp only [List.mem_singleton] at hb
        subst hb
        intro e
        subst e
        exact hx.2.2 ha
      · exact h
    · rw [h2]
      have hm : p ∈ fone j l x ↔ p ∈ l ∨ (x.source = p ∧ p ∈ j ∧ Nxt x) := by
        unfold fone
        split
        · rename_i hx
          simp only [List.mem_append, List.mem_singleton]
          constructor
          · rintro (h | rfl)
            · exact .inl h
            · exact .inr ⟨rfl, hx.1, hx.2.1⟩
          · rintro (h | ⟨rfl, _⟩)
            · exact .inl h
            · exact .inr rfl
        · rename_i hx
          refine ⟨.inl, ?_⟩
          rintro (h | ⟨rfl, h1, h2⟩)
          · exact h
          · exact Classical.byContradiction fun h => hx ⟨h1, h2, h⟩
      rw [hm]
      constructor
      · rintro ((h | h) | ⟨y, hy, h⟩)
        · exact .inl h
        · exact .inr ⟨x, by simp, h⟩
        · exact .inr ⟨y, List.mem_cons_of_mem _ hy, h⟩
      · rintro (h | ⟨y, hy, h⟩)
        · exact .inl (.inl h)
        · rcases List.mem_cons.1 hy with rfl | hy
          · exact .inl (.inr h)
          · exact .inr ⟨y, hy, h⟩
theorem refFin_nodup (a : Pt) (ls : List Lnk) (j : List Pt) : (refFin a ls j).Nodup := (fone_fold j ls [a]).1 (by simp)
theorem refFin_mem (a : Pt) (ls : List Lnk) (j : List Pt) (hj : ∀ p, p ∈ j ↔ Jus a ls p) (p : Pt) : p ∈ refFin a ls j ↔ Fin a ls p := by
  unfold refFin Fin
  rw [(fone_fold j ls [a]).2 p]
  simp only [List.mem_singleton, hj]
/-- the document's lists are the gadget's -/
theorem Knows.ref {a : Pt} {ls : List Lnk} {js fs : List Pt} (h : Knows a ls js fs) : srtPt (refJus a ls) = srtPt js ∧ srtPt (refFin a ls (srtPt (refJus a ls))) = srtPt fs :=
  ⟨srt_eq (refJus_nodup a ls) h.jn fun p => by rw [refJus_mem, h.j],
   srt_eq (refFin_nodup a ls _) h.fn fun p => by rw [refFin_mem a ls _ (fun p => by rw [srt_mem, refJus_mem]), h.f]⟩
end Go.Proofs.YthdjhbiigmcecaaGreat.F13
