/- A range over a map of checkpoints, and the iterator that maps.Keys hands back: each key once, in some order. -/
import Derived.Test.YtlkflddjpkhndaaMapPts
import Derived.Maps.Range
import Derived.RangeFuncNested
import Derived.RangeFuncBound
import Derived.RangeFuncCalls
import Derived.RangeFuncLeaves
import Derived.RangeFuncBox
import Derived.Maps.AppendAt
import Derived.Sort.MapsRangeIn
import Derived.Shelf.Abstract
import Derived.Shelf.RegionOpen
import Derived.WalkKit
import Derived.OwnWalkIn
import Derived.TacticsInMore
import Derived.LoopNIn
import Derived.LoopIn
namespace Go.Proofs.Ytlkflddjpkhndaa
open Go.RowKit Go.Maps Go.MapKept Go.Shelf Go.ChangeMaps

/-- block r goes through map b: these have come -/
def RangePts (w : World) (b r : Nat) (ks ss : List Pt) : Prop :=
  ∃ es clock since seen c0, w.heap[b]? = some (.map es clock) ∧ es.toList.map (fun e => (e.key, e.val)) = ks.map (fun p => (ptV p, yes)) ∧ ks.Nodup ∧ (es.toList.map (·.born)).Nodup ∧
    w.heap[r]? = some (.mapIter (some b) since seen c0) ∧ (∀ x ∈ es.toList, x.born < since) ∧ since ≤ c0 ∧ since ≤ clock ∧ ss.Nodup ∧ (∀ p ∈ ss, p ∈ ks) ∧ ∀ e ∈ es.toList, ∀ p, e.key = ptV p → (p ∈ ss ↔ seen.contains e.born = true)
theorem RangePts.walk {w : World} {b r : Nat} {ks ss : List Pt} (h : RangePts w b r ks ss) : ∃ o, w.heap[r]? = some o ∧ o.isWalk = true := by
  obtain ⟨es, clock, since, seen, c0, _, _, _, _, hr, _⟩ := h
  exact ⟨_, hr, rfl⟩
theorem RangePts.of_walks {w w' : World} {b r : Nat} {ks ss : List Pt} (h : RangePts w b r ks ss) (hk : KeepsWalks w w') : RangePts w' b r ks ss := by
  obtain ⟨es, clock, since, seen, c0, hb, h1, h2, h3, hr, rest⟩ := h
  exact ⟨es, clock, since, seen, c0, hk.same b _ hb rfl, h1, h2, h3, hk.same r _ hr rfl, rest⟩
theorem RangePts.kept {w w' : World} {row : Option Nat} {b r : Nat} {ks ss : List Pt} (h : RangePts w b r ks ss) (hg : w.grownBy w' row) (hb' : some b ≠ row) (hr' : some r ≠ row) : RangePts w' b r ks ss := by
  obtain ⟨es, clock, since, seen, c0, hb, h1, h2, h3, hr, rest⟩ := h
  exact ⟨es, clock, since, seen, c0, (hg.block b (Array.getElem?_eq_some_iff.1 hb).1 hb').trans hb, h1, h2, h3, (hg.block r (Array.getElem?_eq_some_iff.1 hr).1 hr').trans hr, rest⟩
theorem RangePts.left_kept {w w' : World} {row : Option Nat} {b r : Nat} {ks ss : List Pt} (h : RangePts w b r ks ss) (hg : w.grownBy w' row) (hb' : some b ≠ row := by simp) (hr' : some r ≠ row := by simp) : w'.rangeLeft b r = w.rangeLeft b r := by
  obtain ⟨es, clock, since, seen, c0, hb, _, _, _, hr, _⟩ := h
  have h1 := (hg.block b (Array.getElem?_eq_some_iff.1 hb).1 hb').trans hb
  have h2 := (hg.block r (Array.getElem?_eq_some_iff.1 hr).1 hr').trans hr
  simp only [World.rangeLeft, hb, hr, h1, h2]
theorem RangePts.left_walks {w w' : World} {b r : Nat} {ks ss : List Pt} (h : RangePts w b r ks ss) (hk : KeepsWalks w w') : w'.rangeLeft b r = w.rangeLeft b r := by
  obtain ⟨es, clock, since, seen, c0, hb, _, _, _, hr, _⟩ := h
  have h1 := hk.same b _ hb rfl
  have h2 := hk.same r _ hr rfl
  simp only [World.rangeLeft, hb, hr, h1, h2]
theorem RangePts.start {w : World} {b : Nat} {ks : List Pt} (h : MapPts w b ks) :
    ∃ w', (Instr.range 77 (.map (some b))).run Try.prog w = .ok (.pointer (some ⟨w.heap.size, 0, none⟩)) w' ∧ RangePts w' b w.heap.size ks [] ∧ w.grownBy w' none ∧ w'.heap.size = w.heap.size + 1 := by
  have hlt := h.lt
  obtain ⟨es, clock, hb, hes, hnd, hborn, hclock⟩ := h
  refine ⟨_, run_range_map w _ _ _ b es clock Try.underlying77 hb, ⟨es, clock, clock, #[], clock, ((MapKept.heap_alloc w _).2 b hlt).trans hb, hes, hnd, hborn, (MapKept.heap_alloc w _).1, hclock, Nat.le_refl _, Nat.le_refl _, List.nodup_nil, by simp, by simp⟩, World.grownBy_alloc w _ none, by simp⟩

theorem entry_pt {es : List MapEntry} {ks : List Pt} (h : es.map (fun e => (e.key, e.val)) = ks.map (fun p => (ptV p, yes))) {e : MapEntry} (he : e ∈ es) : ∃ p ∈ ks, e.key = ptV p ∧ e.val = yes := by
  have : (e.key, e.val) ∈ ks.map (fun p => (ptV p, yes)) := by rw [← h]; exact List.mem_map.2 ⟨e, he, rfl⟩
  obtain ⟨p, hp, e1⟩ := List.mem_map.1 this
  injection e1 with e1 e2
  exact ⟨p, hp, e1.symm, e2.symm⟩
theorem entry_of {es : List MapEntry} {ks : List Pt} (h : es.map (fun e => (e.key, e.val)) = ks.map (fun p => (ptV p, yes))) {p : Pt} (hp : p ∈ ks) : ∃ e ∈ es, e.key = ptV p ∧ e.val = yes := by
  have : (ptV p, yes) ∈ es.map (fun e => (e.key, e.val)) := by rw [h]; exact List.mem_map.2 ⟨p, hp, rfl⟩
  obtain ⟨e, he, e1⟩ := List.mem_map.1 this
  injection e1 with e1 e2
  exact ⟨e, he, e1, e2⟩
/-- entries of one key have one stamp -/
theorem entry_one {es : List MapEntry} {ks : List Pt} (h : es.map (fun e => (e.key, e.val)) = ks.map (fun p => (ptV p, yes))) (hnd : ks.Nodup) {x y : MapEntry} (hx : x ∈ es) (hy : y ∈ es) (hk : x.key = y.key) : x = y := by
  obtain ⟨i, hi, rfl⟩ := List.mem_iff_getElem.1 hx
  obtain ⟨j, hj, rfl⟩ := List.mem_iff_getElem.1 hy
  have hlen : es.length = ks.length := by have := congrArg List.length h; simpa using this
  have e1 : ∀ (i : Nat) (hi : i < es.length), es[i].key = ptV (ks[i]'(by omega)) := fun i hi => by
    have := congrArg (fun l => l[i]?) h
    simp only [List.getElem?_map, List.getElem?_eq_getElem hi, List.getElem?_eq_getElem (show i < ks.length by omega), Option.map_some, Option.some.injEq, Prod.mk.injEq] at this
    exact this.1
  have h2 := ptV_inj ((e1 i hi).symm.trans (hk.trans (e1 j hj)))
  have h3 := (List.getElem_inj hnd).1 h2
  subst h3
  rfl

theorem RangePts.next {w : World} {b r : Nat} {ks ss : List Pt} (h : RangePts w b r ks ss) (ty : TypeId) :
    ((∀ p ∈ ks, p ∈ ss) ∧ (Instr.next (.pointer (some ⟨r, 0, none⟩)) false ty).run Try.prog w = .ok (.tuple #[.bool false]) w) ∨
    ∃ p w', p ∈ ks ∧ p ∉ ss ∧ (Instr.next (.pointer (some ⟨r, 0, none⟩)) false ty).run Try.prog w = .ok (.tuple #[.bool true, ptV p, yes]) w' ∧ RangePts w' b r ks (ss ++ [p]) ∧ w'.rangeLeft b r < w.rangeLeft b r ∧
      w.grownBy w' (some r) ∧ w'.heap.size = w.heap.size ∧ (Instr.entry (.pointer (some ⟨r, 0, none⟩))).run Try.prog w' = .ok (.tuple #[ptV p, yes]) w' := by
  obtain ⟨es, clock, since, seen, c0, hb, hes, hnd, hborn, hr, hold, hsc, hsk, hss, hsub, hseen⟩ := h
  have hne : r ≠ b := by
    intro e
    rw [e, hb] at hr
    cases hr
  rcases run_next_at (P := Try.prog) w ty r b since c0 seen es clock hr hb hold hsc with ⟨h0, hrun⟩ | ⟨e, he, w1, hal, hrun⟩
  · refine .inl ⟨fun p hp => ?_, hrun⟩
    obtain ⟨x, hx, hk, _⟩ := entry_of hes hp
    exact (hseen x hx p hk).2 (all_seen es seen h0 x hx)
  · obtain ⟨hem, hun⟩ := mem_left he
    obtain ⟨p, hp, hk, hv⟩ := entry_pt hes hem
    have hr1 : w1.heap[r]? = some (.mapIter (some b) since seen c0) := by rcases hal with rfl | rfl <;> exact hr
    have hb1 : w1.heap[b]? = some (.map es clock) := by rcases hal with rfl | rfl <;> exact hb
    have hset := heap_set (o' := .mapIter (some b) since (seen.push e.born) clock) hr1
    have hb' : (setBlock w1 r (.mapIter (some b) since (seen.push e.born) clock)).heap[b]? = some (.map es clock) := (hset.2 b (fun e1 => hne e1.symm)).trans hb1
    have hr' : (setBlock w1 r (.mapIter (some b) since (seen.push e.born) clock)).heap[r]? = some (.mapIter (some b) since (seen.push e.born) clock) := hset.1
    have hps : p ∉ ss := fun hin => by
      have := (hseen e hem p hk).1 hin
      rw [hun] at this
      cases this
    refine .inr ⟨p, _, hp, hps, by rw [hrun, hk, hv], ⟨es, clock, since, seen.push e.born, clock, hb', hes, hnd, hborn, hset.1, hold, hsk, hsk, ?_, ?_, ?_⟩, ?_, ?_, ?_, ?_⟩
    · exact List.nodup_append.2 ⟨hss, by simp, fun a ha c hc e1 => by (simp at hc; subst hc; subst e1; exact hps ha)⟩
    · intro q hq
      rcases List.mem_append.1 hq with hq | hq
      · exact hsub q hq
      · simp at hq; subst hq; exact hp
    · intro x hx q hq
      rw [contains_push, Bool.or_eq_true, List.mem_append, hseen x hx q hq]
      refine or_congr Iff.rfl ?_
      simp only [List.mem_singleton, beq_iff_eq]
      constructor
      · rintro rfl
        rw [entry_one hes hnd hx hem (hq.trans hk.symm)]
      · intro hb2
        have : x = e := born_inj hborn hx hem hb2
        subst this
        exact ptV_inj (hq.symm.trans hk)
    · simp only [World.rangeLeft, hb, hr, hb', hr']
      exact left_shrinks es seen e he
    · rcases hal with rfl | rfl <;> exact ⟨rfl, rfl, rfl, by simp [setBlock], fun i _ hi => hset.2 i (fun e1 => hi (by rw [e1]))⟩
    · rcases hal with rfl | rfl <;> simp [setBlock]
    · rw [← hk, ← hv]
      exact run_entry_at _ r b since seen es clock e hset.1 hb' hem hborn

section
variable {F : Fence} {n : Nat} {ops : Array Oper} {rest : List Oper} {Q : Exit → Act → World → Prop} {a : Act} {w : World} {o : Oper}
theorem wpListIn_range_pts (hg : o.guard = none) (m : Operand) (hop : o.op = Op.range 77 m) (b : Nat) (ks : List Pt) (hm : a.eval m = .map (some b)) (hown : MapPts w b ks)
    (hK : ∀ w', RangePts w' b w.heap.size ks [] → w.grownBy w' none → w'.heap.size = w.heap.size + 1 → wpListIn F n Try.prog ops Q rest (a.put o.dst (.pointer (some ⟨w.heap.size, 0, none⟩))) w') :
    wpListIn F n Try.prog ops Q (o :: rest) a w := by
  refine wpListIn_plain hg fun K' hK' => ?_
  obtain ⟨w', hrun, r1, r2, r3⟩ := RangePts.start hown
  unfold Oper.wpIn
  refine ⟨?_, ?_⟩
  · simp [Oper.about, hop]
  · rw [Oper.semAt_plain F _ _ (by rw [hop]; intro c hc'; cases hc')]
    simp [execOp, hop, hm, hrun, Result.andThen]
    exact hK' _ _ (hK w' r1 r2 r3)
theorem wpListIn_next_pts (hg : o.guard = none) (it : Operand) (hop : o.op = Op.next it false) (b r : Nat) (ks ss : List Pt) (hit : a.eval it = .pointer (some ⟨r, 0, none⟩)) (h : RangePts w b r ks ss)
    (hDone : (∀ p ∈ ks, p ∈ ss) → wpListIn F n Try.prog ops Q rest (a.put o.dst (.tuple #[.bool false])) w)
    (hMore : ∀ (p : Pt) (w' : World), p ∈ ks → p ∉ ss → RangePts w' b r ks (ss ++ [p]) → w'.rangeLeft b r < w.rangeLeft b r → w.grownBy w' (some r) → w'.heap.size = w.heap.size →
      (Instr.entry (.pointer (some ⟨r, 0, none⟩))).run Try.prog w' = .ok (.tuple #[ptV p, yes]) w' → wpListIn F n Try.prog ops Q rest (a.put o.dst (.tuple #[.bool true, ptV p, yes])) w') :
    wpListIn F n Try.prog ops Q (o :: rest) a w := by
  refine wpListIn_plain hg fun K' hK' => ?_
  unfold Oper.wpIn
  refine ⟨by simp [Oper.about, hop], ?_⟩
  rw [Oper.semAt_plain F _ _ (by rw [hop]; intro c hc'; cases hc')]
  rcases h.next o.type with ⟨h0, hrun⟩ | ⟨p, w', h1, h2, hrun, h3, h4, h5, h6, h7⟩
  · simp [execOp, hop, hit, hrun, Result.andThen]
    exact hK' _ _ (hDone h0)
  · simp [execOp, hop, hit, hrun, Result.andThen]
    exact hK' _ _ (hMore p w' h1 h2 h3 h4 h5 h6 h7)
end

theorem nodup_len {α : Type} [DecidableEq α] : ∀ (l m : List α), l.Nodup → (∀ x ∈ l, x ∈ m) → l.length ≤ m.length
  | [], _, _, _ => Nat.zero_le _
  | x :: l, m, hnd, hs => by
    have h1 := hs x (by simp)
    obtain ⟨h2, h3⟩ := List.nodup_cons.1 hnd
    have h4 := nodup_len l (m.erase x) h3 (fun y hy => (List.mem_erase_of_ne (fun e => h2 (by rw [← e]; exact hy))).2 (hs y (by simp [hy])))
    rw [List.length_erase_of_mem h1] at h4
    have := List.length_pos_of_mem h1
    simp only [List.length_cons]
    omega
theorem MapPts.nodup {w : World} {b : Nat} {ks : List Pt} (h : MapPts w b ks) : ks.Nodup := by
  obtain ⟨_, _, _, _, h, _⟩ := h
  exact h
set_option maxRecDepth 100000 in
set_option maxHeartbeats 1000000 in
/-- 'func(yield func(K) bool) { for k := range m { if !yield(k) { return } } }' -/
theorem keys1_in (F : Fence) (n : Nat) (hF : F.fn 147) (hro : F.round = none) (hn : 1 ≤ n) (l Bm b : Nat) (ks : List Pt) (J Jx : List Pt → World → Prop)
    (hY : ∀ pre x W, J pre W → pre.length < ks.length → YieldAt F (n - 1) Try.prog l #[ptV x] W fun e W' => (e = .returned (.bool true) ∧ J (pre ++ [x]) W' ∧ KeepsWalks W W') ∨ (e = .returned (.bool false) ∧ Jx (pre ++ [x]) W'))
    (W : World) (hJ : AbidesFrom W.heap.size J) (hm : W.cell? ⟨Bm, 0, none⟩ = some (.map (some b))) (hown : MapPts W b ks) (h0 : J [] W) :
    CallsIn F n Try.prog 147 #[.func (.yield l) #[] #[], .pointer (some ⟨Bm, 0, none⟩)] W fun e W' => (∃ v, e = .returned v) ∧ ((∃ ss, ss.Perm ks ∧ J ss W') ∨ (∃ pre, True ∧ Jx pre W')) := by
  refine callsIn_of_wp Try.func147 rfl hF ?_ hro
  simp only [Try.ntmps147, List.size_toArray, List.length_cons, List.length_nil, Nat.reduceAdd, Nat.reduceSub, Array.replicate_succ, Array.replicate_zero, List.push_toArray, List.append_toArray, List.nil_append, List.cons_append]
  gi_wp2_with (first | (gi_at_range; refine wpListIn_range_pts rfl _ rfl b ks rfl hown ?_; intro w0 hrg0 hg0 hs0) | gi_in)
  go_frame
  gi_loopw [3] (fun _ wr => ∃ (ss : List Pt), RangePts wr b W.heap.size ks ss ∧ (∀ p ∈ ss, p ∈ ks) ∧ ss.Nodup ∧ J ss wr) (fun _ wr => wr.rangeLeft b W.heap.size)
  case atStart =>
    exact ⟨[], hrg0, by simp, by simp, hJ [] W w0 none h0 hg0 (fun r e => by cases e)⟩
  case round =>
    obtain ⟨ss, hrg, hsub, hnd, hJs⟩ := hrel
    gi_wp2_with (first | (gi_at_next; refine wpListIn_next_pts rfl _ rfl b W.heap.size ks ss rfl hrg ?_ ?_) | gi_in)
    · intro hall
      gi_wp2
      go_end0
      exact ⟨⟨_, rfl⟩, .inl ⟨ss, (List.perm_ext_iff_of_nodup hnd hown.nodup).2 (fun p => ⟨hsub p, hall p⟩), hJs⟩⟩
    · intro p w2 hpk hps hrg2 hlt hg2 hs2 hen
      have hJ2 : J ss w2 := hJ ss wr w2 (some W.heap.size) hJs hg2 (fun r e => by cases e; exact ⟨Nat.le_refl _, hrg.walk⟩)
      have hnd2 : (ss ++ [p]).Nodup := List.nodup_append.2 ⟨hnd, by simp, fun a ha c hc e1 => by (simp at hc; subst hc; subst e1; exact hps ha)⟩
      have hsub2 : ∀ q ∈ ss ++ [p], q ∈ ks := fun q hq => by
        rcases List.mem_append.1 hq with hq | hq
        · exact hsub q hq
        · simp at hq; subst hq; exact hpk
      have hlen := nodup_len _ _ hnd2 hsub2
      rw [List.length_append] at hlen
      have hlen : ss.length < ks.length := by simp at hlen; omega
      have hg3 : w2.grownBy (putRow (w2.alloc (.cells (pointA zeroPt) 26)) w2.heap.size 0 (pointA p)) none := by
        refine ⟨?_, ?_, ?_, ?_, fun k hk _ => ?_⟩
        · exact (setCells_misc _ _ _ _).1
        · exact (setCells_misc _ _ _ _).2.1
        · exact (setCells_misc _ _ _ _).2.2
        · rw [size_put]; simp
        · exact (setCells_far _ _ _ _ k (Nat.ne_of_lt hk)).trans (Below.heap_alloc _ _ k hk)
      have hJ3 := hJ ss w2 _ none hJ2 hg3 (fun r e => by cases e)
      have hrg3 := hrg2.kept hg3 (by simp) (by simp)
      have hleft : (putRow (w2.alloc (.cells (pointA zeroPt) 26)) w2.heap.size 0 (pointA p)).rangeLeft b W.heap.size = w2.rangeLeft b W.heap.size := hrg2.left_kept hg3
      obtain ⟨fn, tmps, assign, body, hy, hR⟩ := hY ss p _ hJ3 hlen
      clear hs2 hJ2 hg2
      unfold ptV at *
      gi_wp2
      generalize putRow (w2.alloc (Obj.cells (pointA zeroPt) 26)) w2.heap.size 0 (pointA p) = w3 at *
      refine hR.mono ?_
      rintro e W4 (⟨rfl, hJ4, hk4⟩ | ⟨rfl, hJx4⟩)
      · gi_wp2
        have hrg4 := hrg3.of_walks hk4
        go_roundw
        case rel => exact ⟨ss ++ [p], hrg4, hsub2, hnd2, hJ4⟩
        case measure => rw [hrg3.left_walks hk4, hleft]; exact hlt
      · gi_wp2
        refine bodyPost_ret (results_none rfl _ _ _) rfl ?_
        exact ⟨⟨_, rfl⟩, .inr ⟨ss ++ [p], trivial, hJx4⟩⟩

/-- maps.Keys(m): the map is boxed; the function value captures the box -/
theorem keys_in (F : Fence) (n : Nat) (hF : F.fn 115) (hro : F.round = none) (mb : Option Nat) (w : World) :
    CallsIn F n Try.prog 115 #[.map mb] w fun e w' =>
      e = .returned (.func (.func 147) #[] #[.pointer (some ⟨w.heap.size, 0, none⟩)]) ∧ w' = w.alloc (.cells #[.map mb] 77) := by
  refine callsIn_of_wp Try.func115 rfl hF ?_ hro
  simp only [Try.ntmps115, List.size_toArray, List.length_cons, List.length_nil, Nat.reduceAdd, Nat.reduceSub, Array.replicate_succ, Array.replicate_zero, List.push_toArray, List.append_toArray, List.nil_append, List.cons_append]
  gi_wp2
  go_ret
  exact ⟨rfl, rfl⟩
theorem keys_stops (F : Fence) (n : Nat) (hF : F.fn 147) (hro : F.round = none) (hn : 1 ≤ n) (Bm b : Nat) (ks : List Pt) (w : World) (hBm : Bm < w.heap.size)
    (hm : w.cell? ⟨Bm, 0, none⟩ = some (.map (some b))) (hown : MapPts w b ks) :
    SeqStopsK F n Try.prog 147 #[.pointer (some ⟨Bm, 0, none⟩)] (fun p : Pt => #[ptV p]) KeepsWalks (fun ss => ss.Perm ks) (fun _ => True) ks.length w := fun l J Jx W hW hJ _ hY h0 =>
  keys1_in F n hF hro hn l Bm b ks J Jx hY W hJ ((hW.cell (p := ⟨Bm, 0, none⟩) hBm).trans hm) (hown.keep hW hown.lt) h0
end Go.Proofs.Ytlkflddjpkhndaa
