/- Contract: ref09.PointOf. -/
import Derived.Test.YtbpbnnonialelaaRefPoint
namespace Go.Proofs.Ytbpbnnonialelaa
open Go.RowKit

theorem rdBytes_all {l : List UInt8} {k : Nat} (h : k ≤ l.length) : rdBytes (some l) k = (some (l.drop k), l.take k) := by simp [rdBytes, h]
theorem rdPoint_len (l : List UInt8) (h : l.length = 40) : (rdPoint (some l)).1 = some [] := by
  unfold rdPoint rdHash rdNum
  have h1 := rdBytes_all (l := l) (k := 8) (by omega)
  have h2 := rdBytes_all (l := l.drop 8) (k := 32) (by simp; omega)
  simp only [show ((8 : Nat) : Int) = 8 from rfl, show ((32 : Nat) : Int) = 32 from rfl] at h1 h2 ⊢
  rw [h1]
  dsimp only
  rw [h2]
  simp [h]
theorem pointOf_eq (l : List UInt8) : pointOf l = if mayPt (rdPoint (some l)).2 = true ∧ ptBytes (rdPoint (some l)).2 = l then ((rdPoint (some l)).2, 0) else (zeroPt, 4) := by
  unfold pointOf
  by_cases h : ptBytes (rdPoint (some l)).2 = l
  · have hl : l.length = 40 := by rw [← h, ptBytes_length]
    simp [rdPoint_len l hl]
  · simp [h]
theorem IsB.keepB {l : List UInt8} {v : Value} {w w' : World} (h : IsB l v w) (hb : Below w.heap.size w w') : IsB l v w' := by
  obtain ⟨s, hv, hs⟩ := h
  exact ⟨s, hv, hs.keep hb⟩
/-- a new reader -/
theorem RfR.new {w : World} {s : Sl} {l : List UInt8} (hs : BytesR w s l) (hl : l.length ≤ 140737488355328) (W : World) (hW : Below w.heap.size w W) (r : Nat) (hr : r = W.heap.size) :
    RfR w.heap.size (W.alloc (.cells #[s.v, .int .i64 0, .bool false] 104)) r (some l) := by
  subst hr
  refine ⟨s, l, 0, heap_alloc_new W _, (hs.keep hW).keep (bel_a _ _), Nat.zero_le _, hl, fun hne a ha => ⟨Nat.zero_le _, ?_⟩, hW.size, rfl⟩
  obtain ⟨b, off, ha', hc⟩ := hs.2.2 hne
  rw [ha] at ha'
  injection ha' with ha'
  subst ha'
  have h0 : 0 < l.length := by cases l <;> simp_all
  exact lt_of_cell (hc 0 h0)

theorem fpof_res : Try.f45.results = #[.cell 2 29, .tmp 3] := by kernel_rfl
set_option maxRecDepth 100000 in
set_option maxHeartbeats 800000 in
theorem fpointOf_c (s : Sl) (l : List UInt8) (w : World) (hs : BytesR w s l) (hl : l.length ≤ 140737488355328) :
    Calls Try.prog 45 #[s.v] w fun e w' => e = .returned (.tuple #[.agg (pointA (pointOf l).1), .bool (decide ((pointOf l).2 = 0))]) ∧ Below w.heap.size w w' := by
  have HR := fun r W (h : RfR w.heap.size W r (some l)) => fpoint_c r (some l) W h
  rw [pointOf_eq]
  generalize rdPoint (some l) = res at *
  obtain ⟨st, v⟩ := res
  simp only at HR ⊢
  have Hs := Lib.hid hs
  clear hs
  generalize hX : (if mayPt v = true ∧ ptBytes v = l then (v, (0 : Int)) else (zeroPt, 4)) = X
  have HX := Lib.hid hX
  clear hX
  go_enter Try.func45, Try.ntmps45
  go_wp2_with fail
  refine (HR _ _ (RfR.new Hs.out hl (w.alloc (.cells (pointA zeroPt) 29)) (bel_a _ _) _ (by simp))).mono ?_
  clear HR
  rintro e w2 ⟨rfl, _, hg2⟩
  have hB2 : Below w.heap.size w w2 := bel_grown hg2 (by (repeat' (first | (with_reducible exact Below.refl _ _) | (with_reducible assumption) | (with_reducible refine bel_trans (by assumption) ?_ ?_) | (with_reducible refine bel_grown (by assumption) ?_ ?_ ?_) | (with_reducible refine Below.alloc ?_ ?_ _) | (with_reducible refine Below.drew ?_) | (with_reducible refine below_drewN ?_ _) | (with_reducible refine Below.setCell ?_ ?_ _) | (with_reducible refine below_put ?_ ?_ _ _) | (with_reducible exact Nat.le_refl _) | omega | (with_reducible refine Nat.le_trans ?_ (Below.size (by assumption))) | (with_reducible refine Nat.le_trans ?_ (World.grownBy.size (by assumption))) | (simp only [World.size_alloc, World.size_setCell, World.size_drew, size_drewN]; omega) | (simp only [World.size_alloc, World.size_setCell, World.size_drew, size_drewN, size_put]; omega) | (intro k hk; simp [Value.ownBlock] at hk; done) | (intro k hk; simp [Value.ownBlock] at hk; omega) | (simp [size_drewN] at *; omega)))) (by simp; omega) (by intro k hk; injection hk; omega)
  have hz2 : w.heap.size + 2 ≤ w2.heap.size := by have := hg2.size; simpa using this
  have hblk : w2.heap[w.heap.size]? = some (.cells (pointA zeroPt) 29 (0, 0)) := (hg2.block _ (by simp; omega) (by intro e; injection e; omega)).trans ((Below.heap_alloc _ _ _ (by simp)).trans (heap_alloc_new w _))
  have hrow : row? w2 w.heap.size 0 33 = some (pointA zeroPt) := by
    unfold row?
    rw [hblk]
    simp
  have hth : there w2 w.heap.size 0 33 := there_block hblk (by simp)
  have HB2 := Lib.hid hB2
  clear hg2 hblk hB2
  go_wp2_with fail
  have hz4 : w2.heap.size < (putRow (w2.alloc (Obj.cells (pointA zeroPt) 29)) w2.heap.size 0 (pointA v)).heap.size := by simp [size_put]
  have hrowx : row? (putRow (w2.alloc (Obj.cells (pointA zeroPt) 29)) w2.heap.size 0 (pointA v)) w2.heap.size 0 33 = some (pointA v) := by go_simp
  have hne : w.heap.size ≠ w2.heap.size := by omega
  have hlt2 : w.heap.size < w2.heap.size := by omega
  have hrow4 : row? (putRow (w2.alloc (Obj.cells (pointA zeroPt) 29)) w2.heap.size 0 (pointA v)) w.heap.size 0 33 = some (pointA zeroPt) := by go_simp
  have hB4 : Below w2.heap.size w2 (putRow (w2.alloc (Obj.cells (pointA zeroPt) 29)) w2.heap.size 0 (pointA v)) := by (repeat' (first | (with_reducible exact Below.refl _ _) | (with_reducible assumption) | (with_reducible refine bel_trans (by assumption) ?_ ?_) | (with_reducible refine bel_grown (by assumption) ?_ ?_ ?_) | (with_reducible refine Below.alloc ?_ ?_ _) | (with_reducible refine Below.drew ?_) | (with_reducible refine below_drewN ?_ _) | (with_reducible refine Below.setCell ?_ ?_ _) | (with_reducible refine below_put ?_ ?_ _ _) | (with_reducible exact Nat.le_refl _) | omega | (with_reducible refine Nat.le_trans ?_ (Below.size (by assumption))) | (with_reducible refine Nat.le_trans ?_ (World.grownBy.size (by assumption))) | (simp only [World.size_alloc, World.size_setCell, World.size_drew, size_drewN]; omega) | (simp only [World.size_alloc, World.size_setCell, World.size_drew, size_drewN, size_put]; omega) | (intro k hk; simp [Value.ownBlock] at hk; done) | (intro k hk; simp [Value.ownBlock] at hk; omega) | (simp [size_drewN] at *; omega)))
  have hth4 : there (putRow (w2.alloc (Obj.cells (pointA zeroPt) 29)) w2.heap.size 0 (pointA v)) w.heap.size 0 33 := there_below hB4 hlt2 hth
  generalize putRow (w2.alloc (Obj.cells (pointA zeroPt) 29)) w2.heap.size 0 (pointA v) = w4 at *
  have HB4 := Lib.hid (HB2.out.trans (hB4.mono (by omega)))
  have Hs4 := Lib.hid (Hs.out.keep HB4.out)
  have HM := fun W => fmayPoint_c v W
  clear hB4 hth hrow
  cases hm : mayPt v
  · rw [hm] at HM
    have hX : X = (zeroPt, 4) := by rw [← HX.out]; simp [hm]
    subst hX
    clear hm
    refine wp_region_freeG_l (fun W W' => Below W.heap.size W W') (by kernel_rfl) [9, 10, 11, 12, 13, 14, 15, 16, 17, 18, 19]
      [Is (.agg (pointA v)), Is (.bool false), Is (.bool true), Is (.bool true), Is (undef), Is (undef), Is (undef), Is (undef), Is (undef), Is (undef), Is (.bool true)]
      (by kernel_rfl) (fun W W' h hb => hb.trans (h.mono hb.size)) ?_ ?_ ?_
    · intro f hf
      simp only [List.mem_cons, List.not_mem_nil, or_false] at hf
      rcases hf with rfl | rfl | rfl | rfl | rfl | rfl | rfl | rfl | rfl | rfl | rfl <;> intro x W W' h hr <;> first | exact h
    · refine ⟨?_, ?_, ?_, ?_, ?_, ?_, ?_, ?_, ?_, ?_, ?_, trivial⟩
      · intro L ax W hf hd
        try simp [Region.binds] at hd
        have e4 : ax.tmps[4]?.getD undef = .pointer (some ⟨w2.heap.size, 0, none⟩) := hf.out 4 (by decide) rfl
        refine ⟨fun _ => ?_, fun h => absurd trivial h⟩
        have r1 : row? W w2.heap.size 0 33 = some (pointA v) := (row?_below _ _ _ hf.below hz4).trans hrowx
        refine free_run (v := .agg (pointA v)) (W' := W) rfl ?_ rfl (Below.refl _ _)
        go_simp
      · intro L ax W hf hd
        simp [Region.binds] at hd
        have e9 : ax.tmps[9]?.getD undef = .agg (pointA v) := slv (hf.got 0 (by decide) (by simp [hd]))
        refine ⟨fun _ => ?_, fun h => absurd trivial h⟩
        refine free_call (f := 47) (args := #[.agg (pointA v)]) rfl (by go_simp) ?_
        refine (HM W).mono ?_
        rintro e w' ⟨rfl, hb⟩
        exact ⟨_, rfl, rfl, hb⟩
      · intro L ax W hf hd
        simp [Region.binds] at hd
        have e10 : ax.tmps[10]?.getD undef = .bool false := slv (hf.got 1 (by decide) (by simp [hd]))
        refine ⟨fun _ => ?_, fun h => absurd trivial h⟩
        refine free_run (v := .bool true) (W' := W) rfl ?_ rfl (Below.refl _ _)
        go_simp
      · intro L ax W hf hd
        simp [Region.binds] at hd
        have e11 : ax.tmps[11]?.getD undef = .bool true := slv (hf.got 2 (by decide) (by simp [hd]))
        refine ⟨fun _ => ?_, fun h => absurd trivial h⟩
        refine free_run (v := .bool true) (W' := W) rfl ?_ rfl (Below.refl _ _)
        go_simp
      · intro L ax W hf hd
        simp [Region.binds] at hd
        have e4 : ax.tmps[4]?.getD undef = .pointer (some ⟨w2.heap.size, 0, none⟩) := hf.out 4 (by decide) rfl
        have g0 : sl ax 12 = .bool true := hf.got 3 (by decide) (by simp [hd])
        refine ⟨fun hh => ?_, fun hh => ?_⟩
        · first
            | (exfalso; revert hh; simp [Held, g0, *]; done)
            | (refine free_run (v := undef) (W' := W) rfl ?_ rfl (Below.refl _ _); go_simp)
        · first
            | (exfalso; revert hh; simp [Held, g0, *]; done)
            | (show undef = _; first | rfl | (simp [*]; done))
      · intro L ax W hf hd
        simp [Region.binds] at hd
        have e13 : ax.tmps[13]?.getD undef = undef := slv (hf.got 4 (by decide) (by simp [hd]))
        have g0 : sl ax 12 = .bool true := hf.got 3 (by decide) (by simp [hd])
        refine ⟨fun hh => ?_, fun hh => ?_⟩
        · first
            | (exfalso; revert hh; simp [Held, g0, *]; done)
            | (refine free_run (v := undef) (W' := W) rfl ?_ rfl (Below.refl _ _); go_simp)
        · first
            | (exfalso; revert hh; simp [Held, g0, *]; done)
            | (show undef = _; first | rfl | (simp [*]; done))
      · intro L ax W hf hd
        simp [Region.binds] at hd
        have e14 : ax.tmps[14]?.getD undef = undef := slv (hf.got 5 (by decide) (by simp [hd]))
        have g0 : sl ax 12 = .bool true := hf.got 3 (by decide) (by simp [hd])
        refine ⟨fun hh => ?_, fun hh => ?_⟩
        · first
            | (exfalso; revert hh; simp [Held, g0, *]; done)
            | (refine free_run (v := undef) (W' := W) rfl ?_ rfl (Below.refl _ _); go_simp)
        · first
            | (exfalso; revert hh; simp [Held, g0, *]; done)
            | (show undef = _; first | rfl | (simp [*]; done))
      · intro L ax W hf hd
        simp [Region.binds] at hd
        have e0 : ax.tmps[0]?.getD undef = s.v := hf.out 0 (by decide) rfl
        have g0 : sl ax 12 = .bool true := hf.got 3 (by decide) (by simp [hd])
        refine ⟨fun hh => ?_, fun hh => ?_⟩
        · first
            | (exfalso; revert hh; simp [Held, g0, *]; done)
            | (refine free_run (v := undef) (W' := W) rfl ?_ rfl (Below.refl _ _); go_simp)
        · first
            | (exfalso; revert hh; simp [Held, g0, *]; done)
            | (show undef = _; first | rfl | (simp [*]; done))
      · intro L ax W hf hd
        simp [Region.binds] at hd
        have e16 : ax.tmps[16]?.getD undef = undef := slv (hf.got 7 (by decide) (by simp [hd]))
        have g0 : sl ax 12 = .bool true := hf.got 3 (by decide) (by simp [hd])
        refine ⟨fun hh => ?_, fun hh => ?_⟩
        · first
            | (exfalso; revert hh; simp [Held, g0, *]; done)
            | (refine free_run (v := undef) (W' := W) rfl ?_ rfl (Below.refl _ _); go_simp)
        · first
            | (exfalso; revert hh; simp [Held, g0, *]; done)
            | (show undef = _; first | rfl | (simp [*]; done))
      · intro L ax W hf hd
        simp [Region.binds] at hd
        have e15 : ax.tmps[15]?.getD undef = undef := slv (hf.got 6 (by decide) (by simp [hd]))
        have e17 : ax.tmps[17]?.getD undef = undef := slv (hf.got 8 (by decide) (by simp [hd]))
        have g0 : sl ax 12 = .bool true := hf.got 3 (by decide) (by simp [hd])
        refine ⟨fun hh => ?_, fun hh => ?_⟩
        · first
            | (exfalso; revert hh; simp [Held, g0, *]; done)
            | (refine free_run (v := undef) (W' := W) rfl ?_ rfl (Below.refl _ _); go_simp)
        · first
            | (exfalso; revert hh; simp [Held, g0, *]; done)
            | (show undef = _; first | rfl | (simp [*]; done))
      · intro L ax W hf hd
        simp [Region.binds] at hd
        have e12 : ax.tmps[12]?.getD undef = .bool true := slv (hf.got 3 (by decide) (by simp [hd]))
        have e18 : ax.tmps[18]?.getD undef = undef := slv (hf.got 9 (by decide) (by simp [hd]))
        refine ⟨fun _ => ?_, fun h => absurd trivial h⟩
        refine free_run (v := .bool true) (W' := W) rfl ?_ rfl (Below.refl _ _)
        go_simp
    · intro vs W' hl' hF hb
      obtain ⟨g', hg1, hg2⟩ := vs_lit vs hl' hF
      have e10 : g' 10 = .bool true := hg2 10 (by decide)
      rw [hg1]
      clear hF hg1 hg2 hl'
      have hBW : Below w.heap.size w W' := HB4.out.trans (hb.mono (by omega))
      have hthW : there W' w.heap.size 0 33 := there_below hb (by omega) hth4
      have hrowW : row? W' w.heap.size 0 33 = some (pointA zeroPt) := (row?_below _ _ _ hb (by omega)).trans hrow4
      have hrowV : row? W' w2.heap.size 0 33 = some (pointA v) := (row?_below _ _ _ hb hz4).trans hrowx
      have hzW := hb.size
      clear hth4 hrow4 hrowx hb HM
      simp only [List.length_cons, List.length_nil, Nat.reduceAdd, show List.range 11 = [0, 1, 2, 3, 4, 5, 6, 7, 8, 9, 10] from rfl, List.map_cons, List.map_nil, putL, List.zip_cons_cons, List.zip_nil_right, List.setIfInBounds_toArray, List.set_cons_succ, List.set_cons_zero, e10]
      go_wp2_with (with_reducible refine ret_row2 Try.isAgg29 Try.sizeOf29 fpof_res (x := .pointer (some ⟨w.heap.size, 0, none⟩)) (y := .bool false) (w.heap.size) 0 ?rrhx (Eq.refl _) ?rrhy ?rrh ?rrhd ?rrhR; (case rrhx => simp only [Array.getD_eq_getD_getElem?, List.getElem?_toArray, List.getElem?_cons_succ, List.getElem?_cons_zero, Option.getD_some]); (case rrhy => simp only [Array.getD_eq_getD_getElem?, List.getElem?_toArray, List.getElem?_cons_succ, List.getElem?_cons_zero, Option.getD_some]); (case rrhd => exact rfl); (case rrh => go_simp); (case rrhR => ((refine ⟨?_, ?_⟩; (case refine_1 => (go_simp; done)); (case refine_2 => ((repeat' (first | (with_reducible exact Below.refl _ _) | (with_reducible assumption) | (with_reducible refine bel_trans (by assumption) ?_ ?_) | (with_reducible refine bel_grown (by assumption) ?_ ?_ ?_) | (with_reducible refine Below.alloc ?_ ?_ _) | (with_reducible refine Below.drew ?_) | (with_reducible refine below_drewN ?_ _) | (with_reducible refine Below.setCell ?_ ?_ _) | (with_reducible refine below_put ?_ ?_ _ _) | (with_reducible exact Nat.le_refl _) | omega | (with_reducible refine Nat.le_trans ?_ (Below.size (by assumption))) | (with_reducible refine Nat.le_trans ?_ (World.grownBy.size (by assumption))) | (simp only [World.size_alloc, World.size_setCell, World.size_drew, size_drewN]; omega) | (simp only [World.size_alloc, World.size_setCell, World.size_drew, size_drewN, size_put]; omega) | (intro k hk; simp [Value.ownBlock] at hk; done) | (intro k hk; simp [Value.ownBlock] at hk; omega) | (simp [size_drewN] at *; omega)))))))))
  · rw [hm] at HM
    have Hm := Lib.hid hm
    clear hm
    refine wp_region_freeG_l (fun W W' => Below W.heap.size W W') (by kernel_rfl) [9, 10, 11, 12, 13, 14, 15, 16, 17, 18, 19]
      [Is (.agg (pointA v)), Is (.bool true), Is (.bool false), Is (.bool false), Is (.agg (pointA v)), IsB (ptBytes v), Is (.string ⟨(ptBytes v).toArray⟩), Is (s.v), Is (.string ⟨l.toArray⟩), Is (.bool (!decide (ptBytes v = l))), Is (.bool (!decide (ptBytes v = l)))]
      (by kernel_rfl) (fun W W' h hb => hb.trans (h.mono hb.size)) ?_ ?_ ?_
    · intro f hf
      simp only [List.mem_cons, List.not_mem_nil, or_false] at hf
      rcases hf with rfl | rfl | rfl | rfl | rfl | rfl | rfl | rfl | rfl | rfl | rfl <;> intro x W W' h hr <;> first | exact h | exact IsB.keepB h hr
    · refine ⟨?_, ?_, ?_, ?_, ?_, ?_, ?_, ?_, ?_, ?_, ?_, trivial⟩
      · intro L ax W hf hd
        try simp [Region.binds] at hd
        have e4 : ax.tmps[4]?.getD undef = .pointer (some ⟨w2.heap.size, 0, none⟩) := hf.out 4 (by decide) rfl
        refine ⟨fun _ => ?_, fun h => absurd trivial h⟩
        have r1 : row? W w2.heap.size 0 33 = some (pointA v) := (row?_below _ _ _ hf.below hz4).trans hrowx
        refine free_run (v := .agg (pointA v)) (W' := W) rfl ?_ rfl (Below.refl _ _)
        go_simp
      · intro L ax W hf hd
        simp [Region.binds] at hd
        have e9 : ax.tmps[9]?.getD undef = .agg (pointA v) := slv (hf.got 0 (by decide) (by simp [hd]))
        refine ⟨fun _ => ?_, fun h => absurd trivial h⟩
        refine free_call (f := 47) (args := #[.agg (pointA v)]) rfl (by go_simp) ?_
        refine (HM W).mono ?_
        rintro e w' ⟨rfl, hb⟩
        exact ⟨_, rfl, rfl, hb⟩
      · intro L ax W hf hd
        simp [Region.binds] at hd
        have e10 : ax.tmps[10]?.getD undef = .bool true := slv (hf.got 1 (by decide) (by simp [hd]))
        refine ⟨fun _ => ?_, fun h => absurd trivial h⟩
        refine free_run (v := .bool false) (W' := W) rfl ?_ rfl (Below.refl _ _)
        go_simp
      · intro L ax W hf hd
        simp [Region.binds] at hd
        have e11 : ax.tmps[11]?.getD undef = .bool false := slv (hf.got 2 (by decide) (by simp [hd]))
        refine ⟨fun _ => ?_, fun h => absurd trivial h⟩
        refine free_run (v := .bool false) (W' := W) rfl ?_ rfl (Below.refl _ _)
        go_simp
      · intro L ax W hf hd
        simp [Region.binds] at hd
        have e4 : ax.tmps[4]?.getD undef = .pointer (some ⟨w2.heap.size, 0, none⟩) := hf.out 4 (by decide) rfl
        have g0 : sl ax 12 = .bool false := hf.got 3 (by decide) (by simp [hd])
        refine ⟨fun hh => ?_, fun hh => ?_⟩
        · first
            | (exfalso; revert hh; simp [Held, g0, *]; done)
            | ((have r1 : row? W w2.heap.size 0 33 = some (pointA v) := (row?_below _ _ _ hf.below hz4).trans hrowx); refine free_run (v := .agg (pointA v)) (W' := W) rfl ?_ rfl (Below.refl _ _); go_simp)
        · first
            | (exfalso; revert hh; simp [Held, g0, *]; done)
            | (show undef = _; first | rfl | (simp [*]; done))
      · intro L ax W hf hd
        simp [Region.binds] at hd
        have e13 : ax.tmps[13]?.getD undef = .agg (pointA v) := slv (hf.got 4 (by decide) (by simp [hd]))
        have g0 : sl ax 12 = .bool false := hf.got 3 (by decide) (by simp [hd])
        refine ⟨fun hh => ?_, fun hh => ?_⟩
        · first
            | (exfalso; revert hh; simp [Held, g0, *]; done)
            | (refine free_call (f := 48) (args := #[.agg (pointA v)]) rfl (by go_simp) ?_; refine (fPoint_c v W).mono ?_; rintro e w' ⟨x, rfl, ho, hb⟩; obtain ⟨s2, rfl⟩ := ho.slice; exact ⟨_, rfl, ⟨s2, rfl, ho.reads⟩, hb⟩)
        · first
            | (exfalso; revert hh; simp [Held, g0, *]; done)
            | (show undef = _; first | rfl | (simp [*]; done))
      · intro L ax W hf hd
        simp [Region.binds] at hd
        have f14 : IsB (ptBytes v) (sl ax 14) W := hf.got 5 (by decide) (by simp [hd])
        have g0 : sl ax 12 = .bool false := hf.got 3 (by decide) (by simp [hd])
        refine ⟨fun hh => ?_, fun hh => ?_⟩
        · first
            | (exfalso; revert hh; simp [Held, g0, *]; done)
            | (obtain ⟨s2, e14, h14⟩ := f14; have e14 := slv e14; have hcv := str_run h14; refine free_run (v := .string ⟨(ptBytes v).toArray⟩) (W' := W) rfl ?_ rfl (Below.refl _ _); go_simp)
        · first
            | (exfalso; revert hh; simp [Held, g0, *]; done)
            | (show undef = _; first | rfl | (simp [*]; done))
      · intro L ax W hf hd
        simp [Region.binds] at hd
        have e0 : ax.tmps[0]?.getD undef = s.v := hf.out 0 (by decide) rfl
        have g0 : sl ax 12 = .bool false := hf.got 3 (by decide) (by simp [hd])
        refine ⟨fun hh => ?_, fun hh => ?_⟩
        · first
            | (exfalso; revert hh; simp [Held, g0, *]; done)
            | (refine free_run (v := s.v) (W' := W) rfl ?_ rfl (Below.refl _ _); go_simp)
        · first
            | (exfalso; revert hh; simp [Held, g0, *]; done)
            | (show undef = _; first | rfl | (simp [*]; done))
      · intro L ax W hf hd
        simp [Region.binds] at hd
        have e16 : ax.tmps[16]?.getD undef = s.v := slv (hf.got 7 (by decide) (by simp [hd]))
        have g0 : sl ax 12 = .bool false := hf.got 3 (by decide) (by simp [hd])
        refine ⟨fun hh => ?_, fun hh => ?_⟩
        · first
            | (exfalso; revert hh; simp [Held, g0, *]; done)
            | ((have hcv := str_run (Hs4.out.keep hf.below)); refine free_run (v := .string ⟨l.toArray⟩) (W' := W) rfl ?_ rfl (Below.refl _ _); go_simp)
        · first
            | (exfalso; revert hh; simp [Held, g0, *]; done)
            | (show undef = _; first | rfl | (simp [*]; done))
      · intro L ax W hf hd
        simp [Region.binds] at hd
        have e15 : ax.tmps[15]?.getD undef = .string ⟨(ptBytes v).toArray⟩ := slv (hf.got 6 (by decide) (by simp [hd]))
        have e17 : ax.tmps[17]?.getD undef = .string ⟨l.toArray⟩ := slv (hf.got 8 (by decide) (by simp [hd]))
        have g0 : sl ax 12 = .bool false := hf.got 3 (by decide) (by simp [hd])
        refine ⟨fun hh => ?_, fun hh => ?_⟩
        · first
            | (exfalso; revert hh; simp [Held, g0, *]; done)
            | ((have hbe : (ptBytes v == l) = decide (ptBytes v = l) := by (rw [Bool.eq_iff_iff]; simp)); refine free_run (v := .bool (!decide (ptBytes v = l))) (W' := W) rfl ?_ rfl (Below.refl _ _); go_simp)
        · first
            | (exfalso; revert hh; simp [Held, g0, *]; done)
            | (show undef = _; first | rfl | (simp [*]; done))
      · intro L ax W hf hd
        simp [Region.binds] at hd
        have e12 : ax.tmps[12]?.getD undef = .bool false := slv (hf.got 3 (by decide) (by simp [hd]))
        have e18 : ax.tmps[18]?.getD undef = .bool (!decide (ptBytes v = l)) := slv (hf.got 9 (by decide) (by simp [hd]))
        refine ⟨fun _ => ?_, fun h => absurd trivial h⟩
        refine free_run (v := .bool (!decide (ptBytes v = l))) (W' := W) rfl ?_ rfl (Below.refl _ _)
        go_simp
    · intro vs W' hl' hF hb
      obtain ⟨g', hg1, hg2⟩ := vs_lit vs hl' hF
      have e10 : g' 10 = .bool (!decide (ptBytes v = l)) := hg2 10 (by decide)
      rw [hg1]
      clear hF hg1 hg2 hl'
      have hBW : Below w.heap.size w W' := HB4.out.trans (hb.mono (by omega))
      have hthW : there W' w.heap.size 0 33 := there_below hb (by omega) hth4
      have hrowW : row? W' w.heap.size 0 33 = some (pointA zeroPt) := (row?_below _ _ _ hb (by omega)).trans hrow4
      have hrowV : row? W' w2.heap.size 0 33 = some (pointA v) := (row?_below _ _ _ hb hz4).trans hrowx
      have hzW := hb.size
      clear hth4 hrow4 hrowx hb HM
      by_cases he : ptBytes v = l
      · have hX : X = (v, 0) := by rw [← HX.out]; simp [Hm.out, he]
        subst hX
        rw [show (!decide (ptBytes v = l)) = false by simp [he]] at e10
        clear he
        simp only [List.length_cons, List.length_nil, Nat.reduceAdd, show List.range 11 = [0, 1, 2, 3, 4, 5, 6, 7, 8, 9, 10] from rfl, List.map_cons, List.map_nil, putL, List.zip_cons_cons, List.zip_nil_right, List.setIfInBounds_toArray, List.set_cons_succ, List.set_cons_zero, e10]
        go_wp2_with (with_reducible refine ret_row2 Try.isAgg29 Try.sizeOf29 fpof_res (x := .pointer (some ⟨w.heap.size, 0, none⟩)) (y := .bool true) (w.heap.size) 0 ?rrhx (Eq.refl _) ?rrhy ?rrh ?rrhd ?rrhR; (case rrhx => simp only [Array.getD_eq_getD_getElem?, List.getElem?_toArray, List.getElem?_cons_succ, List.getElem?_cons_zero, Option.getD_some]); (case rrhy => simp only [Array.getD_eq_getD_getElem?, List.getElem?_toArray, List.getElem?_cons_succ, List.getElem?_cons_zero, Option.getD_some]); (case rrhd => exact rfl); (case rrh => go_simp); (case rrhR => ((refine ⟨?_, ?_⟩; (case refine_1 => (go_simp; done)); (case refine_2 => ((repeat' (first | (with_reducible exact Below.refl _ _) | (with_reducible assumption) | (with_reducible refine bel_trans (by assumption) ?_ ?_) | (with_reducible refine bel_grown (by assumption) ?_ ?_ ?_) | (with_reducible refine Below.alloc ?_ ?_ _) | (with_reducible refine Below.drew ?_) | (with_reducible refine below_drewN ?_ _) | (with_reducible refine Below.setCell ?_ ?_ _) | (with_reducible refine below_put ?_ ?_ _ _) | (with_reducible exact Nat.le_refl _) | omega | (with_reducible refine Nat.le_trans ?_ (Below.size (by assumption))) | (with_reducible refine Nat.le_trans ?_ (World.grownBy.size (by assumption))) | (simp only [World.size_alloc, World.size_setCell, World.size_drew, size_drewN]; omega) | (simp only [World.size_alloc, World.size_setCell, World.size_drew, size_drewN, size_put]; omega) | (intro k hk; simp [Value.ownBlock] at hk; done) | (intro k hk; simp [Value.ownBlock] at hk; omega) | (simp [size_drewN] at *; omega)))))))))
      · have hX : X = (zeroPt, 4) := by rw [← HX.out]; simp [he]
        subst hX
        rw [show (!decide (ptBytes v = l)) = true by simp [he]] at e10
        clear he
        simp only [List.length_cons, List.length_nil, Nat.reduceAdd, show List.range 11 = [0, 1, 2, 3, 4, 5, 6, 7, 8, 9, 10] from rfl, List.map_cons, List.map_nil, putL, List.zip_cons_cons, List.zip_nil_right, List.setIfInBounds_toArray, List.set_cons_succ, List.set_cons_zero, e10]
        go_wp2_with (with_reducible refine ret_row2 Try.isAgg29 Try.sizeOf29 fpof_res (x := .pointer (some ⟨w.heap.size, 0, none⟩)) (y := .bool false) (w.heap.size) 0 ?rrhx (Eq.refl _) ?rrhy ?rrh ?rrhd ?rrhR; (case rrhx => simp only [Array.getD_eq_getD_getElem?, List.getElem?_toArray, List.getElem?_cons_succ, List.getElem?_cons_zero, Option.getD_some]); (case rrhy => simp only [Array.getD_eq_getD_getElem?, List.getElem?_toArray, List.getElem?_cons_succ, List.getElem?_cons_zero, Option.getD_some]); (case rrhd => exact rfl); (case rrh => go_simp); (case rrhR => ((refine ⟨?_, ?_⟩; (case refine_1 => (go_simp; done)); (case refine_2 => ((repeat' (first | (with_reducible exact Below.refl _ _) | (with_reducible assumption) | (with_reducible refine bel_trans (by assumption) ?_ ?_) | (with_reducible refine bel_grown (by assumption) ?_ ?_ ?_) | (with_reducible refine Below.alloc ?_ ?_ _) | (with_reducible refine Below.drew ?_) | (with_reducible refine below_drewN ?_ _) | (with_reducible refine Below.setCell ?_ ?_ _) | (with_reducible refine below_put ?_ ?_ _ _) | (with_reducible exact Nat.le_refl _) | omega | (with_reducible refine Nat.le_trans ?_ (Below.size (by assumption))) | (with_reducible refine Nat.le_trans ?_ (World.grownBy.size (by assumption))) | (simp only [World.size_alloc, World.size_setCell, World.size_drew, size_drewN]; omega) | (simp only [World.size_alloc, World.size_setCell, World.size_drew, size_drewN, size_put]; omega) | (intro k hk; simp [Value.ownBlock] at hk; done) | (intro k hk; simp [Value.ownBlock] at hk; omega) | (simp [size_drewN] at *; omega)))))))))
end Go.Proofs.Ytbpbnnonialelaa
