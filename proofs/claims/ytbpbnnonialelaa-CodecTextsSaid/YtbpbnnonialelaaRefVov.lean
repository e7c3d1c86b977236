/- Contract: ref09.VoteOf. -/
import Derived.Test.YtbpbnnonialelaaRefVof
namespace Go.Proofs.Ytbpbnnonialelaa
open Go.RowKit

theorem rdNum_some {l : List UInt8} {k : Nat} (h : k ≤ l.length) : rdNum (some l) k = (some (l.drop k), numOf (l.take k)) := by
  unfold rdNum
  rw [rdBytes_all h]
theorem rdPoint_some {l : List UInt8} (h : 40 ≤ l.length) : (rdPoint (some l)).1 = some (l.drop 40) := by
  unfold rdPoint rdHash
  rw [rdNum_some (by omega)]
  have h2 := rdBytes_all (l := l.drop 8) (k := 32) (by simp; omega)
  simp only [show ((32 : Nat) : Int) = 32 from rfl] at h2
  dsimp only
  rw [h2]
  simp
theorem rdVote_end (l : List UInt8) (h : vtBytes (rdVote (some l)).2 = l) : (rdVote (some l)).1 = some [] := by
  have hl : l.length = 83 + (rdVote (some l)).2.sig.length := by
    have := congrArg List.length h
    rw [vtBytes_length] at this
    exact this.symm
  have h1 := rdNum_some (l := l) (k := 1) (by omega)
  have h2 := rdPoint_some (l := l.drop 1) (by simp; omega)
  have h3 := rdPoint_some (l := (l.drop 1).drop 40) (by simp; omega)
  have h4 := rdNum_some (l := ((l.drop 1).drop 40).drop 40) (k := 2) (by simp; omega)
  have hsig : (rdVote (some l)).2.sig = (rdBlob (rdPoint (rdPoint (rdNum (some l) 1).1).1).1).2 := rfl
  have hend : (rdVote (some l)).1 = (rdBlob (rdPoint (rdPoint (rdNum (some l) 1).1).1).1).1 := rfl
  rw [h1] at hsig hend
  simp only at hsig hend
  rw [h2] at hsig hend
  rw [h3] at hsig hend
  unfold rdBlob at hsig hend
  rw [h4] at hsig hend
  simp only [List.drop_drop, Nat.reduceAdd] at hsig hend
  have hd : (l.drop 81).take 2 = be 2 (rdVote (some l)).2.sig.length := by
    conv => lhs; rw [← h]
    unfold vtBytes
    rw [List.drop_left' (by simp [be_length, ptBytes_length]), List.take_left' (by simp [be_length])]
  rw [hend]
  clear hend h1 h2 h3 h4 h
  generalize (rdVote (some l)).2.sig = sg at *
  by_cases hle : numOf (List.take 2 (List.drop 81 l)) ≤ (List.drop 83 l).length
  · rw [rdBytes_all hle] at hsig ⊢
    have h5 := congrArg List.length hsig
    simp only [List.length_take, List.length_drop] at h5 hle
    simp only [List.drop_drop, Option.some.injEq, List.drop_eq_nil_iff]
    omega
  · exfalso
    have hb : rdBytes (some (List.drop 83 l)) (numOf (List.take 2 (List.drop 81 l)) : Nat) = (none, []) := by
      show (if _ then _ else _) = _
      rw [if_neg (by omega)]
    rw [hb] at hsig
    subst hsig
    rw [hd] at hle
    simp [be, numOf] at hle
theorem voteOf_eq (l : List UInt8) : voteOf l = if voteMay (rdVote (some l)).2 = true ∧ vtBytes (rdVote (some l)).2 = l then ((rdVote (some l)).2, 0) else (⟨0, zeroPt, zeroPt, []⟩, 4) := by
  unfold voteOf
  by_cases h : vtBytes (rdVote (some l)).2 = l
  · simp [rdVote_end l h]
  · simp [h]
theorem VoteR.put {W : World} {b off : Nat} {xs : Array Value} {g : GVote} {v : Vote} (h : VoteR W g v) (hl : LowSl 0 b g.sig v.sig) : VoteR (putRow W b off xs) g v :=
  ⟨h.1, h.2.1, h.2.2.1, h.2.2.2.keepLow hl (fun k hk => put_block W b off xs k (Nat.ne_of_lt hk))⟩
theorem fvov_res : Try.f41.results = #[.cell 2 61, .tmp 3] := by kernel_rfl
set_option maxRecDepth 100000 in
set_option maxHeartbeats 800000 in
theorem fvoteOf_c (s : Sl) (l : List UInt8) (w : World) (hs : BytesR w s l) (hl : l.length ≤ 140737488355328) :
    Calls Try.prog 41 #[s.v] w fun e w' => ∃ g, e = .returned (.tuple #[.agg (voteA g), .bool (decide ((voteOf l).2 = 0))]) ∧ VoteR w' g (voteOf l).1 ∧ Below w.heap.size w w' := by
  have HR := fun r W (h : RfR w.heap.size W r (some l)) => fvote_c r (some l) W h
  rw [voteOf_eq]
  generalize rdVote (some l) = res at *
  obtain ⟨st, v⟩ := res
  simp only at HR ⊢
  have hzc := zc_vote
  have Hs := Lib.hid hs
  clear hs
  generalize hX : (if voteMay v = true ∧ vtBytes v = l then (v, (0 : Int)) else (⟨0, zeroPt, zeroPt, []⟩, 4)) = X
  have HX := Lib.hid hX
  clear hX
  go_enter Try.func41, Try.ntmps41
  go_wp2_with fail
  refine (HR _ _ (RfR.new Hs.out hl (w.alloc (.cells (voteA ⟨0, zeroPt, zeroPt, ⟨none, 0, 0⟩⟩) 61)) (bel_a _ _) _ (by simp))).mono ?_
  clear HR
  rintro e w2 ⟨g, rfl, hv, hlow, _, hg2⟩
  have hB2 : Below w.heap.size w w2 := bel_grown hg2 (by (repeat' (first | (with_reducible exact Below.refl _ _) | (with_reducible assumption) | (with_reducible refine bel_trans (by assumption) ?_ ?_) | (with_reducible refine bel_grown (by assumption) ?_ ?_ ?_) | (with_reducible refine Below.alloc ?_ ?_ _) | (with_reducible refine Below.drew ?_) | (with_reducible refine below_drewN ?_ _) | (with_reducible refine Below.setCell ?_ ?_ _) | (with_reducible refine below_put ?_ ?_ _ _) | (with_reducible exact Nat.le_refl _) | omega | (with_reducible refine Nat.le_trans ?_ (Below.size (by assumption))) | (with_reducible refine Nat.le_trans ?_ (World.grownBy.size (by assumption))) | (simp only [World.size_alloc, World.size_setCell, World.size_drew, size_drewN]; omega) | (simp only [World.size_alloc, World.size_setCell, World.size_drew, size_drewN, size_put]; omega) | (intro k hk; simp [Value.ownBlock] at hk; done) | (intro k hk; simp [Value.ownBlock] at hk; omega) | (simp [size_drewN] at *; omega)))) (by simp; omega) (by intro k hk; injection hk; omega)
  have hz2 : w.heap.size + 2 ≤ w2.heap.size := by have := hg2.size; simpa using this
  have hblk : w2.heap[w.heap.size]? = some (.cells (voteA ⟨0, zeroPt, zeroPt, ⟨none, 0, 0⟩⟩) 61 (0, 0)) := (hg2.block _ (by simp; omega) (by intro e; injection e; omega)).trans ((Below.heap_alloc _ _ _ (by simp)).trans (heap_alloc_new w _))
  have hrow : row? w2 w.heap.size 0 68 = some (voteA ⟨0, zeroPt, zeroPt, ⟨none, 0, 0⟩⟩) := by
    unfold row?
    rw [hblk]
    simp
  have hth : there w2 w.heap.size 0 68 := there_block hblk (by simp)
  have HB2 := Lib.hid hB2
  have Hv := Lib.hid hv
  clear hg2 hblk hB2 hv
  go_wp2_with fail
  have hz4 : w2.heap.size < (putRow (w2.alloc (Obj.cells (voteA ⟨0, zeroPt, zeroPt, ⟨none, 0, 0⟩⟩) 61)) w2.heap.size 0 (voteA g)).heap.size := by simp [size_put]
  have hrowx : row? (putRow (w2.alloc (Obj.cells (voteA ⟨0, zeroPt, zeroPt, ⟨none, 0, 0⟩⟩) 61)) w2.heap.size 0 (voteA g)) w2.heap.size 0 68 = some (voteA g) := by go_simp
  have hne : w.heap.size ≠ w2.heap.size := by omega
  have hlt2 : w.heap.size < w2.heap.size := by omega
  have hrow4 : row? (putRow (w2.alloc (Obj.cells (voteA ⟨0, zeroPt, zeroPt, ⟨none, 0, 0⟩⟩) 61)) w2.heap.size 0 (voteA g)) w.heap.size 0 68 = some (voteA ⟨0, zeroPt, zeroPt, ⟨none, 0, 0⟩⟩) := by go_simp
  have hB4 : Below w2.heap.size w2 (putRow (w2.alloc (Obj.cells (voteA ⟨0, zeroPt, zeroPt, ⟨none, 0, 0⟩⟩) 61)) w2.heap.size 0 (voteA g)) := by (repeat' (first | (with_reducible exact Below.refl _ _) | (with_reducible assumption) | (with_reducible refine bel_trans (by assumption) ?_ ?_) | (with_reducible refine bel_grown (by assumption) ?_ ?_ ?_) | (with_reducible refine Below.alloc ?_ ?_ _) | (with_reducible refine Below.drew ?_) | (with_reducible refine below_drewN ?_ _) | (with_reducible refine Below.setCell ?_ ?_ _) | (with_reducible refine below_put ?_ ?_ _ _) | (with_reducible exact Nat.le_refl _) | omega | (with_reducible refine Nat.le_trans ?_ (Below.size (by assumption))) | (with_reducible refine Nat.le_trans ?_ (World.grownBy.size (by assumption))) | (simp only [World.size_alloc, World.size_setCell, World.size_drew, size_drewN]; omega) | (simp only [World.size_alloc, World.size_setCell, World.size_drew, size_drewN, size_put]; omega) | (intro k hk; simp [Value.ownBlock] at hk; done) | (intro k hk; simp [Value.ownBlock] at hk; omega) | (simp [size_drewN] at *; omega)))
  have hth4 : there (putRow (w2.alloc (Obj.cells (voteA ⟨0, zeroPt, zeroPt, ⟨none, 0, 0⟩⟩) 61)) w2.heap.size 0 (voteA g)) w.heap.size 0 68 := there_below hB4 hlt2 hth
  generalize putRow (w2.alloc (Obj.cells (voteA ⟨0, zeroPt, zeroPt, ⟨none, 0, 0⟩⟩) 61)) w2.heap.size 0 (voteA g) = w4 at *
  have HB4 := Lib.hid (HB2.out.trans (hB4.mono (by omega)))
  have Hs4 := Lib.hid (Hs.out.keep HB4.out)
  have Hv4 := Lib.hid (Hv.out.keep' hB4)
  have HM := fun W => fmayVote_c g W
  clear hB4 hth hrow
  rw [Hv.out.may] at HM
  cases hm : voteMay v
  · rw [hm] at HM
    have hX : X = (⟨0, zeroPt, zeroPt, []⟩, 4) := by rw [← HX.out]; simp [hm]
    subst hX
    clear hm
    refine wp_region_freeG_l (fun W W' => Below W.heap.size W W') (by kernel_rfl) [9, 10, 11, 12, 13, 14, 15, 16, 17, 18, 19]
      [Is (.agg (voteA g)), Is (.bool false), Is (.bool true), Is (.bool true), Is (undef), Is (undef), Is (undef), Is (undef), Is (undef), Is (undef), Is (.bool true)]
      (by kernel_rfl) (fun W W' h hb => hb.trans (h.mono hb.size)) ?_ ?_ ?_
    · intro f hf
      simp only [List.mem_cons, List.not_mem_nil, or_false] at hf
      rcases hf with rfl | rfl | rfl | rfl | rfl | rfl | rfl | rfl | rfl | rfl | rfl <;> intro x W W' h hr <;> first | exact h
    · refine ⟨?_, ?_, ?_, ?_, ?_, ?_, ?_, ?_, ?_, ?_, ?_, trivial⟩
      · intro L ax W hf hd
        try simp [Region.binds] at hd
        have e4 : ax.tmps[4]?.getD undef = .pointer (some ⟨w2.heap.size, 0, none⟩) := hf.out 4 (by decide) rfl
        refine ⟨fun _ => ?_, fun h => absurd trivial h⟩
        have r1 : row? W w2.heap.size 0 68 = some (voteA g) := (row?_below _ _ _ hf.below hz4).trans hrowx
        refine free_run (v := .agg (voteA g)) (W' := W) rfl ?_ rfl (Below.refl _ _)
        go_simp
      · intro L ax W hf hd
        simp [Region.binds] at hd
        have e9 : ax.tmps[9]?.getD undef = .agg (voteA g) := slv (hf.got 0 (by decide) (by simp [hd]))
        refine ⟨fun _ => ?_, fun h => absurd trivial h⟩
        refine free_call (f := 32) (args := #[.agg (voteA g)]) rfl (by go_simp) ?_
        refine (HM W).mono ?_
        rintro e w' ⟨rfl, hb⟩
        exact ⟨_, rfl, rfl, hb⟩
      · intro L ax W hf hd
        simp [Region.binds] at hd
        have e10 : ax.tmps[10]?.getD undef = .bool false := slv (hf.got 1 (by decide) (by simp [hd]))
        refine ⟨fun _ => ?_, fun h => absurd trivial h⟩
        refine free_run (v := .bool true) (W' := W) rfl ?_ rfl (Below.refl _ _)
        go_simp
      · intro L ax W hf hd
        simp [Region.binds] at hd
        have e11 : ax.tmps[11]?.getD undef = .bool true := slv (hf.got 2 (by decide) (by simp [hd]))
        refine ⟨fun _ => ?_, fun h => absurd trivial h⟩
        refine free_run (v := .bool true) (W' := W) rfl ?_ rfl (Below.refl _ _)
        go_simp
      · intro L ax W hf hd
        simp [Region.binds] at hd
        have e4 : ax.tmps[4]?.getD undef = .pointer (some ⟨w2.heap.size, 0, none⟩) := hf.out 4 (by decide) rfl
        have g0 : sl ax 12 = .bool true := hf.got 3 (by decide) (by simp [hd])
        refine ⟨fun hh => ?_, fun hh => ?_⟩
        · first
            | (exfalso; revert hh; simp [Held, g0, *]; done)
            | (refine free_run (v := undef) (W' := W) rfl ?_ rfl (Below.refl _ _); go_simp)
        · first
            | (exfalso; revert hh; simp [Held, g0, *]; done)
            | (show undef = _; first | rfl | (simp [*]; done))
      · intro L ax W hf hd
        simp [Region.binds] at hd
        have e13 : ax.tmps[13]?.getD undef = undef := slv (hf.got 4 (by decide) (by simp [hd]))
        have g0 : sl ax 12 = .bool true := hf.got 3 (by decide) (by simp [hd])
        refine ⟨fun hh => ?_, fun hh => ?_⟩
        · first
            | (exfalso; revert hh; simp [Held, g0, *]; done)
            | (refine free_run (v := undef) (W' := W) rfl ?_ rfl (Below.refl _ _); go_simp)
        · first
            | (exfalso; revert hh; simp [Held, g0, *]; done)
            | (show undef = _; first | rfl | (simp [*]; done))
      · intro L ax W hf hd
        simp [Region.binds] at hd
        have e14 : ax.tmps[14]?.getD undef = undef := slv (hf.got 5 (by decide) (by simp [hd]))
        have g0 : sl ax 12 = .bool true := hf.got 3 (by decide) (by simp [hd])
        refine ⟨fun hh => ?_, fun hh => ?_⟩
        · first
            | (exfalso; revert hh; simp [Held, g0, *]; done)
            | (refine free_run (v := undef) (W' := W) rfl ?_ rfl (Below.refl _ _); go_simp)
        · first
            | (exfalso; revert hh; simp [Held, g0, *]; done)
            | (show undef = _; first | rfl | (simp [*]; done))
      · intro L ax W hf hd
        simp [Region.binds] at hd
        have e0 : ax.tmps[0]?.getD undef = s.v := hf.out 0 (by decide) rfl
        have g0 : sl ax 12 = .bool true := hf.got 3 (by decide) (by simp [hd])
        refine ⟨fun hh => ?_, fun hh => ?_⟩
        · first
            | (exfalso; revert hh; simp [Held, g0, *]; done)
            | (refine free_run (v := undef) (W' := W) rfl ?_ rfl (Below.refl _ _); go_simp)
        · first
            | (exfalso; revert hh; simp [Held, g0, *]; done)
            | (show undef = _; first | rfl | (simp [*]; done))
      · intro L ax W hf hd
        simp [Region.binds] at hd
        have e16 : ax.tmps[16]?.getD undef = undef := slv (hf.got 7 (by decide) (by simp [hd]))
        have g0 : sl ax 12 = .bool true := hf.got 3 (by decide) (by simp [hd])
        refine ⟨fun hh => ?_, fun hh => ?_⟩
        · first
            | (exfalso; revert hh; simp [Held, g0, *]; done)
            | (refine free_run (v := undef) (W' := W) rfl ?_ rfl (Below.refl _ _); go_simp)
        · first
            | (exfalso; revert hh; simp [Held, g0, *]; done)
            | (show undef = _; first | rfl | (simp [*]; done))
      · intro L ax W hf hd
        simp [Region.binds] at hd
        have e15 : ax.tmps[15]?.getD undef = undef := slv (hf.got 6 (by decide) (by simp [hd]))
        have e17 : ax.tmps[17]?.getD undef = undef := slv (hf.got 8 (by decide) (by simp [hd]))
        have g0 : sl ax 12 = .bool true := hf.got 3 (by decide) (by simp [hd])
        refine ⟨fun hh => ?_, fun hh => ?_⟩
        · first
            | (exfalso; revert hh; simp [Held, g0, *]; done)
            | (refine free_run (v := undef) (W' := W) rfl ?_ rfl (Below.refl _ _); go_simp)
        · first
            | (exfalso; revert hh; simp [Held, g0, *]; done)
            | (show undef = _; first | rfl | (simp [*]; done))
      · intro L ax W hf hd
        simp [Region.binds] at hd
        have e12 : ax.tmps[12]?.getD undef = .bool true := slv (hf.got 3 (by decide) (by simp [hd]))
        have e18 : ax.tmps[18]?.getD undef = undef := slv (hf.got 9 (by decide) (by simp [hd]))
        refine ⟨fun _ => ?_, fun h => absurd trivial h⟩
        refine free_run (v := .bool true) (W' := W) rfl ?_ rfl (Below.refl _ _)
        go_simp
    · intro vs W' hl' hF hb
      obtain ⟨g', hg1, hg2⟩ := vs_lit vs hl' hF
      have e10 : g' 10 = .bool true := hg2 10 (by decide)
      rw [hg1]
      clear hF hg1 hg2 hl'
      have hBW : Below w.heap.size w W' := HB4.out.trans (hb.mono (by omega))
      have hthW : there W' w.heap.size 0 68 := there_below hb (by omega) hth4
      have hrowW : row? W' w.heap.size 0 68 = some (voteA ⟨0, zeroPt, zeroPt, ⟨none, 0, 0⟩⟩) := (row?_below _ _ _ hb (by omega)).trans hrow4
      have hrowV : row? W' w2.heap.size 0 68 = some (voteA g) := (row?_below _ _ _ hb hz4).trans hrowx
      have HvW := Lib.hid (Hv4.out.keep' hb)
      have hzW := hb.size
      clear hth4 hrow4 hrowx hb HM
      simp only [List.length_cons, List.length_nil, Nat.reduceAdd, show List.range 11 = [0, 1, 2, 3, 4, 5, 6, 7, 8, 9, 10] from rfl, List.map_cons, List.map_nil, putL, List.zip_cons_cons, List.zip_nil_right, List.setIfInBounds_toArray, List.set_cons_succ, List.set_cons_zero, e10]
      go_wp2_with (with_reducible refine ret_row2 Try.isAgg61 Try.sizeOf61 fvov_res (x := .pointer (some ⟨w.heap.size, 0, none⟩)) (y := .bool false) (w.heap.size) 0 ?rrhx (Eq.refl _) ?rrhy ?rrh ?rrhd ?rrhR; (case rrhx => simp only [Array.getD_eq_getD_getElem?, List.getElem?_toArray, List.getElem?_cons_succ, List.getElem?_cons_zero, Option.getD_some]); (case rrhy => simp only [Array.getD_eq_getD_getElem?, List.getElem?_toArray, List.getElem?_cons_succ, List.getElem?_cons_zero, Option.getD_some]); (case rrhd => exact rfl); (case rrh => go_simp); (case rrhR => ((refine ⟨⟨0, zeroPt, zeroPt, ⟨none, 0, 0⟩⟩, ?_, VoteR.mk (BytesR.nil _ _ _), ?_⟩; (case refine_1 => (go_simp; done)); (case refine_2 => ((repeat' (first | (with_reducible exact Below.refl _ _) | (with_reducible assumption) | (with_reducible refine bel_trans (by assumption) ?_ ?_) | (with_reducible refine bel_grown (by assumption) ?_ ?_ ?_) | (with_reducible refine Below.alloc ?_ ?_ _) | (with_reducible refine Below.drew ?_) | (with_reducible refine below_drewN ?_ _) | (with_reducible refine Below.setCell ?_ ?_ _) | (with_reducible refine below_put ?_ ?_ _ _) | (with_reducible exact Nat.le_refl _) | omega | (with_reducible refine Nat.le_trans ?_ (Below.size (by assumption))) | (with_reducible refine Nat.le_trans ?_ (World.grownBy.size (by assumption))) | (simp only [World.size_alloc, World.size_setCell, World.size_drew, size_drewN]; omega) | (simp only [World.size_alloc, World.size_setCell, World.size_drew, size_drewN, size_put]; omega) | (intro k hk; simp [Value.ownBlock] at hk; done) | (intro k hk; simp [Value.ownBlock] at hk; omega) | (simp [size_drewN] at *; omega)))))))))
  · rw [hm] at HM
    obtain ⟨m1, m2, m3, m4, m5⟩ := voteMay_out hm
    have Hm := Lib.hid hm
    clear hm m4 m5
    refine wp_region_freeG_l (fun W W' => Below W.heap.size W W') (by kernel_rfl) [9, 10, 11, 12, 13, 14, 15, 16, 17, 18, 19]
      [Is (.agg (voteA g)), Is (.bool true), Is (.bool false), Is (.bool false), Is (.agg (voteA g)), IsB (vtBytes v), Is (.string ⟨(vtBytes v).toArray⟩), Is (s.v), Is (.string ⟨l.toArray⟩), Is (.bool (!decide (vtBytes v = l))), Is (.bool (!decide (vtBytes v = l)))]
      (by kernel_rfl) (fun W W' h hb => hb.trans (h.mono hb.size)) ?_ ?_ ?_
    · intro f hf
      simp only [List.mem_cons, List.not_mem_nil, or_false] at hf
      rcases hf with rfl | rfl | rfl | rfl | rfl | rfl | rfl | rfl | rfl | rfl | rfl <;> intro x W W' h hr <;> first | exact h | exact IsB.keepB h hr
    · refine ⟨?_, ?_, ?_, ?_, ?_, ?_, ?_, ?_, ?_, ?_, ?_, trivial⟩
      · intro L ax W hf hd
        try simp [Region.binds] at hd
        have e4 : ax.tmps[4]?.getD undef = .pointer (some ⟨w2.heap.size, 0, none⟩) := hf.out 4 (by decide) rfl
        refine ⟨fun _ => ?_, fun h => absurd trivial h⟩
        have r1 : row? W w2.heap.size 0 68 = some (voteA g) := (row?_below _ _ _ hf.below hz4).trans hrowx
        refine free_run (v := .agg (voteA g)) (W' := W) rfl ?_ rfl (Below.refl _ _)
        go_simp
      · intro L ax W hf hd
        simp [Region.binds] at hd
        have e9 : ax.tmps[9]?.getD undef = .agg (voteA g) := slv (hf.got 0 (by decide) (by simp [hd]))
        refine ⟨fun _ => ?_, fun h => absurd trivial h⟩
        refine free_call (f := 32) (args := #[.agg (voteA g)]) rfl (by go_simp) ?_
        refine (HM W).mono ?_
        rintro e w' ⟨rfl, hb⟩
        exact ⟨_, rfl, rfl, hb⟩
      · intro L ax W hf hd
        simp [Region.binds] at hd
        have e10 : ax.tmps[10]?.getD undef = .bool true := slv (hf.got 1 (by decide) (by simp [hd]))
        refine ⟨fun _ => ?_, fun h => absurd trivial h⟩
        refine free_run (v := .bool false) (W' := W) rfl ?_ rfl (Below.refl _ _)
        go_simp
      · intro L ax W hf hd
        simp [Region.binds] at hd
        have e11 : ax.tmps[11]?.getD undef = .bool false := slv (hf.got 2 (by decide) (by simp [hd]))
        refine ⟨fun _ => ?_, fun h => absurd trivial h⟩
        refine free_run (v := .bool false) (W' := W) rfl ?_ rfl (Below.refl _ _)
        go_simp
      · intro L ax W hf hd
        simp [Region.binds] at hd
        have e4 : ax.tmps[4]?.getD undef = .pointer (some ⟨w2.heap.size, 0, none⟩) := hf.out 4 (by decide) rfl
        have g0 : sl ax 12 = .bool false := hf.got 3 (by decide) (by simp [hd])
        refine ⟨fun hh => ?_, fun hh => ?_⟩
        · first
            | (exfalso; revert hh; simp [Held, g0, *]; done)
            | ((have r1 : row? W w2.heap.size 0 68 = some (voteA g) := (row?_below _ _ _ hf.below hz4).trans hrowx); refine free_run (v := .agg (voteA g)) (W' := W) rfl ?_ rfl (Below.refl _ _); go_simp)
        · first
            | (exfalso; revert hh; simp [Held, g0, *]; done)
            | (show undef = _; first | rfl | (simp [*]; done))
      · intro L ax W hf hd
        simp [Region.binds] at hd
        have e13 : ax.tmps[13]?.getD undef = .agg (voteA g) := slv (hf.got 4 (by decide) (by simp [hd]))
        have g0 : sl ax 12 = .bool false := hf.got 3 (by decide) (by simp [hd])
        refine ⟨fun hh => ?_, fun hh => ?_⟩
        · first
            | (exfalso; revert hh; simp [Held, g0, *]; done)
            | (refine free_call (f := 34) (args := #[.agg (voteA g)]) rfl (by go_simp) ?_; refine (fVote_c g v W (Hv4.out.keep' hf.below) m1 m2 m3).mono ?_; rintro e w' ⟨s2, rfl, hs2, hb⟩; exact ⟨_, rfl, ⟨s2, rfl, hs2⟩, hb⟩)
        · first
            | (exfalso; revert hh; simp [Held, g0, *]; done)
            | (show undef = _; first | rfl | (simp [*]; done))
      · intro L ax W hf hd
        simp [Region.binds] at hd
        have f14 : IsB (vtBytes v) (sl ax 14) W := hf.got 5 (by decide) (by simp [hd])
        have g0 : sl ax 12 = .bool false := hf.got 3 (by decide) (by simp [hd])
        refine ⟨fun hh => ?_, fun hh => ?_⟩
        · first
            | (exfalso; revert hh; simp [Held, g0, *]; done)
            | (obtain ⟨s2, e14, h14⟩ := f14; have e14 := slv e14; have hcv := str_run h14; refine free_run (v := .string ⟨(vtBytes v).toArray⟩) (W' := W) rfl ?_ rfl (Below.refl _ _); go_simp)
        · first
            | (exfalso; revert hh; simp [Held, g0, *]; done)
            | (show undef = _; first | rfl | (simp [*]; done))
      · intro L ax W hf hd
        simp [Region.binds] at hd
        have e0 : ax.tmps[0]?.getD undef = s.v := hf.out 0 (by decide) rfl
        have g0 : sl ax 12 = .bool false := hf.got 3 (by decide) (by simp [hd])
        refine ⟨fun hh => ?_, fun hh => ?_⟩
        · first
            | (exfalso; revert hh; simp [Held, g0, *]; done)
            | (refine free_run (v := s.v) (W' := W) rfl ?_ rfl (Below.refl _ _); go_simp)
        · first
            | (exfalso; revert hh; simp [Held, g0, *]; done)
            | (show undef = _; first | rfl | (simp [*]; done))
      · intro L ax W hf hd
        simp [Region.binds] at hd
        have e16 : ax.tmps[16]?.getD undef = s.v := slv (hf.got 7 (by decide) (by simp [hd]))
        have g0 : sl ax 12 = .bool false := hf.got 3 (by decide) (by simp [hd])
        refine ⟨fun hh => ?_, fun hh => ?_⟩
        · first
            | (exfalso; revert hh; simp [Held, g0, *]; done)
            | ((have hcv := str_run (Hs4.out.keep hf.below)); refine free_run (v := .string ⟨l.toArray⟩) (W' := W) rfl ?_ rfl (Below.refl _ _); go_simp)
        · first
            | (exfalso; revert hh; simp [Held, g0, *]; done)
            | (show undef = _; first | rfl | (simp [*]; done))
      · intro L ax W hf hd
        simp [Region.binds] at hd
        have e15 : ax.tmps[15]?.getD undef = .string ⟨(vtBytes v).toArray⟩ := slv (hf.got 6 (by decide) (by simp [hd]))
        have e17 : ax.tmps[17]?.getD undef = .string ⟨l.toArray⟩ := slv (hf.got 8 (by decide) (by simp [hd]))
        have g0 : sl ax 12 = .bool false := hf.got 3 (by decide) (by simp [hd])
        refine ⟨fun hh => ?_, fun hh => ?_⟩
        · first
            | (exfalso; revert hh; simp [Held, g0, *]; done)
            | ((have hbe : (vtBytes v == l) = decide (vtBytes v = l) := by (rw [Bool.eq_iff_iff]; simp)); refine free_run (v := .bool (!decide (vtBytes v = l))) (W' := W) rfl ?_ rfl (Below.refl _ _); go_simp)
        · first
            | (exfalso; revert hh; simp [Held, g0, *]; done)
            | (show undef = _; first | rfl | (simp [*]; done))
      · intro L ax W hf hd
        simp [Region.binds] at hd
        have e12 : ax.tmps[12]?.getD undef = .bool false := slv (hf.got 3 (by decide) (by simp [hd]))
        have e18 : ax.tmps[18]?.getD undef = .bool (!decide (vtBytes v = l)) := slv (hf.got 9 (by decide) (by simp [hd]))
        refine ⟨fun _ => ?_, fun h => absurd trivial h⟩
        refine free_run (v := .bool (!decide (vtBytes v = l))) (W' := W) rfl ?_ rfl (Below.refl _ _)
        go_simp
    · intro vs W' hl' hF hb
      obtain ⟨g', hg1, hg2⟩ := vs_lit vs hl' hF
      have e10 : g' 10 = .bool (!decide (vtBytes v = l)) := hg2 10 (by decide)
      rw [hg1]
      clear hF hg1 hg2 hl'
      have hBW : Below w.heap.size w W' := HB4.out.trans (hb.mono (by omega))
      have hthW : there W' w.heap.size 0 68 := there_below hb (by omega) hth4
      have hrowW : row? W' w.heap.size 0 68 = some (voteA ⟨0, zeroPt, zeroPt, ⟨none, 0, 0⟩⟩) := (row?_below _ _ _ hb (by omega)).trans hrow4
      have hrowV : row? W' w2.heap.size 0 68 = some (voteA g) := (row?_below _ _ _ hb hz4).trans hrowx
      have HvW := Lib.hid (Hv4.out.keep' hb)
      have hzW := hb.size
      clear hth4 hrow4 hrowx hb HM
      by_cases he : vtBytes v = l
      · have hX : X = (v, 0) := by rw [← HX.out]; simp [Hm.out, he]
        subst hX
        rw [show (!decide (vtBytes v = l)) = false by simp [he]] at e10
        clear he
        simp only [List.length_cons, List.length_nil, Nat.reduceAdd, show List.range 11 = [0, 1, 2, 3, 4, 5, 6, 7, 8, 9, 10] from rfl, List.map_cons, List.map_nil, putL, List.zip_cons_cons, List.zip_nil_right, List.setIfInBounds_toArray, List.set_cons_succ, List.set_cons_zero, e10]
        go_wp2_with (with_reducible refine ret_row2 Try.isAgg61 Try.sizeOf61 fvov_res (x := .pointer (some ⟨w.heap.size, 0, none⟩)) (y := .bool true) (w.heap.size) 0 ?rrhx (Eq.refl _) ?rrhy ?rrh ?rrhd ?rrhR; (case rrhx => simp only [Array.getD_eq_getD_getElem?, List.getElem?_toArray, List.getElem?_cons_succ, List.getElem?_cons_zero, Option.getD_some]); (case rrhy => simp only [Array.getD_eq_getD_getElem?, List.getElem?_toArray, List.getElem?_cons_succ, List.getElem?_cons_zero, Option.getD_some]); (case rrhd => exact rfl); (case rrh => go_simp); (case rrhR => ((refine ⟨g, ?_, VoteR.put HvW.out hlow, ?_⟩; (case refine_1 => (go_simp; done)); (case refine_2 => ((repeat' (first | (with_reducible exact Below.refl _ _) | (with_reducible assumption) | (with_reducible refine bel_trans (by assumption) ?_ ?_) | (with_reducible refine bel_grown (by assumption) ?_ ?_ ?_) | (with_reducible refine Below.alloc ?_ ?_ _) | (with_reducible refine Below.drew ?_) | (with_reducible refine below_drewN ?_ _) | (with_reducible refine Below.setCell ?_ ?_ _) | (with_reducible refine below_put ?_ ?_ _ _) | (with_reducible exact Nat.le_refl _) | omega | (with_reducible refine Nat.le_trans ?_ (Below.size (by assumption))) | (with_reducible refine Nat.le_trans ?_ (World.grownBy.size (by assumption))) | (simp only [World.size_alloc, World.size_setCell, World.size_drew, size_drewN]; omega) | (simp only [World.size_alloc, World.size_setCell, World.size_drew, size_drewN, size_put]; omega) | (intro k hk; simp [Value.ownBlock] at hk; done) | (intro k hk; simp [Value.ownBlock] at hk; omega) | (simp [size_drewN] at *; omega)))))))))
      · have hX : X = (⟨0, zeroPt, zeroPt, []⟩, 4) := by rw [← HX.out]; simp [he]
        subst hX
        rw [show (!decide (vtBytes v = l)) = true by simp [he]] at e10
        clear he
        simp only [List.length_cons, List.length_nil, Nat.reduceAdd, show List.range 11 = [0, 1, 2, 3, 4, 5, 6, 7, 8, 9, 10] from rfl, List.map_cons, List.map_nil, putL, List.zip_cons_cons, List.zip_nil_right, List.setIfInBounds_toArray, List.set_cons_succ, List.set_cons_zero, e10]
        go_wp2_with (with_reducible refine ret_row2 Try.isAgg61 Try.sizeOf61 fvov_res (x := .pointer (some ⟨w.heap.size, 0, none⟩)) (y := .bool false) (w.heap.size) 0 ?rrhx (Eq.refl _) ?rrhy ?rrh ?rrhd ?rrhR; (case rrhx => simp only [Array.getD_eq_getD_getElem?, List.getElem?_toArray, List.getElem?_cons_succ, List.getElem?_cons_zero, Option.getD_some]); (case rrhy => simp only [Array.getD_eq_getD_getElem?, List.getElem?_toArray, List.getElem?_cons_succ, List.getElem?_cons_zero, Option.getD_some]); (case rrhd => exact rfl); (case rrh => go_simp); (case rrhR => ((refine ⟨⟨0, zeroPt, zeroPt, ⟨none, 0, 0⟩⟩, ?_, VoteR.mk (BytesR.nil _ _ _), ?_⟩; (case refine_1 => (go_simp; done)); (case refine_2 => ((repeat' (first | (with_reducible exact Below.refl _ _) | (with_reducible assumption) | (with_reducible refine bel_trans (by assumption) ?_ ?_) | (with_reducible refine bel_grown (by assumption) ?_ ?_ ?_) | (with_reducible refine Below.alloc ?_ ?_ _) | (with_reducible refine Below.drew ?_) | (with_reducible refine below_drewN ?_ _) | (with_reducible refine Below.setCell ?_ ?_ _) | (with_reducible refine below_put ?_ ?_ _ _) | (with_reducible exact Nat.le_refl _) | omega | (with_reducible refine Nat.le_trans ?_ (Below.size (by assumption))) | (with_reducible refine Nat.le_trans ?_ (World.grownBy.size (by assumption))) | (simp only [World.size_alloc, World.size_setCell, World.size_drew, size_drewN]; omega) | (simp only [World.size_alloc, World.size_setCell, World.size_drew, size_drewN, size_put]; omega) | (intro k hk; simp [Value.ownBlock] at hk; done) | (intro k hk; simp [Value.ownBlock] at hk; omega) | (simp [size_drewN] at *; omega)))))))))
end Go.Proofs.Ytbpbnnonialelaa
