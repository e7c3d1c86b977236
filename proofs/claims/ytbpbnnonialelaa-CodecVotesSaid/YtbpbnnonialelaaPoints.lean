/- The walk of landmarklaw09.CodecPoints. -/
import Derived.Test.YtbpbnnonialelaaTold9
namespace Go.Proofs.Ytbpbnnonialelaa
open Go.RowKit

theorem num09_r (n : Int) (w : World) : Calls Try.prog 26 #[.int .i64 n] w fun e w' => e = .returned (.int .i64 n) ∧ Below w.heap.size w w' := by
  refine (num09_c n w).mono ?_
  rintro e w' ⟨he, rfl⟩
  exact ⟨he, Below.refl _ _⟩
/-- four checkpoints in rows of their own -/
def Rows4 (a b c d : Nat) (W : World) (p q y : Pt) : Prop := row? W a 0 33 = some (pointA p) ∧ row? W b 0 33 = some (pointA q) ∧ row? W c 0 33 = some (pointA y) ∧ row? W d 0 33 = some (pointA y) ∧ a < W.heap.size ∧ b < W.heap.size ∧ c < W.heap.size ∧ d < W.heap.size
theorem Rows4.keep {a b c d : Nat} {W W' : World} {p q y : Pt} (h : Rows4 a b c d W p q y) (hb : Below W.heap.size W W') : Rows4 a b c d W' p q y := by
  obtain ⟨h1, h2, h3, h4, l1, l2, l3, l4⟩ := h
  have := hb.size
  exact ⟨by rw [row?_below _ _ _ hb l1]; exact h1, by rw [row?_below _ _ _ hb l2]; exact h2, by rw [row?_below _ _ _ hb l3]; exact h3, by rw [row?_below _ _ _ hb l4]; exact h4, by omega, by omega, by omega, by omega⟩

set_option maxRecDepth 100000 in
set_option maxHeartbeats 1600000 in
theorem points_walk (p q : Pt) (s : Sl) (l : List UInt8) (w : World) (hs : BytesR w s l) :
    Calls Try.prog 9 #[.agg (pointA p), .agg (pointA q), s.v] w fun e w' => e = .returned (.bool true) ∧ Below w.heap.size w w' := by
  have hg := eq_point_guard
  obtain ⟨sa, sn, sc⟩ := s
  obtain rfl : sn = l.length := hs.1
  by_cases hl : l.length ≤ 9000
  · have hl' : l.length ≤ 140737488355328 := by omega
    have hd0 : decide ((9000 : Int) < l.length) = false := decide_eq_false (by omega)
    have HP := fun W => pointBytes_c p W
    have HC := fun W h => pointOf_c ⟨sa, l.length, sc⟩ l W h hl'
    have HF := fun W h => fpointOf_c ⟨sa, l.length, sc⟩ l W h hl'
    have hX : ((pointOf l).2 = 0 ∨ (pointOf l).2 = 4) := by
      unfold pointOf
      split
      · exact .inl rfl
      · exact .inr rfl
    generalize pointOf l = X at *
    obtain ⟨y, ef⟩ := X
    simp only at HC HF hX
    have Hs := Lib.hid hs
    clear hs hl hl'
    show Calls Try.prog 9 #[.agg (pointA p), .agg (pointA q), .slice sa l.length sc] w _
    go_enter Try.func9, Try.ntmps9
    go_wp2_with fail
    refine (HP _).mono ?_
    rintro e w1 ⟨s1, rfl, h1, hb1⟩
    go_wp2_with fail
    have hB1 : Below w.heap.size w w1 := by (repeat' (first | (with_reducible exact Below.refl _ _) | (with_reducible assumption) | (with_reducible refine bel_trans (by assumption) ?_ ?_) | (with_reducible refine bel_grown (by assumption) ?_ ?_ ?_) | (with_reducible refine Below.alloc ?_ ?_ _) | (with_reducible refine Below.drew ?_) | (with_reducible refine below_drewN ?_ _) | (with_reducible refine Below.setCell ?_ ?_ _) | (with_reducible refine below_put ?_ ?_ _ _) | (with_reducible exact Nat.le_refl _) | omega | (with_reducible refine Nat.le_trans ?_ (Below.size (by assumption))) | (with_reducible refine Nat.le_trans ?_ (World.grownBy.size (by assumption))) | (simp only [World.size_alloc, World.size_setCell, World.size_drew, size_drewN]; omega) | (simp only [World.size_alloc, World.size_setCell, World.size_drew, size_drewN, size_put]; omega) | (intro k hk; simp [Value.ownBlock] at hk; done) | (intro k hk; simp [Value.ownBlock] at hk; omega) | (simp [size_drewN] at *; omega)))
    have hz1 : w.heap.size + 2 ≤ w1.heap.size := by have := hb1.size; simpa using this
    obtain ⟨k1, k2, k3⟩ := kept hb1
    have rp : row? w1 w.heap.size 0 33 = some (pointA p) := by rw [k3 _ _ _ (by simp; omega), row?_old _ _ _ _ _ (by simp), row?_new]; simp
    have rq : row? w1 (w.heap.size + 1) 0 33 = some (pointA q) := by rw [k3 _ _ _ (by simp), row?_new_at _ _ _ _ _ _ (by simp)]; simp
    clear k1 k2 k3 hb1
    have hB1' := Lib.hid hB1
    refine (HC _ (Hs.out.keep hB1)).mono ?_
    rintro e w2 ⟨rfl, hb2⟩
    have hz2 := hb2.size
    have hb2' := Lib.hid hb2
    clear hB1
    go_wp2_with fail
    have r2 : row? (putRow (w2.alloc (Obj.cells (pointA zeroPt) 29)) w2.heap.size 0 (pointA y)) w2.heap.size 0 33 = some (pointA y) := by go_simp
    have hb3 : Below w2.heap.size w2 (putRow (w2.alloc (Obj.cells (pointA zeroPt) 29)) w2.heap.size 0 (pointA y)) := by (repeat' (first | (with_reducible exact Below.refl _ _) | (with_reducible assumption) | (with_reducible refine bel_trans (by assumption) ?_ ?_) | (with_reducible refine bel_grown (by assumption) ?_ ?_ ?_) | (with_reducible refine Below.alloc ?_ ?_ _) | (with_reducible refine Below.drew ?_) | (with_reducible refine below_drewN ?_ _) | (with_reducible refine Below.setCell ?_ ?_ _) | (with_reducible refine below_put ?_ ?_ _ _) | (with_reducible exact Nat.le_refl _) | omega | (with_reducible refine Nat.le_trans ?_ (Below.size (by assumption))) | (with_reducible refine Nat.le_trans ?_ (World.grownBy.size (by assumption))) | (simp only [World.size_alloc, World.size_setCell, World.size_drew, size_drewN]; omega) | (simp only [World.size_alloc, World.size_setCell, World.size_drew, size_drewN, size_put]; omega) | (intro k hk; simp [Value.ownBlock] at hk; done) | (intro k hk; simp [Value.ownBlock] at hk; omega) | (simp [size_drewN] at *; omega)))
    have hz3 : w2.heap.size < (putRow (w2.alloc (Obj.cells (pointA zeroPt) 29)) w2.heap.size 0 (pointA y)).heap.size := by simp [size_put]
    generalize hw3 : putRow (w2.alloc (Obj.cells (pointA zeroPt) 29)) w2.heap.size 0 (pointA y) = w3 at *
    clear hw3
    have hB3 : Below w.heap.size w w3 := (hB1'.out.trans (hb2.mono (by omega))).trans (hb3.mono (by omega))
    refine (HF _ (Hs.out.keep hB3)).mono ?_
    rintro e w4 ⟨rfl, hb4⟩
    have hz4 := hb4.size
    go_wp2_with fail
    have r4 : row? (putRow (w4.alloc (Obj.cells (pointA zeroPt) 29)) w4.heap.size 0 (pointA y)) w4.heap.size 0 33 = some (pointA y) := by go_simp
    have hb5 : Below w4.heap.size w4 (putRow (w4.alloc (Obj.cells (pointA zeroPt) 29)) w4.heap.size 0 (pointA y)) := by (repeat' (first | (with_reducible exact Below.refl _ _) | (with_reducible assumption) | (with_reducible refine bel_trans (by assumption) ?_ ?_) | (with_reducible refine bel_grown (by assumption) ?_ ?_ ?_) | (with_reducible refine Below.alloc ?_ ?_ _) | (with_reducible refine Below.drew ?_) | (with_reducible refine below_drewN ?_ _) | (with_reducible refine Below.setCell ?_ ?_ _) | (with_reducible refine below_put ?_ ?_ _ _) | (with_reducible exact Nat.le_refl _) | omega | (with_reducible refine Nat.le_trans ?_ (Below.size (by assumption))) | (with_reducible refine Nat.le_trans ?_ (World.grownBy.size (by assumption))) | (simp only [World.size_alloc, World.size_setCell, World.size_drew, size_drewN]; omega) | (simp only [World.size_alloc, World.size_setCell, World.size_drew, size_drewN, size_put]; omega) | (intro k hk; simp [Value.ownBlock] at hk; done) | (intro k hk; simp [Value.ownBlock] at hk; omega) | (simp [size_drewN] at *; omega)))
    have hz5 : w4.heap.size < (putRow (w4.alloc (Obj.cells (pointA zeroPt) 29)) w4.heap.size 0 (pointA y)).heap.size := by simp [size_put]
    generalize hw5 : putRow (w4.alloc (Obj.cells (pointA zeroPt) 29)) w4.heap.size 0 (pointA y) = w5 at *
    clear hw5
    have b15 : Below w1.heap.size w1 w5 := ((hb2.trans (hb3.mono hz2)).trans (hb4.mono (by omega))).trans (hb5.mono (by omega))
    have b35 : Below w3.heap.size w3 w5 := hb4.trans (hb5.mono hz4)
    have hR := Lib.hid (show Rows4 w.heap.size (w.heap.size + 1) w2.heap.size w4.heap.size w5 p q y from
      ⟨(row?_below _ _ _ b15 (by omega)).trans rp, (row?_below _ _ _ b15 (by omega)).trans rq, (row?_below _ _ _ b35 (by omega)).trans r2, r4, by omega, by omega, by omega, by omega⟩)
    have H1 := Lib.hid (h1.keep b15)
    have HB := Lib.hid (hB1'.out.trans (b15.mono (by omega)))
    have hz4 : w.heap.size ≤ w5.heap.size := by omega
    clear h1 hb2 hb2' hb3 hb4 hb5 b15 b35 rp rq r2 r4 hB1' hB3 hz1 hz2 hz3 hz5 HC HF HP
    rcases hX with rfl | rfl
    all_goals simp only [show decide ((0 : Int) = 0) = true from rfl, show decide ((4 : Int) = 0) = false from rfl]
    rotate_left
    refine wp_region_freeG_l (fun W W' => Below W.heap.size W W') (by kernel_rfl) [32, 33, 34, 35, 36, 37, 38, 39, 40, 41, 42, 43, 44, 45, 46, 47, 48, 49, 50, 51, 52, 53, 54, 55, 56, 57, 58, 59, 60, 61, 62, 63, 64, 65, 66, 67, 68, 69, 70, 71, 72, 6]
      [Is (s1.v), Is (.int .i64 (noErr (mayPt p))), Is (.agg (pointA p)), Is (.bool (mayPt p)), Is (.agg (pointA p)), Is (.bool (mayPt p)), Is (.agg (pointA p)), IsB (ptBytes p), Is (.bool true), Is (.bool true), Is (.agg (pointA y)), Is (.agg (pointA y)), Is (.bool true), Is (.bool true), Is (.bool true), Is (.int .i64 4), Is (.int .i64 4), Is (.bool false), Is (.bool false), Is (.bool true), Is (.bool true), Is (.bool true), Is (.bool false), Is (.bool false), Is (.int .i64 4), Is (.int .i64 4), Is (.bool true), Is (.bool true), Is (.bool true), Is (.bool true), Is (.agg (pointA p)), Is (.agg (pointA q)), Is (.bool (ptLt p q)), Is (.agg (pointA p)), Is (.agg (pointA q)), Is (.bool (ptLt p q)), Is (.bool true), Is (.bool true), Is (.bool true), Is (.bool true), Is (.bool true), Is (.bool true)]
      (by kernel_rfl) (fun W W' h hb => hb.trans (h.mono hb.size)) ?_ ?_ ?_
    · intro f hf
      simp only [List.mem_cons, List.not_mem_nil, or_false] at hf
      rcases hf with rfl | rfl | rfl | rfl | rfl | rfl | rfl | rfl | rfl | rfl | rfl | rfl | rfl | rfl | rfl | rfl | rfl | rfl | rfl | rfl | rfl | rfl | rfl | rfl | rfl | rfl | rfl | rfl | rfl | rfl | rfl | rfl | rfl | rfl | rfl | rfl | rfl | rfl | rfl | rfl | rfl | rfl <;> intro x W W' h hr <;> first | exact h | exact IsB.keepB h hr
    · refine ⟨?_, ?_, ?_, ?_, ?_, ?_, ?_, ?_, ?_, ?_, ?_, ?_, ?_, ?_, ?_, ?_, ?_, ?_, ?_, ?_, ?_, ?_, ?_, ?_, ?_, ?_, ?_, ?_, ?_, ?_, ?_, ?_, ?_, ?_, ?_, ?_, ?_, ?_, ?_, ?_, ?_, ?_, trivial⟩
      · intro L ax W hf hd
        try simp [Region.binds] at hd
        have e7 : ax.tmps[7]?.getD undef = s1.v := hf.out 7 (by decide) rfl
        refine ⟨fun _ => ?_, fun h => absurd trivial h⟩
        refine free_run (v := s1.v) (W' := W) rfl ?_ rfl (Below.refl _ _)
        go_simp
      · intro L ax W hf hd
        try simp [Region.binds] at hd
        have e8 : ax.tmps[8]?.getD undef = .int .i64 (noErr (mayPt p)) := hf.out 8 (by decide) rfl
        refine ⟨fun _ => ?_, fun h => absurd trivial h⟩
        refine free_run (v := .int .i64 (noErr (mayPt p))) (W' := W) rfl ?_ rfl (Below.refl _ _)
        go_simp
      · intro L ax W hf hd
        try simp [Region.binds] at hd
        have e3 : ax.tmps[3]?.getD undef = .pointer (some ⟨w.heap.size, 0, none⟩) := hf.out 3 (by decide) rfl
        refine ⟨fun _ => ?_, fun h => absurd trivial h⟩
        obtain ⟨r1, r2, r3, r4, rz⟩ := hR.out.keep hf.below
        refine free_run (v := .agg (pointA p)) (W' := W) rfl ?_ rfl (Below.refl _ _)
        go_simp
      · intro L ax W hf hd
        simp [Region.binds] at hd
        have e34 : ax.tmps[34]?.getD undef = .agg (pointA p) := slv (hf.got 2 (by decide) (by simp [hd]))
        refine ⟨fun _ => ?_, fun h => absurd trivial h⟩
        refine free_call (f := 46) (args := #[.agg (pointA p)]) rfl (by go_simp) ?_
        refine (mayPoint_c p W).mono ?_
        rintro e w' ⟨rfl, hb⟩
        exact ⟨_, rfl, rfl, hb⟩
      · intro L ax W hf hd
        try simp [Region.binds] at hd
        have e3 : ax.tmps[3]?.getD undef = .pointer (some ⟨w.heap.size, 0, none⟩) := hf.out 3 (by decide) rfl
        refine ⟨fun _ => ?_, fun h => absurd trivial h⟩
        obtain ⟨r1, r2, r3, r4, rz⟩ := hR.out.keep hf.below
        refine free_run (v := .agg (pointA p)) (W' := W) rfl ?_ rfl (Below.refl _ _)
        go_simp
      · intro L ax W hf hd
        simp [Region.binds] at hd
        have e36 : ax.tmps[36]?.getD undef = .agg (pointA p) := slv (hf.got 4 (by decide) (by simp [hd]))
        refine ⟨fun _ => ?_, fun h => absurd trivial h⟩
        refine free_call (f := 47) (args := #[.agg (pointA p)]) rfl (by go_simp) ?_
        refine (fmayPoint_c p W).mono ?_
        rintro e w' ⟨rfl, hb⟩
        exact ⟨_, rfl, rfl, hb⟩
      · intro L ax W hf hd
        try simp [Region.binds] at hd
        have e3 : ax.tmps[3]?.getD undef = .pointer (some ⟨w.heap.size, 0, none⟩) := hf.out 3 (by decide) rfl
        refine ⟨fun _ => ?_, fun h => absurd trivial h⟩
        obtain ⟨r1, r2, r3, r4, rz⟩ := hR.out.keep hf.below
        refine free_run (v := .agg (pointA p)) (W' := W) rfl ?_ rfl (Below.refl _ _)
        go_simp
      · intro L ax W hf hd
        simp [Region.binds] at hd
        have e38 : ax.tmps[38]?.getD undef = .agg (pointA p) := slv (hf.got 6 (by decide) (by simp [hd]))
        refine ⟨fun _ => ?_, fun h => absurd trivial h⟩
        refine free_call (f := 48) (args := #[.agg (pointA p)]) rfl (by go_simp) ?_
        refine (fPoint_c p W).mono ?_
        rintro e w' ⟨x, rfl, ho, hb⟩
        obtain ⟨s2, rfl⟩ := ho.slice
        exact ⟨_, rfl, ⟨s2, rfl, ho.reads⟩, hb⟩
      · intro L ax W hf hd
        simp [Region.binds] at hd
        have e32 : ax.tmps[32]?.getD undef = s1.v := slv (hf.got 0 (by decide) (by simp [hd]))
        have e33 : ax.tmps[33]?.getD undef = .int .i64 (noErr (mayPt p)) := slv (hf.got 1 (by decide) (by simp [hd]))
        have e35 : ax.tmps[35]?.getD undef = .bool (mayPt p) := slv (hf.got 3 (by decide) (by simp [hd]))
        have e37 : ax.tmps[37]?.getD undef = .bool (mayPt p) := slv (hf.got 5 (by decide) (by simp [hd]))
        have f39 : IsB (ptBytes p) (sl ax 39) W := hf.got 7 (by decide) (by simp [hd])
        refine ⟨fun _ => ?_, fun h => absurd trivial h⟩
        obtain ⟨s2, e39, h39⟩ := f39
        have e39 := slv e39
        refine free_call (f := 36) (args := #[s1.v, .int .i64 (noErr (mayPt p)), .bool (mayPt p), .bool (mayPt p), s2.v]) rfl (by go_simp) ?_
        refine (told9_c (mayPt p) s1 s2 (ptBytes p) (ptBytes p) W (H1.out.keep hf.below) h39 (fun _ => rfl)).mono ?_
        rintro e w' ⟨rfl, rfl⟩
        exact ⟨_, rfl, rfl, Below.refl _ _⟩
      · intro L ax W hf hd
        simp [Region.binds] at hd
        have f40 : Is (.bool true) (sl ax 40) W := hf.got 8 (by decide) (by simp [hd])
        refine ⟨fun _ => ?_, fun h => absurd trivial h⟩
        have e40 := slv f40
        refine free_run (v := .bool true) (W' := W) rfl ?_ rfl (Below.refl _ _)
        go_simp
      · intro L ax W hf hd
        simp [Region.binds] at hd
        have e9 : ax.tmps[9]?.getD undef = .pointer (some ⟨w2.heap.size, 0, none⟩) := hf.out 9 (by decide) rfl
        have g0 : sl ax 41 = .bool true := hf.got 9 (by decide) (by simp [hd])
        refine ⟨fun hh => ?_, fun hh => ?_⟩
        · first
            | (exfalso; revert hh; simp [Held, g0, *]; done)
            | (obtain ⟨r1, r2, r3, r4, rz⟩ := hR.out.keep hf.below; refine free_run (v := .agg (pointA y)) (W' := W) rfl ?_ rfl (Below.refl _ _); go_simp)
        · first
            | (exfalso; revert hh; simp [Held, g0, *]; done)
            | (show undef = _; first | rfl | (simp [*]; done))
      · intro L ax W hf hd
        simp [Region.binds] at hd
        have e11 : ax.tmps[11]?.getD undef = .pointer (some ⟨w4.heap.size, 0, none⟩) := hf.out 11 (by decide) rfl
        have g0 : sl ax 41 = .bool true := hf.got 9 (by decide) (by simp [hd])
        refine ⟨fun hh => ?_, fun hh => ?_⟩
        · first
            | (exfalso; revert hh; simp [Held, g0, *]; done)
            | (obtain ⟨r1, r2, r3, r4, rz⟩ := hR.out.keep hf.below; refine free_run (v := .agg (pointA y)) (W' := W) rfl ?_ rfl (Below.refl _ _); go_simp)
        · first
            | (exfalso; revert hh; simp [Held, g0, *]; done)
            | (show undef = _; first | rfl | (simp [*]; done))
      · intro L ax W hf hd
        simp [Region.binds] at hd
        have e42 : ax.tmps[42]?.getD undef = .agg (pointA y) := slv (hf.got 10 (by decide) (by simp [hd]))
        have e43 : ax.tmps[43]?.getD undef = .agg (pointA y) := slv (hf.got 11 (by decide) (by simp [hd]))
        have g0 : sl ax 41 = .bool true := hf.got 9 (by decide) (by simp [hd])
        refine ⟨fun hh => ?_, fun hh => ?_⟩
        · first
            | (exfalso; revert hh; simp [Held, g0, *]; done)
            | ((have heq : (decide (y = y)) = true := decide_eq_true rfl); refine free_run (v := .bool true) (W' := W) rfl ?_ rfl (Below.refl _ _); go_simp)
        · first
            | (exfalso; revert hh; simp [Held, g0, *]; done)
            | (show undef = _; first | rfl | (simp [*]; done))
      · intro L ax W hf hd
        simp [Region.binds] at hd
        have e41 : ax.tmps[41]?.getD undef = .bool true := slv (hf.got 9 (by decide) (by simp [hd]))
        have e44 : ax.tmps[44]?.getD undef = .bool true := slv (hf.got 12 (by decide) (by simp [hd]))
        refine ⟨fun _ => ?_, fun h => absurd trivial h⟩
        refine free_run (v := .bool true) (W' := W) rfl ?_ rfl (Below.refl _ _)
        go_simp
      · intro L ax W hf hd
        simp [Region.binds] at hd
        have e45 : ax.tmps[45]?.getD undef = .bool true := slv (hf.got 13 (by decide) (by simp [hd]))
        refine ⟨fun _ => ?_, fun h => absurd trivial h⟩
        refine free_run (v := .bool true) (W' := W) rfl ?_ rfl (Below.refl _ _)
        go_simp
      · intro L ax W hf hd
        simp [Region.binds] at hd
        have e10 : ax.tmps[10]?.getD undef = .int .i64 4 := hf.out 10 (by decide) rfl
        have g0 : sl ax 46 = .bool true := hf.got 14 (by decide) (by simp [hd])
        refine ⟨fun hh => ?_, fun hh => ?_⟩
        · first
            | (exfalso; revert hh; simp [Held, g0, *]; done)
            | (refine free_run (v := .int .i64 4) (W' := W) rfl ?_ rfl (Below.refl _ _); go_simp)
        · first
            | (exfalso; revert hh; simp [Held, g0, *]; done)
            | (show undef = _; first | rfl | (simp [*]; done))
      · intro L ax W hf hd
        simp [Region.binds] at hd
        have e47 : ax.tmps[47]?.getD undef = .int .i64 4 := slv (hf.got 15 (by decide) (by simp [hd]))
        have g0 : sl ax 46 = .bool true := hf.got 14 (by decide) (by simp [hd])
        refine ⟨fun hh => ?_, fun hh => ?_⟩
        · first
            | (exfalso; revert hh; simp [Held, g0, *]; done)
            | (refine free_call (f := 26) (args := #[.int .i64 4]) rfl (by go_simp) ?_; refine (num09_r 4 W).mono ?_; rintro e w' ⟨rfl, hb⟩; exact ⟨_, rfl, rfl, hb⟩)
        · first
            | (exfalso; revert hh; simp [Held, g0, *]; done)
            | (show undef = _; first | rfl | (simp [*]; done))
      · intro L ax W hf hd
        simp [Region.binds] at hd
        have e48 : ax.tmps[48]?.getD undef = .int .i64 4 := slv (hf.got 16 (by decide) (by simp [hd]))
        have g0 : sl ax 46 = .bool true := hf.got 14 (by decide) (by simp [hd])
        refine ⟨fun hh => ?_, fun hh => ?_⟩
        · first
            | (exfalso; revert hh; simp [Held, g0, *]; done)
            | (refine free_run (v := .bool false) (W' := W) rfl ?_ rfl (Below.refl _ _); go_simp)
        · first
            | (exfalso; revert hh; simp [Held, g0, *]; done)
            | (show undef = _; first | rfl | (simp [*]; done))
      · intro L ax W hf hd
        simp [Region.binds] at hd
        have e12 : ax.tmps[12]?.getD undef = .bool false := hf.out 12 (by decide) rfl
        have g0 : sl ax 46 = .bool true := hf.got 14 (by decide) (by simp [hd])
        refine ⟨fun hh => ?_, fun hh => ?_⟩
        · first
            | (exfalso; revert hh; simp [Held, g0, *]; done)
            | (refine free_run (v := .bool false) (W' := W) rfl ?_ rfl (Below.refl _ _); go_simp)
        · first
            | (exfalso; revert hh; simp [Held, g0, *]; done)
            | (show undef = _; first | rfl | (simp [*]; done))
      · intro L ax W hf hd
        simp [Region.binds] at hd
        have e49 : ax.tmps[49]?.getD undef = .bool false := slv (hf.got 17 (by decide) (by simp [hd]))
        have e50 : ax.tmps[50]?.getD undef = .bool false := slv (hf.got 18 (by decide) (by simp [hd]))
        have g0 : sl ax 46 = .bool true := hf.got 14 (by decide) (by simp [hd])
        refine ⟨fun hh => ?_, fun hh => ?_⟩
        · first
            | (exfalso; revert hh; simp [Held, g0, *]; done)
            | (refine free_run (v := .bool true) (W' := W) rfl ?_ rfl (Below.refl _ _); go_simp)
        · first
            | (exfalso; revert hh; simp [Held, g0, *]; done)
            | (show undef = _; first | rfl | (simp [*]; done))
      · intro L ax W hf hd
        simp [Region.binds] at hd
        have e46 : ax.tmps[46]?.getD undef = .bool true := slv (hf.got 14 (by decide) (by simp [hd]))
        have e51 : ax.tmps[51]?.getD undef = .bool true := slv (hf.got 19 (by decide) (by simp [hd]))
        refine ⟨fun _ => ?_, fun h => absurd trivial h⟩
        refine free_run (v := .bool true) (W' := W) rfl ?_ rfl (Below.refl _ _)
        go_simp
      · intro L ax W hf hd
        simp [Region.binds] at hd
        have e52 : ax.tmps[52]?.getD undef = .bool true := slv (hf.got 20 (by decide) (by simp [hd]))
        refine ⟨fun _ => ?_, fun h => absurd trivial h⟩
        refine free_run (v := .bool true) (W' := W) rfl ?_ rfl (Below.refl _ _)
        go_simp
      · intro L ax W hf hd
        simp [Region.binds] at hd
        have e12 : ax.tmps[12]?.getD undef = .bool false := hf.out 12 (by decide) rfl
        have g0 : sl ax 53 = .bool true := hf.got 21 (by decide) (by simp [hd])
        refine ⟨fun hh => ?_, fun hh => ?_⟩
        · first
            | (exfalso; revert hh; simp [Held, g0, *]; done)
            | (refine free_run (v := .bool false) (W' := W) rfl ?_ rfl (Below.refl _ _); go_simp)
        · first
            | (exfalso; revert hh; simp [Held, g0, *]; done)
            | (show undef = _; first | rfl | (simp [*]; done))
      · intro L ax W hf hd
        simp [Region.binds] at hd
        have e54 : ax.tmps[54]?.getD undef = .bool false := slv (hf.got 22 (by decide) (by simp [hd]))
        have g0 : sl ax 53 = .bool true := hf.got 21 (by decide) (by simp [hd])
        refine ⟨fun hh => ?_, fun hh => ?_⟩
        · first
            | (exfalso; revert hh; simp [Held, g0, *]; done)
            | (refine free_run (v := .bool false) (W' := W) rfl ?_ rfl (Below.refl _ _); go_simp)
        · first
            | (exfalso; revert hh; simp [Held, g0, *]; done)
            | (show undef = _; first | rfl | (simp [*]; done))
      · intro L ax W hf hd
        simp [Region.binds] at hd
        have e10 : ax.tmps[10]?.getD undef = .int .i64 4 := hf.out 10 (by decide) rfl
        have g0 : sl ax 55 = .bool false := hf.got 23 (by decide) (by simp [hd])
        refine ⟨fun hh => ?_, fun hh => ?_⟩
        · first
            | (exfalso; revert hh; simp [Held, g0, *]; done)
            | (refine free_run (v := .int .i64 4) (W' := W) rfl ?_ rfl (Below.refl _ _); go_simp)
        · first
            | (exfalso; revert hh; simp [Held, g0, *]; done)
            | (show undef = _; first | rfl | (simp [*]; done))
      · intro L ax W hf hd
        simp [Region.binds] at hd
        have e56 : ax.tmps[56]?.getD undef = .int .i64 4 := slv (hf.got 24 (by decide) (by simp [hd]))
        have g0 : sl ax 55 = .bool false := hf.got 23 (by decide) (by simp [hd])
        refine ⟨fun hh => ?_, fun hh => ?_⟩
        · first
            | (exfalso; revert hh; simp [Held, g0, *]; done)
            | (refine free_call (f := 26) (args := #[.int .i64 4]) rfl (by go_simp) ?_; refine (num09_r 4 W).mono ?_; rintro e w' ⟨rfl, hb⟩; exact ⟨_, rfl, rfl, hb⟩)
        · first
            | (exfalso; revert hh; simp [Held, g0, *]; done)
            | (show undef = _; first | rfl | (simp [*]; done))
      · intro L ax W hf hd
        simp [Region.binds] at hd
        have e57 : ax.tmps[57]?.getD undef = .int .i64 4 := slv (hf.got 25 (by decide) (by simp [hd]))
        have g0 : sl ax 55 = .bool false := hf.got 23 (by decide) (by simp [hd])
        refine ⟨fun hh => ?_, fun hh => ?_⟩
        · first
            | (exfalso; revert hh; simp [Held, g0, *]; done)
            | (refine free_run (v := .bool true) (W' := W) rfl ?_ rfl (Below.refl _ _); go_simp)
        · first
            | (exfalso; revert hh; simp [Held, g0, *]; done)
            | (show undef = _; first | rfl | (simp [*]; done))
      · intro L ax W hf hd
        simp [Region.binds] at hd
        have e55 : ax.tmps[55]?.getD undef = .bool false := slv (hf.got 23 (by decide) (by simp [hd]))
        have e58 : ax.tmps[58]?.getD undef = .bool true := slv (hf.got 26 (by decide) (by simp [hd]))
        have g0 : sl ax 53 = .bool true := hf.got 21 (by decide) (by simp [hd])
        refine ⟨fun hh => ?_, fun hh => ?_⟩
        · first
            | (exfalso; revert hh; simp [Held, g0, *]; done)
            | (refine free_run (v := .bool true) (W' := W) rfl ?_ rfl (Below.refl _ _); go_simp)
        · first
            | (exfalso; revert hh; simp [Held, g0, *]; done)
            | (show undef = _; first | rfl | (simp [*]; done))
      · intro L ax W hf hd
        simp [Region.binds] at hd
        have e53 : ax.tmps[53]?.getD undef = .bool true := slv (hf.got 21 (by decide) (by simp [hd]))
        have e59 : ax.tmps[59]?.getD undef = .bool true := slv (hf.got 27 (by decide) (by simp [hd]))
        refine ⟨fun _ => ?_, fun h => absurd trivial h⟩
        refine free_run (v := .bool true) (W' := W) rfl ?_ rfl (Below.refl _ _)
        go_simp
      · intro L ax W hf hd
        simp [Region.binds] at hd
        have e60 : ax.tmps[60]?.getD undef = .bool true := slv (hf.got 28 (by decide) (by simp [hd]))
        refine ⟨fun _ => ?_, fun h => absurd trivial h⟩
        refine free_run (v := .bool true) (W' := W) rfl ?_ rfl (Below.refl _ _)
        go_simp
      · intro L ax W hf hd
        simp [Region.binds] at hd
        have e3 : ax.tmps[3]?.getD undef = .pointer (some ⟨w.heap.size, 0, none⟩) := hf.out 3 (by decide) rfl
        have g0 : sl ax 61 = .bool true := hf.got 29 (by decide) (by simp [hd])
        refine ⟨fun hh => ?_, fun hh => ?_⟩
        · first
            | (exfalso; revert hh; simp [Held, g0, *]; done)
            | (obtain ⟨r1, r2, r3, r4, rz⟩ := hR.out.keep hf.below; refine free_run (v := .agg (pointA p)) (W' := W) rfl ?_ rfl (Below.refl _ _); go_simp)
        · first
            | (exfalso; revert hh; simp [Held, g0, *]; done)
            | (show undef = _; first | rfl | (simp [*]; done))
      · intro L ax W hf hd
        simp [Region.binds] at hd
        have e4 : ax.tmps[4]?.getD undef = .pointer (some ⟨w.heap.size + 1, 0, none⟩) := hf.out 4 (by decide) rfl
        have g0 : sl ax 61 = .bool true := hf.got 29 (by decide) (by simp [hd])
        refine ⟨fun hh => ?_, fun hh => ?_⟩
        · first
            | (exfalso; revert hh; simp [Held, g0, *]; done)
            | (obtain ⟨r1, r2, r3, r4, rz⟩ := hR.out.keep hf.below; refine free_run (v := .agg (pointA q)) (W' := W) rfl ?_ rfl (Below.refl _ _); go_simp)
        · first
            | (exfalso; revert hh; simp [Held, g0, *]; done)
            | (show undef = _; first | rfl | (simp [*]; done))
      · intro L ax W hf hd
        simp [Region.binds] at hd
        have e62 : ax.tmps[62]?.getD undef = .agg (pointA p) := slv (hf.got 30 (by decide) (by simp [hd]))
        have e63 : ax.tmps[63]?.getD undef = .agg (pointA q) := slv (hf.got 31 (by decide) (by simp [hd]))
        have g0 : sl ax 61 = .bool true := hf.got 29 (by decide) (by simp [hd])
        refine ⟨fun hh => ?_, fun hh => ?_⟩
        · first
            | (exfalso; revert hh; simp [Held, g0, *]; done)
            | (refine free_call (f := 42) (args := #[.agg (pointA p), .agg (pointA q)]) rfl (by go_simp) ?_; refine (less_c p q _ rfl W).mono ?_; rintro e w' ⟨rfl, hb⟩; exact ⟨_, rfl, rfl, hb⟩)
        · first
            | (exfalso; revert hh; simp [Held, g0, *]; done)
            | (show undef = _; first | rfl | (simp [*]; done))
      · intro L ax W hf hd
        simp [Region.binds] at hd
        have e3 : ax.tmps[3]?.getD undef = .pointer (some ⟨w.heap.size, 0, none⟩) := hf.out 3 (by decide) rfl
        have g0 : sl ax 61 = .bool true := hf.got 29 (by decide) (by simp [hd])
        refine ⟨fun hh => ?_, fun hh => ?_⟩
        · first
            | (exfalso; revert hh; simp [Held, g0, *]; done)
            | (obtain ⟨r1, r2, r3, r4, rz⟩ := hR.out.keep hf.below; refine free_run (v := .agg (pointA p)) (W' := W) rfl ?_ rfl (Below.refl _ _); go_simp)
        · first
            | (exfalso; revert hh; simp [Held, g0, *]; done)
            | (show undef = _; first | rfl | (simp [*]; done))
      · intro L ax W hf hd
        simp [Region.binds] at hd
        have e4 : ax.tmps[4]?.getD undef = .pointer (some ⟨w.heap.size + 1, 0, none⟩) := hf.out 4 (by decide) rfl
        have g0 : sl ax 61 = .bool true := hf.got 29 (by decide) (by simp [hd])
        refine ⟨fun hh => ?_, fun hh => ?_⟩
        · first
            | (exfalso; revert hh; simp [Held, g0, *]; done)
            | (obtain ⟨r1, r2, r3, r4, rz⟩ := hR.out.keep hf.below; refine free_run (v := .agg (pointA q)) (W' := W) rfl ?_ rfl (Below.refl _ _); go_simp)
        · first
            | (exfalso; revert hh; simp [Held, g0, *]; done)
            | (show undef = _; first | rfl | (simp [*]; done))
      · intro L ax W hf hd
        simp [Region.binds] at hd
        have e65 : ax.tmps[65]?.getD undef = .agg (pointA p) := slv (hf.got 33 (by decide) (by simp [hd]))
        have e66 : ax.tmps[66]?.getD undef = .agg (pointA q) := slv (hf.got 34 (by decide) (by simp [hd]))
        have g0 : sl ax 61 = .bool true := hf.got 29 (by decide) (by simp [hd])
        refine ⟨fun hh => ?_, fun hh => ?_⟩
        · first
            | (exfalso; revert hh; simp [Held, g0, *]; done)
            | (refine free_call (f := 49) (args := #[.agg (pointA p), .agg (pointA q)]) rfl (by go_simp) ?_; refine (fpointLess_c p q W).mono ?_; rintro e w' ⟨rfl, hb⟩; exact ⟨_, rfl, rfl, hb⟩)
        · first
            | (exfalso; revert hh; simp [Held, g0, *]; done)
            | (show undef = _; first | rfl | (simp [*]; done))
      · intro L ax W hf hd
        simp [Region.binds] at hd
        have e64 : ax.tmps[64]?.getD undef = .bool (ptLt p q) := slv (hf.got 32 (by decide) (by simp [hd]))
        have e67 : ax.tmps[67]?.getD undef = .bool (ptLt p q) := slv (hf.got 35 (by decide) (by simp [hd]))
        have g0 : sl ax 61 = .bool true := hf.got 29 (by decide) (by simp [hd])
        refine ⟨fun hh => ?_, fun hh => ?_⟩
        · first
            | (exfalso; revert hh; simp [Held, g0, *]; done)
            | ((have hll : (ptLt p q == ptLt p q) = true := by simp); refine free_run (v := .bool true) (W' := W) rfl ?_ rfl (Below.refl _ _); go_simp)
        · first
            | (exfalso; revert hh; simp [Held, g0, *]; done)
            | (show undef = _; first | rfl | (simp [*]; done))
      · intro L ax W hf hd
        simp [Region.binds] at hd
        have e61 : ax.tmps[61]?.getD undef = .bool true := slv (hf.got 29 (by decide) (by simp [hd]))
        have e68 : ax.tmps[68]?.getD undef = .bool true := slv (hf.got 36 (by decide) (by simp [hd]))
        refine ⟨fun _ => ?_, fun h => absurd trivial h⟩
        refine free_run (v := .bool true) (W' := W) rfl ?_ rfl (Below.refl _ _)
        go_simp
      · intro L ax W hf hd
        simp [Region.binds] at hd
        have e69 : ax.tmps[69]?.getD undef = .bool true := slv (hf.got 37 (by decide) (by simp [hd]))
        refine ⟨fun _ => ?_, fun h => absurd trivial h⟩
        refine free_run (v := .bool true) (W' := W) rfl ?_ rfl (Below.refl _ _)
        go_simp
      · intro L ax W hf hd
        simp [Region.binds] at hd
        have g0 : sl ax 70 = .bool true := hf.got 38 (by decide) (by simp [hd])
        refine ⟨fun hh => ?_, fun hh => ?_⟩
        · first
            | (exfalso; revert hh; simp [Held, g0, *]; done)
            | (refine free_call (f := 24) (args := #[]) rfl (by go_simp) ?_; refine (known09_c W).mono ?_; rintro e w' ⟨rfl, hb⟩; exact ⟨_, rfl, rfl, hb⟩)
        · first
            | (exfalso; revert hh; simp [Held, g0, *]; done)
            | (show undef = _; first | rfl | (simp [*]; done))
      · intro L ax W hf hd
        simp [Region.binds] at hd
        have e70 : ax.tmps[70]?.getD undef = .bool true := slv (hf.got 38 (by decide) (by simp [hd]))
        have e71 : ax.tmps[71]?.getD undef = .bool true := slv (hf.got 39 (by decide) (by simp [hd]))
        refine ⟨fun _ => ?_, fun h => absurd trivial h⟩
        refine free_run (v := .bool true) (W' := W) rfl ?_ rfl (Below.refl _ _)
        go_simp
      · intro L ax W hf hd
        simp [Region.binds] at hd
        have e72 : ax.tmps[72]?.getD undef = .bool true := slv (hf.got 40 (by decide) (by simp [hd]))
        refine ⟨fun _ => ?_, fun h => absurd trivial h⟩
        refine free_run (v := .bool true) (W' := W) rfl ?_ rfl (Below.refl _ _)
        go_simp
    · intro vs W' hl' hF hb
      obtain ⟨g', hg1, hg2⟩ := vs_lit vs hl' hF
      have e41 : g' 41 = .bool true := hg2 41 (by decide)
      rw [hg1]
      clear hF hg1 hg2 hl'
      simp only [List.length_cons, List.length_nil, Nat.reduceAdd, show List.range 42 = [0, 1, 2, 3, 4, 5, 6, 7, 8, 9, 10, 11, 12, 13, 14, 15, 16, 17, 18, 19, 20, 21, 22, 23, 24, 25, 26, 27, 28, 29, 30, 31, 32, 33, 34, 35, 36, 37, 38, 39, 40, 41] from rfl, List.map_cons, List.map_nil, putL, List.zip_cons_cons, List.zip_nil_right, List.setIfInBounds_toArray, List.set_cons_succ, List.set_cons_zero, e41]
      go_wp2_with fail
      go_ret
      exact ⟨rfl, HB.out.trans (hb.mono hz4)⟩
    refine wp_region_freeG_l (fun W W' => Below W.heap.size W W') (by kernel_rfl) [32, 33, 34, 35, 36, 37, 38, 39, 40, 41, 42, 43, 44, 45, 46, 47, 48, 49, 50, 51, 52, 53, 54, 55, 56, 57, 58, 59, 60, 61, 62, 63, 64, 65, 66, 67, 68, 69, 70, 71, 72, 6]
      [Is (s1.v), Is (.int .i64 (noErr (mayPt p))), Is (.agg (pointA p)), Is (.bool (mayPt p)), Is (.agg (pointA p)), Is (.bool (mayPt p)), Is (.agg (pointA p)), IsB (ptBytes p), Is (.bool true), Is (.bool true), Is (.agg (pointA y)), Is (.agg (pointA y)), Is (.bool true), Is (.bool true), Is (.bool true), Is (.int .i64 0), Is (.int .i64 0), Is (.bool true), Is (.bool true), Is (.bool true), Is (.bool true), Is (.bool true), Is (.bool true), Is (.bool true), Is (undef), Is (undef), Is (undef), Is (.bool true), Is (.bool true), Is (.bool true), Is (.agg (pointA p)), Is (.agg (pointA q)), Is (.bool (ptLt p q)), Is (.agg (pointA p)), Is (.agg (pointA q)), Is (.bool (ptLt p q)), Is (.bool true), Is (.bool true), Is (.bool true), Is (.bool true), Is (.bool true), Is (.bool true)]
      (by kernel_rfl) (fun W W' h hb => hb.trans (h.mono hb.size)) ?_ ?_ ?_
    · intro f hf
      simp only [List.mem_cons, List.not_mem_nil, or_false] at hf
      rcases hf with rfl | rfl | rfl | rfl | rfl | rfl | rfl | rfl | rfl | rfl | rfl | rfl | rfl | rfl | rfl | rfl | rfl | rfl | rfl | rfl | rfl | rfl | rfl | rfl | rfl | rfl | rfl | rfl | rfl | rfl | rfl | rfl | rfl | rfl | rfl | rfl | rfl | rfl | rfl | rfl | rfl | rfl <;> intro x W W' h hr <;> first | exact h | exact IsB.keepB h hr
    · refine ⟨?_, ?_, ?_, ?_, ?_, ?_, ?_, ?_, ?_, ?_, ?_, ?_, ?_, ?_, ?_, ?_, ?_, ?_, ?_, ?_, ?_, ?_, ?_, ?_, ?_, ?_, ?_, ?_, ?_, ?_, ?_, ?_, ?_, ?_, ?_, ?_, ?_, ?_, ?_, ?_, ?_, ?_, trivial⟩
      · intro L ax W hf hd
        try simp [Region.binds] at hd
        have e7 : ax.tmps[7]?.getD undef = s1.v := hf.out 7 (by decide) rfl
        refine ⟨fun _ => ?_, fun h => absurd trivial h⟩
        refine free_run (v := s1.v) (W' := W) rfl ?_ rfl (Below.refl _ _)
        go_simp
      · intro L ax W hf hd
        try simp [Region.binds] at hd
        have e8 : ax.tmps[8]?.getD undef = .int .i64 (noErr (mayPt p)) := hf.out 8 (by decide) rfl
        refine ⟨fun _ => ?_, fun h => absurd trivial h⟩
        refine free_run (v := .int .i64 (noErr (mayPt p))) (W' := W) rfl ?_ rfl (Below.refl _ _)
        go_simp
      · intro L ax W hf hd
        try simp [Region.binds] at hd
        have e3 : ax.tmps[3]?.getD undef = .pointer (some ⟨w.heap.size, 0, none⟩) := hf.out 3 (by decide) rfl
        refine ⟨fun _ => ?_, fun h => absurd trivial h⟩
        obtain ⟨r1, r2, r3, r4, rz⟩ := hR.out.keep hf.below
        refine free_run (v := .agg (pointA p)) (W' := W) rfl ?_ rfl (Below.refl _ _)
        go_simp
      · intro L ax W hf hd
        simp [Region.binds] at hd
        have e34 : ax.tmps[34]?.getD undef = .agg (pointA p) := slv (hf.got 2 (by decide) (by simp [hd]))
        refine ⟨fun _ => ?_, fun h => absurd trivial h⟩
        refine free_call (f := 46) (args := #[.agg (pointA p)]) rfl (by go_simp) ?_
        refine (mayPoint_c p W).mono ?_
        rintro e w' ⟨rfl, hb⟩
        exact ⟨_, rfl, rfl, hb⟩
      · intro L ax W hf hd
        try simp [Region.binds] at hd
        have e3 : ax.tmps[3]?.getD undef = .pointer (some ⟨w.heap.size, 0, none⟩) := hf.out 3 (by decide) rfl
        refine ⟨fun _ => ?_, fun h => absurd trivial h⟩
        obtain ⟨r1, r2, r3, r4, rz⟩ := hR.out.keep hf.below
        refine free_run (v := .agg (pointA p)) (W' := W) rfl ?_ rfl (Below.refl _ _)
        go_simp
      · intro L ax W hf hd
        simp [Region.binds] at hd
        have e36 : ax.tmps[36]?.getD undef = .agg (pointA p) := slv (hf.got 4 (by decide) (by simp [hd]))
        refine ⟨fun _ => ?_, fun h => absurd trivial h⟩
        refine free_call (f := 47) (args := #[.agg (pointA p)]) rfl (by go_simp) ?_
        refine (fmayPoint_c p W).mono ?_
        rintro e w' ⟨rfl, hb⟩
        exact ⟨_, rfl, rfl, hb⟩
      · intro L ax W hf hd
        try simp [Region.binds] at hd
        have e3 : ax.tmps[3]?.getD undef = .pointer (some ⟨w.heap.size, 0, none⟩) := hf.out 3 (by decide) rfl
        refine ⟨fun _ => ?_, fun h => absurd trivial h⟩
        obtain ⟨r1, r2, r3, r4, rz⟩ := hR.out.keep hf.below
        refine free_run (v := .agg (pointA p)) (W' := W) rfl ?_ rfl (Below.refl _ _)
        go_simp
      · intro L ax W hf hd
        simp [Region.binds] at hd
        have e38 : ax.tmps[38]?.getD undef = .agg (pointA p) := slv (hf.got 6 (by decide) (by simp [hd]))
        refine ⟨fun _ => ?_, fun h => absurd trivial h⟩
        refine free_call (f := 48) (args := #[.agg (pointA p)]) rfl (by go_simp) ?_
        refine (fPoint_c p W).mono ?_
        rintro e w' ⟨x, rfl, ho, hb⟩
        obtain ⟨s2, rfl⟩ := ho.slice
        exact ⟨_, rfl, ⟨s2, rfl, ho.reads⟩, hb⟩
      · intro L ax W hf hd
        simp [Region.binds] at hd
        have e32 : ax.tmps[32]?.getD undef = s1.v := slv (hf.got 0 (by decide) (by simp [hd]))
        have e33 : ax.tmps[33]?.getD undef = .int .i64 (noErr (mayPt p)) := slv (hf.got 1 (by decide) (by simp [hd]))
        have e35 : ax.tmps[35]?.getD undef = .bool (mayPt p) := slv (hf.got 3 (by decide) (by simp [hd]))
        have e37 : ax.tmps[37]?.getD undef = .bool (mayPt p) := slv (hf.got 5 (by decide) (by simp [hd]))
        have f39 : IsB (ptBytes p) (sl ax 39) W := hf.got 7 (by decide) (by simp [hd])
        refine ⟨fun _ => ?_, fun h => absurd trivial h⟩
        obtain ⟨s2, e39, h39⟩ := f39
        have e39 := slv e39
        refine free_call (f := 36) (args := #[s1.v, .int .i64 (noErr (mayPt p)), .bool (mayPt p), .bool (mayPt p), s2.v]) rfl (by go_simp) ?_
        refine (told9_c (mayPt p) s1 s2 (ptBytes p) (ptBytes p) W (H1.out.keep hf.below) h39 (fun _ => rfl)).mono ?_
        rintro e w' ⟨rfl, rfl⟩
        exact ⟨_, rfl, rfl, Below.refl _ _⟩
      · intro L ax W hf hd
        simp [Region.binds] at hd
        have f40 : Is (.bool true) (sl ax 40) W := hf.got 8 (by decide) (by simp [hd])
        refine ⟨fun _ => ?_, fun h => absurd trivial h⟩
        have e40 := slv f40
        refine free_run (v := .bool true) (W' := W) rfl ?_ rfl (Below.refl _ _)
        go_simp
      · intro L ax W hf hd
        simp [Region.binds] at hd
        have e9 : ax.tmps[9]?.getD undef = .pointer (some ⟨w2.heap.size, 0, none⟩) := hf.out 9 (by decide) rfl
        have g0 : sl ax 41 = .bool true := hf.got 9 (by decide) (by simp [hd])
        refine ⟨fun hh => ?_, fun hh => ?_⟩
        · first
            | (exfalso; revert hh; simp [Held, g0, *]; done)
            | (obtain ⟨r1, r2, r3, r4, rz⟩ := hR.out.keep hf.below; refine free_run (v := .agg (pointA y)) (W' := W) rfl ?_ rfl (Below.refl _ _); go_simp)
        · first
            | (exfalso; revert hh; simp [Held, g0, *]; done)
            | (show undef = _; first | rfl | (simp [*]; done))
      · intro L ax W hf hd
        simp [Region.binds] at hd
        have e11 : ax.tmps[11]?.getD undef = .pointer (some ⟨w4.heap.size, 0, none⟩) := hf.out 11 (by decide) rfl
        have g0 : sl ax 41 = .bool true := hf.got 9 (by decide) (by simp [hd])
        refine ⟨fun hh => ?_, fun hh => ?_⟩
        · first
            | (exfalso; revert hh; simp [Held, g0, *]; done)
            | (obtain ⟨r1, r2, r3, r4, rz⟩ := hR.out.keep hf.below; refine free_run (v := .agg (pointA y)) (W' := W) rfl ?_ rfl (Below.refl _ _); go_simp)
        · first
            | (exfalso; revert hh; simp [Held, g0, *]; done)
            | (show undef = _; first | rfl | (simp [*]; done))
      · intro L ax W hf hd
        simp [Region.binds] at hd
        have e42 : ax.tmps[42]?.getD undef = .agg (pointA y) := slv (hf.got 10 (by decide) (by simp [hd]))
        have e43 : ax.tmps[43]?.getD undef = .agg (pointA y) := slv (hf.got 11 (by decide) (by simp [hd]))
        have g0 : sl ax 41 = .bool true := hf.got 9 (by decide) (by simp [hd])
        refine ⟨fun hh => ?_, fun hh => ?_⟩
        · first
            | (exfalso; revert hh; simp [Held, g0, *]; done)
            | ((have heq : (decide (y = y)) = true := decide_eq_true rfl); refine free_run (v := .bool true) (W' := W) rfl ?_ rfl (Below.refl _ _); go_simp)
        · first
            | (exfalso; revert hh; simp [Held, g0, *]; done)
            | (show undef = _; first | rfl | (simp [*]; done))
      · intro L ax W hf hd
        simp [Region.binds] at hd
        have e41 : ax.tmps[41]?.getD undef = .bool true := slv (hf.got 9 (by decide) (by simp [hd]))
        have e44 : ax.tmps[44]?.getD undef = .bool true := slv (hf.got 12 (by decide) (by simp [hd]))
        refine ⟨fun _ => ?_, fun h => absurd trivial h⟩
        refine free_run (v := .bool true) (W' := W) rfl ?_ rfl (Below.refl _ _)
        go_simp
      · intro L ax W hf hd
        simp [Region.binds] at hd
        have e45 : ax.tmps[45]?.getD undef = .bool true := slv (hf.got 13 (by decide) (by simp [hd]))
        refine ⟨fun _ => ?_, fun h => absurd trivial h⟩
        refine free_run (v := .bool true) (W' := W) rfl ?_ rfl (Below.refl _ _)
        go_simp
      · intro L ax W hf hd
        simp [Region.binds] at hd
        have e10 : ax.tmps[10]?.getD undef = .int .i64 0 := hf.out 10 (by decide) rfl
        have g0 : sl ax 46 = .bool true := hf.got 14 (by decide) (by simp [hd])
        refine ⟨fun hh => ?_, fun hh => ?_⟩
        · first
            | (exfalso; revert hh; simp [Held, g0, *]; done)
            | (refine free_run (v := .int .i64 0) (W' := W) rfl ?_ rfl (Below.refl _ _); go_simp)
        · first
            | (exfalso; revert hh; simp [Held, g0, *]; done)
            | (show undef = _; first | rfl | (simp [*]; done))
      · intro L ax W hf hd
        simp [Region.binds] at hd
        have e47 : ax.tmps[47]?.getD undef = .int .i64 0 := slv (hf.got 15 (by decide) (by simp [hd]))
        have g0 : sl ax 46 = .bool true := hf.got 14 (by decide) (by simp [hd])
        refine ⟨fun hh => ?_, fun hh => ?_⟩
        · first
            | (exfalso; revert hh; simp [Held, g0, *]; done)
            | (refine free_call (f := 26) (args := #[.int .i64 0]) rfl (by go_simp) ?_; refine (num09_r 0 W).mono ?_; rintro e w' ⟨rfl, hb⟩; exact ⟨_, rfl, rfl, hb⟩)
        · first
            | (exfalso; revert hh; simp [Held, g0, *]; done)
            | (show undef = _; first | rfl | (simp [*]; done))
      · intro L ax W hf hd
        simp [Region.binds] at hd
        have e48 : ax.tmps[48]?.getD undef = .int .i64 0 := slv (hf.got 16 (by decide) (by simp [hd]))
        have g0 : sl ax 46 = .bool true := hf.got 14 (by decide) (by simp [hd])
        refine ⟨fun hh => ?_, fun hh => ?_⟩
        · first
            | (exfalso; revert hh; simp [Held, g0, *]; done)
            | (refine free_run (v := .bool true) (W' := W) rfl ?_ rfl (Below.refl _ _); go_simp)
        · first
            | (exfalso; revert hh; simp [Held, g0, *]; done)
            | (show undef = _; first | rfl | (simp [*]; done))
      · intro L ax W hf hd
        simp [Region.binds] at hd
        have e12 : ax.tmps[12]?.getD undef = .bool true := hf.out 12 (by decide) rfl
        have g0 : sl ax 46 = .bool true := hf.got 14 (by decide) (by simp [hd])
        refine ⟨fun hh => ?_, fun hh => ?_⟩
        · first
            | (exfalso; revert hh; simp [Held, g0, *]; done)
            | (refine free_run (v := .bool true) (W' := W) rfl ?_ rfl (Below.refl _ _); go_simp)
        · first
            | (exfalso; revert hh; simp [Held, g0, *]; done)
            | (show undef = _; first | rfl | (simp [*]; done))
      · intro L ax W hf hd
        simp [Region.binds] at hd
        have e49 : ax.tmps[49]?.getD undef = .bool true := slv (hf.got 17 (by decide) (by simp [hd]))
        have e50 : ax.tmps[50]?.getD undef = .bool true := slv (hf.got 18 (by decide) (by simp [hd]))
        have g0 : sl ax 46 = .bool true := hf.got 14 (by decide) (by simp [hd])
        refine ⟨fun hh => ?_, fun hh => ?_⟩
        · first
            | (exfalso; revert hh; simp [Held, g0, *]; done)
            | (refine free_run (v := .bool true) (W' := W) rfl ?_ rfl (Below.refl _ _); go_simp)
        · first
            | (exfalso; revert hh; simp [Held, g0, *]; done)
            | (show undef = _; first | rfl | (simp [*]; done))
      · intro L ax W hf hd
        simp [Region.binds] at hd
        have e46 : ax.tmps[46]?.getD undef = .bool true := slv (hf.got 14 (by decide) (by simp [hd]))
        have e51 : ax.tmps[51]?.getD undef = .bool true := slv (hf.got 19 (by decide) (by simp [hd]))
        refine ⟨fun _ => ?_, fun h => absurd trivial h⟩
        refine free_run (v := .bool true) (W' := W) rfl ?_ rfl (Below.refl _ _)
        go_simp
      · intro L ax W hf hd
        simp [Region.binds] at hd
        have e52 : ax.tmps[52]?.getD undef = .bool true := slv (hf.got 20 (by decide) (by simp [hd]))
        refine ⟨fun _ => ?_, fun h => absurd trivial h⟩
        refine free_run (v := .bool true) (W' := W) rfl ?_ rfl (Below.refl _ _)
        go_simp
      · intro L ax W hf hd
        simp [Region.binds] at hd
        have e12 : ax.tmps[12]?.getD undef = .bool true := hf.out 12 (by decide) rfl
        have g0 : sl ax 53 = .bool true := hf.got 21 (by decide) (by simp [hd])
        refine ⟨fun hh => ?_, fun hh => ?_⟩
        · first
            | (exfalso; revert hh; simp [Held, g0, *]; done)
            | (refine free_run (v := .bool true) (W' := W) rfl ?_ rfl (Below.refl _ _); go_simp)
        · first
            | (exfalso; revert hh; simp [Held, g0, *]; done)
            | (show undef = _; first | rfl | (simp [*]; done))
      · intro L ax W hf hd
        simp [Region.binds] at hd
        have e54 : ax.tmps[54]?.getD undef = .bool true := slv (hf.got 22 (by decide) (by simp [hd]))
        have g0 : sl ax 53 = .bool true := hf.got 21 (by decide) (by simp [hd])
        refine ⟨fun hh => ?_, fun hh => ?_⟩
        · first
            | (exfalso; revert hh; simp [Held, g0, *]; done)
            | (refine free_run (v := .bool true) (W' := W) rfl ?_ rfl (Below.refl _ _); go_simp)
        · first
            | (exfalso; revert hh; simp [Held, g0, *]; done)
            | (show undef = _; first | rfl | (simp [*]; done))
      · intro L ax W hf hd
        simp [Region.binds] at hd
        have e10 : ax.tmps[10]?.getD undef = .int .i64 0 := hf.out 10 (by decide) rfl
        have g0 : sl ax 55 = .bool true := hf.got 23 (by decide) (by simp [hd])
        refine ⟨fun hh => ?_, fun hh => ?_⟩
        · first
            | (exfalso; revert hh; simp [Held, g0, *]; done)
            | (refine free_run (v := undef) (W' := W) rfl ?_ rfl (Below.refl _ _); go_simp)
        · first
            | (exfalso; revert hh; simp [Held, g0, *]; done)
            | (show undef = _; first | rfl | (simp [*]; done))
      · intro L ax W hf hd
        simp [Region.binds] at hd
        have e56 : ax.tmps[56]?.getD undef = undef := slv (hf.got 24 (by decide) (by simp [hd]))
        have g0 : sl ax 55 = .bool true := hf.got 23 (by decide) (by simp [hd])
        refine ⟨fun hh => ?_, fun hh => ?_⟩
        · first
            | (exfalso; revert hh; simp [Held, g0, *]; done)
            | (refine free_run (v := undef) (W' := W) rfl ?_ rfl (Below.refl _ _); go_simp)
        · first
            | (exfalso; revert hh; simp [Held, g0, *]; done)
            | (show undef = _; first | rfl | (simp [*]; done))
      · intro L ax W hf hd
        simp [Region.binds] at hd
        have e57 : ax.tmps[57]?.getD undef = undef := slv (hf.got 25 (by decide) (by simp [hd]))
        have g0 : sl ax 55 = .bool true := hf.got 23 (by decide) (by simp [hd])
        refine ⟨fun hh => ?_, fun hh => ?_⟩
        · first
            | (exfalso; revert hh; simp [Held, g0, *]; done)
            | (refine free_run (v := undef) (W' := W) rfl ?_ rfl (Below.refl _ _); go_simp)
        · first
            | (exfalso; revert hh; simp [Held, g0, *]; done)
            | (show undef = _; first | rfl | (simp [*]; done))
      · intro L ax W hf hd
        simp [Region.binds] at hd
        have e55 : ax.tmps[55]?.getD undef = .bool true := slv (hf.got 23 (by decide) (by simp [hd]))
        have e58 : ax.tmps[58]?.getD undef = undef := slv (hf.got 26 (by decide) (by simp [hd]))
        have g0 : sl ax 53 = .bool true := hf.got 21 (by decide) (by simp [hd])
        refine ⟨fun hh => ?_, fun hh => ?_⟩
        · first
            | (exfalso; revert hh; simp [Held, g0, *]; done)
            | (refine free_run (v := .bool true) (W' := W) rfl ?_ rfl (Below.refl _ _); go_simp)
        · first
            | (exfalso; revert hh; simp [Held, g0, *]; done)
            | (show undef = _; first | rfl | (simp [*]; done))
      · intro L ax W hf hd
        simp [Region.binds] at hd
        have e53 : ax.tmps[53]?.getD undef = .bool true := slv (hf.got 21 (by decide) (by simp [hd]))
        have e59 : ax.tmps[59]?.getD undef = .bool true := slv (hf.got 27 (by decide) (by simp [hd]))
        refine ⟨fun _ => ?_, fun h => absurd trivial h⟩
        refine free_run (v := .bool true) (W' := W) rfl ?_ rfl (Below.refl _ _)
        go_simp
      · intro L ax W hf hd
        simp [Region.binds] at hd
        have e60 : ax.tmps[60]?.getD undef = .bool true := slv (hf.got 28 (by decide) (by simp [hd]))
        refine ⟨fun _ => ?_, fun h => absurd trivial h⟩
        refine free_run (v := .bool true) (W' := W) rfl ?_ rfl (Below.refl _ _)
        go_simp
      · intro L ax W hf hd
        simp [Region.binds] at hd
        have e3 : ax.tmps[3]?.getD undef = .pointer (some ⟨w.heap.size, 0, none⟩) := hf.out 3 (by decide) rfl
        have g0 : sl ax 61 = .bool true := hf.got 29 (by decide) (by simp [hd])
        refine ⟨fun hh => ?_, fun hh => ?_⟩
        · first
            | (exfalso; revert hh; simp [Held, g0, *]; done)
            | (obtain ⟨r1, r2, r3, r4, rz⟩ := hR.out.keep hf.below; refine free_run (v := .agg (pointA p)) (W' := W) rfl ?_ rfl (Below.refl _ _); go_simp)
        · first
            | (exfalso; revert hh; simp [Held, g0, *]; done)
            | (show undef = _; first | rfl | (simp [*]; done))
      · intro L ax W hf hd
        simp [Region.binds] at hd
        have e4 : ax.tmps[4]?.getD undef = .pointer (some ⟨w.heap.size + 1, 0, none⟩) := hf.out 4 (by decide) rfl
        have g0 : sl ax 61 = .bool true := hf.got 29 (by decide) (by simp [hd])
        refine ⟨fun hh => ?_, fun hh => ?_⟩
        · first
            | (exfalso; revert hh; simp [Held, g0, *]; done)
            | (obtain ⟨r1, r2, r3, r4, rz⟩ := hR.out.keep hf.below; refine free_run (v := .agg (pointA q)) (W' := W) rfl ?_ rfl (Below.refl _ _); go_simp)
        · first
            | (exfalso; revert hh; simp [Held, g0, *]; done)
            | (show undef = _; first | rfl | (simp [*]; done))
      · intro L ax W hf hd
        simp [Region.binds] at hd
        have e62 : ax.tmps[62]?.getD undef = .agg (pointA p) := slv (hf.got 30 (by decide) (by simp [hd]))
        have e63 : ax.tmps[63]?.getD undef = .agg (pointA q) := slv (hf.got 31 (by decide) (by simp [hd]))
        have g0 : sl ax 61 = .bool true := hf.got 29 (by decide) (by simp [hd])
        refine ⟨fun hh => ?_, fun hh => ?_⟩
        · first
            | (exfalso; revert hh; simp [Held, g0, *]; done)
            | (refine free_call (f := 42) (args := #[.agg (pointA p), .agg (pointA q)]) rfl (by go_simp) ?_; refine (less_c p q _ rfl W).mono ?_; rintro e w' ⟨rfl, hb⟩; exact ⟨_, rfl, rfl, hb⟩)
        · first
            | (exfalso; revert hh; simp [Held, g0, *]; done)
            | (show undef = _; first | rfl | (simp [*]; done))
      · intro L ax W hf hd
        simp [Region.binds] at hd
        have e3 : ax.tmps[3]?.getD undef = .pointer (some ⟨w.heap.size, 0, none⟩) := hf.out 3 (by decide) rfl
        have g0 : sl ax 61 = .bool true := hf.got 29 (by decide) (by simp [hd])
        refine ⟨fun hh => ?_, fun hh => ?_⟩
        · first
            | (exfalso; revert hh; simp [Held, g0, *]; done)
            | (obtain ⟨r1, r2, r3, r4, rz⟩ := hR.out.keep hf.below; refine free_run (v := .agg (pointA p)) (W' := W) rfl ?_ rfl (Below.refl _ _); go_simp)
        · first
            | (exfalso; revert hh; simp [Held, g0, *]; done)
            | (show undef = _; first | rfl | (simp [*]; done))
      · intro L ax W hf hd
        simp [Region.binds] at hd
        have e4 : ax.tmps[4]?.getD undef = .pointer (some ⟨w.heap.size + 1, 0, none⟩) := hf.out 4 (by decide) rfl
        have g0 : sl ax 61 = .bool true := hf.got 29 (by decide) (by simp [hd])
        refine ⟨fun hh => ?_, fun hh => ?_⟩
        · first
            | (exfalso; revert hh; simp [Held, g0, *]; done)
            | (obtain ⟨r1, r2, r3, r4, rz⟩ := hR.out.keep hf.below; refine free_run (v := .agg (pointA q)) (W' := W) rfl ?_ rfl (Below.refl _ _); go_simp)
        · first
            | (exfalso; revert hh; simp [Held, g0, *]; done)
            | (show undef = _; first | rfl | (simp [*]; done))
      · intro L ax W hf hd
        simp [Region.binds] at hd
        have e65 : ax.tmps[65]?.getD undef = .agg (pointA p) := slv (hf.got 33 (by decide) (by simp [hd]))
        have e66 : ax.tmps[66]?.getD undef = .agg (pointA q) := slv (hf.got 34 (by decide) (by simp [hd]))
        have g0 : sl ax 61 = .bool true := hf.got 29 (by decide) (by simp [hd])
        refine ⟨fun hh => ?_, fun hh => ?_⟩
        · first
            | (exfalso; revert hh; simp [Held, g0, *]; done)
            | (refine free_call (f := 49) (args := #[.agg (pointA p), .agg (pointA q)]) rfl (by go_simp) ?_; refine (fpointLess_c p q W).mono ?_; rintro e w' ⟨rfl, hb⟩; exact ⟨_, rfl, rfl, hb⟩)
        · first
            | (exfalso; revert hh; simp [Held, g0, *]; done)
            | (show undef = _; first | rfl | (simp [*]; done))
      · intro L ax W hf hd
        simp [Region.binds] at hd
        have e64 : ax.tmps[64]?.getD undef = .bool (ptLt p q) := slv (hf.got 32 (by decide) (by simp [hd]))
        have e67 : ax.tmps[67]?.getD undef = .bool (ptLt p q) := slv (hf.got 35 (by decide) (by simp [hd]))
        have g0 : sl ax 61 = .bool true := hf.got 29 (by decide) (by simp [hd])
        refine ⟨fun hh => ?_, fun hh => ?_⟩
        · first
            | (exfalso; revert hh; simp [Held, g0, *]; done)
            | ((have hll : (ptLt p q == ptLt p q) = true := by simp); refine free_run (v := .bool true) (W' := W) rfl ?_ rfl (Below.refl _ _); go_simp)
        · first
            | (exfalso; revert hh; simp [Held, g0, *]; done)
            | (show undef = _; first | rfl | (simp [*]; done))
      · intro L ax W hf hd
        simp [Region.binds] at hd
        have e61 : ax.tmps[61]?.getD undef = .bool true := slv (hf.got 29 (by decide) (by simp [hd]))
        have e68 : ax.tmps[68]?.getD undef = .bool true := slv (hf.got 36 (by decide) (by simp [hd]))
        refine ⟨fun _ => ?_, fun h => absurd trivial h⟩
        refine free_run (v := .bool true) (W' := W) rfl ?_ rfl (Below.refl _ _)
        go_simp
      · intro L ax W hf hd
        simp [Region.binds] at hd
        have e69 : ax.tmps[69]?.getD undef = .bool true := slv (hf.got 37 (by decide) (by simp [hd]))
        refine ⟨fun _ => ?_, fun h => absurd trivial h⟩
        refine free_run (v := .bool true) (W' := W) rfl ?_ rfl (Below.refl _ _)
        go_simp
      · intro L ax W hf hd
        simp [Region.binds] at hd
        have g0 : sl ax 70 = .bool true := hf.got 38 (by decide) (by simp [hd])
        refine ⟨fun hh => ?_, fun hh => ?_⟩
        · first
            | (exfalso; revert hh; simp [Held, g0, *]; done)
            | (refine free_call (f := 24) (args := #[]) rfl (by go_simp) ?_; refine (known09_c W).mono ?_; rintro e w' ⟨rfl, hb⟩; exact ⟨_, rfl, rfl, hb⟩)
        · first
            | (exfalso; revert hh; simp [Held, g0, *]; done)
            | (show undef = _; first | rfl | (simp [*]; done))
      · intro L ax W hf hd
        simp [Region.binds] at hd
        have e70 : ax.tmps[70]?.getD undef = .bool true := slv (hf.got 38 (by decide) (by simp [hd]))
        have e71 : ax.tmps[71]?.getD undef = .bool true := slv (hf.got 39 (by decide) (by simp [hd]))
        refine ⟨fun _ => ?_, fun h => absurd trivial h⟩
        refine free_run (v := .bool true) (W' := W) rfl ?_ rfl (Below.refl _ _)
        go_simp
      · intro L ax W hf hd
        simp [Region.binds] at hd
        have e72 : ax.tmps[72]?.getD undef = .bool true := slv (hf.got 40 (by decide) (by simp [hd]))
        refine ⟨fun _ => ?_, fun h => absurd trivial h⟩
        refine free_run (v := .bool true) (W' := W) rfl ?_ rfl (Below.refl _ _)
        go_simp
    · intro vs W' hl' hF hb
      obtain ⟨g', hg1, hg2⟩ := vs_lit vs hl' hF
      have e41 : g' 41 = .bool true := hg2 41 (by decide)
      rw [hg1]
      clear hF hg1 hg2 hl'
      simp only [List.length_cons, List.length_nil, Nat.reduceAdd, show List.range 42 = [0, 1, 2, 3, 4, 5, 6, 7, 8, 9, 10, 11, 12, 13, 14, 15, 16, 17, 18, 19, 20, 21, 22, 23, 24, 25, 26, 27, 28, 29, 30, 31, 32, 33, 34, 35, 36, 37, 38, 39, 40, 41] from rfl, List.map_cons, List.map_nil, putL, List.zip_cons_cons, List.zip_nil_right, List.setIfInBounds_toArray, List.set_cons_succ, List.set_cons_zero, e41]
      go_wp2_with fail
      go_ret
      exact ⟨rfl, HB.out.trans (hb.mono hz4)⟩
  · have hd0 : decide ((9000 : Int) < l.length) = true := decide_eq_true (by omega)
    clear hs hl
    show Calls Try.prog 9 #[.agg (pointA p), .agg (pointA q), .slice sa l.length sc] w _
    go_enter Try.func9, Try.ntmps9
    go_wp2_with fail
    refine (known09_c _).mono ?_
    rintro e w1 ⟨rfl, hb1⟩
    go_wp2_with fail
    go_ret
    exact ⟨rfl, by (repeat' (first | (with_reducible exact Below.refl _ _) | (with_reducible assumption) | (with_reducible refine bel_trans (by assumption) ?_ ?_) | (with_reducible refine bel_grown (by assumption) ?_ ?_ ?_) | (with_reducible refine Below.alloc ?_ ?_ _) | (with_reducible refine Below.drew ?_) | (with_reducible refine below_drewN ?_ _) | (with_reducible refine Below.setCell ?_ ?_ _) | (with_reducible refine below_put ?_ ?_ _ _) | (with_reducible exact Nat.le_refl _) | omega | (with_reducible refine Nat.le_trans ?_ (Below.size (by assumption))) | (with_reducible refine Nat.le_trans ?_ (World.grownBy.size (by assumption))) | (simp only [World.size_alloc, World.size_setCell, World.size_drew, size_drewN]; omega) | (simp only [World.size_alloc, World.size_setCell, World.size_drew, size_drewN, size_put]; omega) | (intro k hk; simp [Value.ownBlock] at hk; done) | (intro k hk; simp [Value.ownBlock] at hk; omega) | (simp [size_drewN] at *; omega)))⟩
end Go.Proofs.Ytbpbnnonialelaa
