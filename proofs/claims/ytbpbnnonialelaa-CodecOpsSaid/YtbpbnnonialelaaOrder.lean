/- The walk of landmarklaw09.CodecOrder. -/
import Derived.Test.YtbpbnnonialelaaOrderPlain
import Derived.Test.YtbpbnnonialelaaFreeG
import Derived.Test.YtbpbnnonialelaaKnown09
import Derived.Test.YtbpbnnonialelaaSame
import Derived.Laws.IdiomStrings
import Derived.Lib.BufferRead
namespace Go.Proofs.Ytbpbnnonialelaa
open Go.RowKit

theorem str_run {w : World} {s : Sl} {l : List UInt8} (h : BytesR w s l) : (convert 35 9 s.v).run Try.prog w = .ok (.string ⟨l.toArray⟩) w := by
  obtain ⟨sa, sn, sc⟩ := s
  obtain rfl : sn = l.length := h.1
  by_cases hl : l = []
  · subst hl
    cases sa with
    | none => exact Lib.run_convert_nil_bytes w _ _ 5 sc Try.underlying35 Try.underlying5 Try.underlying9
    | some a => exact run_convert_bytes_back w _ _ 5 a sc [] Try.underlying35 Try.underlying5 Try.underlying9 (fun j hj => by simp at hj)
  · obtain ⟨b, off, ha, hc⟩ := h.2.2 hl
    simp only at ha
    subst ha
    refine run_convert_bytes_back w _ _ 5 ⟨b, off, none⟩ sc l Try.underlying35 Try.underlying5 Try.underlying9 (fun j hj => ?_)
    have hadd : (⟨b, off, none⟩ : Addr).add j = ⟨b, off + j, none⟩ := by unfold Addr.add; split <;> simp_all
    rw [hadd, hc j hj]
    rfl

/-- what a region has yielded, as a literal list -/
theorem vs_lit {ds : List Nat} {Fs : List (Value → World → Prop)} {W : World} (vs : List Value) (hl : vs.length = ds.length) (hF : ∀ (i : Nat) (hi : i < vs.length), Fs.getD i (fun _ _ => True) vs[i] W) :
    ∃ g : Nat → Value, vs = (List.range ds.length).map g ∧ ∀ i, i < ds.length → Fs.getD i (fun _ _ => True) (g i) W := by
  refine ⟨fun i => vs.getD i undef, ?_, fun i hi => ?_⟩
  · apply List.ext_getElem (by simpa using hl)
    intro i h1 h2
    simp [h1]
  · have := hF i (by omega)
    simp only [List.getD_eq_getElem?_getD, List.getElem?_eq_getElem (show i < vs.length by omega), Option.getD_some]
    simpa using this
/-- three checkpoints in rows of their own -/
def Rows3 (B : Nat) (W : World) (a b c : Pt) : Prop := row? W B 0 33 = some (pointA a) ∧ row? W (B + 1) 0 33 = some (pointA b) ∧ row? W (B + 1 + 1) 0 33 = some (pointA c) ∧ B + 1 + 1 < W.heap.size
theorem Rows3.keep {B : Nat} {W W' : World} {a b c : Pt} (h : Rows3 B W a b c) (hb : Below W.heap.size W W') : Rows3 B W' a b c := by
  obtain ⟨h1, h2, h3, h4⟩ := h
  have := hb.size
  exact ⟨by rw [row?_below _ _ _ hb (by omega)]; exact h1, by rw [row?_below _ _ _ hb (by omega)]; exact h2, by rw [row?_below _ _ _ hb (by omega)]; exact h3, by omega⟩

theorem less_c (p q : Pt) (v : Bool) (h : ptLt p q = v) (W : World) : Calls Try.prog 42 #[.agg (pointA p), .agg (pointA q)] W fun e w' => e = .returned (.bool v) ∧ Below W.heap.size W w' := by
  subst h
  exact pointLess_c p q W
theorem pbytes_yes (p : Pt) (h : mayPt p = true) (w : World) : Calls Try.prog 43 #[.agg (pointA p)] w fun e w' => ∃ s : Sl, e = .returned (.tuple #[s.v, .int .i64 0]) ∧ BytesR w' s (ptBytes p) ∧ Below w.heap.size w w' := by
  refine (pointBytes_c p w).mono ?_
  rintro e w1 ⟨s, he, ho, hb⟩
  rw [h] at he ho
  exact ⟨s, he, ho, hb⟩
theorem pbytes_no (p : Pt) (h : mayPt p = false) (w : World) : Calls Try.prog 43 #[.agg (pointA p)] w fun e w' => ∃ s : Sl, e = .returned (.tuple #[s.v, .int .i64 2]) ∧ Below w.heap.size w w' := by
  refine (pointBytes_c p w).mono ?_
  rintro e w1 ⟨s, he, ho, hb⟩
  rw [h] at he
  exact ⟨s, he, hb⟩

set_option maxRecDepth 100000 in
set_option maxHeartbeats 1600000 in
/-- the walk, where it is known which is less -/
theorem order_walk (a b c : Pt) (ab ba bc ac eq : Bool) (w : World) (hab : ptLt a b = ab) (hba : ptLt b a = ba) (hbc : ptLt b c = bc) (hac : ptLt a c = ac) (heq : decide (a = b) = eq)
    (hc : (ab = true ∧ ba = false ∧ eq = false ∧ (bc = true ∧ ac = true ∨ bc = false)) ∨ (ab = false ∧ (ba = true ∧ eq = false ∨ ba = false ∧ eq = true))) :
    Calls Try.prog 8 #[.agg (pointA a), .agg (pointA b), .agg (pointA c)] w fun e w' => e = .returned (.bool true) ∧ Below w.heap.size w w' := by
  have hg := eq_point_guard
  have HF := Lib.hid (show (ab == Op.bytesLess (ptBytes a) (ptBytes b)) = true by rw [ptLt_bytes, hab]; simp)
  have HAB := less_c a b ab hab
  have HBA := less_c b a ba hba
  have HBC := less_c b c bc hbc
  have HAC := less_c a c ac hac
  clear hab hba hbc hac
  have hR : Rows3 w.heap.size (((w.alloc (.cells (pointA a) 29)).alloc (.cells (pointA b) 29)).alloc (.cells (pointA c) 29)) a b c := by
    refine ⟨?_, ?_, ?_, by simp⟩
    · rw [row?_old _ _ _ _ _ (by simp; omega), row?_old _ _ _ _ _ (by simp), row?_new]; simp
    · rw [row?_old _ _ _ _ _ (by simp), row?_new_at _ _ _ _ _ _ (by simp)]; simp
    · rw [row?_new_at _ _ _ _ _ _ (by simp)]; simp
  have hR := Lib.hid hR
  have hB : Below w.heap.size w (((w.alloc (.cells (pointA a) 29)).alloc (.cells (pointA b) 29)).alloc (.cells (pointA c) 29)) := by (repeat' (first | (with_reducible exact Below.refl _ _) | (with_reducible assumption) | (with_reducible refine bel_trans (by assumption) ?_ ?_) | (with_reducible refine bel_grown (by assumption) ?_ ?_ ?_) | (with_reducible refine Below.alloc ?_ ?_ _) | (with_reducible refine Below.drew ?_) | (with_reducible refine below_drewN ?_ _) | (with_reducible refine Below.setCell ?_ ?_ _) | (with_reducible refine below_put ?_ ?_ _ _) | (with_reducible exact Nat.le_refl _) | omega | (with_reducible refine Nat.le_trans ?_ (Below.size (by assumption))) | (with_reducible refine Nat.le_trans ?_ (World.grownBy.size (by assumption))) | (simp only [World.size_alloc, World.size_setCell, World.size_drew, size_drewN]; omega) | (simp only [World.size_alloc, World.size_setCell, World.size_drew, size_drewN, size_put]; omega) | (intro k hk; simp [Value.ownBlock] at hk; done) | (intro k hk; simp [Value.ownBlock] at hk; omega) | (simp [size_drewN] at *; omega)))
  have hz : (((w.alloc (.cells (pointA a) 29)).alloc (.cells (pointA b) 29)).alloc (.cells (pointA c) 29)).heap.size = w.heap.size + 1 + 1 + 1 := by simp
  have HC := Lib.hid hc
  have Heq := Lib.hid heq
  clear hc heq
  go_enter Try.func8, Try.ntmps8
  go_wp2_with fail
  obtain ⟨w1, hw1⟩ : ∃ w1, w1 = (((w.alloc (.cells (pointA a) 29)).alloc (.cells (pointA b) 29)).alloc (.cells (pointA c) 29)) := ⟨_, rfl⟩
  rw [← hw1] at hR hB hz ⊢
  clear hw1
  have HBel := Lib.hid hB
  clear hB
  refine wp_region_freeG_l (fun W W' => Below W.heap.size W W') (by kernel_rfl) [11, 12, 13, 14, 15, 16, 17, 18, 19, 20, 21, 22, 23, 24, 25, 26, 27, 28, 29, 30, 31, 32, 33, 34, 35, 36, 37, 38, 39, 40, 41, 42, 43, 44, 45, 46, 47, 48]
    [Is (.agg (pointA a)), Is (.agg (pointA b)), Is (.bool ab), Is (.bool ab), Is (if ab then .agg (pointA b) else undef), Is (if ab then .agg (pointA a) else undef), Is (if ab then .bool ba else undef), Is (.bool (ab && ba)), Is (.bool (ab && ba)), Is (.agg (pointA a)), Is (.agg (pointA b)), Is (.bool ab), Is (.bool ab), Is (if !ab then .agg (pointA b) else undef), Is (if !ab then .agg (pointA a) else undef), Is (if !ab then .bool ba else undef), Is (.bool (ab || ba)), Is (.agg (pointA a)), Is (.agg (pointA b)), Is (.bool (!eq)), Is (.bool ((ab || ba) != !eq)), Is (.bool ((ab && ba) || ((ab || ba) != !eq))), Is (.bool ((ab && ba) || ((ab || ba) != !eq))), Is (.agg (pointA a)), Is (.agg (pointA b)), Is (.bool ab), Is (.bool ab), Is (if ab then .agg (pointA b) else undef), Is (if ab then .agg (pointA c) else undef), Is (if ab then .bool bc else undef), Is (.bool (ab && bc)), Is (.bool (ab && bc)), Is (if (ab && bc) then .agg (pointA a) else undef), Is (if (ab && bc) then .agg (pointA c) else undef), Is (if (ab && bc) then .bool ac else undef), Is (if (ab && bc) then .bool !ac else undef), Is (.bool ((ab && bc) && !ac)), Is (.bool false)]
    (by kernel_rfl) (fun W W' h hb => hb.trans (h.mono hb.size)) ?_ ?_ ?_
  · intro f hf
    simp only [List.mem_cons, List.not_mem_nil, or_false] at hf
    rcases hf with rfl | rfl | rfl | rfl | rfl | rfl | rfl | rfl | rfl | rfl | rfl | rfl | rfl | rfl | rfl | rfl | rfl | rfl | rfl | rfl | rfl | rfl | rfl | rfl | rfl | rfl | rfl | rfl | rfl | rfl | rfl | rfl | rfl | rfl | rfl | rfl | rfl | rfl <;> intro x W W' h hr <;> first | exact h
  · refine ⟨?_, ?_, ?_, ?_, ?_, ?_, ?_, ?_, ?_, ?_, ?_, ?_, ?_, ?_, ?_, ?_, ?_, ?_, ?_, ?_, ?_, ?_, ?_, ?_, ?_, ?_, ?_, ?_, ?_, ?_, ?_, ?_, ?_, ?_, ?_, ?_, ?_, ?_, trivial⟩
    · intro L ax W hf hd
      try simp [Region.binds] at hd
      have e3 : ax.tmps[3]?.getD undef = .pointer (some ⟨w.heap.size, 0, none⟩) := hf.out 3 (by decide) rfl
      refine ⟨fun _ => ?_, fun h => absurd trivial h⟩
      obtain ⟨r1, r2, r3, rz⟩ := hR.out.keep hf.below
      refine free_run (v := .agg (pointA a)) (W' := W) rfl ?_ rfl (Below.refl _ _)
      go_simp
    · intro L ax W hf hd
      try simp [Region.binds] at hd
      have e4 : ax.tmps[4]?.getD undef = .pointer (some ⟨w.heap.size + 1, 0, none⟩) := hf.out 4 (by decide) rfl
      refine ⟨fun _ => ?_, fun h => absurd trivial h⟩
      obtain ⟨r1, r2, r3, rz⟩ := hR.out.keep hf.below
      refine free_run (v := .agg (pointA b)) (W' := W) rfl ?_ rfl (Below.refl _ _)
      go_simp
    · intro L ax W hf hd
      simp [Region.binds] at hd
      have e11 : ax.tmps[11]?.getD undef = .agg (pointA a) := slv (hf.got 0 (by decide) (by simp [hd]))
      have e12 : ax.tmps[12]?.getD undef = .agg (pointA b) := slv (hf.got 1 (by decide) (by simp [hd]))
      refine ⟨fun _ => ?_, fun h => absurd trivial h⟩
      refine free_call (f := 42) (args := #[.agg (pointA a), .agg (pointA b)]) rfl (by go_simp) ?_
      refine (HAB W).mono ?_
      rintro e w' ⟨rfl, hb⟩
      exact ⟨_, rfl, rfl, hb⟩
    · intro L ax W hf hd
      simp [Region.binds] at hd
      have e13 : ax.tmps[13]?.getD undef = .bool ab := slv (hf.got 2 (by decide) (by simp [hd]))
      refine ⟨fun _ => ?_, fun h => absurd trivial h⟩
      refine free_run (v := .bool ab) (W' := W) rfl ?_ rfl (Below.refl _ _)
      go_simp
    · intro L ax W hf hd
      simp [Region.binds] at hd
      have e4 : ax.tmps[4]?.getD undef = .pointer (some ⟨w.heap.size + 1, 0, none⟩) := hf.out 4 (by decide) rfl
      have g0 : sl ax 14 = .bool ab := hf.got 3 (by decide) (by simp [hd])
      refine ⟨fun hh => ?_, fun hh => ?_⟩
      · rcases HC.out with ⟨q1, q2, q3, ⟨q4, q5⟩ | q4⟩ | ⟨q1, ⟨q2, q3⟩ | ⟨q2, q3⟩⟩ <;> first
          | (exfalso; revert hh; simp [Held, g0, *]; done)
          | (obtain ⟨r1, r2, r3, rz⟩ := hR.out.keep hf.below; refine free_run (v := if ab then .agg (pointA b) else undef) (W' := W) rfl ?_ rfl (Below.refl _ _); go_simp)
      · rcases HC.out with ⟨q1, q2, q3, ⟨q4, q5⟩ | q4⟩ | ⟨q1, ⟨q2, q3⟩ | ⟨q2, q3⟩⟩ <;> first
          | (exfalso; revert hh; simp [Held, g0, *]; done)
          | (show undef = _; first | rfl | (simp [*]; done))
    · intro L ax W hf hd
      simp [Region.binds] at hd
      have e3 : ax.tmps[3]?.getD undef = .pointer (some ⟨w.heap.size, 0, none⟩) := hf.out 3 (by decide) rfl
      have g0 : sl ax 14 = .bool ab := hf.got 3 (by decide) (by simp [hd])
      refine ⟨fun hh => ?_, fun hh => ?_⟩
      · rcases HC.out with ⟨q1, q2, q3, ⟨q4, q5⟩ | q4⟩ | ⟨q1, ⟨q2, q3⟩ | ⟨q2, q3⟩⟩ <;> first
          | (exfalso; revert hh; simp [Held, g0, *]; done)
          | (obtain ⟨r1, r2, r3, rz⟩ := hR.out.keep hf.below; refine free_run (v := if ab then .agg (pointA a) else undef) (W' := W) rfl ?_ rfl (Below.refl _ _); go_simp)
      · rcases HC.out with ⟨q1, q2, q3, ⟨q4, q5⟩ | q4⟩ | ⟨q1, ⟨q2, q3⟩ | ⟨q2, q3⟩⟩ <;> first
          | (exfalso; revert hh; simp [Held, g0, *]; done)
          | (show undef = _; first | rfl | (simp [*]; done))
    · intro L ax W hf hd
      simp [Region.binds] at hd
      have e15 : ax.tmps[15]?.getD undef = if ab then .agg (pointA b) else undef := slv (hf.got 4 (by decide) (by simp [hd]))
      have e16 : ax.tmps[16]?.getD undef = if ab then .agg (pointA a) else undef := slv (hf.got 5 (by decide) (by simp [hd]))
      have g0 : sl ax 14 = .bool ab := hf.got 3 (by decide) (by simp [hd])
      refine ⟨fun hh => ?_, fun hh => ?_⟩
      · rcases HC.out with ⟨q1, q2, q3, ⟨q4, q5⟩ | q4⟩ | ⟨q1, ⟨q2, q3⟩ | ⟨q2, q3⟩⟩ <;> first
          | (exfalso; revert hh; simp [Held, g0, *]; done)
          | (refine free_call (f := 42) (args := #[.agg (pointA b), .agg (pointA a)]) rfl (by go_simp) ?_; refine (HBA W).mono ?_; rintro e w' ⟨rfl, hb⟩; exact ⟨_, rfl, (show _ = _ by simp [*]), hb⟩)
      · rcases HC.out with ⟨q1, q2, q3, ⟨q4, q5⟩ | q4⟩ | ⟨q1, ⟨q2, q3⟩ | ⟨q2, q3⟩⟩ <;> first
          | (exfalso; revert hh; simp [Held, g0, *]; done)
          | (show undef = _; first | rfl | (simp [*]; done))
    · intro L ax W hf hd
      simp [Region.binds] at hd
      have e14 : ax.tmps[14]?.getD undef = .bool ab := slv (hf.got 3 (by decide) (by simp [hd]))
      have e17 : ax.tmps[17]?.getD undef = if ab then .bool ba else undef := slv (hf.got 6 (by decide) (by simp [hd]))
      refine ⟨fun _ => ?_, fun h => absurd trivial h⟩
      refine free_run (v := .bool (ab && ba)) (W' := W) rfl ?_ rfl (Below.refl _ _)
      rcases HC.out with ⟨q1, q2, q3, ⟨q4, q5⟩ | q4⟩ | ⟨q1, ⟨q2, q3⟩ | ⟨q2, q3⟩⟩ <;> go_simp
    · intro L ax W hf hd
      simp [Region.binds] at hd
      have e18 : ax.tmps[18]?.getD undef = .bool (ab && ba) := slv (hf.got 7 (by decide) (by simp [hd]))
      refine ⟨fun _ => ?_, fun h => absurd trivial h⟩
      refine free_run (v := .bool (ab && ba)) (W' := W) rfl ?_ rfl (Below.refl _ _)
      go_simp
    · intro L ax W hf hd
      simp [Region.binds] at hd
      have e3 : ax.tmps[3]?.getD undef = .pointer (some ⟨w.heap.size, 0, none⟩) := hf.out 3 (by decide) rfl
      have g0 : sl ax 19 = .bool (ab && ba) := hf.got 8 (by decide) (by simp [hd])
      refine ⟨fun hh => ?_, fun hh => ?_⟩
      · rcases HC.out with ⟨q1, q2, q3, ⟨q4, q5⟩ | q4⟩ | ⟨q1, ⟨q2, q3⟩ | ⟨q2, q3⟩⟩ <;> first
          | (exfalso; revert hh; simp [Held, g0, *]; done)
          | (obtain ⟨r1, r2, r3, rz⟩ := hR.out.keep hf.below; refine free_run (v := .agg (pointA a)) (W' := W) rfl ?_ rfl (Below.refl _ _); go_simp)
      · rcases HC.out with ⟨q1, q2, q3, ⟨q4, q5⟩ | q4⟩ | ⟨q1, ⟨q2, q3⟩ | ⟨q2, q3⟩⟩ <;> first
          | (exfalso; revert hh; simp [Held, g0, *]; done)
          | (show undef = _; first | rfl | (simp [*]; done))
    · intro L ax W hf hd
      simp [Region.binds] at hd
      have e4 : ax.tmps[4]?.getD undef = .pointer (some ⟨w.heap.size + 1, 0, none⟩) := hf.out 4 (by decide) rfl
      have g0 : sl ax 19 = .bool (ab && ba) := hf.got 8 (by decide) (by simp [hd])
      refine ⟨fun hh => ?_, fun hh => ?_⟩
      · rcases HC.out with ⟨q1, q2, q3, ⟨q4, q5⟩ | q4⟩ | ⟨q1, ⟨q2, q3⟩ | ⟨q2, q3⟩⟩ <;> first
          | (exfalso; revert hh; simp [Held, g0, *]; done)
          | (obtain ⟨r1, r2, r3, rz⟩ := hR.out.keep hf.below; refine free_run (v := .agg (pointA b)) (W' := W) rfl ?_ rfl (Below.refl _ _); go_simp)
      · rcases HC.out with ⟨q1, q2, q3, ⟨q4, q5⟩ | q4⟩ | ⟨q1, ⟨q2, q3⟩ | ⟨q2, q3⟩⟩ <;> first
          | (exfalso; revert hh; simp [Held, g0, *]; done)
          | (show undef = _; first | rfl | (simp [*]; done))
    · intro L ax W hf hd
      simp [Region.binds] at hd
      have e20 : ax.tmps[20]?.getD undef = .agg (pointA a) := slv (hf.got 9 (by decide) (by simp [hd]))
      have e21 : ax.tmps[21]?.getD undef = .agg (pointA b) := slv (hf.got 10 (by decide) (by simp [hd]))
      have g0 : sl ax 19 = .bool (ab && ba) := hf.got 8 (by decide) (by simp [hd])
      refine ⟨fun hh => ?_, fun hh => ?_⟩
      · rcases HC.out with ⟨q1, q2, q3, ⟨q4, q5⟩ | q4⟩ | ⟨q1, ⟨q2, q3⟩ | ⟨q2, q3⟩⟩ <;> first
          | (exfalso; revert hh; simp [Held, g0, *]; done)
          | (refine free_call (f := 42) (args := #[.agg (pointA a), .agg (pointA b)]) rfl (by go_simp) ?_; refine (HAB W).mono ?_; rintro e w' ⟨rfl, hb⟩; exact ⟨_, rfl, rfl, hb⟩)
      · rcases HC.out with ⟨q1, q2, q3, ⟨q4, q5⟩ | q4⟩ | ⟨q1, ⟨q2, q3⟩ | ⟨q2, q3⟩⟩ <;> first
          | (exfalso; revert hh; simp [Held, g0, *]; done)
          | (show undef = _; first | rfl | (simp [*]; done))
    · intro L ax W hf hd
      simp [Region.binds] at hd
      have e22 : ax.tmps[22]?.getD undef = .bool ab := slv (hf.got 11 (by decide) (by simp [hd]))
      have g0 : sl ax 19 = .bool (ab && ba) := hf.got 8 (by decide) (by simp [hd])
      refine ⟨fun hh => ?_, fun hh => ?_⟩
      · rcases HC.out with ⟨q1, q2, q3, ⟨q4, q5⟩ | q4⟩ | ⟨q1, ⟨q2, q3⟩ | ⟨q2, q3⟩⟩ <;> first
          | (exfalso; revert hh; simp [Held, g0, *]; done)
          | (refine free_run (v := .bool ab) (W' := W) rfl ?_ rfl (Below.refl _ _); go_simp)
      · rcases HC.out with ⟨q1, q2, q3, ⟨q4, q5⟩ | q4⟩ | ⟨q1, ⟨q2, q3⟩ | ⟨q2, q3⟩⟩ <;> first
          | (exfalso; revert hh; simp [Held, g0, *]; done)
          | (show undef = _; first | rfl | (simp [*]; done))
    · intro L ax W hf hd
      simp [Region.binds] at hd
      have e4 : ax.tmps[4]?.getD undef = .pointer (some ⟨w.heap.size + 1, 0, none⟩) := hf.out 4 (by decide) rfl
      have g0 : sl ax 23 = .bool ab := hf.got 12 (by decide) (by simp [hd])
      refine ⟨fun hh => ?_, fun hh => ?_⟩
      · rcases HC.out with ⟨q1, q2, q3, ⟨q4, q5⟩ | q4⟩ | ⟨q1, ⟨q2, q3⟩ | ⟨q2, q3⟩⟩ <;> first
          | (exfalso; revert hh; simp [Held, g0, *]; done)
          | (obtain ⟨r1, r2, r3, rz⟩ := hR.out.keep hf.below; refine free_run (v := if !ab then .agg (pointA b) else undef) (W' := W) rfl ?_ rfl (Below.refl _ _); go_simp)
      · rcases HC.out with ⟨q1, q2, q3, ⟨q4, q5⟩ | q4⟩ | ⟨q1, ⟨q2, q3⟩ | ⟨q2, q3⟩⟩ <;> first
          | (exfalso; revert hh; simp [Held, g0, *]; done)
          | (show undef = _; first | rfl | (simp [*]; done))
    · intro L ax W hf hd
      simp [Region.binds] at hd
      have e3 : ax.tmps[3]?.getD undef = .pointer (some ⟨w.heap.size, 0, none⟩) := hf.out 3 (by decide) rfl
      have g0 : sl ax 23 = .bool ab := hf.got 12 (by decide) (by simp [hd])
      refine ⟨fun hh => ?_, fun hh => ?_⟩
      · rcases HC.out with ⟨q1, q2, q3, ⟨q4, q5⟩ | q4⟩ | ⟨q1, ⟨q2, q3⟩ | ⟨q2, q3⟩⟩ <;> first
          | (exfalso; revert hh; simp [Held, g0, *]; done)
          | (obtain ⟨r1, r2, r3, rz⟩ := hR.out.keep hf.below; refine free_run (v := if !ab then .agg (pointA a) else undef) (W' := W) rfl ?_ rfl (Below.refl _ _); go_simp)
      · rcases HC.out with ⟨q1, q2, q3, ⟨q4, q5⟩ | q4⟩ | ⟨q1, ⟨q2, q3⟩ | ⟨q2, q3⟩⟩ <;> first
          | (exfalso; revert hh; simp [Held, g0, *]; done)
          | (show undef = _; first | rfl | (simp [*]; done))
    · intro L ax W hf hd
      simp [Region.binds] at hd
      have e24 : ax.tmps[24]?.getD undef = if !ab then .agg (pointA b) else undef := slv (hf.got 13 (by decide) (by simp [hd]))
      have e25 : ax.tmps[25]?.getD undef = if !ab then .agg (pointA a) else undef := slv (hf.got 14 (by decide) (by simp [hd]))
      have g0 : sl ax 23 = .bool ab := hf.got 12 (by decide) (by simp [hd])
      refine ⟨fun hh => ?_, fun hh => ?_⟩
      · rcases HC.out with ⟨q1, q2, q3, ⟨q4, q5⟩ | q4⟩ | ⟨q1, ⟨q2, q3⟩ | ⟨q2, q3⟩⟩ <;> first
          | (exfalso; revert hh; simp [Held, g0, *]; done)
          | (refine free_call (f := 42) (args := #[.agg (pointA b), .agg (pointA a)]) rfl (by go_simp) ?_; refine (HBA W).mono ?_; rintro e w' ⟨rfl, hb⟩; exact ⟨_, rfl, (show _ = _ by simp [*]), hb⟩)
      · rcases HC.out with ⟨q1, q2, q3, ⟨q4, q5⟩ | q4⟩ | ⟨q1, ⟨q2, q3⟩ | ⟨q2, q3⟩⟩ <;> first
          | (exfalso; revert hh; simp [Held, g0, *]; done)
          | (show undef = _; first | rfl | (simp [*]; done))
    · intro L ax W hf hd
      simp [Region.binds] at hd
      have e23 : ax.tmps[23]?.getD undef = .bool ab := slv (hf.got 12 (by decide) (by simp [hd]))
      have e26 : ax.tmps[26]?.getD undef = if !ab then .bool ba else undef := slv (hf.got 15 (by decide) (by simp [hd]))
      have g0 : sl ax 19 = .bool (ab && ba) := hf.got 8 (by decide) (by simp [hd])
      refine ⟨fun hh => ?_, fun hh => ?_⟩
      · rcases HC.out with ⟨q1, q2, q3, ⟨q4, q5⟩ | q4⟩ | ⟨q1, ⟨q2, q3⟩ | ⟨q2, q3⟩⟩ <;> first
          | (exfalso; revert hh; simp [Held, g0, *]; done)
          | (refine free_run (v := .bool (ab || ba)) (W' := W) rfl ?_ rfl (Below.refl _ _); go_simp)
      · rcases HC.out with ⟨q1, q2, q3, ⟨q4, q5⟩ | q4⟩ | ⟨q1, ⟨q2, q3⟩ | ⟨q2, q3⟩⟩ <;> first
          | (exfalso; revert hh; simp [Held, g0, *]; done)
          | (show undef = _; first | rfl | (simp [*]; done))
    · intro L ax W hf hd
      simp [Region.binds] at hd
      have e3 : ax.tmps[3]?.getD undef = .pointer (some ⟨w.heap.size, 0, none⟩) := hf.out 3 (by decide) rfl
      have g0 : sl ax 19 = .bool (ab && ba) := hf.got 8 (by decide) (by simp [hd])
      refine ⟨fun hh => ?_, fun hh => ?_⟩
      · rcases HC.out with ⟨q1, q2, q3, ⟨q4, q5⟩ | q4⟩ | ⟨q1, ⟨q2, q3⟩ | ⟨q2, q3⟩⟩ <;> first
          | (exfalso; revert hh; simp [Held, g0, *]; done)
          | (obtain ⟨r1, r2, r3, rz⟩ := hR.out.keep hf.below; refine free_run (v := .agg (pointA a)) (W' := W) rfl ?_ rfl (Below.refl _ _); go_simp)
      · rcases HC.out with ⟨q1, q2, q3, ⟨q4, q5⟩ | q4⟩ | ⟨q1, ⟨q2, q3⟩ | ⟨q2, q3⟩⟩ <;> first
          | (exfalso; revert hh; simp [Held, g0, *]; done)
          | (show undef = _; first | rfl | (simp [*]; done))
    · intro L ax W hf hd
      simp [Region.binds] at hd
      have e4 : ax.tmps[4]?.getD undef = .pointer (some ⟨w.heap.size + 1, 0, none⟩) := hf.out 4 (by decide) rfl
      have g0 : sl ax 19 = .bool (ab && ba) := hf.got 8 (by decide) (by simp [hd])
      refine ⟨fun hh => ?_, fun hh => ?_⟩
      · rcases HC.out with ⟨q1, q2, q3, ⟨q4, q5⟩ | q4⟩ | ⟨q1, ⟨q2, q3⟩ | ⟨q2, q3⟩⟩ <;> first
          | (exfalso; revert hh; simp [Held, g0, *]; done)
          | (obtain ⟨r1, r2, r3, rz⟩ := hR.out.keep hf.below; refine free_run (v := .agg (pointA b)) (W' := W) rfl ?_ rfl (Below.refl _ _); go_simp)
      · rcases HC.out with ⟨q1, q2, q3, ⟨q4, q5⟩ | q4⟩ | ⟨q1, ⟨q2, q3⟩ | ⟨q2, q3⟩⟩ <;> first
          | (exfalso; revert hh; simp [Held, g0, *]; done)
          | (show undef = _; first | rfl | (simp [*]; done))
    · intro L ax W hf hd
      simp [Region.binds] at hd
      have e28 : ax.tmps[28]?.getD undef = .agg (pointA a) := slv (hf.got 17 (by decide) (by simp [hd]))
      have e29 : ax.tmps[29]?.getD undef = .agg (pointA b) := slv (hf.got 18 (by decide) (by simp [hd]))
      have g0 : sl ax 19 = .bool (ab && ba) := hf.got 8 (by decide) (by simp [hd])
      refine ⟨fun hh => ?_, fun hh => ?_⟩
      · rcases HC.out with ⟨q1, q2, q3, ⟨q4, q5⟩ | q4⟩ | ⟨q1, ⟨q2, q3⟩ | ⟨q2, q3⟩⟩ <;> first
          | (exfalso; revert hh; simp [Held, g0, *]; done)
          | ((have heq := Heq.out); refine free_run (v := .bool (!eq)) (W' := W) rfl ?_ rfl (Below.refl _ _); go_simp)
      · rcases HC.out with ⟨q1, q2, q3, ⟨q4, q5⟩ | q4⟩ | ⟨q1, ⟨q2, q3⟩ | ⟨q2, q3⟩⟩ <;> first
          | (exfalso; revert hh; simp [Held, g0, *]; done)
          | (show undef = _; first | rfl | (simp [*]; done))
    · intro L ax W hf hd
      simp [Region.binds] at hd
      have e27 : ax.tmps[27]?.getD undef = .bool (ab || ba) := slv (hf.got 16 (by decide) (by simp [hd]))
      have e30 : ax.tmps[30]?.getD undef = .bool (!eq) := slv (hf.got 19 (by decide) (by simp [hd]))
      have g0 : sl ax 19 = .bool (ab && ba) := hf.got 8 (by decide) (by simp [hd])
      refine ⟨fun hh => ?_, fun hh => ?_⟩
      · rcases HC.out with ⟨q1, q2, q3, ⟨q4, q5⟩ | q4⟩ | ⟨q1, ⟨q2, q3⟩ | ⟨q2, q3⟩⟩ <;> first
          | (exfalso; revert hh; simp [Held, g0, *]; done)
          | (refine free_run (v := .bool ((ab || ba) != !eq)) (W' := W) rfl ?_ rfl (Below.refl _ _); go_simp)
      · rcases HC.out with ⟨q1, q2, q3, ⟨q4, q5⟩ | q4⟩ | ⟨q1, ⟨q2, q3⟩ | ⟨q2, q3⟩⟩ <;> first
          | (exfalso; revert hh; simp [Held, g0, *]; done)
          | (show undef = _; first | rfl | (simp [*]; done))
    · intro L ax W hf hd
      simp [Region.binds] at hd
      have e19 : ax.tmps[19]?.getD undef = .bool (ab && ba) := slv (hf.got 8 (by decide) (by simp [hd]))
      have e31 : ax.tmps[31]?.getD undef = .bool ((ab || ba) != !eq) := slv (hf.got 20 (by decide) (by simp [hd]))
      refine ⟨fun _ => ?_, fun h => absurd trivial h⟩
      refine free_run (v := .bool ((ab && ba) || ((ab || ba) != !eq))) (W' := W) rfl ?_ rfl (Below.refl _ _)
      rcases HC.out with ⟨q1, q2, q3, ⟨q4, q5⟩ | q4⟩ | ⟨q1, ⟨q2, q3⟩ | ⟨q2, q3⟩⟩ <;> go_simp
    · intro L ax W hf hd
      simp [Region.binds] at hd
      have e32 : ax.tmps[32]?.getD undef = .bool ((ab && ba) || ((ab || ba) != !eq)) := slv (hf.got 21 (by decide) (by simp [hd]))
      refine ⟨fun _ => ?_, fun h => absurd trivial h⟩
      refine free_run (v := .bool ((ab && ba) || ((ab || ba) != !eq))) (W' := W) rfl ?_ rfl (Below.refl _ _)
      go_simp
    · intro L ax W hf hd
      simp [Region.binds] at hd
      have e3 : ax.tmps[3]?.getD undef = .pointer (some ⟨w.heap.size, 0, none⟩) := hf.out 3 (by decide) rfl
      have g0 : sl ax 33 = .bool ((ab && ba) || ((ab || ba) != !eq)) := hf.got 22 (by decide) (by simp [hd])
      refine ⟨fun hh => ?_, fun hh => ?_⟩
      · rcases HC.out with ⟨q1, q2, q3, ⟨q4, q5⟩ | q4⟩ | ⟨q1, ⟨q2, q3⟩ | ⟨q2, q3⟩⟩ <;> first
          | (exfalso; revert hh; simp [Held, g0, *]; done)
          | (obtain ⟨r1, r2, r3, rz⟩ := hR.out.keep hf.below; refine free_run (v := .agg (pointA a)) (W' := W) rfl ?_ rfl (Below.refl _ _); go_simp)
      · rcases HC.out with ⟨q1, q2, q3, ⟨q4, q5⟩ | q4⟩ | ⟨q1, ⟨q2, q3⟩ | ⟨q2, q3⟩⟩ <;> first
          | (exfalso; revert hh; simp [Held, g0, *]; done)
          | (show undef = _; first | rfl | (simp [*]; done))
    · intro L ax W hf hd
      simp [Region.binds] at hd
      have e4 : ax.tmps[4]?.getD undef = .pointer (some ⟨w.heap.size + 1, 0, none⟩) := hf.out 4 (by decide) rfl
      have g0 : sl ax 33 = .bool ((ab && ba) || ((ab || ba) != !eq)) := hf.got 22 (by decide) (by simp [hd])
      refine ⟨fun hh => ?_, fun hh => ?_⟩
      · rcases HC.out with ⟨q1, q2, q3, ⟨q4, q5⟩ | q4⟩ | ⟨q1, ⟨q2, q3⟩ | ⟨q2, q3⟩⟩ <;> first
          | (exfalso; revert hh; simp [Held, g0, *]; done)
          | (obtain ⟨r1, r2, r3, rz⟩ := hR.out.keep hf.below; refine free_run (v := .agg (pointA b)) (W' := W) rfl ?_ rfl (Below.refl _ _); go_simp)
      · rcases HC.out with ⟨q1, q2, q3, ⟨q4, q5⟩ | q4⟩ | ⟨q1, ⟨q2, q3⟩ | ⟨q2, q3⟩⟩ <;> first
          | (exfalso; revert hh; simp [Held, g0, *]; done)
          | (show undef = _; first | rfl | (simp [*]; done))
    · intro L ax W hf hd
      simp [Region.binds] at hd
      have e34 : ax.tmps[34]?.getD undef = .agg (pointA a) := slv (hf.got 23 (by decide) (by simp [hd]))
      have e35 : ax.tmps[35]?.getD undef = .agg (pointA b) := slv (hf.got 24 (by decide) (by simp [hd]))
      have g0 : sl ax 33 = .bool ((ab && ba) || ((ab || ba) != !eq)) := hf.got 22 (by decide) (by simp [hd])
      refine ⟨fun hh => ?_, fun hh => ?_⟩
      · rcases HC.out with ⟨q1, q2, q3, ⟨q4, q5⟩ | q4⟩ | ⟨q1, ⟨q2, q3⟩ | ⟨q2, q3⟩⟩ <;> first
          | (exfalso; revert hh; simp [Held, g0, *]; done)
          | (refine free_call (f := 42) (args := #[.agg (pointA a), .agg (pointA b)]) rfl (by go_simp) ?_; refine (HAB W).mono ?_; rintro e w' ⟨rfl, hb⟩; exact ⟨_, rfl, rfl, hb⟩)
      · rcases HC.out with ⟨q1, q2, q3, ⟨q4, q5⟩ | q4⟩ | ⟨q1, ⟨q2, q3⟩ | ⟨q2, q3⟩⟩ <;> first
          | (exfalso; revert hh; simp [Held, g0, *]; done)
          | (show undef = _; first | rfl | (simp [*]; done))
    · intro L ax W hf hd
      simp [Region.binds] at hd
      have e36 : ax.tmps[36]?.getD undef = .bool ab := slv (hf.got 25 (by decide) (by simp [hd]))
      have g0 : sl ax 33 = .bool ((ab && ba) || ((ab || ba) != !eq)) := hf.got 22 (by decide) (by simp [hd])
      refine ⟨fun hh => ?_, fun hh => ?_⟩
      · rcases HC.out with ⟨q1, q2, q3, ⟨q4, q5⟩ | q4⟩ | ⟨q1, ⟨q2, q3⟩ | ⟨q2, q3⟩⟩ <;> first
          | (exfalso; revert hh; simp [Held, g0, *]; done)
          | (refine free_run (v := .bool ab) (W' := W) rfl ?_ rfl (Below.refl _ _); go_simp)
      · rcases HC.out with ⟨q1, q2, q3, ⟨q4, q5⟩ | q4⟩ | ⟨q1, ⟨q2, q3⟩ | ⟨q2, q3⟩⟩ <;> first
          | (exfalso; revert hh; simp [Held, g0, *]; done)
          | (show undef = _; first | rfl | (simp [*]; done))
    · intro L ax W hf hd
      simp [Region.binds] at hd
      have e4 : ax.tmps[4]?.getD undef = .pointer (some ⟨w.heap.size + 1, 0, none⟩) := hf.out 4 (by decide) rfl
      have g0 : sl ax 37 = .bool ab := hf.got 26 (by decide) (by simp [hd])
      refine ⟨fun hh => ?_, fun hh => ?_⟩
      · rcases HC.out with ⟨q1, q2, q3, ⟨q4, q5⟩ | q4⟩ | ⟨q1, ⟨q2, q3⟩ | ⟨q2, q3⟩⟩ <;> first
          | (exfalso; revert hh; simp [Held, g0, *]; done)
          | (obtain ⟨r1, r2, r3, rz⟩ := hR.out.keep hf.below; refine free_run (v := if ab then .agg (pointA b) else undef) (W' := W) rfl ?_ rfl (Below.refl _ _); go_simp)
      · rcases HC.out with ⟨q1, q2, q3, ⟨q4, q5⟩ | q4⟩ | ⟨q1, ⟨q2, q3⟩ | ⟨q2, q3⟩⟩ <;> first
          | (exfalso; revert hh; simp [Held, g0, *]; done)
          | (show undef = _; first | rfl | (simp [*]; done))
    · intro L ax W hf hd
      simp [Region.binds] at hd
      have e5 : ax.tmps[5]?.getD undef = .pointer (some ⟨w.heap.size + 1 + 1, 0, none⟩) := hf.out 5 (by decide) rfl
      have g0 : sl ax 37 = .bool ab := hf.got 26 (by decide) (by simp [hd])
      refine ⟨fun hh => ?_, fun hh => ?_⟩
      · rcases HC.out with ⟨q1, q2, q3, ⟨q4, q5⟩ | q4⟩ | ⟨q1, ⟨q2, q3⟩ | ⟨q2, q3⟩⟩ <;> first
          | (exfalso; revert hh; simp [Held, g0, *]; done)
          | (obtain ⟨r1, r2, r3, rz⟩ := hR.out.keep hf.below; refine free_run (v := if ab then .agg (pointA c) else undef) (W' := W) rfl ?_ rfl (Below.refl _ _); go_simp)
      · rcases HC.out with ⟨q1, q2, q3, ⟨q4, q5⟩ | q4⟩ | ⟨q1, ⟨q2, q3⟩ | ⟨q2, q3⟩⟩ <;> first
          | (exfalso; revert hh; simp [Held, g0, *]; done)
          | (show undef = _; first | rfl | (simp [*]; done))
    · intro L ax W hf hd
      simp [Region.binds] at hd
      have e38 : ax.tmps[38]?.getD undef = if ab then .agg (pointA b) else undef := slv (hf.got 27 (by decide) (by simp [hd]))
      have e39 : ax.tmps[39]?.getD undef = if ab then .agg (pointA c) else undef := slv (hf.got 28 (by decide) (by simp [hd]))
      have g0 : sl ax 37 = .bool ab := hf.got 26 (by decide) (by simp [hd])
      refine ⟨fun hh => ?_, fun hh => ?_⟩
      · rcases HC.out with ⟨q1, q2, q3, ⟨q4, q5⟩ | q4⟩ | ⟨q1, ⟨q2, q3⟩ | ⟨q2, q3⟩⟩ <;> first
          | (exfalso; revert hh; simp [Held, g0, *]; done)
          | (refine free_call (f := 42) (args := #[.agg (pointA b), .agg (pointA c)]) rfl (by go_simp) ?_; refine (HBC W).mono ?_; rintro e w' ⟨rfl, hb⟩; exact ⟨_, rfl, (show _ = _ by simp [*]), hb⟩)
      · rcases HC.out with ⟨q1, q2, q3, ⟨q4, q5⟩ | q4⟩ | ⟨q1, ⟨q2, q3⟩ | ⟨q2, q3⟩⟩ <;> first
          | (exfalso; revert hh; simp [Held, g0, *]; done)
          | (show undef = _; first | rfl | (simp [*]; done))
    · intro L ax W hf hd
      simp [Region.binds] at hd
      have e37 : ax.tmps[37]?.getD undef = .bool ab := slv (hf.got 26 (by decide) (by simp [hd]))
      have e40 : ax.tmps[40]?.getD undef = if ab then .bool bc else undef := slv (hf.got 29 (by decide) (by simp [hd]))
      have g0 : sl ax 33 = .bool ((ab && ba) || ((ab || ba) != !eq)) := hf.got 22 (by decide) (by simp [hd])
      refine ⟨fun hh => ?_, fun hh => ?_⟩
      · rcases HC.out with ⟨q1, q2, q3, ⟨q4, q5⟩ | q4⟩ | ⟨q1, ⟨q2, q3⟩ | ⟨q2, q3⟩⟩ <;> first
          | (exfalso; revert hh; simp [Held, g0, *]; done)
          | (refine free_run (v := .bool (ab && bc)) (W' := W) rfl ?_ rfl (Below.refl _ _); go_simp)
      · rcases HC.out with ⟨q1, q2, q3, ⟨q4, q5⟩ | q4⟩ | ⟨q1, ⟨q2, q3⟩ | ⟨q2, q3⟩⟩ <;> first
          | (exfalso; revert hh; simp [Held, g0, *]; done)
          | (show undef = _; first | rfl | (simp [*]; done))
    · intro L ax W hf hd
      simp [Region.binds] at hd
      have e41 : ax.tmps[41]?.getD undef = .bool (ab && bc) := slv (hf.got 30 (by decide) (by simp [hd]))
      have g0 : sl ax 33 = .bool ((ab && ba) || ((ab || ba) != !eq)) := hf.got 22 (by decide) (by simp [hd])
      refine ⟨fun hh => ?_, fun hh => ?_⟩
      · rcases HC.out with ⟨q1, q2, q3, ⟨q4, q5⟩ | q4⟩ | ⟨q1, ⟨q2, q3⟩ | ⟨q2, q3⟩⟩ <;> first
          | (exfalso; revert hh; simp [Held, g0, *]; done)
          | (refine free_run (v := .bool (ab && bc)) (W' := W) rfl ?_ rfl (Below.refl _ _); go_simp)
      · rcases HC.out with ⟨q1, q2, q3, ⟨q4, q5⟩ | q4⟩ | ⟨q1, ⟨q2, q3⟩ | ⟨q2, q3⟩⟩ <;> first
          | (exfalso; revert hh; simp [Held, g0, *]; done)
          | (show undef = _; first | rfl | (simp [*]; done))
    · intro L ax W hf hd
      simp [Region.binds] at hd
      have e3 : ax.tmps[3]?.getD undef = .pointer (some ⟨w.heap.size, 0, none⟩) := hf.out 3 (by decide) rfl
      have g0 : sl ax 42 = .bool (ab && bc) := hf.got 31 (by decide) (by simp [hd])
      refine ⟨fun hh => ?_, fun hh => ?_⟩
      · rcases HC.out with ⟨q1, q2, q3, ⟨q4, q5⟩ | q4⟩ | ⟨q1, ⟨q2, q3⟩ | ⟨q2, q3⟩⟩ <;> first
          | (exfalso; revert hh; simp [Held, g0, *]; done)
          | (obtain ⟨r1, r2, r3, rz⟩ := hR.out.keep hf.below; refine free_run (v := if (ab && bc) then .agg (pointA a) else undef) (W' := W) rfl ?_ rfl (Below.refl _ _); go_simp)
      · rcases HC.out with ⟨q1, q2, q3, ⟨q4, q5⟩ | q4⟩ | ⟨q1, ⟨q2, q3⟩ | ⟨q2, q3⟩⟩ <;> first
          | (exfalso; revert hh; simp [Held, g0, *]; done)
          | (show undef = _; first | rfl | (simp [*]; done))
    · intro L ax W hf hd
      simp [Region.binds] at hd
      have e5 : ax.tmps[5]?.getD undef = .pointer (some ⟨w.heap.size + 1 + 1, 0, none⟩) := hf.out 5 (by decide) rfl
      have g0 : sl ax 42 = .bool (ab && bc) := hf.got 31 (by decide) (by simp [hd])
      refine ⟨fun hh => ?_, fun hh => ?_⟩
      · rcases HC.out with ⟨q1, q2, q3, ⟨q4, q5⟩ | q4⟩ | ⟨q1, ⟨q2, q3⟩ | ⟨q2, q3⟩⟩ <;> first
          | (exfalso; revert hh; simp [Held, g0, *]; done)
          | (obtain ⟨r1, r2, r3, rz⟩ := hR.out.keep hf.below; refine free_run (v := if (ab && bc) then .agg (pointA c) else undef) (W' := W) rfl ?_ rfl (Below.refl _ _); go_simp)
      · rcases HC.out with ⟨q1, q2, q3, ⟨q4, q5⟩ | q4⟩ | ⟨q1, ⟨q2, q3⟩ | ⟨q2, q3⟩⟩ <;> first
          | (exfalso; revert hh; simp [Held, g0, *]; done)
          | (show undef = _; first | rfl | (simp [*]; done))
    · intro L ax W hf hd
      simp [Region.binds] at hd
      have e43 : ax.tmps[43]?.getD undef = if (ab && bc) then .agg (pointA a) else undef := slv (hf.got 32 (by decide) (by simp [hd]))
      have e44 : ax.tmps[44]?.getD undef = if (ab && bc) then .agg (pointA c) else undef := slv (hf.got 33 (by decide) (by simp [hd]))
      have g0 : sl ax 42 = .bool (ab && bc) := hf.got 31 (by decide) (by simp [hd])
      refine ⟨fun hh => ?_, fun hh => ?_⟩
      · rcases HC.out with ⟨q1, q2, q3, ⟨q4, q5⟩ | q4⟩ | ⟨q1, ⟨q2, q3⟩ | ⟨q2, q3⟩⟩ <;> first
          | (exfalso; revert hh; simp [Held, g0, *]; done)
          | (refine free_call (f := 42) (args := #[.agg (pointA a), .agg (pointA c)]) rfl (by go_simp) ?_; refine (HAC W).mono ?_; rintro e w' ⟨rfl, hb⟩; exact ⟨_, rfl, (show _ = _ by simp [*]), hb⟩)
      · rcases HC.out with ⟨q1, q2, q3, ⟨q4, q5⟩ | q4⟩ | ⟨q1, ⟨q2, q3⟩ | ⟨q2, q3⟩⟩ <;> first
          | (exfalso; revert hh; simp [Held, g0, *]; done)
          | (show undef = _; first | rfl | (simp [*]; done))
    · intro L ax W hf hd
      simp [Region.binds] at hd
      have e45 : ax.tmps[45]?.getD undef = if (ab && bc) then .bool ac else undef := slv (hf.got 34 (by decide) (by simp [hd]))
      have g0 : sl ax 42 = .bool (ab && bc) := hf.got 31 (by decide) (by simp [hd])
      refine ⟨fun hh => ?_, fun hh => ?_⟩
      · rcases HC.out with ⟨q1, q2, q3, ⟨q4, q5⟩ | q4⟩ | ⟨q1, ⟨q2, q3⟩ | ⟨q2, q3⟩⟩ <;> first
          | (exfalso; revert hh; simp [Held, g0, *]; done)
          | (refine free_run (v := if (ab && bc) then .bool !ac else undef) (W' := W) rfl ?_ rfl (Below.refl _ _); go_simp)
      · rcases HC.out with ⟨q1, q2, q3, ⟨q4, q5⟩ | q4⟩ | ⟨q1, ⟨q2, q3⟩ | ⟨q2, q3⟩⟩ <;> first
          | (exfalso; revert hh; simp [Held, g0, *]; done)
          | (show undef = _; first | rfl | (simp [*]; done))
    · intro L ax W hf hd
      simp [Region.binds] at hd
      have e42 : ax.tmps[42]?.getD undef = .bool (ab && bc) := slv (hf.got 31 (by decide) (by simp [hd]))
      have e46 : ax.tmps[46]?.getD undef = if (ab && bc) then .bool !ac else undef := slv (hf.got 35 (by decide) (by simp [hd]))
      have g0 : sl ax 33 = .bool ((ab && ba) || ((ab || ba) != !eq)) := hf.got 22 (by decide) (by simp [hd])
      refine ⟨fun hh => ?_, fun hh => ?_⟩
      · rcases HC.out with ⟨q1, q2, q3, ⟨q4, q5⟩ | q4⟩ | ⟨q1, ⟨q2, q3⟩ | ⟨q2, q3⟩⟩ <;> first
          | (exfalso; revert hh; simp [Held, g0, *]; done)
          | (refine free_run (v := .bool ((ab && bc) && !ac)) (W' := W) rfl ?_ rfl (Below.refl _ _); go_simp)
      · rcases HC.out with ⟨q1, q2, q3, ⟨q4, q5⟩ | q4⟩ | ⟨q1, ⟨q2, q3⟩ | ⟨q2, q3⟩⟩ <;> first
          | (exfalso; revert hh; simp [Held, g0, *]; done)
          | (show undef = _; first | rfl | (simp [*]; done))
    · intro L ax W hf hd
      simp [Region.binds] at hd
      have e33 : ax.tmps[33]?.getD undef = .bool ((ab && ba) || ((ab || ba) != !eq)) := slv (hf.got 22 (by decide) (by simp [hd]))
      have e47 : ax.tmps[47]?.getD undef = .bool ((ab && bc) && !ac) := slv (hf.got 36 (by decide) (by simp [hd]))
      refine ⟨fun _ => ?_, fun h => absurd trivial h⟩
      refine free_run (v := .bool false) (W' := W) rfl ?_ rfl (Below.refl _ _)
      rcases HC.out with ⟨q1, q2, q3, ⟨q4, q5⟩ | q4⟩ | ⟨q1, ⟨q2, q3⟩ | ⟨q2, q3⟩⟩ <;> go_simp
  · intro vs W hl' hF hb
    obtain ⟨g, hg1, hg2⟩ := vs_lit vs hl' hF
    have e48 : g 37 = .bool false := hg2 37 (by decide)
    rw [hg1]
    clear hF hg1 hg2 hl'
    have hR := Lib.hid (hR.out.keep hb)
    have hB : Below w.heap.size w W := HBel.out.trans (hb.mono (by have := hz; omega))
    clear hb
    simp only [List.length_cons, List.length_nil, Nat.reduceAdd, show List.range 38 = [0, 1, 2, 3, 4, 5, 6, 7, 8, 9, 10, 11, 12, 13, 14, 15, 16, 17, 18, 19, 20, 21, 22, 23, 24, 25, 26, 27, 28, 29, 30, 31, 32, 33, 34, 35, 36, 37] from rfl, List.map_cons, List.map_nil, putL, List.zip_cons_cons, List.zip_nil_right, List.setIfInBounds_toArray, List.set_cons_succ, List.set_cons_zero, e48]
    obtain ⟨r1, r2, r3, rz⟩ := hR.out
    cases ha : mayPt a <;> cases hb : mayPt b
    · have HA := pbytes_no a ha
      have HB := pbytes_no b hb
      clear ha hb
      go_wp2_with fail
      refine (HA _).mono ?_
      rintro e W1 ⟨s1, rfl, hb2⟩
      have hR := Lib.hid (hR.out.keep hb2)
      have hB := hB.trans (hb2.mono (by have := hB.size; exact this))
      obtain ⟨r1, r2, r3, rz⟩ := hR.out
      clear hb2
      go_wp2_with fail
      refine (HB _).mono ?_
      rintro e W2 ⟨s2, rfl, hb2⟩
      have hR := Lib.hid (hR.out.keep hb2)
      have hB := hB.trans (hb2.mono (by have := hB.size; exact this))
      obtain ⟨r1, r2, r3, rz⟩ := hR.out
      clear hb2
      go_wp2_with (first
        | (go_at_call 26; (with_reducible refine (num09_c _ _).mono ?_); rintro e w' ⟨rfl, rfl⟩)
        | (go_at_call 24; (with_reducible refine (known09_c _).mono ?_); rintro e W3 ⟨rfl, hb3⟩))
      go_ret
      exact ⟨rfl, hB.trans (hb3.mono (by have := hB.size; exact this))⟩
    · have HA := pbytes_no a ha
      have HB := pbytes_yes b hb
      clear ha hb
      go_wp2_with fail
      refine (HA _).mono ?_
      rintro e W1 ⟨s1, rfl, hb2⟩
      have hR := Lib.hid (hR.out.keep hb2)
      have hB := hB.trans (hb2.mono (by have := hB.size; exact this))
      obtain ⟨r1, r2, r3, rz⟩ := hR.out
      clear hb2
      go_wp2_with fail
      refine (HB _).mono ?_
      rintro e W2 ⟨s2, rfl, hs2, hb2⟩
      have hR := Lib.hid (hR.out.keep hb2)
      have hB := hB.trans (hb2.mono (by have := hB.size; exact this))
      obtain ⟨r1, r2, r3, rz⟩ := hR.out
      clear hb2
      go_wp2_with (first
        | (go_at_call 26; (with_reducible refine (num09_c _ _).mono ?_); rintro e w' ⟨rfl, rfl⟩)
        | (go_at_call 24; (with_reducible refine (known09_c _).mono ?_); rintro e W3 ⟨rfl, hb3⟩))
      go_ret
      exact ⟨rfl, hB.trans (hb3.mono (by have := hB.size; exact this))⟩
    · have HA := pbytes_yes a ha
      have HB := pbytes_no b hb
      clear ha hb
      go_wp2_with fail
      refine (HA _).mono ?_
      rintro e W1 ⟨s1, rfl, hs1, hb2⟩
      have hR := Lib.hid (hR.out.keep hb2)
      have hB := hB.trans (hb2.mono (by have := hB.size; exact this))
      obtain ⟨r1, r2, r3, rz⟩ := hR.out
      clear hb2
      go_wp2_with fail
      refine (HB _).mono ?_
      rintro e W2 ⟨s2, rfl, hb2⟩
      have hR := Lib.hid (hR.out.keep hb2)
      have hB := hB.trans (hb2.mono (by have := hB.size; exact this))
      obtain ⟨r1, r2, r3, rz⟩ := hR.out
      clear hb2
      go_wp2_with (first
        | (go_at_call 26; (with_reducible refine (num09_c _ _).mono ?_); rintro e w' ⟨rfl, rfl⟩)
        | (go_at_call 24; (with_reducible refine (known09_c _).mono ?_); rintro e W3 ⟨rfl, hb3⟩))
      go_ret
      exact ⟨rfl, hB.trans (hb3.mono (by have := hB.size; exact this))⟩
    · have HA := pbytes_yes a ha
      have HB := pbytes_yes b hb
      clear ha hb
      go_wp2_with fail
      refine (HA _).mono ?_
      rintro e W1 ⟨s1, rfl, hs1, hb2⟩
      have hR := Lib.hid (hR.out.keep hb2)
      have hB := hB.trans (hb2.mono (by have := hB.size; exact this))
      obtain ⟨r1, r2, r3, rz⟩ := hR.out
      go_wp2_with fail
      refine (HB _).mono ?_
      rintro e W2 ⟨s2, rfl, hs2, hb3⟩
      have hR := Lib.hid (hR.out.keep hb3)
      have hB := hB.trans (hb3.mono (by have := hB.size; exact this))
      obtain ⟨r1, r2, r3, rz⟩ := hR.out
      have Hs1 := Lib.hid (hs1.keep hb3)
      have Hs2 := Lib.hid hs2
      clear hb2 hb3 hs1 hs2
      go_wp2_with (go_at_call 26; (with_reducible refine (num09_c _ _).mono ?_); rintro e w' ⟨rfl, rfl⟩)
      have HBl := Lib.hid hB
      have hz4 : w.heap.size ≤ W2.heap.size := hB.size
      clear hB r1 r2 r3
      refine wp_region_freeG_l (fun W W' => Below W.heap.size W W') (by kernel_rfl) [66, 67, 68, 69, 70, 71, 72, 73, 74, 75, 76, 77, 6]
        [Is (.agg (pointA a)), Is (.agg (pointA b)), Is (.bool ab), Is (s1.v), Is (.string ⟨(ptBytes a).toArray⟩), Is (s2.v), Is (.string ⟨(ptBytes b).toArray⟩), Is (.bool (Op.bytesLess (ptBytes a) (ptBytes b))), Is (.bool true), Is (.bool true), Is (.bool true), Is (.bool true), Is (.bool true)]
        (by kernel_rfl) (fun W W' h hb => hb.trans (h.mono hb.size)) ?_ ?_ ?_
      · intro f hf
        simp only [List.mem_cons, List.not_mem_nil, or_false] at hf
        rcases hf with rfl | rfl | rfl | rfl | rfl | rfl | rfl | rfl | rfl | rfl | rfl | rfl | rfl <;> intro x W W' h hr <;> first | exact h
      · refine ⟨?_, ?_, ?_, ?_, ?_, ?_, ?_, ?_, ?_, ?_, ?_, ?_, ?_, trivial⟩
        · intro L ax W hf hd
          try simp [Region.binds] at hd
          have e3 : ax.tmps[3]?.getD undef = .pointer (some ⟨w.heap.size, 0, none⟩) := hf.out 3 (by decide) rfl
          refine ⟨fun _ => ?_, fun h => absurd trivial h⟩
          obtain ⟨r1, r2, r3, rz⟩ := hR.out.keep hf.below
          refine free_run (v := .agg (pointA a)) (W' := W) rfl ?_ rfl (Below.refl _ _)
          go_simp
        · intro L ax W hf hd
          try simp [Region.binds] at hd
          have e4 : ax.tmps[4]?.getD undef = .pointer (some ⟨w.heap.size + 1, 0, none⟩) := hf.out 4 (by decide) rfl
          refine ⟨fun _ => ?_, fun h => absurd trivial h⟩
          obtain ⟨r1, r2, r3, rz⟩ := hR.out.keep hf.below
          refine free_run (v := .agg (pointA b)) (W' := W) rfl ?_ rfl (Below.refl _ _)
          go_simp
        · intro L ax W hf hd
          simp [Region.binds] at hd
          have e66 : ax.tmps[66]?.getD undef = .agg (pointA a) := slv (hf.got 0 (by decide) (by simp [hd]))
          have e67 : ax.tmps[67]?.getD undef = .agg (pointA b) := slv (hf.got 1 (by decide) (by simp [hd]))
          refine ⟨fun _ => ?_, fun h => absurd trivial h⟩
          refine free_call (f := 42) (args := #[.agg (pointA a), .agg (pointA b)]) rfl (by go_simp) ?_
          refine (HAB W).mono ?_
          rintro e w' ⟨rfl, hb⟩
          exact ⟨_, rfl, rfl, hb⟩
        · intro L ax W hf hd
          try simp [Region.binds] at hd
          have e7 : ax.tmps[7]?.getD undef = s1.v := hf.out 7 (by decide) rfl
          refine ⟨fun _ => ?_, fun h => absurd trivial h⟩
          refine free_run (v := s1.v) (W' := W) rfl ?_ rfl (Below.refl _ _)
          go_simp
        · intro L ax W hf hd
          simp [Region.binds] at hd
          have e69 : ax.tmps[69]?.getD undef = s1.v := slv (hf.got 3 (by decide) (by simp [hd]))
          refine ⟨fun _ => ?_, fun h => absurd trivial h⟩
          have hcv := str_run (Hs1.out.keep hf.below)
          refine free_run (v := .string ⟨(ptBytes a).toArray⟩) (W' := W) rfl ?_ rfl (Below.refl _ _)
          go_simp
        · intro L ax W hf hd
          try simp [Region.binds] at hd
          have e9 : ax.tmps[9]?.getD undef = s2.v := hf.out 9 (by decide) rfl
          refine ⟨fun _ => ?_, fun h => absurd trivial h⟩
          refine free_run (v := s2.v) (W' := W) rfl ?_ rfl (Below.refl _ _)
          go_simp
        · intro L ax W hf hd
          simp [Region.binds] at hd
          have e71 : ax.tmps[71]?.getD undef = s2.v := slv (hf.got 5 (by decide) (by simp [hd]))
          refine ⟨fun _ => ?_, fun h => absurd trivial h⟩
          have hcv := str_run (Hs2.out.keep hf.below)
          refine free_run (v := .string ⟨(ptBytes b).toArray⟩) (W' := W) rfl ?_ rfl (Below.refl _ _)
          go_simp
        · intro L ax W hf hd
          simp [Region.binds] at hd
          have e70 : ax.tmps[70]?.getD undef = .string ⟨(ptBytes a).toArray⟩ := slv (hf.got 4 (by decide) (by simp [hd]))
          have e72 : ax.tmps[72]?.getD undef = .string ⟨(ptBytes b).toArray⟩ := slv (hf.got 6 (by decide) (by simp [hd]))
          refine ⟨fun _ => ?_, fun h => absurd trivial h⟩
          refine free_run (v := .bool (Op.bytesLess (ptBytes a) (ptBytes b))) (W' := W) rfl ?_ rfl (Below.refl _ _)
          go_simp
        · intro L ax W hf hd
          simp [Region.binds] at hd
          have e68 : ax.tmps[68]?.getD undef = .bool ab := slv (hf.got 2 (by decide) (by simp [hd]))
          have e73 : ax.tmps[73]?.getD undef = .bool (Op.bytesLess (ptBytes a) (ptBytes b)) := slv (hf.got 7 (by decide) (by simp [hd]))
          refine ⟨fun _ => ?_, fun h => absurd trivial h⟩
          have hf9 := HF.out
          refine free_run (v := .bool true) (W' := W) rfl ?_ rfl (Below.refl _ _)
          go_simp
        · intro L ax W hf hd
          simp [Region.binds] at hd
          have e74 : ax.tmps[74]?.getD undef = .bool true := slv (hf.got 8 (by decide) (by simp [hd]))
          refine ⟨fun _ => ?_, fun h => absurd trivial h⟩
          refine free_run (v := .bool true) (W' := W) rfl ?_ rfl (Below.refl _ _)
          go_simp
        · intro L ax W hf hd
          simp [Region.binds] at hd
          have g0 : sl ax 75 = .bool true := hf.got 9 (by decide) (by simp [hd])
          refine ⟨fun hh => ?_, fun hh => ?_⟩
          · first
              | (exfalso; revert hh; simp [Held, g0, *]; done)
              | (refine free_call (f := 24) (args := #[]) rfl (by go_simp) ?_; refine (known09_c W).mono ?_; rintro e w' ⟨rfl, hb⟩; exact ⟨_, rfl, rfl, hb⟩)
          · first
              | (exfalso; revert hh; simp [Held, g0, *]; done)
              | (show undef = _; first | rfl | (simp [*]; done))
        · intro L ax W hf hd
          simp [Region.binds] at hd
          have e75 : ax.tmps[75]?.getD undef = .bool true := slv (hf.got 9 (by decide) (by simp [hd]))
          have e76 : ax.tmps[76]?.getD undef = .bool true := slv (hf.got 10 (by decide) (by simp [hd]))
          refine ⟨fun _ => ?_, fun h => absurd trivial h⟩
          refine free_run (v := .bool true) (W' := W) rfl ?_ rfl (Below.refl _ _)
          go_simp
        · intro L ax W hf hd
          simp [Region.binds] at hd
          have e77 : ax.tmps[77]?.getD undef = .bool true := slv (hf.got 11 (by decide) (by simp [hd]))
          refine ⟨fun _ => ?_, fun h => absurd trivial h⟩
          refine free_run (v := .bool true) (W' := W) rfl ?_ rfl (Below.refl _ _)
          go_simp
      · intro vs W' hl' hF hb
        obtain ⟨g', hg1, hg2⟩ := vs_lit vs hl' hF
        have e6 : g' 12 = .bool true := hg2 12 (by decide)
        rw [hg1]
        clear hF hg1 hg2 hl'
        simp only [List.length_cons, List.length_nil, Nat.reduceAdd, show List.range 13 = [0, 1, 2, 3, 4, 5, 6, 7, 8, 9, 10, 11, 12] from rfl, List.map_cons, List.map_nil, putL, List.zip_cons_cons, List.zip_nil_right, List.setIfInBounds_toArray, List.set_cons_succ, List.set_cons_zero, e6]
        go_wp2_with fail
        go_ret
        exact ⟨rfl, HBl.out.trans (hb.mono hz4)⟩
end Go.Proofs.Ytbpbnnonialelaa
