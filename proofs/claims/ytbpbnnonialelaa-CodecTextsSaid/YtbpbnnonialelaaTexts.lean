/- The walk of landmarklaw09.CodecTexts. -/
import Derived.Test.YtbpbnnonialelaaTextPlain
import Derived.Test.YtbpbnnonialelaaRefMay
import Derived.Test.YtbpbnnonialelaaRefMuch
import Derived.Test.YtbpbnnonialelaaVotes0
import Derived.Test.YtbpbnnonialelaaKnown09
import Derived.Deep.CutRange
namespace Go.Proofs.Ytbpbnnonialelaa
open Go.RowKit

theorem hdrMay_len {h : Hdr} (hm : hdrMay h = true) : h.ops.length ≤ 16 := by
  unfold hdrMay at hm
  rw [Bool.and_eq_true, Bool.and_eq_true] at hm
  exact of_decide_eq_true hm.1.2
theorem hdrMay_all {h : Hdr} (hm : hdrMay h = true) : h.ops.all opMay = true := by
  unfold hdrMay at hm
  rw [Bool.and_eq_true] at hm
  exact hm.2
theorem voteA_cells {w : World} {b : Nat} {g : GVote} (h : row? w b 0 68 = some (voteA g)) : w.cell? ⟨b, 0, none⟩ = some (.int .i64 g.validator) ∧ row? w b 1 33 = some (pointA g.source) ∧ row? w b 34 33 = some (pointA g.target) ∧ w.cell? ⟨b, 67, none⟩ = some g.sig.v := by
  have h0 := cell_of_row? h 0 (by omega)
  have h1 := row?_sub h 1 33 (by omega)
  have h2 := row?_sub h 34 33 (by omega)
  have h3 := cell_of_row? h 67 (by omega)
  simp only [Nat.zero_add, Nat.reduceAdd, voteA_validator, voteA_sig, voteA_source, voteA_target] at h0 h1 h2 h3
  exact ⟨h0, h1, h2, h3⟩

set_option maxRecDepth 100000 in
set_option maxHeartbeats 1600000 in
theorem texts_long (g1 g2 : GVote) (v u : Vote) (g : GHeader) (h : Hdr) (w : World) (hv : VoteR w g1 v) (hu : VoteR w g2 u) (hh : HdrR w g h) (hx : 9000 < v.sig.length ∨ 9000 < u.sig.length ∨ hdMuch h = true) :
    Calls Try.prog 6 #[.agg (voteA g1), .agg (voteA g2), .agg (headerA g)] w fun e w' => e = .returned (.bool true) ∧ Below w.heap.size w w' := by
  have n1 := hv.2.2.2.1
  have n2 := hu.2.2.2.1
  have HC := fun W (hb : Below w.heap.size w W) => fmuch_c g h W (hh.keep' hb)
  clear hv hu hh
  by_cases h1 : 9000 < g1.sig.n
  · have d1 : decide ((9000 : Int) < g1.sig.n) = true := decide_eq_true (by omega)
    clear n1 n2 hx HC h1
    go_enter Try.func6, Try.ntmps6
    go_wp2_with (go_at_call 24; (with_reducible refine (known09_c _).mono ?_); rintro e W3 ⟨rfl, hb3⟩)
    go_ret
    exact ⟨rfl, by (repeat' (first | (with_reducible exact Below.refl _ _) | (with_reducible assumption) | (with_reducible refine bel_trans (by assumption) ?_ ?_) | (with_reducible refine bel_grown (by assumption) ?_ ?_ ?_) | (with_reducible refine Below.alloc ?_ ?_ _) | (with_reducible refine Below.drew ?_) | (with_reducible refine below_drewN ?_ _) | (with_reducible refine Below.setCell ?_ ?_ _) | (with_reducible refine below_put ?_ ?_ _ _) | (with_reducible exact Nat.le_refl _) | omega | (with_reducible refine Nat.le_trans ?_ (Below.size (by assumption))) | (with_reducible refine Nat.le_trans ?_ (World.grownBy.size (by assumption))) | (simp only [World.size_alloc, World.size_setCell, World.size_drew, size_drewN]; omega) | (simp only [World.size_alloc, World.size_setCell, World.size_drew, size_drewN, size_put]; omega) | (intro k hk; simp [Value.ownBlock] at hk; done) | (intro k hk; simp [Value.ownBlock] at hk; omega) | (simp [size_drewN] at *; omega)))⟩
  · have d1 : decide ((9000 : Int) < g1.sig.n) = false := decide_eq_false (by omega)
    by_cases h2 : 9000 < g2.sig.n
    · have d2 : decide ((9000 : Int) < g2.sig.n) = true := decide_eq_true (by omega)
      clear n1 n2 hx HC h1 h2
      go_enter Try.func6, Try.ntmps6
      go_wp2_with (go_at_call 24; (with_reducible refine (known09_c _).mono ?_); rintro e W3 ⟨rfl, hb3⟩)
      go_ret
      exact ⟨rfl, by (repeat' (first | (with_reducible exact Below.refl _ _) | (with_reducible assumption) | (with_reducible refine bel_trans (by assumption) ?_ ?_) | (with_reducible refine bel_grown (by assumption) ?_ ?_ ?_) | (with_reducible refine Below.alloc ?_ ?_ _) | (with_reducible refine Below.drew ?_) | (with_reducible refine below_drewN ?_ _) | (with_reducible refine Below.setCell ?_ ?_ _) | (with_reducible refine below_put ?_ ?_ _ _) | (with_reducible exact Nat.le_refl _) | omega | (with_reducible refine Nat.le_trans ?_ (Below.size (by assumption))) | (with_reducible refine Nat.le_trans ?_ (World.grownBy.size (by assumption))) | (simp only [World.size_alloc, World.size_setCell, World.size_drew, size_drewN]; omega) | (simp only [World.size_alloc, World.size_setCell, World.size_drew, size_drewN, size_put]; omega) | (intro k hk; simp [Value.ownBlock] at hk; done) | (intro k hk; simp [Value.ownBlock] at hk; omega) | (simp [size_drewN] at *; omega)))⟩
    · have d2 : decide ((9000 : Int) < g2.sig.n) = false := decide_eq_false (by omega)
      have h3 : hdMuch h = true := by
        rcases hx with h | h | h
        · omega
        · omega
        · exact h
      rw [h3] at HC
      clear n1 n2 hx h1 h2 h3
      go_enter Try.func6, Try.ntmps6
      go_wp2_with (first
        | (go_at_call 23; (with_reducible refine (HC _ (by (repeat' (first | (with_reducible exact Below.refl _ _) | (with_reducible assumption) | (with_reducible refine bel_trans (by assumption) ?_ ?_) | (with_reducible refine bel_grown (by assumption) ?_ ?_ ?_) | (with_reducible refine Below.alloc ?_ ?_ _) | (with_reducible refine Below.drew ?_) | (with_reducible refine below_drewN ?_ _) | (with_reducible refine Below.setCell ?_ ?_ _) | (with_reducible refine below_put ?_ ?_ _ _) | (with_reducible exact Nat.le_refl _) | omega | (with_reducible refine Nat.le_trans ?_ (Below.size (by assumption))) | (with_reducible refine Nat.le_trans ?_ (World.grownBy.size (by assumption))) | (simp only [World.size_alloc, World.size_setCell, World.size_drew, size_drewN]; omega) | (simp only [World.size_alloc, World.size_setCell, World.size_drew, size_drewN, size_put]; omega) | (intro k hk; simp [Value.ownBlock] at hk; done) | (intro k hk; simp [Value.ownBlock] at hk; omega) | (simp [size_drewN] at *; omega))))).mono ?_); rintro e W2 ⟨rfl, hb2⟩)
        | (go_at_call 24; (with_reducible refine (known09_c _).mono ?_); rintro e W3 ⟨rfl, hb3⟩))
      go_ret
      exact ⟨rfl, by (repeat' (first | (with_reducible exact Below.refl _ _) | (with_reducible assumption) | (with_reducible refine bel_trans (by assumption) ?_ ?_) | (with_reducible refine bel_grown (by assumption) ?_ ?_ ?_) | (with_reducible refine Below.alloc ?_ ?_ _) | (with_reducible refine Below.drew ?_) | (with_reducible refine below_drewN ?_ _) | (with_reducible refine Below.setCell ?_ ?_ _) | (with_reducible refine below_put ?_ ?_ _ _) | (with_reducible exact Nat.le_refl _) | omega | (with_reducible refine Nat.le_trans ?_ (Below.size (by assumption))) | (with_reducible refine Nat.le_trans ?_ (World.grownBy.size (by assumption))) | (simp only [World.size_alloc, World.size_setCell, World.size_drew, size_drewN]; omega) | (simp only [World.size_alloc, World.size_setCell, World.size_drew, size_drewN, size_put]; omega) | (intro k hk; simp [Value.ownBlock] at hk; done) | (intro k hk; simp [Value.ownBlock] at hk; omega) | (simp [size_drewN] at *; omega)))⟩

set_option maxRecDepth 100000 in
set_option maxHeartbeats 1600000 in
theorem texts_walk (g1 g2 : GVote) (v u : Vote) (g : GHeader) (h : Hdr) (w : World) (hv : VoteR w g1 v) (hu : VoteR w g2 u) (hh : HdrR w g h) :
    Calls Try.prog 6 #[.agg (voteA g1), .agg (voteA g2), .agg (headerA g)] w fun e w' => e = .returned (.bool true) ∧ Below w.heap.size w w' := by
  by_cases hlong : 9000 < v.sig.length ∨ 9000 < u.sig.length ∨ hdMuch h = true
  · exact texts_long g1 g2 v u g h w hv hu hh hlong
  have hm : hdMuch h = false := by
    cases hm : hdMuch h
    · rfl
    · exact absurd (.inr (.inr hm)) hlong
  have d1 : decide ((9000 : Int) < g1.sig.n) = false := decide_eq_false (by rw [hv.2.2.2.1]; omega)
  have d2 : decide ((9000 : Int) < g2.sig.n) = false := decide_eq_false (by rw [hu.2.2.2.1]; omega)
  clear hlong
  have HC := fun W (hb : Below w.heap.size w W) => fmuch_c g h W (hh.keep' hb)
  rw [hm] at HC
  clear hm
  have HT1 := fun W (hW : VoteR W g1 v) => ctext_c g1 v W hW
  have HT2 := fun W (hW : VoteR W g2 u) => ctext_c g2 u W hW
  have HMh := fun W (hW : HdrR W g h) => fmayHeader_c g h W hW
  have Hv := Lib.hid hv
  have Hu := Lib.hid hu
  have Hh := Lib.hid hh
  clear hv hu hh
  go_enter Try.func6, Try.ntmps6
  go_wp2_with fail
  refine (HC _ (by (repeat' (first | (with_reducible exact Below.refl _ _) | (with_reducible assumption) | (with_reducible refine bel_trans (by assumption) ?_ ?_) | (with_reducible refine bel_grown (by assumption) ?_ ?_ ?_) | (with_reducible refine Below.alloc ?_ ?_ _) | (with_reducible refine Below.drew ?_) | (with_reducible refine below_drewN ?_ _) | (with_reducible refine Below.setCell ?_ ?_ _) | (with_reducible refine below_put ?_ ?_ _ _) | (with_reducible exact Nat.le_refl _) | omega | (with_reducible refine Nat.le_trans ?_ (Below.size (by assumption))) | (with_reducible refine Nat.le_trans ?_ (World.grownBy.size (by assumption))) | (simp only [World.size_alloc, World.size_setCell, World.size_drew, size_drewN]; omega) | (simp only [World.size_alloc, World.size_setCell, World.size_drew, size_drewN, size_put]; omega) | (intro k hk; simp [Value.ownBlock] at hk; done) | (intro k hk; simp [Value.ownBlock] at hk; omega) | (simp [size_drewN] at *; omega))))).mono ?_
  clear HC
  rintro e w1 ⟨rfl, hb1⟩
  have hz1 : w.heap.size + 3 ≤ w1.heap.size := by have := hb1.size; simpa using this
  obtain ⟨k1, k2, k3⟩ := kept hb1
  have r1 : row? w1 w.heap.size 0 68 = some (voteA g1) := by rw [k3 _ _ _ (by simp <;> omega), row?_old _ _ _ _ _ (by simp <;> omega), row?_old _ _ _ _ _ (by simp), row?_new]; simp
  have r2 : row? w1 (w.heap.size + 1) 0 68 = some (voteA g2) := by rw [k3 _ _ _ (by simp <;> omega), row?_old _ _ _ _ _ (by simp), row?_new_at _ _ _ _ _ _ (by simp)]; simp
  have r3 : row? w1 (w.heap.size + 1 + 1) 0 34 = some (headerA g) := by rw [k3 _ _ _ (by simp), row?_new_at _ _ _ _ _ _ (by simp)]; simp
  have hB1 : Below w.heap.size w w1 := by (repeat' (first | (with_reducible exact Below.refl _ _) | (with_reducible assumption) | (with_reducible refine bel_trans (by assumption) ?_ ?_) | (with_reducible refine bel_grown (by assumption) ?_ ?_ ?_) | (with_reducible refine Below.alloc ?_ ?_ _) | (with_reducible refine Below.drew ?_) | (with_reducible refine below_drewN ?_ _) | (with_reducible refine Below.setCell ?_ ?_ _) | (with_reducible refine below_put ?_ ?_ _ _) | (with_reducible exact Nat.le_refl _) | omega | (with_reducible refine Nat.le_trans ?_ (Below.size (by assumption))) | (with_reducible refine Nat.le_trans ?_ (World.grownBy.size (by assumption))) | (simp only [World.size_alloc, World.size_setCell, World.size_drew, size_drewN]; omega) | (simp only [World.size_alloc, World.size_setCell, World.size_drew, size_drewN, size_put]; omega) | (intro k hk; simp [Value.ownBlock] at hk; done) | (intro k hk; simp [Value.ownBlock] at hk; omega) | (simp [size_drewN] at *; omega)))
  clear k1 k2 k3 hb1
  go_wp2_with fail
  refine (HT1 _ (Hv.out.keep' hB1)).mono ?_
  clear HT1
  rintro e w2 ⟨s1, rfl, h1, hb2⟩
  have hz2 := hb2.size
  have hB2 := hB1.trans (hb2.mono (by omega))
  have r1 := (row?_below _ _ _ hb2 (by omega)).trans r1
  have r2 := (row?_below _ _ _ hb2 (by omega)).trans r2
  have r3 := (row?_below _ _ _ hb2 (by omega)).trans r3
  have H1 := Lib.hid h1
  clear hB1 h1
  go_wp2_with fail
  refine (HT2 _ (Hu.out.keep' hB2)).mono ?_
  clear HT2
  rintro e w3 ⟨s2, rfl, h2, hb3⟩
  have hz3 := hb3.size
  have hB3 := hB2.trans (hb3.mono (by omega))
  have r1 := (row?_below _ _ _ hb3 (by omega)).trans r1
  have r2 := (row?_below _ _ _ hb3 (by omega)).trans r2
  have r3 := (row?_below _ _ _ hb3 (by omega)).trans r3
  have H1 := Lib.hid (H1.out.keep hb3)
  have H2 := Lib.hid h2
  have HB := Lib.hid hB3
  have Hh := Lib.hid (Hh.out.keep' hB3)
  have Rh := Lib.hid r3
  have hzh : w.heap.size + 1 + 1 < w3.heap.size := by omega
  have hz0 : w.heap.size ≤ w3.heap.size := by omega
  obtain ⟨a0, a1, a34, a67⟩ := voteA_cells r1
  obtain ⟨b0, b1, b34, b67⟩ := voteA_cells r2
  have ev : g1.validator = v.validator := Hv.out.1
  have es : g1.source = v.source := Hv.out.2.1
  have et : g1.target = v.target := Hv.out.2.2.1
  have fv : g2.validator = u.validator := Hu.out.1
  have fs : g2.source = u.source := Hu.out.2.1
  have ft : g2.target = u.target := Hu.out.2.2.1
  rw [ev] at a0
  rw [es] at a1
  rw [et] at a34
  rw [fv] at b0
  rw [fs] at b1
  rw [ft] at b34
  have hmv := fun h => voteMay_out (v := v) h
  have hmu := fun h => voteMay_out (v := u) h
  clear hB2 hB3 hb2 hb3 h2 r1 r2 r3 hz1 hz2 hz3 Hv Hu ev es et fv fs ft a67 b67
  generalize voteMay v = m at *
  generalize voteMay u = n at *
  by_cases hmn : (m && n) = false
  · cases m <;> cases n
    all_goals first
      | (exfalso; revert hmn; simp; done)
      | skip
    all_goals simp only [show noErr true = 0 from rfl, show noErr false = 2 from rfl] at *
    all_goals go_wp2_with (first
      | (go_at_call 26; (with_reducible refine (num09_c _ _).mono ?_); rintro e w11 ⟨rfl, rfl⟩)
      | (go_at_call 24; (with_reducible refine (known09_c _).mono ?_); rintro e W4 ⟨rfl, hb4⟩))
    all_goals go_ret
    all_goals exact ⟨rfl, HB.out.trans (hb4.mono hz0)⟩
  obtain ⟨rfl, rfl⟩ : m = true ∧ n = true := by cases m <;> cases n <;> simp_all
  obtain ⟨p1, p2, _⟩ := hmv rfl
  obtain ⟨q1, q2, _⟩ := hmu rfl
  have hE := txBytes_eq p1 p2 q1 q2
  have hl1 := txBytes_length v
  have hn1 := H1.out.1
  have Hne := Lib.hid (txBytes_ne v h)
  clear hmn hmv hmu
  simp only [show noErr true = 0 from rfl, show ∀ l, orNo true l = l from fun _ => rfl] at *
  go_upto_region 7 with (go_at_call 26; (with_reducible refine (num09_c _ _).mono ?_); rintro e w11 ⟨rfl, rfl⟩)
  go_cut [11] from 44 (fun x W => x = .bool (decide (v.validator = u.validator) && decide (v.source = u.source) && decide (v.target = u.target)) ∧ W = w3)
  case first =>
    have hg := eq_point_guard
    have hi := int_eq v.validator u.validator
    have hvi : (v.validator == u.validator) = decide (v.validator = u.validator) := hi
    generalize decide (v.validator = u.validator) = x1 at *
    clear hi hE
    go_wp2_with fail
    all_goals go_meet
    all_goals exact ⟨congrArg Value.bool (by simp [*]), rfl⟩
  case rest =>
    obtain ⟨rfl, rfl⟩ := hcut
    rw [← hE]
    have hbe : (txBytes v == txBytes u) = decide (txBytes v = txBytes u) := by rw [Bool.eq_iff_iff]; simp
    have cv1 := str_run H1.out
    have cv2 := str_run H2.out
    clear hE
    generalize decide (txBytes v = txBytes u) = q at *
    have hqq : (q != q) = false := by simp
    go_upto_region 10 with fail
    cases hmh : hdrMay h
    · rw [hmh] at HMh
      clear hmh
      refine wp_region_freeG_l (fun W W' => Below W.heap.size W W') (by kernel_rfl) [75, 76, 77, 78, 79, 80, 81, 82, 83, 84, 85, 86, 87, 88, 6]
        [Is (.agg (headerA g)), Is (.bool false), Is (.bool true), Is (.bool true), Is (undef), Is (undef), Is (undef), Is (undef), Is (undef), Is (undef), Is (.bool true), Is (.bool true), Is (.bool true), Is (.bool true), Is (.bool true)]
        (by kernel_rfl) (fun W W' h hb => hb.trans (h.mono hb.size)) ?_ ?_ ?_
      · intro f hf
        simp only [List.mem_cons, List.not_mem_nil, or_false] at hf
        rcases hf with rfl | rfl | rfl | rfl | rfl | rfl | rfl | rfl | rfl | rfl | rfl | rfl | rfl | rfl | rfl <;> intro x W W' h hr <;> first | exact h | exact IsB.keepB h hr
      · refine ⟨?_, ?_, ?_, ?_, ?_, ?_, ?_, ?_, ?_, ?_, ?_, ?_, ?_, ?_, ?_, trivial⟩
        · intro L ax W hf hd
          try simp [Region.binds] at hd
          have e5 : ax.tmps[5]?.getD undef = .pointer (some ⟨w.heap.size + 1 + 1, 0, none⟩) := hf.out 5 (by decide) rfl
          refine ⟨fun _ => ?_, fun h => absurd trivial h⟩
          have r1 := (row?_below _ _ _ hf.below hzh).trans Rh.out
          refine free_run (v := .agg (headerA g)) (W' := W) rfl ?_ rfl (Below.refl _ _)
          go_simp
        · intro L ax W hf hd
          simp [Region.binds] at hd
          have e75 : ax.tmps[75]?.getD undef = .agg (headerA g) := slv (hf.got 0 (by decide) (by simp [hd]))
          refine ⟨fun _ => ?_, fun h => absurd trivial h⟩
          refine free_call (f := 30) (args := #[.agg (headerA g)]) rfl (by go_simp) ?_
          refine (HMh W (Hh.out.keep' hf.below)).mono ?_
          rintro e w' ⟨rfl, hb⟩
          exact ⟨_, rfl, rfl, hb⟩
        · intro L ax W hf hd
          simp [Region.binds] at hd
          have e76 : ax.tmps[76]?.getD undef = .bool false := slv (hf.got 1 (by decide) (by simp [hd]))
          refine ⟨fun _ => ?_, fun h => absurd trivial h⟩
          refine free_run (v := .bool true) (W' := W) rfl ?_ rfl (Below.refl _ _)
          go_simp
        · intro L ax W hf hd
          simp [Region.binds] at hd
          have e77 : ax.tmps[77]?.getD undef = .bool true := slv (hf.got 2 (by decide) (by simp [hd]))
          refine ⟨fun _ => ?_, fun h => absurd trivial h⟩
          refine free_run (v := .bool true) (W' := W) rfl ?_ rfl (Below.refl _ _)
          go_simp
        · intro L ax W hf hd
          simp [Region.binds] at hd
          have e7 : ax.tmps[7]?.getD undef = s1.v := hf.out 7 (by decide) rfl
          have g0 : sl ax 78 = .bool true := hf.got 3 (by decide) (by simp [hd])
          refine ⟨fun hh => ?_, fun hh => ?_⟩
          · first
              | (exfalso; revert hh; simp [Held, g0, *]; done)
              | (refine free_run (v := undef) (W' := W) rfl ?_ rfl (Below.refl _ _); go_simp)
          · first
              | (exfalso; revert hh; simp [Held, g0, *]; done)
              | (show undef = _; first | rfl | (simp [*]; done))
        · intro L ax W hf hd
          simp [Region.binds] at hd
          have e79 : ax.tmps[79]?.getD undef = undef := slv (hf.got 4 (by decide) (by simp [hd]))
          have g0 : sl ax 78 = .bool true := hf.got 3 (by decide) (by simp [hd])
          refine ⟨fun hh => ?_, fun hh => ?_⟩
          · first
              | (exfalso; revert hh; simp [Held, g0, *]; done)
              | (refine free_run (v := undef) (W' := W) rfl ?_ rfl (Below.refl _ _); go_simp)
          · first
              | (exfalso; revert hh; simp [Held, g0, *]; done)
              | (show undef = _; first | rfl | (simp [*]; done))
        · intro L ax W hf hd
          simp [Region.binds] at hd
          have e5 : ax.tmps[5]?.getD undef = .pointer (some ⟨w.heap.size + 1 + 1, 0, none⟩) := hf.out 5 (by decide) rfl
          have g0 : sl ax 78 = .bool true := hf.got 3 (by decide) (by simp [hd])
          refine ⟨fun hh => ?_, fun hh => ?_⟩
          · first
              | (exfalso; revert hh; simp [Held, g0, *]; done)
              | (refine free_run (v := undef) (W' := W) rfl ?_ rfl (Below.refl _ _); go_simp)
          · first
              | (exfalso; revert hh; simp [Held, g0, *]; done)
              | (show undef = _; first | rfl | (simp [*]; done))
        · intro L ax W hf hd
          simp [Region.binds] at hd
          have e81 : ax.tmps[81]?.getD undef = undef := slv (hf.got 6 (by decide) (by simp [hd]))
          have g0 : sl ax 78 = .bool true := hf.got 3 (by decide) (by simp [hd])
          refine ⟨fun hh => ?_, fun hh => ?_⟩
          · first
              | (exfalso; revert hh; simp [Held, g0, *]; done)
              | (refine free_run (v := undef) (W' := W) rfl ?_ rfl (Below.refl _ _); go_simp)
          · first
              | (exfalso; revert hh; simp [Held, g0, *]; done)
              | (show undef = _; first | rfl | (simp [*]; done))
        · intro L ax W hf hd
          simp [Region.binds] at hd
          have e82 : ax.tmps[82]?.getD undef = undef := slv (hf.got 7 (by decide) (by simp [hd]))
          have g0 : sl ax 78 = .bool true := hf.got 3 (by decide) (by simp [hd])
          refine ⟨fun hh => ?_, fun hh => ?_⟩
          · first
              | (exfalso; revert hh; simp [Held, g0, *]; done)
              | (refine free_run (v := undef) (W' := W) rfl ?_ rfl (Below.refl _ _); go_simp)
          · first
              | (exfalso; revert hh; simp [Held, g0, *]; done)
              | (show undef = _; first | rfl | (simp [*]; done))
        · intro L ax W hf hd
          simp [Region.binds] at hd
          have e80 : ax.tmps[80]?.getD undef = undef := slv (hf.got 5 (by decide) (by simp [hd]))
          have e83 : ax.tmps[83]?.getD undef = undef := slv (hf.got 8 (by decide) (by simp [hd]))
          have g0 : sl ax 78 = .bool true := hf.got 3 (by decide) (by simp [hd])
          refine ⟨fun hh => ?_, fun hh => ?_⟩
          · first
              | (exfalso; revert hh; simp [Held, g0, *]; done)
              | (refine free_run (v := undef) (W' := W) rfl ?_ rfl (Below.refl _ _); go_simp)
          · first
              | (exfalso; revert hh; simp [Held, g0, *]; done)
              | (show undef = _; first | rfl | (simp [*]; done))
        · intro L ax W hf hd
          simp [Region.binds] at hd
          have e78 : ax.tmps[78]?.getD undef = .bool true := slv (hf.got 3 (by decide) (by simp [hd]))
          have e84 : ax.tmps[84]?.getD undef = undef := slv (hf.got 9 (by decide) (by simp [hd]))
          refine ⟨fun _ => ?_, fun h => absurd trivial h⟩
          refine free_run (v := .bool true) (W' := W) rfl ?_ rfl (Below.refl _ _)
          go_simp
        · intro L ax W hf hd
          simp [Region.binds] at hd
          have e85 : ax.tmps[85]?.getD undef = .bool true := slv (hf.got 10 (by decide) (by simp [hd]))
          refine ⟨fun _ => ?_, fun h => absurd trivial h⟩
          refine free_run (v := .bool true) (W' := W) rfl ?_ rfl (Below.refl _ _)
          go_simp
        · intro L ax W hf hd
          simp [Region.binds] at hd
          have g0 : sl ax 86 = .bool true := hf.got 11 (by decide) (by simp [hd])
          refine ⟨fun hh => ?_, fun hh => ?_⟩
          · first
              | (exfalso; revert hh; simp [Held, g0, *]; done)
              | (refine free_call (f := 24) (args := #[]) rfl (by go_simp) ?_; refine (known09_c W).mono ?_; rintro e w' ⟨rfl, hb⟩; exact ⟨_, rfl, rfl, hb⟩)
          · first
              | (exfalso; revert hh; simp [Held, g0, *]; done)
              | (show undef = _; first | rfl | (simp [*]; done))
        · intro L ax W hf hd
          simp [Region.binds] at hd
          have e86 : ax.tmps[86]?.getD undef = .bool true := slv (hf.got 11 (by decide) (by simp [hd]))
          have e87 : ax.tmps[87]?.getD undef = .bool true := slv (hf.got 12 (by decide) (by simp [hd]))
          refine ⟨fun _ => ?_, fun h => absurd trivial h⟩
          refine free_run (v := .bool true) (W' := W) rfl ?_ rfl (Below.refl _ _)
          go_simp
        · intro L ax W hf hd
          simp [Region.binds] at hd
          have e88 : ax.tmps[88]?.getD undef = .bool true := slv (hf.got 13 (by decide) (by simp [hd]))
          refine ⟨fun _ => ?_, fun h => absurd trivial h⟩
          refine free_run (v := .bool true) (W' := W) rfl ?_ rfl (Below.refl _ _)
          go_simp
      · intro vs W' hl' hF hb
        obtain ⟨g', hg1, hg2⟩ := vs_lit vs hl' hF
        have e6 : g' 14 = .bool true := hg2 14 (by decide)
        rw [hg1]
        clear hF hg1 hg2 hl'
        simp only [List.length_cons, List.length_nil, Nat.reduceAdd, show List.range 15 = [0, 1, 2, 3, 4, 5, 6, 7, 8, 9, 10, 11, 12, 13, 14] from rfl, List.map_cons, List.map_nil, putL, List.zip_cons_cons, List.zip_nil_right, List.setIfInBounds_toArray, List.set_cons_succ, List.set_cons_zero, e6]
        go_wp2_with fail
        go_ret
        exact ⟨rfl, HB.out.trans (hb.mono hz0)⟩
    · rw [hmh] at HMh
      have hl16 := hdrMay_len hmh
      have hall := hdrMay_all hmh
      clear hmh
      refine wp_region_freeG_l (fun W W' => Below W.heap.size W W') (by kernel_rfl) [75, 76, 77, 78, 79, 80, 81, 82, 83, 84, 85, 86, 87, 88, 6]
        [Is (.agg (headerA g)), Is (.bool true), Is (.bool false), Is (.bool false), Is (s1.v), Is (.string ⟨(txBytes v).toArray⟩), Is (.agg (headerA g)), IsB (nmText h), Is (.string ⟨(nmText h).toArray⟩), Is (.bool true), Is (.bool true), Is (.bool true), Is (.bool true), Is (.bool true), Is (.bool true)]
        (by kernel_rfl) (fun W W' h hb => hb.trans (h.mono hb.size)) ?_ ?_ ?_
      · intro f hf
        simp only [List.mem_cons, List.not_mem_nil, or_false] at hf
        rcases hf with rfl | rfl | rfl | rfl | rfl | rfl | rfl | rfl | rfl | rfl | rfl | rfl | rfl | rfl | rfl <;> intro x W W' h hr <;> first | exact h | exact IsB.keepB h hr
      · refine ⟨?_, ?_, ?_, ?_, ?_, ?_, ?_, ?_, ?_, ?_, ?_, ?_, ?_, ?_, ?_, trivial⟩
        · intro L ax W hf hd
          try simp [Region.binds] at hd
          have e5 : ax.tmps[5]?.getD undef = .pointer (some ⟨w.heap.size + 1 + 1, 0, none⟩) := hf.out 5 (by decide) rfl
          refine ⟨fun _ => ?_, fun h => absurd trivial h⟩
          have r1 := (row?_below _ _ _ hf.below hzh).trans Rh.out
          refine free_run (v := .agg (headerA g)) (W' := W) rfl ?_ rfl (Below.refl _ _)
          go_simp
        · intro L ax W hf hd
          simp [Region.binds] at hd
          have e75 : ax.tmps[75]?.getD undef = .agg (headerA g) := slv (hf.got 0 (by decide) (by simp [hd]))
          refine ⟨fun _ => ?_, fun h => absurd trivial h⟩
          refine free_call (f := 30) (args := #[.agg (headerA g)]) rfl (by go_simp) ?_
          refine (HMh W (Hh.out.keep' hf.below)).mono ?_
          rintro e w' ⟨rfl, hb⟩
          exact ⟨_, rfl, rfl, hb⟩
        · intro L ax W hf hd
          simp [Region.binds] at hd
          have e76 : ax.tmps[76]?.getD undef = .bool true := slv (hf.got 1 (by decide) (by simp [hd]))
          refine ⟨fun _ => ?_, fun h => absurd trivial h⟩
          refine free_run (v := .bool false) (W' := W) rfl ?_ rfl (Below.refl _ _)
          go_simp
        · intro L ax W hf hd
          simp [Region.binds] at hd
          have e77 : ax.tmps[77]?.getD undef = .bool false := slv (hf.got 2 (by decide) (by simp [hd]))
          refine ⟨fun _ => ?_, fun h => absurd trivial h⟩
          refine free_run (v := .bool false) (W' := W) rfl ?_ rfl (Below.refl _ _)
          go_simp
        · intro L ax W hf hd
          simp [Region.binds] at hd
          have e7 : ax.tmps[7]?.getD undef = s1.v := hf.out 7 (by decide) rfl
          have g0 : sl ax 78 = .bool false := hf.got 3 (by decide) (by simp [hd])
          refine ⟨fun hh => ?_, fun hh => ?_⟩
          · first
              | (exfalso; revert hh; simp [Held, g0, *]; done)
              | (refine free_run (v := s1.v) (W' := W) rfl ?_ rfl (Below.refl _ _); go_simp)
          · first
              | (exfalso; revert hh; simp [Held, g0, *]; done)
              | (show undef = _; first | rfl | (simp [*]; done))
        · intro L ax W hf hd
          simp [Region.binds] at hd
          have e79 : ax.tmps[79]?.getD undef = s1.v := slv (hf.got 4 (by decide) (by simp [hd]))
          have g0 : sl ax 78 = .bool false := hf.got 3 (by decide) (by simp [hd])
          refine ⟨fun hh => ?_, fun hh => ?_⟩
          · first
              | (exfalso; revert hh; simp [Held, g0, *]; done)
              | ((have hcv := str_run (H1.out.keep hf.below)); refine free_run (v := .string ⟨(txBytes v).toArray⟩) (W' := W) rfl ?_ rfl (Below.refl _ _); go_simp)
          · first
              | (exfalso; revert hh; simp [Held, g0, *]; done)
              | (show undef = _; first | rfl | (simp [*]; done))
        · intro L ax W hf hd
          simp [Region.binds] at hd
          have e5 : ax.tmps[5]?.getD undef = .pointer (some ⟨w.heap.size + 1 + 1, 0, none⟩) := hf.out 5 (by decide) rfl
          have g0 : sl ax 78 = .bool false := hf.got 3 (by decide) (by simp [hd])
          refine ⟨fun hh => ?_, fun hh => ?_⟩
          · first
              | (exfalso; revert hh; simp [Held, g0, *]; done)
              | ((have r1 := (row?_below _ _ _ hf.below hzh).trans Rh.out); refine free_run (v := .agg (headerA g)) (W' := W) rfl ?_ rfl (Below.refl _ _); go_simp)
          · first
              | (exfalso; revert hh; simp [Held, g0, *]; done)
              | (show undef = _; first | rfl | (simp [*]; done))
        · intro L ax W hf hd
          simp [Region.binds] at hd
          have e81 : ax.tmps[81]?.getD undef = .agg (headerA g) := slv (hf.got 6 (by decide) (by simp [hd]))
          have g0 : sl ax 78 = .bool false := hf.got 3 (by decide) (by simp [hd])
          refine ⟨fun hh => ?_, fun hh => ?_⟩
          · first
              | (exfalso; revert hh; simp [Held, g0, *]; done)
              | (refine free_call (f := 31) (args := #[.agg (headerA g)]) rfl (by go_simp) ?_; refine (nameText_c g h W (Hh.out.keep' hf.below) hl16 hall).mono ?_; rintro e w' ⟨x, rfl, ho, hb⟩; obtain ⟨s2, rfl⟩ := ho.slice; exact ⟨_, rfl, ⟨s2, rfl, ho.reads⟩, hb⟩)
          · first
              | (exfalso; revert hh; simp [Held, g0, *]; done)
              | (show undef = _; first | rfl | (simp [*]; done))
        · intro L ax W hf hd
          simp [Region.binds] at hd
          have f82 : IsB (nmText h) (sl ax 82) W := hf.got 7 (by decide) (by simp [hd])
          have g0 : sl ax 78 = .bool false := hf.got 3 (by decide) (by simp [hd])
          refine ⟨fun hh => ?_, fun hh => ?_⟩
          · first
              | (exfalso; revert hh; simp [Held, g0, *]; done)
              | (obtain ⟨s2, e82, h82⟩ := f82; have e82 := slv e82; have hcv := str_run h82; refine free_run (v := .string ⟨(nmText h).toArray⟩) (W' := W) rfl ?_ rfl (Below.refl _ _); go_simp)
          · first
              | (exfalso; revert hh; simp [Held, g0, *]; done)
              | (show undef = _; first | rfl | (simp [*]; done))
        · intro L ax W hf hd
          simp [Region.binds] at hd
          have e80 : ax.tmps[80]?.getD undef = .string ⟨(txBytes v).toArray⟩ := slv (hf.got 5 (by decide) (by simp [hd]))
          have e83 : ax.tmps[83]?.getD undef = .string ⟨(nmText h).toArray⟩ := slv (hf.got 8 (by decide) (by simp [hd]))
          have g0 : sl ax 78 = .bool false := hf.got 3 (by decide) (by simp [hd])
          refine ⟨fun hh => ?_, fun hh => ?_⟩
          · first
              | (exfalso; revert hh; simp [Held, g0, *]; done)
              | ((have hne := Hne.out); refine free_run (v := .bool true) (W' := W) rfl ?_ rfl (Below.refl _ _); go_simp)
          · first
              | (exfalso; revert hh; simp [Held, g0, *]; done)
              | (show undef = _; first | rfl | (simp [*]; done))
        · intro L ax W hf hd
          simp [Region.binds] at hd
          have e78 : ax.tmps[78]?.getD undef = .bool false := slv (hf.got 3 (by decide) (by simp [hd]))
          have e84 : ax.tmps[84]?.getD undef = .bool true := slv (hf.got 9 (by decide) (by simp [hd]))
          refine ⟨fun _ => ?_, fun h => absurd trivial h⟩
          refine free_run (v := .bool true) (W' := W) rfl ?_ rfl (Below.refl _ _)
          go_simp
        · intro L ax W hf hd
          simp [Region.binds] at hd
          have e85 : ax.tmps[85]?.getD undef = .bool true := slv (hf.got 10 (by decide) (by simp [hd]))
          refine ⟨fun _ => ?_, fun h => absurd trivial h⟩
          refine free_run (v := .bool true) (W' := W) rfl ?_ rfl (Below.refl _ _)
          go_simp
        · intro L ax W hf hd
          simp [Region.binds] at hd
          have g0 : sl ax 86 = .bool true := hf.got 11 (by decide) (by simp [hd])
          refine ⟨fun hh => ?_, fun hh => ?_⟩
          · first
              | (exfalso; revert hh; simp [Held, g0, *]; done)
              | (refine free_call (f := 24) (args := #[]) rfl (by go_simp) ?_; refine (known09_c W).mono ?_; rintro e w' ⟨rfl, hb⟩; exact ⟨_, rfl, rfl, hb⟩)
          · first
              | (exfalso; revert hh; simp [Held, g0, *]; done)
              | (show undef = _; first | rfl | (simp [*]; done))
        · intro L ax W hf hd
          simp [Region.binds] at hd
          have e86 : ax.tmps[86]?.getD undef = .bool true := slv (hf.got 11 (by decide) (by simp [hd]))
          have e87 : ax.tmps[87]?.getD undef = .bool true := slv (hf.got 12 (by decide) (by simp [hd]))
          refine ⟨fun _ => ?_, fun h => absurd trivial h⟩
          refine free_run (v := .bool true) (W' := W) rfl ?_ rfl (Below.refl _ _)
          go_simp
        · intro L ax W hf hd
          simp [Region.binds] at hd
          have e88 : ax.tmps[88]?.getD undef = .bool true := slv (hf.got 13 (by decide) (by simp [hd]))
          refine ⟨fun _ => ?_, fun h => absurd trivial h⟩
          refine free_run (v := .bool true) (W' := W) rfl ?_ rfl (Below.refl _ _)
          go_simp
      · intro vs W' hl' hF hb
        obtain ⟨g', hg1, hg2⟩ := vs_lit vs hl' hF
        have e6 : g' 14 = .bool true := hg2 14 (by decide)
        rw [hg1]
        clear hF hg1 hg2 hl'
        simp only [List.length_cons, List.length_nil, Nat.reduceAdd, show List.range 15 = [0, 1, 2, 3, 4, 5, 6, 7, 8, 9, 10, 11, 12, 13, 14] from rfl, List.map_cons, List.map_nil, putL, List.zip_cons_cons, List.zip_nil_right, List.setIfInBounds_toArray, List.set_cons_succ, List.set_cons_zero, e6]
        go_wp2_with fail
        go_ret
        exact ⟨rfl, HB.out.trans (hb.mono hz0)⟩
end Go.Proofs.Ytbpbnnonialelaa
