/- The walk of FfgChains. -/
import Derived.Test.YtlkflddjpkhndaaTwo
import Derived.Test.YtlkflddjpkhndaaOpenL
import Derived.Test.YtlkflddjpkhndaaKnown13
import Derived.Test.YtlkflddjpkhndaaFChL
import Derived.Test.YtlkflddjpkhndaaFreeG
import Derived.Deep.RegionHeld3
import Derived.Deep.CutRange
namespace Go.Proofs.Ytlkflddjpkhndaa
open Go.RowKit

theorem IntsR.keepC {w w' : World} {s : Sl} {l : List Int} (h : SlR 1 IntC w s l) (hb : Below w.heap.size w w') : SlR 1 IntC w' s l := SlR.keep h hb (fun _ _ h => h)
theorem U64sR.keepC {w w' : World} {s : Sl} {l : List UInt64} (h : SlR 1 U64C w s l) (hb : Below w.heap.size w w') : SlR 1 U64C w' s l := SlR.keep h hb (fun _ _ h => h)
/-- Go's (x % n + n) % n -/
theorem idx_in2 (x : Int) (n : Nat) (hn : 0 < n) (hb : n ≤ 1000) : 0 ≤ (x.tmod n + n).tmod n ∧ (x.tmod n + n).tmod n < n ∧ -1000 < x.tmod n ∧ x.tmod n < 1000 := by
  have h1 := Int.tmod_lt_of_pos x (show (0 : Int) < n by omega)
  have h2 : -(n : Int) < x.tmod n := by
    by_cases hx : 0 ≤ x
    · have := Int.tmod_nonneg (n : Int) hx
      omega
    · have h3 := Int.tmod_lt_of_pos (-x) (show (0 : Int) < n by omega)
      rw [Int.neg_tmod] at h3
      omega
  have h3 : 0 ≤ x.tmod n + n := by omega
  exact ⟨Int.tmod_nonneg _ h3, Int.tmod_lt_of_pos _ (by omega), by omega, by omega⟩
/-- a link whose both ends are the chain's neighbours is good -/
theorem Lk.good {P : List Pt} (hR : Rise P) {x : Lnk} (h : Lk P x) : goodL x = true := by
  obtain ⟨i, hi, rfl⟩ := h
  have h1 := hR.may i (by omega)
  have h2 := hR.may (i + 1) hi
  have h3 := hR.lt i hi
  simp [goodL, mayPt, h1, h2, h3]
/-- the first loop stops at k -/
def badE (es : List UInt64) (k : Nat) : Bool := decide (4611686018427387904 < (es.getD k 0).toNat) || (decide (0 < k) && decide ((es.getD k 0).toNat ≤ (es.getD (k - 1) 0).toNat))
theorem getD_of {es : List UInt64} {k : Nat} (h : k < es.length) : es.getD k 0 = es[k] := by
  rw [List.getD_eq_getElem?_getD, List.getElem?_eq_getElem h]
  rfl
theorem rise_step (es : List UInt64) (k : Nat) (hk : k < es.length) (hR : Rise (chp (es.take k))) (hb : badE es k = false) : Rise (chp (es.take (k + 1))) := by
  unfold badE at hb
  rw [Bool.or_eq_false_iff, decide_eq_false_iff_not, Bool.and_eq_false_iff, decide_eq_false_iff_not, decide_eq_false_iff_not, getD_of hk] at hb
  obtain ⟨h1, h2⟩ := hb
  rw [chp_succ es k hk]
  refine hR.snoc _ (by show es[k].toNat ≤ _; omega) (fun h0 => ?_)
  have hl : (chp (es.take k)).length = k := by rw [chp_length, List.length_take]; omega
  have h3 : 0 < k := by omega
  have h4 := chp_get (es.take k) (k - 1) (by rw [List.length_take]; omega)
  have h5 : es[k - 1].toNat < es[k].toNat := by
    rcases h2 with h2 | h2
    · omega
    · rw [getD_of (by omega)] at h2
      omega
  simp only [hl]
  rw [h4]
  simpa using h5

attribute [local go_sem ↓] fold_bldNm fold_bldPt fold_bldLnk
attribute [local go_sem] run_bldPt run_bldLnk
set_option maxRecDepth 100000 in
set_option maxHeartbeats 6400000 in
theorem chains13_walk (s so : Sl) (es : List UInt64) (os : List Int) (w : World) (hs : SlR 1 U64C w s es) (ho : SlR 1 IntC w so os) :
    Calls Try.prog 4 #[s.v, so.v] w fun e w' => e = .returned (.bool true) ∧ Below w.heap.size w w' := by
  obtain ⟨sa, sn, sc⟩ := s
  obtain rfl : sn = es.length := hs.1
  obtain ⟨oa, on, oc⟩ := so
  obtain rfl : on = os.length := ho.1
  have HK := fun W => known13_c W
  replace hs := Lib.hid hs
  replace ho := Lib.hid ho
  show Calls Try.prog 4 #[.slice sa es.length sc, .slice oa os.length oc] w _
  by_cases hall : 1 ≤ es.length ∧ es.length ≤ 60 ∧ os.length ≤ 200
  case neg =>
    have hor : (es.length : Int) < 1 ∨ (¬ (es.length : Int) < 1 ∧ (60 : Int) < (es.length : Int)) ∨ (¬ (es.length : Int) < 1 ∧ ¬ (60 : Int) < (es.length : Int) ∧ (200 : Int) < (os.length : Int)) := by omega
    clear hall
    go_enter Try.func4, Try.ntmps4
    rcases hor with c1 | ⟨c1, c2⟩ | ⟨c1, c2, c3⟩
    all_goals
      go_wp2_with (go_at_call 21; refine (HK _).mono ?_; rintro e w1 ⟨rfl, hb⟩)
      go_ret
      exact ⟨rfl, by (repeat' (first | (with_reducible exact Below.refl _ _) | (with_reducible assumption) | (with_reducible refine bel_trans (by assumption) ?_ ?_) | (with_reducible refine bel_grown (by assumption) ?_ ?_ ?_) | (with_reducible refine Below.alloc ?_ ?_ _) | (with_reducible refine Below.drew ?_) | (with_reducible refine below_drewN ?_ _) | (with_reducible refine Below.setCell ?_ ?_ _) | (with_reducible refine below_put ?_ ?_ _ _) | (with_reducible exact Nat.le_refl _) | omega | (with_reducible refine Nat.le_trans ?_ (Below.size (by assumption))) | (with_reducible refine Nat.le_trans ?_ (World.grownBy.size (by assumption))) | (simp only [World.size_alloc, World.size_setCell, World.size_drew, size_drewN]; omega) | (simp only [World.size_alloc, World.size_setCell, World.size_drew, size_drewN, size_put]; omega) | (intro k hk; simp [Value.ownBlock] at hk; done) | (intro k hk; simp [Value.ownBlock] at hk; omega) | (simp [size_drewN] at *; omega)))⟩
  obtain ⟨l1, l2, l3⟩ := hall
  have c1 : ¬ (es.length : Int) < 1 := by omega
  have c2 : ¬ (60 : Int) < (es.length : Int) := by omega
  have c3 : ¬ (200 : Int) < (os.length : Int) := by omega
  go_enter Try.func4, Try.ntmps4
  go_wp2_with fail
  -- loop 1
  go_loopw [5, 6] (fun u i W => ∃ k : Nat, k ≤ es.length ∧ i = .int .i64 k ∧ Hid (OwnP W w.heap.size u (chp (es.take k))) ∧ Hid (Rise (chp (es.take k))) ∧ Hid (Below w.heap.size w W)) (fun _ i _ => es.length - (intOf i).toNat)
  case atStart => exact ⟨0, Nat.zero_le _, rfl, Lib.hid (OwnP.nil _ _), Lib.hid Rise.nil, Lib.hid (by (repeat' (first | (with_reducible exact Below.refl _ _) | (with_reducible assumption) | (with_reducible refine bel_trans (by assumption) ?_ ?_) | (with_reducible refine bel_grown (by assumption) ?_ ?_ ?_) | (with_reducible refine Below.alloc ?_ ?_ _) | (with_reducible refine Below.drew ?_) | (with_reducible refine below_drewN ?_ _) | (with_reducible refine Below.setCell ?_ ?_ _) | (with_reducible refine below_put ?_ ?_ _ _) | (with_reducible exact Nat.le_refl _) | omega | (with_reducible refine Nat.le_trans ?_ (Below.size (by assumption))) | (with_reducible refine Nat.le_trans ?_ (World.grownBy.size (by assumption))) | (simp only [World.size_alloc, World.size_setCell, World.size_drew, size_drewN]; omega) | (simp only [World.size_alloc, World.size_setCell, World.size_drew, size_drewN, size_put]; omega) | (intro k hk; simp [Value.ownBlock] at hk; done) | (intro k hk; simp [Value.ownBlock] at hk; omega) | (simp [size_drewN] at *; omega))))⟩
  case round =>
    obtain ⟨k, hk, rfl, hP, hR, hB⟩ := hrel
    obtain ⟨⟨pa, pn, pc⟩, hu⟩ := hP.out.slice
    replace hu : _ = Value.slice pa pn pc := hu
    subst hu
    by_cases hkx : k < es.length
    ·
      -- DEV<
      as_aux_lemma =>
        obtain ⟨g, og, e, hg, hc⟩ := (U64sR.keepC hs.out hB.out).at (by omega)
        have e1 := congrArg Sl.a e
        simp only at e1
        subst e1
        clear e
        have j0 : (0 : Int) ≤ (k : Int) := by omega
        have j1 : (k : Int) < (es.length : Int) := by omega
        have hce : ∀ (i : Nat) (hi : i < es.length), wr.cell? ⟨g, og + i, none⟩ = some (.int .u64 (es[i].toNat : Int)) := fun i hi => by
          obtain ⟨cs, h1, h2⟩ := hc i hi
          subst h2
          have := cell_of_row? h1 0 (by omega)
          simpa using this
        clear hc
        have hnext := Lib.hid (chp_succ es k hkx)
        have hRs := Lib.hid (rise_step es k hkx hR.out)
        have hck := hce k hkx
        have hw8 : IntKind.u8.wrap (k : Int) = (k : Int) := IntWalk.u8_in _ (by omega)
        have hNm := fun W => run_bldNm k (by omega) W
        have hbad := Lib.hid (show badE es k = (decide (4611686018427387904 < es[k].toNat) || (decide (0 < k) && decide (es[k].toNat ≤ (es.getD (k - 1) 0).toNat))) by rw [badE, getD_of hkx])
        have hlow : ∀ (m : Nat), k = m + 1 → wr.cell? ⟨g, og + m, none⟩ = some (.int .u64 ((es.getD (k - 1) 0).toNat : Int)) := fun m hm => by
          rw [hce m (by omega), show k - 1 = m by omega, getD_of (by omega)]
        clear hce
        generalize badE es k = bd at *
        generalize es.getD (k - 1) 0 = y at *
        generalize es[k] = x at *
        replace hlow := Lib.hid hlow
        go_upto_region 7 with fail
        go_cut [53] from 27 to 65 (fun b W => b = .bool bd ∧ Hid (Below wr.heap.size wr W))
        case first =>
          clear hNm
          by_cases g1 : (4611686018427387904 : Int) < (x.toNat : Int)
          · have d1 : decide ((4611686018427387904 : Int) < (x.toNat : Int)) = true := decide_eq_true g1
            have hb2 := Lib.hid (show bd = true by rw [hbad.out, decide_eq_true (by omega)]; rfl)
            go_wp2_with fail
            go_quiet (fail)
            go_wp2_with fail
            go_meet
            exact ⟨by rw [hb2.out], Lib.hid (below_drewN (Below.refl _ _) _)⟩
          · have d1 : decide ((4611686018427387904 : Int) < (x.toNat : Int)) = false := decide_eq_false g1
            by_cases hk0 : (0 : Int) < (k : Int)
            · obtain ⟨m, hm⟩ : ∃ m, k = m + 1 := ⟨k - 1, by omega⟩
              have hcm := hlow.out m hm
              have d2 : decide ((0 : Int) < (k : Int)) = true := decide_eq_true hk0
              have m0 : (0 : Int) ≤ (m : Int) := by omega
              have m1 : (m : Int) < (es.length : Int) := by omega
              have hwm : IntKind.i64.wrap ((k : Int) - 1) = (m : Int) := by rw [IntWalk.i64_in _ (by omega)]; omega
              have hkp : 0 < k := by omega
              replace hm := Lib.hid hm
              by_cases g3 : (x.toNat : Int) ≤ (y.toNat : Int)
              · have d3 : decide ((x.toNat : Int) ≤ (y.toNat : Int)) = true := decide_eq_true g3
                have hb2 := Lib.hid (show bd = true by rw [hbad.out, decide_eq_true hkp, decide_eq_true (show x.toNat ≤ y.toNat by omega)]; simp)
                go_wp2_with fail
                go_quiet (fail)
                go_wp2_with fail
                go_meet
                exact ⟨by rw [hb2.out], Lib.hid (below_drewN (Below.refl _ _) _)⟩
              · have d3 : decide ((x.toNat : Int) ≤ (y.toNat : Int)) = false := decide_eq_false g3
                have hb2 := Lib.hid (show bd = false by rw [hbad.out, decide_eq_false (show ¬ 4611686018427387904 < x.toNat by omega), decide_eq_false (show ¬ x.toNat ≤ y.toNat by omega)]; simp)
                go_wp2_with fail
                go_quiet (fail)
                go_wp2_with fail
                go_meet
                exact ⟨by rw [hb2.out]; first | rfl | rw [decide_eq_false (by omega)], Lib.hid (below_drewN (Below.refl _ _) _)⟩
            · have d2 : decide ((0 : Int) < (k : Int)) = false := decide_eq_false hk0
              have d2n : decide (0 < k) = false := decide_eq_false (by omega)
              have hkp : ¬ 0 < k := by omega
              have hb2 := Lib.hid (show bd = false by rw [hbad.out, decide_eq_false (show ¬ 4611686018427387904 < x.toNat by omega), decide_eq_false (show ¬ 0 < k by omega)]; simp)
              go_wp2_with fail
              go_quiet (fail)
              go_wp2_with fail
              go_meet
              exact ⟨by rw [hb2.out], Lib.hid (below_drewN (Below.refl _ _) _)⟩
        case rest =>
          obtain ⟨rfl, hwc⟩ := hcut
          have hck2 : wc.cell? ⟨g, og + k, none⟩ = some (.int .u64 (x.toNat : Int)) := ((kept hwc.out).1 _ _ hg).trans hck
          have hP2 := Lib.hid (hP.out.keep hwc.out)
          have hB2 := Lib.hid (hB.out.trans (hwc.out.mono hB.out.size))
          have hlen : (chp (es.take k)).length ≤ 60 := by rw [chp_length, List.length_take]; omega
          clear hck hwc hlow hP hB
          cases bd
          · have hR2 := Lib.hid (hRs.out rfl)
            clear hRs hbad
            go_wp2_with (at_builtin; refine wpList_append_pts _ rfl (.tmp 55) (.tmp 64) (by rfl) w.heap.size _ (chp (es.take k)) (by rfl) (hP2.out.keep (bel_a _ _)) ⟨some ⟨_, 0, none⟩, 1, 1⟩ [⟨x, nmH k⟩] (by rfl) (PtsR.one _ _ _ _ rfl) (by simp; omega) (by have := hB2.out.size; simp; omega) ?_; intro v' w4 hown4 hg4 _)
            have hB5 : Below w.heap.size w w4 := bel_grown hg4 (hB2.out.trans ((bel_a _ _).mono hB2.out.size)) (by have := hB2.out.size; simp; omega) (fun k hk => (OwnC.lt hP2.out k hk).1)
            go_roundw
            case rel => exact ⟨k + 1, by omega, by go_num, Lib.hid (by rw [hnext.out]; exact hown4), hR2, Lib.hid hB5⟩
            case measure => (first | omega | (simp [intOf]; done) | (simp [intOf]; omega))
          · go_wp2_with fail
            refine (HK _).mono ?_
            rintro e w7 ⟨rfl, hb7⟩
            go_wp2_with fail
            go_ret
            exact ⟨rfl, hB2.out.trans (hb7.mono hB2.out.size)⟩
      -- DEV>
    · obtain rfl : k = es.length := by omega
      rw [List.take_length] at hP hR
      have hPl := chp_length es
      generalize chp es = P at *
      have hrP : PtsR wr ⟨pa, pn, pc⟩ P := OwnP.reads (s := ⟨pa, pn, pc⟩) hP.out
      obtain rfl : pn = P.length := hrP.1
      have hP0 : 0 < P.length := by omega
      have hP60 : P.length ≤ 60 := by omega
      clear hkx hk hPl hP c1 c2
      obtain ⟨gp, op, e, hgp, hcp⟩ := hrP.at hP0
      have e1 := congrArg Sl.a e
      simp only at e1
      subst e1
      clear e
      obtain ⟨cs, hr0, hcs⟩ := hcp 0 hP0
      subst hcs
      clear hcp
      simp only [Nat.zero_mul, Nat.add_zero] at hr0
      have hmay : mayPt P[0] = true := by unfold mayPt; exact decide_eq_true (hR.out.may 0 hP0)
      have HN := fun W => new_x P[0] W hmay
      have hJus := Lib.hid (fun la hA q => ch_jus (A := la) hP0 hA q)
      have hFin := Lib.hid (show ∀ la : List Lnk, (∀ x, x ∈ la ↔ Lk P x) → ∀ (i : Nat) (hi : i < P.length), Fin (P[0]'hP0) la P[i] ↔ i = 0 ∨ ∃ h : i + 1 < P.length, P[i + 1].epoch = P[i].epoch + 1 from fun la hA i hi => ch_fin (A := la) hR.out hA i hi)
      generalize P[0] = A at *
      have hl0 : (0 : Int) < (P.length : Int) := by omega
      clear hmay
      replace hrP := Lib.hid hrP
      generalize wr = v at *
      go_wp2_with fail
      refine (HN _).mono ?_
      rintro e w1 ⟨r, rfl, hG, hb1⟩
      obtain ⟨K, hK⟩ : ∃ K : List Lnk → World → Prop, K = fun la W => GadX W v.heap.size r A la ∧ Below v.heap.size v W := ⟨_, rfl⟩
      have hKg : ∀ la W, K la W → GadX W v.heap.size r A la := fun la W h => by rw [hK] at h; exact h.1
      have hKb : ∀ la W, K la W → Below v.heap.size v W := fun la W h => by rw [hK] at h; exact h.2
      have hK1 : Hid (K [] w1) := Lib.hid (by rw [hK]; exact ⟨hG, hb1⟩)
      have hKst : ∀ la W W', K la W → Below W.heap.size W W' → K la W' := fun la W W' h hb => by
        have h1 := hKg _ _ h
        have h2 := hKb _ _ h
        rw [hK]
        exact ⟨h1.keep hb, h2.trans (hb.mono h2.size)⟩
      have hKadd : ∀ la la' W W', K la W → GadX W' v.heap.size r A la' → Below v.heap.size W W' → K la' W' := fun la la' W W' h hg hb => by
        have h2 := hKb _ _ h
        rw [hK]
        exact ⟨hg, h2.trans hb⟩
      clear hK hG hb1 hr0 HN
      have hKrow : ∀ la W, K la W → ∀ (i : Nat) (h : i < P.length), row? W gp (op + i * 33) 33 = some (pointA P[i]) := fun la W h i hi => by
        obtain ⟨g', o', e, _, hc'⟩ := (hrP.out.keep' (hKb _ _ h)).at hP0
        have e1 := congrArg Sl.a e
        cases e1
        obtain ⟨cs, h1, h2⟩ := hc' i hi
        rw [h1, h2]
      have hKo : ∀ la W, K la W → SlR 1 IntC W ⟨oa, os.length, oc⟩ os := fun la W h => IntsR.keepC ho.out (hB.out.trans ((hKb _ _ h).mono hB.out.size))
      have hKB : ∀ la W, K la W → Below w.heap.size w W := fun la W h => hB.out.trans ((hKb _ _ h).mono hB.out.size)
      have HS := fun (W : World) (la : List Lnk) (x : Lnk) (h : K la W) (hn : la.length < 1000) => (strong_x x (hKg _ _ h) hn).mono (R' := fun e w' => ∃ n, e = .returned (.int .i64 n) ∧ K (addL la x) w') (fun e w' hh => ⟨_, hh.1, hKadd _ _ _ _ h hh.2.1 hh.2.2⟩)
      have HJB := fun (W : World) (la : List Lnk) (y : Pt) (h : K la W) => justified_x y (hKg _ _ h)
      have HFB := fun (W : World) (la : List Lnk) (y : Pt) (h : K la W) => final_x y (hKg _ _ h)
      have HH := fun (W : World) (la : List Lnk) (h : K la W) (hn : la.length ≤ 1000) => (highest_x (hKg _ _ h) hn).mono (R' := fun e w' => e = .returned (.agg (pointA ((JL A la).getLast (JL_ne A la)))) ∧ K la w') (fun e w' hh => ⟨hh.1, hKst _ _ _ h hh.2⟩)
      obtain ⟨m, hm⟩ : ∃ m, P.length = m + 1 := ⟨P.length - 1, by omega⟩
      have hPm := Lib.hid (show (P.length : Int) - 1 = (m : Int) by omega)
      replace hm := Lib.hid hm
      replace hB := Lib.hid hB.out
      clear hKg hKb hKadd
      go_wp2_with fail
      -- loop 2
      go_loopw [9] (fun i W => ∃ (k : Nat) (la : List Lnk), k ≤ os.length ∧ i = .int .i64 k ∧ la.length ≤ k ∧ Hid (K la W) ∧ Hid (∀ x ∈ la, Lk P x)) (fun i _ => os.length - (intOf i).toNat)
      case atStart => exact ⟨0, [], Nat.zero_le _, rfl, Nat.le_refl _, hK1, Lib.hid (fun x hx => by cases hx)⟩
      case round =>
        clear hK1
        obtain ⟨k, la, hk, rfl, hla, hKw, hLk⟩ := hrel
        by_cases hgo : k < os.length ∧ 0 < m
        ·
          -- DEV<
          as_aux_lemma =>
            obtain ⟨hkx, hm0⟩ := hgo
            obtain ⟨g2, og2, e, hg2, hc2⟩ := (hKo _ _ hKw.out).at (by omega)
            have e1 := congrArg Sl.a e
            simp only at e1
            subst e1
            clear e
            obtain ⟨cs, hcx, hcs, hx0, hx1⟩ := hc2 k hkx
            subst hcs
            clear hc2
            generalize os[k] = x at *
            obtain ⟨i1, i2, i3, i4⟩ := idx_in2 x m hm0 (by have := hm.out; omega)
            obtain ⟨j, hj⟩ : ∃ j : Nat, (x.tmod m + m).tmod m = (j : Int) := ⟨_, (Int.toNat_of_nonneg i1).symm⟩
            have hjm : j < m := by omega
            have hjl : j + 1 < P.length := by have := hm.out; omega
            replace hj : (x.tmod m + (P.length : Int) - 1).tmod m = (j : Int) := by rw [← hj, Int.add_sub_assoc, hPm.out]
            have hPm2 := hPm.out
            have hce := cell_of_row? hcx 0 (by omega)
            simp only [Nat.add_zero, Nat.mul_one] at hce
            have j0 : (0 : Int) ≤ (k : Int) := by omega
            have j1 : (k : Int) < (os.length : Int) := by omega
            have j2 : (0 : Int) < (m : Int) := by omega
            have j3 : (k : Int) < (os.length : Int) ∧ (1 : Int) < (P.length : Int) := by have := hm.out; omega
            have hrows := fun (W : World) (h : K la W) => And.intro (hKrow la W h j (by omega)) (hKrow la W h (j + 1) hjl)
            have hrows2 := fun (W : World) (h : K (addL la ⟨P[j], P[j + 1]⟩) W) => And.intro (hKrow (addL la ⟨P[j], P[j + 1]⟩) W h j (by omega)) (hKrow (addL la ⟨P[j], P[j + 1]⟩) W h (j + 1) hjl)
            have hLk2 := Lib.hid (show ∀ x ∈ addL la ⟨P[j], P[j + 1]⟩, Lk P x from fun x hx => by
              rcases (mem_addL _ _ _).1 hx with h | ⟨rfl, h⟩
              · exact hLk.out x h
              · exact ⟨j, hjl, rfl⟩)
            have hla2 := addL_length la ⟨P[j], P[j + 1]⟩
            have HS2 := fun (W : World) (h : K la W) => HS W la ⟨P[j], P[j + 1]⟩ h (by omega)
            generalize P[j] = p at *
            generalize P[j + 1] = q at *
            generalize addL la ⟨p, q⟩ = la2 at *
            go_upto_region 17 with fail
            have hKd : K la wr.drew := hKst _ _ _ hKw.out (below_drewN (Below.refl wr.heap.size wr) 1)
            have hSd := hrows _ hKd
            have w1' : IntKind.i64.wrap ((j : Int) + 1) = (j : Int) + 1 := IntWalk.i64_in _ (by omega)
            have w2' : ((j : Int) + 1).toNat = j + 1 := by omega
            have w3' : (0 : Int) ≤ (j : Int) + 1 ∧ (j : Int) + 1 < (P.length : Int) := by omega
            obtain ⟨w4', w5'⟩ := w3'
            have w6' : (0 : Int) ≤ (j : Int) := by omega
            have w7' : (j : Int) < (P.length : Int) := by omega
            go_region_held3 (fun W => row? W gp (op + j * 33) 33 = some (pointA p) ∧ row? W gp (op + (j + 1) * 33) 33 = some (pointA q))
              (first | go_keep | (with_reducible assumption))
              (first
                | (go_simp; go_at_call 23; (with_reducible refine (HS2 _ (by assumption)).mono ?_); rintro e w5 ⟨n5, rfl, hK5⟩; have hS5 := hrows2 _ hK5))
            rename_i hHeld
            clear hHeld hSd hS5 w1' w2' w4' w5' w6' w7' hrows hrows2 HS2 hce hcx hj
            replace hK5 := Lib.hid hK5
            go_wp2_with fail
            go_roundw
            case rel => exact ⟨k + 1, la2, by omega, by go_num, by omega, hK5, hLk2⟩
            case measure => (first | omega | (simp [intOf]; done) | (simp [intOf]; omega))
          -- DEV>
        · have hex : (os.length : Int) ≤ (k : Int) ∨ ((k : Int) < (os.length : Int) ∧ (P.length : Int) ≤ 1) := by have := hm.out; omega
          have hla2 : la.length ≤ 200 := by omega
          clear hgo hk hla
          have hm0 : m < P.length := by have := hm.out; omega
          have hNo := Lib.hid (show ∀ (j : Nat) (h : j + 1 < P.length), m ≤ j → (⟨P[j], P[j + 1]⟩ : Lnk) ∈ la from fun j h1 h2 => by have := hm.out; omega)
          go_upto_region 14 with fail
          go_cut [83] from 75 to 113 (fun b W => b = .bool false ∧ W = wr)
          case first =>
            rcases hex with q1 | ⟨q1, q2⟩
            all_goals
              go_wp2_with fail
              go_meet
              exact ⟨congrArg Value.bool (by first | rfl | exact decide_eq_false (by omega)), rfl⟩
          case rest =>
            obtain ⟨rfl, hwc⟩ := hcut
            subst hwc
            clear hex
            go_wp2_with fail
            -- loop 3
            go_loopw [11] (fun i W => ∃ (k : Nat) (la : List Lnk), k < P.length ∧ i = .int .i64 k ∧ la.length + k ≤ 300 ∧ Hid (K la W) ∧ Hid (∀ x ∈ la, Lk P x) ∧ Hid (∀ (j : Nat) (h : j + 1 < P.length), k ≤ j → (⟨P[j], P[j + 1]⟩ : Lnk) ∈ la)) (fun i _ => (intOf i).toNat)
            case atStart => exact ⟨m, la, hm0, by rw [hPm.out], by omega, hKw, hLk, hNo⟩
            case round =>
              clear hKw hLk hNo hm0 hla2
              obtain ⟨k, la, hk, rfl, hla, hKw, hLk, hin⟩ := hrel
              by_cases hk0 : (0 : Int) < (k : Int)
              ·
                -- DEV<
                as_aux_lemma =>
                  obtain ⟨j, hj⟩ : ∃ j, k = j + 1 := ⟨k - 1, by omega⟩
                  have hjl : j + 1 < P.length := by omega
                  have hkj := Lib.hid hj
                  have hjl' : j < P.length := by omega
                  have hrows := fun (la : List Lnk) (W : World) (h : K la W) => And.intro (hKrow la W h j hjl') (hKrow la W h k hk)
                  have hLk2 := Lib.hid (show ∀ x ∈ addL la ⟨P[j], P[k]⟩, Lk P x from fun x hx => by
                    rcases (mem_addL _ _ _).1 hx with h | ⟨rfl, h⟩
                    · exact hLk.out x h
                    · exact ⟨j, hjl, by subst hj; rfl⟩)
                  have hin2 := Lib.hid (show ∀ (i : Nat) (h : i + 1 < P.length), j ≤ i → (⟨P[i], P[i + 1]⟩ : Lnk) ∈ addL la ⟨P[j], P[k]⟩ from fun i h1 h2 => by
                    subst hj
                    by_cases e : i = j
                    · subst e
                      exact (mem_addL _ _ _).2 (.inr ⟨rfl, Lk.good hR.out ⟨i, h1, rfl⟩⟩)
                    · exact (mem_addL _ _ _).2 (.inl (hin.out i h1 (by omega))))
                  have hla2 := addL_length la ⟨P[j], P[k]⟩
                  have HS2 := fun (W : World) (h : K la W) => HS W la ⟨P[j], P[k]⟩ h (by omega)
                  have hjk : (k : Int) - 1 = (j : Int) := by omega
                  clear hin
                  generalize P[j] = p at *
                  generalize P[k] = q at *
                  generalize addL la ⟨p, q⟩ = la2 at *
                  go_upto_region 21 with fail
                  have hKd : K la wr.drew := hKst _ _ _ hKw.out (below_drewN (Below.refl wr.heap.size wr) 1)
                  have hSd := hrows _ _ hKd
                  have w1' : IntKind.i64.wrap ((k : Int) - 1) = (j : Int) := by rw [IntWalk.i64_in _ (by omega), hjk]
                  have w2' : (0 : Int) ≤ (j : Int) := by omega
                  have w3' : (j : Int) < (P.length : Int) := by omega
                  have w4' : (0 : Int) ≤ (k : Int) := by omega
                  have w5' : (k : Int) < (P.length : Int) := by omega
                  clear hj
                  replace hjk := Lib.hid hjk
                  go_region_held3 (fun W => row? W gp (op + j * 33) 33 = some (pointA p) ∧ row? W gp (op + k * 33) 33 = some (pointA q))
                    (first | go_keep | (with_reducible assumption))
                    (first
                      | (go_simp; go_at_call 23; (with_reducible refine (HS2 _ (by assumption)).mono ?_); rintro e w5 ⟨n5, rfl, hK5⟩; have hS5 := hrows _ _ hK5))
                  rename_i hHeld
                  clear hHeld hSd hS5 w1' w2' w3' w4' hrows HS2
                  replace hK5 := Lib.hid hK5
                  go_wp2_with fail
                  go_roundw
                  case rel => exact ⟨j, la2, hjl', by rw [hjk.out], by have := hkj.out; omega, hK5, hLk2, hin2⟩
                  case measure => (first | omega | (simp [intOf]; done) | (simp [intOf]; omega))
                -- DEV>
              · obtain rfl : k = 0 := by omega
                have hA : ∀ x, x ∈ la ↔ Lk P x := fun x => ⟨hLk.out x, fun h => by
                  obtain ⟨i, hi, rfl⟩ := h
                  exact hin.out i hi (Nat.zero_le _)⟩
                have hJ : ∀ (i : Nat) (h : i < P.length), decide (P[i] ∈ JL A la) = true := fun i h => decide_eq_true ((JL_mem _ _ _).2 ((hJus.out la hA _).2 (List.getElem_mem h)))
                have hF : ∀ (i : Nat) (h : i < P.length), decide (P[i] ∈ FL A la) = decide (i = 0 ∨ ∃ h : i + 1 < P.length, P[i + 1].epoch = P[i].epoch + 1) := fun i h => decide_eq_decide.2 ((FL_mem _ _ _).trans (hFin.out la hA i h))
                have hL : (JL A la).getLast (JL_ne A la) = P[P.length - 1] := by
                  have e : JL A la = P := sorted_uniq (JL_sorted _ _) hR.out.sorted fun q => (JL_mem _ _ _).trans (hJus.out la hA q)
                  rw [List.getLast_eq_getElem]
                  simp only [e]
                have hla3 : la.length ≤ 1000 := by omega
                replace hJ := Lib.hid hJ
                replace hF := Lib.hid hF
                replace hL := Lib.hid hL
                clear hA hLk hin hla hk hk0
                go_wp2_with fail
                go_loopw [12] (fun i W => ∃ c : Nat, c ≤ P.length ∧ i = .int .i64 c ∧ Hid (K la W)) (fun i _ => P.length - (intOf i).toNat)
                case atStart => exact ⟨0, Nat.zero_le _, rfl, hKw⟩
                case round =>
                  clear hKw
                  obtain ⟨c, hc, rfl, hKw⟩ := hrel
                  by_cases hcx : c < P.length
                  · have hFc := hF.out c hcx
                    obtain ⟨bf, hbf⟩ : ∃ bf, bf = decide (c = 0 ∨ ∃ h : c + 1 < P.length, P[c + 1].epoch = P[c].epoch + 1) := ⟨_, rfl⟩
                    have HJ3 : ∀ W, Below wr.heap.size wr W → Calls Try.prog 24 #[.pointer (some ⟨r, 0, none⟩), .agg (pointA P[c])] W fun e w' => e = .returned (.bool true) ∧ Below W.heap.size W w' := fun W h => by
                      have := HJB W la P[c] (hKst _ _ _ hKw.out h)
                      rw [hJ.out c hcx] at this
                      exact this
                    have HF3 : ∀ W, Below wr.heap.size wr W → Calls Try.prog 25 #[.pointer (some ⟨r, 0, none⟩), .agg (pointA P[c])] W fun e w' => e = .returned (.bool bf) ∧ Below W.heap.size W w' := fun W h => by
                      have := HFB W la P[c] (hKst _ _ _ hKw.out h)
                      rw [hFc, ← hbf] at this
                      exact this
                    have hKd : K la wr.drew := hKst _ _ _ hKw.out (below_drewN (Below.refl wr.heap.size wr) 1)
                    have i0 : (0 : Int) ≤ (c : Int) := by omega
                    have i1 : (c : Int) < (P.length : Int) := by omega
                    clear hFc
                    by_cases hc0 : c = 0
                    ·
                      -- DEV<
                      as_aux_lemma =>
                        have hbf1 : bf = true := by rw [hbf]; exact decide_eq_true (.inl hc0)
                        have hz : ((c : Int) == 0) = true := by rw [hc0]; rfl
                        have hSd := fun (W : World) (h : Below wr.heap.size wr W) => hKrow la W (hKst _ _ _ hKw.out h) c hcx
                        clear hbf
                        replace hc0 := Lib.hid hc0
                        subst hbf1
                        generalize P[c] = x at *
                        go_upto_region 25 with fail
                        refine wp_region_freeG_l (fun W W' => Below W.heap.size W W') (by kernel_rfl) [139, 140, 141, 142, 143, 144, 145, 146, 147, 148, 149, 150, 151, 152, 153, 154, 155, 156, 157, 158, 159, 160, 161, 162, 163, 164, 165, 166, 167, 168, 169, 170, 171, 172, 173, 174, 175, 176, 177, 178]
                          [Is (.pointer (some ⟨r, 0, none⟩)), Is (.slice (some ⟨gp, op, none⟩) P.length pc), Is (.int .i64 (c : Int)), Is (.pointer (some ⟨gp, op + c * 33, none⟩)), Is (.agg (pointA x)), Is (.bool true), Is (.bool false), Is (.bool false), Is (.pointer (some ⟨r, 0, none⟩)), Is (.slice (some ⟨gp, op, none⟩) P.length pc), Is (.int .i64 (c : Int)), Is (.pointer (some ⟨gp, op + c * 33, none⟩)), Is (.agg (pointA x)), Is (.bool true), Is (.int .i64 (c : Int)), Is (.bool true), Is (.bool true), Is (undef), Is (undef), Is (undef), Is (undef), Is (undef), Is (undef), Is (undef), Is (undef), Is (undef), Is (undef), Is (undef), Is (undef), Is (undef), Is (undef), Is (undef), Is (undef), Is (undef), Is (undef), Is (undef), Is (undef), Is (.bool true), Is (.bool false), Is (.bool false)]
                          (by kernel_rfl) (fun W W' h hb => hb.trans (h.mono hb.size)) ?_ ?_ ?_
                        · intro f hf
                          simp only [List.mem_cons, List.not_mem_nil, or_false] at hf
                          rcases hf with rfl | rfl | rfl | rfl | rfl | rfl | rfl | rfl | rfl | rfl | rfl | rfl | rfl | rfl | rfl | rfl | rfl | rfl | rfl | rfl | rfl | rfl | rfl | rfl | rfl | rfl | rfl | rfl | rfl | rfl | rfl | rfl | rfl | rfl | rfl | rfl | rfl | rfl | rfl | rfl <;> intro x W W' h hr <;> first | exact h
                        · refine ⟨?_, ?_, ?_, ?_, ?_, ?_, ?_, ?_, ?_, ?_, ?_, ?_, ?_, ?_, ?_, ?_, ?_, ?_, ?_, ?_, ?_, ?_, ?_, ?_, ?_, ?_, ?_, ?_, ?_, ?_, ?_, ?_, ?_, ?_, ?_, ?_, ?_, ?_, ?_, ?_, trivial⟩
                          · intro L ax W hf hd
                            try simp [Region.binds] at hd
                            have e7 : ax.tmps[7]?.getD undef = .pointer (some ⟨r, 0, none⟩) := hf.out 7 (by decide) rfl
                            refine ⟨fun _ => ?_, fun h => absurd trivial h⟩
                            refine free_run (v := .pointer (some ⟨r, 0, none⟩)) (W' := W) rfl ?_ rfl (Below.refl _ _)
                            go_simp
                          · intro L ax W hf hd
                            try simp [Region.binds] at hd
                            have e5 : ax.tmps[5]?.getD undef = .slice (some ⟨gp, op, none⟩) P.length pc := hf.out 5 (by decide) rfl
                            refine ⟨fun _ => ?_, fun h => absurd trivial h⟩
                            refine free_run (v := .slice (some ⟨gp, op, none⟩) P.length pc) (W' := W) rfl ?_ rfl (Below.refl _ _)
                            go_simp
                          · intro L ax W hf hd
                            try simp [Region.binds] at hd
                            have e12 : ax.tmps[12]?.getD undef = .int .i64 (c : Int) := hf.out 12 (by decide) rfl
                            refine ⟨fun _ => ?_, fun h => absurd trivial h⟩
                            refine free_run (v := .int .i64 (c : Int)) (W' := W) rfl ?_ rfl (Below.refl _ _)
                            go_simp
                          · intro L ax W hf hd
                            simp [Region.binds] at hd
                            have e140 : ax.tmps[140]?.getD undef = .slice (some ⟨gp, op, none⟩) P.length pc := slv (hf.got 1 (by decide) (by simp [hd]))
                            have e141 : ax.tmps[141]?.getD undef = .int .i64 (c : Int) := slv (hf.got 2 (by decide) (by simp [hd]))
                            refine ⟨fun _ => ?_, fun h => absurd trivial h⟩
                            refine free_run (v := .pointer (some ⟨gp, op + c * 33, none⟩)) (W' := W) rfl ?_ rfl (Below.refl _ _)
                            go_simp
                          · intro L ax W hf hd
                            simp [Region.binds] at hd
                            have e142 : ax.tmps[142]?.getD undef = .pointer (some ⟨gp, op + c * 33, none⟩) := slv (hf.got 3 (by decide) (by simp [hd]))
                            refine ⟨fun _ => ?_, fun h => absurd trivial h⟩
                            have r1 := hSd W hf.below
                            refine free_run (v := .agg (pointA x)) (W' := W) rfl ?_ rfl (Below.refl _ _)
                            go_simp
                          · intro L ax W hf hd
                            simp [Region.binds] at hd
                            have e139 : ax.tmps[139]?.getD undef = .pointer (some ⟨r, 0, none⟩) := slv (hf.got 0 (by decide) (by simp [hd]))
                            have e143 : ax.tmps[143]?.getD undef = .agg (pointA x) := slv (hf.got 4 (by decide) (by simp [hd]))
                            refine ⟨fun _ => ?_, fun h => absurd trivial h⟩
                            refine free_call (f := 24) (args := #[.pointer (some ⟨r, 0, none⟩), .agg (pointA x)]) rfl (by go_simp) ?_
                            refine (HJ3 W hf.below).mono ?_
                            rintro e w' ⟨rfl, hb⟩
                            exact ⟨_, rfl, rfl, hb⟩
                          · intro L ax W hf hd
                            simp [Region.binds] at hd
                            have e144 : ax.tmps[144]?.getD undef = .bool true := slv (hf.got 5 (by decide) (by simp [hd]))
                            refine ⟨fun _ => ?_, fun h => absurd trivial h⟩
                            refine free_run (v := .bool false) (W' := W) rfl ?_ rfl (Below.refl _ _)
                            go_simp
                          · intro L ax W hf hd
                            simp [Region.binds] at hd
                            have e145 : ax.tmps[145]?.getD undef = .bool false := slv (hf.got 6 (by decide) (by simp [hd]))
                            refine ⟨fun _ => ?_, fun h => absurd trivial h⟩
                            refine free_run (v := .bool false) (W' := W) rfl ?_ rfl (Below.refl _ _)
                            go_simp
                          · intro L ax W hf hd
                            simp [Region.binds] at hd
                            have e7 : ax.tmps[7]?.getD undef = .pointer (some ⟨r, 0, none⟩) := hf.out 7 (by decide) rfl
                            have g0 : sl ax 146 = .bool false := hf.got 7 (by decide) (by simp [hd])
                            refine ⟨fun hh => ?_, fun hh => ?_⟩
                            · first
                                | (exact absurd (g0.symm.trans hh) (undef_ne _))
                                | (exact absurd (g0.symm.trans hh) (bool_ne (by decide)))
                                | (exfalso; revert hh; simp [Held, g0, *]; done)
                                | (refine free_run (v := .pointer (some ⟨r, 0, none⟩)) (W' := W) rfl ?_ rfl (Below.refl _ _); go_simp)
                            · first
                                | (exact absurd g0 hh)
                                | (exfalso; revert hh; simp [Held, g0, *]; done)
                                | (show undef = _; first | rfl | (simp [*]; done))
                          · intro L ax W hf hd
                            simp [Region.binds] at hd
                            have e5 : ax.tmps[5]?.getD undef = .slice (some ⟨gp, op, none⟩) P.length pc := hf.out 5 (by decide) rfl
                            have g0 : sl ax 146 = .bool false := hf.got 7 (by decide) (by simp [hd])
                            refine ⟨fun hh => ?_, fun hh => ?_⟩
                            · first
                                | (exact absurd (g0.symm.trans hh) (undef_ne _))
                                | (exact absurd (g0.symm.trans hh) (bool_ne (by decide)))
                                | (exfalso; revert hh; simp [Held, g0, *]; done)
                                | (refine free_run (v := .slice (some ⟨gp, op, none⟩) P.length pc) (W' := W) rfl ?_ rfl (Below.refl _ _); go_simp)
                            · first
                                | (exact absurd g0 hh)
                                | (exfalso; revert hh; simp [Held, g0, *]; done)
                                | (show undef = _; first | rfl | (simp [*]; done))
                          · intro L ax W hf hd
                            simp [Region.binds] at hd
                            have e12 : ax.tmps[12]?.getD undef = .int .i64 (c : Int) := hf.out 12 (by decide) rfl
                            have g0 : sl ax 146 = .bool false := hf.got 7 (by decide) (by simp [hd])
                            refine ⟨fun hh => ?_, fun hh => ?_⟩
                            · first
                                | (exact absurd (g0.symm.trans hh) (undef_ne _))
                                | (exact absurd (g0.symm.trans hh) (bool_ne (by decide)))
                                | (exfalso; revert hh; simp [Held, g0, *]; done)
                                | (refine free_run (v := .int .i64 (c : Int)) (W' := W) rfl ?_ rfl (Below.refl _ _); go_simp)
                            · first
                                | (exact absurd g0 hh)
                                | (exfalso; revert hh; simp [Held, g0, *]; done)
                                | (show undef = _; first | rfl | (simp [*]; done))
                          · intro L ax W hf hd
                            simp [Region.binds] at hd
                            have e148 : ax.tmps[148]?.getD undef = .slice (some ⟨gp, op, none⟩) P.length pc := slv (hf.got 9 (by decide) (by simp [hd]))
                            have e149 : ax.tmps[149]?.getD undef = .int .i64 (c : Int) := slv (hf.got 10 (by decide) (by simp [hd]))
                            have g0 : sl ax 146 = .bool false := hf.got 7 (by decide) (by simp [hd])
                            refine ⟨fun hh => ?_, fun hh => ?_⟩
                            · first
                                | (exact absurd (g0.symm.trans hh) (undef_ne _))
                                | (exact absurd (g0.symm.trans hh) (bool_ne (by decide)))
                                | (exfalso; revert hh; simp [Held, g0, *]; done)
                                | (refine free_run (v := .pointer (some ⟨gp, op + c * 33, none⟩)) (W' := W) rfl ?_ rfl (Below.refl _ _); go_simp)
                            · first
                                | (exact absurd g0 hh)
                                | (exfalso; revert hh; simp [Held, g0, *]; done)
                                | (show undef = _; first | rfl | (simp [*]; done))
                          · intro L ax W hf hd
                            simp [Region.binds] at hd
                            have e150 : ax.tmps[150]?.getD undef = .pointer (some ⟨gp, op + c * 33, none⟩) := slv (hf.got 11 (by decide) (by simp [hd]))
                            have g0 : sl ax 146 = .bool false := hf.got 7 (by decide) (by simp [hd])
                            refine ⟨fun hh => ?_, fun hh => ?_⟩
                            · first
                                | (exact absurd (g0.symm.trans hh) (undef_ne _))
                                | (exact absurd (g0.symm.trans hh) (bool_ne (by decide)))
                                | (exfalso; revert hh; simp [Held, g0, *]; done)
                                | ((have r1 := hSd W hf.below); refine free_run (v := .agg (pointA x)) (W' := W) rfl ?_ rfl (Below.refl _ _); go_simp)
                            · first
                                | (exact absurd g0 hh)
                                | (exfalso; revert hh; simp [Held, g0, *]; done)
                                | (show undef = _; first | rfl | (simp [*]; done))
                          · intro L ax W hf hd
                            simp [Region.binds] at hd
                            have e147 : ax.tmps[147]?.getD undef = .pointer (some ⟨r, 0, none⟩) := slv (hf.got 8 (by decide) (by simp [hd]))
                            have e151 : ax.tmps[151]?.getD undef = .agg (pointA x) := slv (hf.got 12 (by decide) (by simp [hd]))
                            have g0 : sl ax 146 = .bool false := hf.got 7 (by decide) (by simp [hd])
                            refine ⟨fun hh => ?_, fun hh => ?_⟩
                            · first
                                | (exact absurd (g0.symm.trans hh) (undef_ne _))
                                | (exact absurd (g0.symm.trans hh) (bool_ne (by decide)))
                                | (exfalso; revert hh; simp [Held, g0, *]; done)
                                | (refine free_call (f := 25) (args := #[.pointer (some ⟨r, 0, none⟩), .agg (pointA x)]) rfl (by go_simp) ?_; refine (HF3 W hf.below).mono ?_; rintro e w' ⟨rfl, hb⟩; exact ⟨_, rfl, rfl, hb⟩)
                            · first
                                | (exact absurd g0 hh)
                                | (exfalso; revert hh; simp [Held, g0, *]; done)
                                | (show undef = _; first | rfl | (simp [*]; done))
                          · intro L ax W hf hd
                            simp [Region.binds] at hd
                            have e12 : ax.tmps[12]?.getD undef = .int .i64 (c : Int) := hf.out 12 (by decide) rfl
                            have g0 : sl ax 146 = .bool false := hf.got 7 (by decide) (by simp [hd])
                            refine ⟨fun hh => ?_, fun hh => ?_⟩
                            · first
                                | (exact absurd (g0.symm.trans hh) (undef_ne _))
                                | (exact absurd (g0.symm.trans hh) (bool_ne (by decide)))
                                | (exfalso; revert hh; simp [Held, g0, *]; done)
                                | (refine free_run (v := .int .i64 (c : Int)) (W' := W) rfl ?_ rfl (Below.refl _ _); go_simp)
                            · first
                                | (exact absurd g0 hh)
                                | (exfalso; revert hh; simp [Held, g0, *]; done)
                                | (show undef = _; first | rfl | (simp [*]; done))
                          · intro L ax W hf hd
                            simp [Region.binds] at hd
                            have e153 : ax.tmps[153]?.getD undef = .int .i64 (c : Int) := slv (hf.got 14 (by decide) (by simp [hd]))
                            have g0 : sl ax 146 = .bool false := hf.got 7 (by decide) (by simp [hd])
                            refine ⟨fun hh => ?_, fun hh => ?_⟩
                            · first
                                | (exact absurd (g0.symm.trans hh) (undef_ne _))
                                | (exact absurd (g0.symm.trans hh) (bool_ne (by decide)))
                                | (exfalso; revert hh; simp [Held, g0, *]; done)
                                | (refine free_run (v := .bool true) (W' := W) rfl ?_ rfl (Below.refl _ _); go_simp)
                            · first
                                | (exact absurd g0 hh)
                                | (exfalso; revert hh; simp [Held, g0, *]; done)
                                | (show undef = _; first | rfl | (simp [*]; done))
                          · intro L ax W hf hd
                            simp [Region.binds] at hd
                            have e154 : ax.tmps[154]?.getD undef = .bool true := slv (hf.got 15 (by decide) (by simp [hd]))
                            have g0 : sl ax 146 = .bool false := hf.got 7 (by decide) (by simp [hd])
                            refine ⟨fun hh => ?_, fun hh => ?_⟩
                            · first
                                | (exact absurd (g0.symm.trans hh) (undef_ne _))
                                | (exact absurd (g0.symm.trans hh) (bool_ne (by decide)))
                                | (exfalso; revert hh; simp [Held, g0, *]; done)
                                | (refine free_run (v := .bool true) (W' := W) rfl ?_ rfl (Below.refl _ _); go_simp)
                            · first
                                | (exact absurd g0 hh)
                                | (exfalso; revert hh; simp [Held, g0, *]; done)
                                | (show undef = _; first | rfl | (simp [*]; done))
                          · intro L ax W hf hd
                            simp [Region.binds] at hd
                            have e12 : ax.tmps[12]?.getD undef = .int .i64 (c : Int) := hf.out 12 (by decide) rfl
                            have g0 : sl ax 155 = .bool true := hf.got 16 (by decide) (by simp [hd])
                            refine ⟨fun hh => ?_, fun hh => ?_⟩
                            · first
                                | (exact absurd (g0.symm.trans hh) (undef_ne _))
                                | (exact absurd (g0.symm.trans hh) (bool_ne (by decide)))
                                | (exfalso; revert hh; simp [Held, g0, *]; done)
                                | (refine free_run (v := undef) (W' := W) rfl ?_ rfl (Below.refl _ _); go_simp)
                            · first
                                | (exact absurd g0 hh)
                                | (exfalso; revert hh; simp [Held, g0, *]; done)
                                | (show undef = _; first | rfl | (simp [*]; done))
                          · intro L ax W hf hd
                            simp [Region.binds] at hd
                            have e156 : ax.tmps[156]?.getD undef = undef := slv (hf.got 17 (by decide) (by simp [hd]))
                            have g0 : sl ax 155 = .bool true := hf.got 16 (by decide) (by simp [hd])
                            refine ⟨fun hh => ?_, fun hh => ?_⟩
                            · first
                                | (exact absurd (g0.symm.trans hh) (undef_ne _))
                                | (exact absurd (g0.symm.trans hh) (bool_ne (by decide)))
                                | (exfalso; revert hh; simp [Held, g0, *]; done)
                                | (refine free_run (v := undef) (W' := W) rfl ?_ rfl (Below.refl _ _); go_simp)
                            · first
                                | (exact absurd g0 hh)
                                | (exfalso; revert hh; simp [Held, g0, *]; done)
                                | (show undef = _; first | rfl | (simp [*]; done))
                          · intro L ax W hf hd
                            simp [Region.binds] at hd
                            have e5 : ax.tmps[5]?.getD undef = .slice (some ⟨gp, op, none⟩) P.length pc := hf.out 5 (by decide) rfl
                            have g0 : sl ax 155 = .bool true := hf.got 16 (by decide) (by simp [hd])
                            refine ⟨fun hh => ?_, fun hh => ?_⟩
                            · first
                                | (exact absurd (g0.symm.trans hh) (undef_ne _))
                                | (exact absurd (g0.symm.trans hh) (bool_ne (by decide)))
                                | (exfalso; revert hh; simp [Held, g0, *]; done)
                                | (refine free_run (v := undef) (W' := W) rfl ?_ rfl (Below.refl _ _); go_simp)
                            · first
                                | (exact absurd g0 hh)
                                | (exfalso; revert hh; simp [Held, g0, *]; done)
                                | (show undef = _; first | rfl | (simp [*]; done))
                          · intro L ax W hf hd
                            simp [Region.binds] at hd
                            have e158 : ax.tmps[158]?.getD undef = undef := slv (hf.got 19 (by decide) (by simp [hd]))
                            have g0 : sl ax 155 = .bool true := hf.got 16 (by decide) (by simp [hd])
                            refine ⟨fun hh => ?_, fun hh => ?_⟩
                            · first
                                | (exact absurd (g0.symm.trans hh) (undef_ne _))
                                | (exact absurd (g0.symm.trans hh) (bool_ne (by decide)))
                                | (exfalso; revert hh; simp [Held, g0, *]; done)
                                | (refine free_run (v := undef) (W' := W) rfl ?_ rfl (Below.refl _ _); go_simp)
                            · first
                                | (exact absurd g0 hh)
                                | (exfalso; revert hh; simp [Held, g0, *]; done)
                                | (show undef = _; first | rfl | (simp [*]; done))
                          · intro L ax W hf hd
                            simp [Region.binds] at hd
                            have e157 : ax.tmps[157]?.getD undef = undef := slv (hf.got 18 (by decide) (by simp [hd]))
                            have e159 : ax.tmps[159]?.getD undef = undef := slv (hf.got 20 (by decide) (by simp [hd]))
                            have g0 : sl ax 155 = .bool true := hf.got 16 (by decide) (by simp [hd])
                            refine ⟨fun hh => ?_, fun hh => ?_⟩
                            · first
                                | (exact absurd (g0.symm.trans hh) (undef_ne _))
                                | (exact absurd (g0.symm.trans hh) (bool_ne (by decide)))
                                | (exfalso; revert hh; simp [Held, g0, *]; done)
                                | (refine free_run (v := undef) (W' := W) rfl ?_ rfl (Below.refl _ _); go_simp)
                            · first
                                | (exact absurd g0 hh)
                                | (exfalso; revert hh; simp [Held, g0, *]; done)
                                | (show undef = _; first | rfl | (simp [*]; done))
                          · intro L ax W hf hd
                            simp [Region.binds] at hd
                            have e160 : ax.tmps[160]?.getD undef = undef := slv (hf.got 21 (by decide) (by simp [hd]))
                            have g0 : sl ax 155 = .bool true := hf.got 16 (by decide) (by simp [hd])
                            refine ⟨fun hh => ?_, fun hh => ?_⟩
                            · first
                                | (exact absurd (g0.symm.trans hh) (undef_ne _))
                                | (exact absurd (g0.symm.trans hh) (bool_ne (by decide)))
                                | (exfalso; revert hh; simp [Held, g0, *]; done)
                                | (refine free_run (v := undef) (W' := W) rfl ?_ rfl (Below.refl _ _); go_simp)
                            · first
                                | (exact absurd g0 hh)
                                | (exfalso; revert hh; simp [Held, g0, *]; done)
                                | (show undef = _; first | rfl | (simp [*]; done))
                          · intro L ax W hf hd
                            simp [Region.binds] at hd
                            have e5 : ax.tmps[5]?.getD undef = .slice (some ⟨gp, op, none⟩) P.length pc := hf.out 5 (by decide) rfl
                            have g0 : sl ax 161 = undef := hf.got 22 (by decide) (by simp [hd])
                            refine ⟨fun hh => ?_, fun hh => ?_⟩
                            · first
                                | (exact absurd (g0.symm.trans hh) (undef_ne _))
                                | (exact absurd (g0.symm.trans hh) (bool_ne (by decide)))
                                | (exfalso; revert hh; simp [Held, g0, *]; done)
                                | (refine free_run (v := undef) (W' := W) rfl ?_ rfl (Below.refl _ _); go_simp)
                            · first
                                | (exact absurd g0 hh)
                                | (exfalso; revert hh; simp [Held, g0, *]; done)
                                | (show undef = _; first | rfl | (simp [*]; done))
                          · intro L ax W hf hd
                            simp [Region.binds] at hd
                            have e12 : ax.tmps[12]?.getD undef = .int .i64 (c : Int) := hf.out 12 (by decide) rfl
                            have g0 : sl ax 161 = undef := hf.got 22 (by decide) (by simp [hd])
                            refine ⟨fun hh => ?_, fun hh => ?_⟩
                            · first
                                | (exact absurd (g0.symm.trans hh) (undef_ne _))
                                | (exact absurd (g0.symm.trans hh) (bool_ne (by decide)))
                                | (exfalso; revert hh; simp [Held, g0, *]; done)
                                | (refine free_run (v := undef) (W' := W) rfl ?_ rfl (Below.refl _ _); go_simp)
                            · first
                                | (exact absurd g0 hh)
                                | (exfalso; revert hh; simp [Held, g0, *]; done)
                                | (show undef = _; first | rfl | (simp [*]; done))
                          · intro L ax W hf hd
                            simp [Region.binds] at hd
                            have e163 : ax.tmps[163]?.getD undef = undef := slv (hf.got 24 (by decide) (by simp [hd]))
                            have g0 : sl ax 161 = undef := hf.got 22 (by decide) (by simp [hd])
                            refine ⟨fun hh => ?_, fun hh => ?_⟩
                            · first
                                | (exact absurd (g0.symm.trans hh) (undef_ne _))
                                | (exact absurd (g0.symm.trans hh) (bool_ne (by decide)))
                                | (exfalso; revert hh; simp [Held, g0, *]; done)
                                | (refine free_run (v := undef) (W' := W) rfl ?_ rfl (Below.refl _ _); go_simp)
                            · first
                                | (exact absurd g0 hh)
                                | (exfalso; revert hh; simp [Held, g0, *]; done)
                                | (show undef = _; first | rfl | (simp [*]; done))
                          · intro L ax W hf hd
                            simp [Region.binds] at hd
                            have e162 : ax.tmps[162]?.getD undef = undef := slv (hf.got 23 (by decide) (by simp [hd]))
                            have e164 : ax.tmps[164]?.getD undef = undef := slv (hf.got 25 (by decide) (by simp [hd]))
                            have g0 : sl ax 161 = undef := hf.got 22 (by decide) (by simp [hd])
                            refine ⟨fun hh => ?_, fun hh => ?_⟩
                            · first
                                | (exact absurd (g0.symm.trans hh) (undef_ne _))
                                | (exact absurd (g0.symm.trans hh) (bool_ne (by decide)))
                                | (exfalso; revert hh; simp [Held, g0, *]; done)
                                | (refine free_run (v := undef) (W' := W) rfl ?_ rfl (Below.refl _ _); go_simp)
                            · first
                                | (exact absurd g0 hh)
                                | (exfalso; revert hh; simp [Held, g0, *]; done)
                                | (show undef = _; first | rfl | (simp [*]; done))
                          · intro L ax W hf hd
                            simp [Region.binds] at hd
                            have e165 : ax.tmps[165]?.getD undef = undef := slv (hf.got 26 (by decide) (by simp [hd]))
                            have g0 : sl ax 161 = undef := hf.got 22 (by decide) (by simp [hd])
                            refine ⟨fun hh => ?_, fun hh => ?_⟩
                            · first
                                | (exact absurd (g0.symm.trans hh) (undef_ne _))
                                | (exact absurd (g0.symm.trans hh) (bool_ne (by decide)))
                                | (exfalso; revert hh; simp [Held, g0, *]; done)
                                | (refine free_run (v := undef) (W' := W) rfl ?_ rfl (Below.refl _ _); go_simp)
                            · first
                                | (exact absurd g0 hh)
                                | (exfalso; revert hh; simp [Held, g0, *]; done)
                                | (show undef = _; first | rfl | (simp [*]; done))
                          · intro L ax W hf hd
                            simp [Region.binds] at hd
                            have e166 : ax.tmps[166]?.getD undef = undef := slv (hf.got 27 (by decide) (by simp [hd]))
                            have g0 : sl ax 161 = undef := hf.got 22 (by decide) (by simp [hd])
                            refine ⟨fun hh => ?_, fun hh => ?_⟩
                            · first
                                | (exact absurd (g0.symm.trans hh) (undef_ne _))
                                | (exact absurd (g0.symm.trans hh) (bool_ne (by decide)))
                                | (exfalso; revert hh; simp [Held, g0, *]; done)
                                | (refine free_run (v := undef) (W' := W) rfl ?_ rfl (Below.refl _ _); go_simp)
                            · first
                                | (exact absurd g0 hh)
                                | (exfalso; revert hh; simp [Held, g0, *]; done)
                                | (show undef = _; first | rfl | (simp [*]; done))
                          · intro L ax W hf hd
                            simp [Region.binds] at hd
                            have e5 : ax.tmps[5]?.getD undef = .slice (some ⟨gp, op, none⟩) P.length pc := hf.out 5 (by decide) rfl
                            have g0 : sl ax 161 = undef := hf.got 22 (by decide) (by simp [hd])
                            refine ⟨fun hh => ?_, fun hh => ?_⟩
                            · first
                                | (exact absurd (g0.symm.trans hh) (undef_ne _))
                                | (exact absurd (g0.symm.trans hh) (bool_ne (by decide)))
                                | (exfalso; revert hh; simp [Held, g0, *]; done)
                                | (refine free_run (v := undef) (W' := W) rfl ?_ rfl (Below.refl _ _); go_simp)
                            · first
                                | (exact absurd g0 hh)
                                | (exfalso; revert hh; simp [Held, g0, *]; done)
                                | (show undef = _; first | rfl | (simp [*]; done))
                          · intro L ax W hf hd
                            simp [Region.binds] at hd
                            have e12 : ax.tmps[12]?.getD undef = .int .i64 (c : Int) := hf.out 12 (by decide) rfl
                            have g0 : sl ax 161 = undef := hf.got 22 (by decide) (by simp [hd])
                            refine ⟨fun hh => ?_, fun hh => ?_⟩
                            · first
                                | (exact absurd (g0.symm.trans hh) (undef_ne _))
                                | (exact absurd (g0.symm.trans hh) (bool_ne (by decide)))
                                | (exfalso; revert hh; simp [Held, g0, *]; done)
                                | (refine free_run (v := undef) (W' := W) rfl ?_ rfl (Below.refl _ _); go_simp)
                            · first
                                | (exact absurd g0 hh)
                                | (exfalso; revert hh; simp [Held, g0, *]; done)
                                | (show undef = _; first | rfl | (simp [*]; done))
                          · intro L ax W hf hd
                            simp [Region.binds] at hd
                            have e168 : ax.tmps[168]?.getD undef = undef := slv (hf.got 29 (by decide) (by simp [hd]))
                            have e169 : ax.tmps[169]?.getD undef = undef := slv (hf.got 30 (by decide) (by simp [hd]))
                            have g0 : sl ax 161 = undef := hf.got 22 (by decide) (by simp [hd])
                            refine ⟨fun hh => ?_, fun hh => ?_⟩
                            · first
                                | (exact absurd (g0.symm.trans hh) (undef_ne _))
                                | (exact absurd (g0.symm.trans hh) (bool_ne (by decide)))
                                | (exfalso; revert hh; simp [Held, g0, *]; done)
                                | (refine free_run (v := undef) (W' := W) rfl ?_ rfl (Below.refl _ _); go_simp)
                            · first
                                | (exact absurd g0 hh)
                                | (exfalso; revert hh; simp [Held, g0, *]; done)
                                | (show undef = _; first | rfl | (simp [*]; done))
                          · intro L ax W hf hd
                            simp [Region.binds] at hd
                            have e170 : ax.tmps[170]?.getD undef = undef := slv (hf.got 31 (by decide) (by simp [hd]))
                            have g0 : sl ax 161 = undef := hf.got 22 (by decide) (by simp [hd])
                            refine ⟨fun hh => ?_, fun hh => ?_⟩
                            · first
                                | (exact absurd (g0.symm.trans hh) (undef_ne _))
                                | (exact absurd (g0.symm.trans hh) (bool_ne (by decide)))
                                | (exfalso; revert hh; simp [Held, g0, *]; done)
                                | (refine free_run (v := undef) (W' := W) rfl ?_ rfl (Below.refl _ _); go_simp)
                            · first
                                | (exact absurd g0 hh)
                                | (exfalso; revert hh; simp [Held, g0, *]; done)
                                | (show undef = _; first | rfl | (simp [*]; done))
                          · intro L ax W hf hd
                            simp [Region.binds] at hd
                            have e171 : ax.tmps[171]?.getD undef = undef := slv (hf.got 32 (by decide) (by simp [hd]))
                            have g0 : sl ax 161 = undef := hf.got 22 (by decide) (by simp [hd])
                            refine ⟨fun hh => ?_, fun hh => ?_⟩
                            · first
                                | (exact absurd (g0.symm.trans hh) (undef_ne _))
                                | (exact absurd (g0.symm.trans hh) (bool_ne (by decide)))
                                | (exfalso; revert hh; simp [Held, g0, *]; done)
                                | (refine free_run (v := undef) (W' := W) rfl ?_ rfl (Below.refl _ _); go_simp)
                            · first
                                | (exact absurd g0 hh)
                                | (exfalso; revert hh; simp [Held, g0, *]; done)
                                | (show undef = _; first | rfl | (simp [*]; done))
                          · intro L ax W hf hd
                            simp [Region.binds] at hd
                            have e172 : ax.tmps[172]?.getD undef = undef := slv (hf.got 33 (by decide) (by simp [hd]))
                            have g0 : sl ax 161 = undef := hf.got 22 (by decide) (by simp [hd])
                            refine ⟨fun hh => ?_, fun hh => ?_⟩
                            · first
                                | (exact absurd (g0.symm.trans hh) (undef_ne _))
                                | (exact absurd (g0.symm.trans hh) (bool_ne (by decide)))
                                | (exfalso; revert hh; simp [Held, g0, *]; done)
                                | (refine free_run (v := undef) (W' := W) rfl ?_ rfl (Below.refl _ _); go_simp)
                            · first
                                | (exact absurd g0 hh)
                                | (exfalso; revert hh; simp [Held, g0, *]; done)
                                | (show undef = _; first | rfl | (simp [*]; done))
                          · intro L ax W hf hd
                            simp [Region.binds] at hd
                            have e167 : ax.tmps[167]?.getD undef = undef := slv (hf.got 28 (by decide) (by simp [hd]))
                            have e173 : ax.tmps[173]?.getD undef = undef := slv (hf.got 34 (by decide) (by simp [hd]))
                            have g0 : sl ax 161 = undef := hf.got 22 (by decide) (by simp [hd])
                            refine ⟨fun hh => ?_, fun hh => ?_⟩
                            · first
                                | (exact absurd (g0.symm.trans hh) (undef_ne _))
                                | (exact absurd (g0.symm.trans hh) (bool_ne (by decide)))
                                | (exfalso; revert hh; simp [Held, g0, *]; done)
                                | (refine free_run (v := undef) (W' := W) rfl ?_ rfl (Below.refl _ _); go_simp)
                            · first
                                | (exact absurd g0 hh)
                                | (exfalso; revert hh; simp [Held, g0, *]; done)
                                | (show undef = _; first | rfl | (simp [*]; done))
                          · intro L ax W hf hd
                            simp [Region.binds] at hd
                            have e161 : ax.tmps[161]?.getD undef = undef := slv (hf.got 22 (by decide) (by simp [hd]))
                            have e174 : ax.tmps[174]?.getD undef = undef := slv (hf.got 35 (by decide) (by simp [hd]))
                            have g0 : sl ax 155 = .bool true := hf.got 16 (by decide) (by simp [hd])
                            refine ⟨fun hh => ?_, fun hh => ?_⟩
                            · first
                                | (exact absurd (g0.symm.trans hh) (undef_ne _))
                                | (exact absurd (g0.symm.trans hh) (bool_ne (by decide)))
                                | (exfalso; revert hh; simp [Held, g0, *]; done)
                                | (refine free_run (v := undef) (W' := W) rfl ?_ rfl (Below.refl _ _); go_simp)
                            · first
                                | (exact absurd g0 hh)
                                | (exfalso; revert hh; simp [Held, g0, *]; done)
                                | (show undef = _; first | rfl | (simp [*]; done))
                          · intro L ax W hf hd
                            simp [Region.binds] at hd
                            have e155 : ax.tmps[155]?.getD undef = .bool true := slv (hf.got 16 (by decide) (by simp [hd]))
                            have e175 : ax.tmps[175]?.getD undef = undef := slv (hf.got 36 (by decide) (by simp [hd]))
                            have g0 : sl ax 146 = .bool false := hf.got 7 (by decide) (by simp [hd])
                            refine ⟨fun hh => ?_, fun hh => ?_⟩
                            · first
                                | (exact absurd (g0.symm.trans hh) (undef_ne _))
                                | (exact absurd (g0.symm.trans hh) (bool_ne (by decide)))
                                | (exfalso; revert hh; simp [Held, g0, *]; done)
                                | (refine free_run (v := .bool true) (W' := W) rfl ?_ rfl (Below.refl _ _); go_simp)
                            · first
                                | (exact absurd g0 hh)
                                | (exfalso; revert hh; simp [Held, g0, *]; done)
                                | (show undef = _; first | rfl | (simp [*]; done))
                          · intro L ax W hf hd
                            simp [Region.binds] at hd
                            have e152 : ax.tmps[152]?.getD undef = .bool true := slv (hf.got 13 (by decide) (by simp [hd]))
                            have e176 : ax.tmps[176]?.getD undef = .bool true := slv (hf.got 37 (by decide) (by simp [hd]))
                            have g0 : sl ax 146 = .bool false := hf.got 7 (by decide) (by simp [hd])
                            refine ⟨fun hh => ?_, fun hh => ?_⟩
                            · first
                                | (exact absurd (g0.symm.trans hh) (undef_ne _))
                                | (exact absurd (g0.symm.trans hh) (bool_ne (by decide)))
                                | (exfalso; revert hh; simp [Held, g0, *]; done)
                                | (refine free_run (v := .bool false) (W' := W) rfl ?_ rfl (Below.refl _ _); go_simp)
                            · first
                                | (exact absurd g0 hh)
                                | (exfalso; revert hh; simp [Held, g0, *]; done)
                                | (show undef = _; first | rfl | (simp [*]; done))
                          · intro L ax W hf hd
                            simp [Region.binds] at hd
                            have e146 : ax.tmps[146]?.getD undef = .bool false := slv (hf.got 7 (by decide) (by simp [hd]))
                            have e177 : ax.tmps[177]?.getD undef = .bool false := slv (hf.got 38 (by decide) (by simp [hd]))
                            refine ⟨fun _ => ?_, fun h => absurd trivial h⟩
                            refine free_run (v := .bool false) (W' := W) rfl ?_ rfl (Below.refl _ _)
                            go_simp
                        · intro vs W' hl' hF' hb
                          obtain ⟨g', hg1, hg2⟩ := vs_lit vs hl' hF'
                          have e6 : g' 39 = .bool false := hg2 39 (by decide)
                          rw [hg1]
                          clear hF' hg1 hg2 hl'
                          simp only [List.length_cons, List.length_nil, Nat.reduceAdd, show List.range 40 = [0, 1, 2, 3, 4, 5, 6, 7, 8, 9, 10, 11, 12, 13, 14, 15, 16, 17, 18, 19, 20, 21, 22, 23, 24, 25, 26, 27, 28, 29, 30, 31, 32, 33, 34, 35, 36, 37, 38, 39] from rfl, List.map_cons, List.map_nil, putL, List.zip_cons_cons, List.zip_nil_right, List.setIfInBounds_toArray, List.set_cons_succ, List.set_cons_zero, e6]
                          have hK6 := Lib.hid (hKst _ _ _ hKw.out hb)
                          clear hb hSd HJ3 HF3
                          go_wp2_with fail
                          go_roundw
                          case rel => exact ⟨c + 1, by omega, by go_num, hK6⟩
                          case measure => (first | omega | (simp [intOf]; done) | (simp [intOf]; omega))
                      -- DEV>
                    ·
                      have hz : ((c : Int) == 0) = false := by simp [hc0]
                      have w1' : IntKind.i64.wrap ((c : Int) + 1) = (c : Int) + 1 := IntWalk.i64_in _ (by omega)
                      by_cases hc1 : c + 1 < P.length
                      ·
                        -- DEV<
                        as_aux_lemma =>
                          have hx62 := hR.out.may c hcx
                          have hbf1 : ((P[c + 1].epoch.toNat : Int) == (P[c].epoch.toNat : Int) + 1) = bf := by
                            rw [hbf, Bool.eq_iff_iff, beq_iff_eq, decide_eq_true_eq]
                            constructor
                            · intro h
                              refine .inr ⟨hc1, UInt64.toNat_inj.1 ?_⟩
                              rw [UInt64.toNat_add]
                              show _ = (_ + 1) % _
                              omega
                            · rintro (h | ⟨_, h⟩)
                              · exact absurd h hc0
                              · rw [h, UInt64.toNat_add]
                                show ((((_ + 1) % _ : Nat)) : Int) = _
                                omega
                          have hSd := fun (W : World) (h : Below wr.heap.size wr W) => And.intro (hKrow la W (hKst _ _ _ hKw.out h) c hcx) (And.intro ((cell_of_row? (hKrow la W (hKst _ _ _ hKw.out h) c hcx) 0 (by omega)).trans (pointA_epoch _)) ((cell_of_row? (hKrow la W (hKst _ _ _ hKw.out h) (c + 1) hc1) 0 (by omega)).trans (pointA_epoch _)))
                          simp only [Nat.add_zero] at hSd
                          clear hbf
                          generalize P[c + 1] = y at *
                          generalize P[c] = x at *
                          have hx0 : (0 : Int) ≤ (x.epoch.toNat : Int) := by omega
                          have hx1 : (x.epoch.toNat : Int) ≤ 4611686018427387904 := by omega
                          have w2' : ((c : Int) + 1).toNat = c + 1 := by omega
                          have w3' : (0 : Int) ≤ (c : Int) + 1 := by omega
                          have w4' : (c : Int) + 1 < (P.length : Int) := by omega
                          have w5' : decide ((c : Int) + 1 < (P.length : Int)) = true := decide_eq_true w4'
                          have w6' : IntKind.u64.wrap ((x.epoch.toNat : Int) + 1) = (x.epoch.toNat : Int) + 1 := by rw [IntKind.wrap_u64]; omega
                          clear hx62
                          have hne : (bf != bf) = false := by simp
                          go_upto_region 25 with fail
                          refine wp_region_freeG_l (fun W W' => Below W.heap.size W W') (by kernel_rfl) [139, 140, 141, 142, 143, 144, 145, 146, 147, 148, 149, 150, 151, 152, 153, 154, 155, 156, 157, 158, 159, 160, 161, 162, 163, 164, 165, 166, 167, 168, 169, 170, 171, 172, 173, 174, 175, 176, 177, 178]
                            [Is (.pointer (some ⟨r, 0, none⟩)), Is (.slice (some ⟨gp, op, none⟩) P.length pc), Is (.int .i64 (c : Int)), Is (.pointer (some ⟨gp, op + c * 33, none⟩)), Is (.agg (pointA x)), Is (.bool true), Is (.bool false), Is (.bool false), Is (.pointer (some ⟨r, 0, none⟩)), Is (.slice (some ⟨gp, op, none⟩) P.length pc), Is (.int .i64 (c : Int)), Is (.pointer (some ⟨gp, op + c * 33, none⟩)), Is (.agg (pointA x)), Is (.bool bf), Is (.int .i64 (c : Int)), Is (.bool false), Is (.bool false), Is (.int .i64 (c : Int)), Is (.int .i64 ((c : Int) + 1)), Is (.slice (some ⟨gp, op, none⟩) P.length pc), Is (.int .i64 (P.length : Int)), Is (.bool true), Is (.bool true), Is (.slice (some ⟨gp, op, none⟩) P.length pc), Is (.int .i64 (c : Int)), Is (.int .i64 ((c : Int) + 1)), Is (.pointer (some ⟨gp, op + (c + 1) * 33, none⟩)), Is (.pointer (some ⟨gp, op + (c + 1) * 33, none⟩)), Is (.int .u64 (y.epoch.toNat : Int)), Is (.slice (some ⟨gp, op, none⟩) P.length pc), Is (.int .i64 (c : Int)), Is (.pointer (some ⟨gp, op + c * 33, none⟩)), Is (.pointer (some ⟨gp, op + c * 33, none⟩)), Is (.int .u64 (x.epoch.toNat : Int)), Is (.int .u64 ((x.epoch.toNat : Int) + 1)), Is (.bool bf), Is (.bool bf), Is (.bool bf), Is (.bool false), Is (.bool false)]
                            (by kernel_rfl) (fun W W' h hb => hb.trans (h.mono hb.size)) ?_ ?_ ?_
                          · intro f hf
                            simp only [List.mem_cons, List.not_mem_nil, or_false] at hf
                            rcases hf with rfl | rfl | rfl | rfl | rfl | rfl | rfl | rfl | rfl | rfl | rfl | rfl | rfl | rfl | rfl | rfl | rfl | rfl | rfl | rfl | rfl | rfl | rfl | rfl | rfl | rfl | rfl | rfl | rfl | rfl | rfl | rfl | rfl | rfl | rfl | rfl | rfl | rfl | rfl | rfl <;> intro x W W' h hr <;> first | exact h
                          · refine ⟨?_, ?_, ?_, ?_, ?_, ?_, ?_, ?_, ?_, ?_, ?_, ?_, ?_, ?_, ?_, ?_, ?_, ?_, ?_, ?_, ?_, ?_, ?_, ?_, ?_, ?_, ?_, ?_, ?_, ?_, ?_, ?_, ?_, ?_, ?_, ?_, ?_, ?_, ?_, ?_, trivial⟩
                            · intro L ax W hf hd
                              try simp [Region.binds] at hd
                              have e7 : ax.tmps[7]?.getD undef = .pointer (some ⟨r, 0, none⟩) := hf.out 7 (by decide) rfl
                              refine ⟨fun _ => ?_, fun h => absurd trivial h⟩
                              refine free_run (v := .pointer (some ⟨r, 0, none⟩)) (W' := W) rfl ?_ rfl (Below.refl _ _)
                              go_simp
                            · intro L ax W hf hd
                              try simp [Region.binds] at hd
                              have e5 : ax.tmps[5]?.getD undef = .slice (some ⟨gp, op, none⟩) P.length pc := hf.out 5 (by decide) rfl
                              refine ⟨fun _ => ?_, fun h => absurd trivial h⟩
                              refine free_run (v := .slice (some ⟨gp, op, none⟩) P.length pc) (W' := W) rfl ?_ rfl (Below.refl _ _)
                              go_simp
                            · intro L ax W hf hd
                              try simp [Region.binds] at hd
                              have e12 : ax.tmps[12]?.getD undef = .int .i64 (c : Int) := hf.out 12 (by decide) rfl
                              refine ⟨fun _ => ?_, fun h => absurd trivial h⟩
                              refine free_run (v := .int .i64 (c : Int)) (W' := W) rfl ?_ rfl (Below.refl _ _)
                              go_simp
                            · intro L ax W hf hd
                              simp [Region.binds] at hd
                              have e140 : ax.tmps[140]?.getD undef = .slice (some ⟨gp, op, none⟩) P.length pc := slv (hf.got 1 (by decide) (by simp [hd]))
                              have e141 : ax.tmps[141]?.getD undef = .int .i64 (c : Int) := slv (hf.got 2 (by decide) (by simp [hd]))
                              refine ⟨fun _ => ?_, fun h => absurd trivial h⟩
                              refine free_run (v := .pointer (some ⟨gp, op + c * 33, none⟩)) (W' := W) rfl ?_ rfl (Below.refl _ _)
                              go_simp
                            · intro L ax W hf hd
                              simp [Region.binds] at hd
                              have e142 : ax.tmps[142]?.getD undef = .pointer (some ⟨gp, op + c * 33, none⟩) := slv (hf.got 3 (by decide) (by simp [hd]))
                              refine ⟨fun _ => ?_, fun h => absurd trivial h⟩
                              obtain ⟨r1, r2, r3⟩ := hSd W hf.below
                              refine free_run (v := .agg (pointA x)) (W' := W) rfl ?_ rfl (Below.refl _ _)
                              go_simp
                            · intro L ax W hf hd
                              simp [Region.binds] at hd
                              have e139 : ax.tmps[139]?.getD undef = .pointer (some ⟨r, 0, none⟩) := slv (hf.got 0 (by decide) (by simp [hd]))
                              have e143 : ax.tmps[143]?.getD undef = .agg (pointA x) := slv (hf.got 4 (by decide) (by simp [hd]))
                              refine ⟨fun _ => ?_, fun h => absurd trivial h⟩
                              refine free_call (f := 24) (args := #[.pointer (some ⟨r, 0, none⟩), .agg (pointA x)]) rfl (by go_simp) ?_
                              refine (HJ3 W hf.below).mono ?_
                              rintro e w' ⟨rfl, hb⟩
                              exact ⟨_, rfl, rfl, hb⟩
                            · intro L ax W hf hd
                              simp [Region.binds] at hd
                              have e144 : ax.tmps[144]?.getD undef = .bool true := slv (hf.got 5 (by decide) (by simp [hd]))
                              refine ⟨fun _ => ?_, fun h => absurd trivial h⟩
                              refine free_run (v := .bool false) (W' := W) rfl ?_ rfl (Below.refl _ _)
                              go_simp
                            · intro L ax W hf hd
                              simp [Region.binds] at hd
                              have e145 : ax.tmps[145]?.getD undef = .bool false := slv (hf.got 6 (by decide) (by simp [hd]))
                              refine ⟨fun _ => ?_, fun h => absurd trivial h⟩
                              refine free_run (v := .bool false) (W' := W) rfl ?_ rfl (Below.refl _ _)
                              go_simp
                            · intro L ax W hf hd
                              simp [Region.binds] at hd
                              have e7 : ax.tmps[7]?.getD undef = .pointer (some ⟨r, 0, none⟩) := hf.out 7 (by decide) rfl
                              have g0 : sl ax 146 = .bool false := hf.got 7 (by decide) (by simp [hd])
                              refine ⟨fun hh => ?_, fun hh => ?_⟩
                              · first
                                  | (exact absurd (g0.symm.trans hh) (undef_ne _))
                                  | (exact absurd (g0.symm.trans hh) (bool_ne (by decide)))
                                  | (exfalso; revert hh; simp [Held, g0, *]; done)
                                  | (refine free_run (v := .pointer (some ⟨r, 0, none⟩)) (W' := W) rfl ?_ rfl (Below.refl _ _); go_simp)
                              · first
                                  | (exact absurd g0 hh)
                                  | (exfalso; revert hh; simp [Held, g0, *]; done)
                                  | (show undef = _; first | rfl | (simp [*]; done))
                            · intro L ax W hf hd
                              simp [Region.binds] at hd
                              have e5 : ax.tmps[5]?.getD undef = .slice (some ⟨gp, op, none⟩) P.length pc := hf.out 5 (by decide) rfl
                              have g0 : sl ax 146 = .bool false := hf.got 7 (by decide) (by simp [hd])
                              refine ⟨fun hh => ?_, fun hh => ?_⟩
                              · first
                                  | (exact absurd (g0.symm.trans hh) (undef_ne _))
                                  | (exact absurd (g0.symm.trans hh) (bool_ne (by decide)))
                                  | (exfalso; revert hh; simp [Held, g0, *]; done)
                                  | (refine free_run (v := .slice (some ⟨gp, op, none⟩) P.length pc) (W' := W) rfl ?_ rfl (Below.refl _ _); go_simp)
                              · first
                                  | (exact absurd g0 hh)
                                  | (exfalso; revert hh; simp [Held, g0, *]; done)
                                  | (show undef = _; first | rfl | (simp [*]; done))
                            · intro L ax W hf hd
                              simp [Region.binds] at hd
                              have e12 : ax.tmps[12]?.getD undef = .int .i64 (c : Int) := hf.out 12 (by decide) rfl
                              have g0 : sl ax 146 = .bool false := hf.got 7 (by decide) (by simp [hd])
                              refine ⟨fun hh => ?_, fun hh => ?_⟩
                              · first
                                  | (exact absurd (g0.symm.trans hh) (undef_ne _))
                                  | (exact absurd (g0.symm.trans hh) (bool_ne (by decide)))
                                  | (exfalso; revert hh; simp [Held, g0, *]; done)
                                  | (refine free_run (v := .int .i64 (c : Int)) (W' := W) rfl ?_ rfl (Below.refl _ _); go_simp)
                              · first
                                  | (exact absurd g0 hh)
                                  | (exfalso; revert hh; simp [Held, g0, *]; done)
                                  | (show undef = _; first | rfl | (simp [*]; done))
                            · intro L ax W hf hd
                              simp [Region.binds] at hd
                              have e148 : ax.tmps[148]?.getD undef = .slice (some ⟨gp, op, none⟩) P.length pc := slv (hf.got 9 (by decide) (by simp [hd]))
                              have e149 : ax.tmps[149]?.getD undef = .int .i64 (c : Int) := slv (hf.got 10 (by decide) (by simp [hd]))
                              have g0 : sl ax 146 = .bool false := hf.got 7 (by decide) (by simp [hd])
                              refine ⟨fun hh => ?_, fun hh => ?_⟩
                              · first
                                  | (exact absurd (g0.symm.trans hh) (undef_ne _))
                                  | (exact absurd (g0.symm.trans hh) (bool_ne (by decide)))
                                  | (exfalso; revert hh; simp [Held, g0, *]; done)
                                  | (refine free_run (v := .pointer (some ⟨gp, op + c * 33, none⟩)) (W' := W) rfl ?_ rfl (Below.refl _ _); go_simp)
                              · first
                                  | (exact absurd g0 hh)
                                  | (exfalso; revert hh; simp [Held, g0, *]; done)
                                  | (show undef = _; first | rfl | (simp [*]; done))
                            · intro L ax W hf hd
                              simp [Region.binds] at hd
                              have e150 : ax.tmps[150]?.getD undef = .pointer (some ⟨gp, op + c * 33, none⟩) := slv (hf.got 11 (by decide) (by simp [hd]))
                              have g0 : sl ax 146 = .bool false := hf.got 7 (by decide) (by simp [hd])
                              refine ⟨fun hh => ?_, fun hh => ?_⟩
                              · first
                                  | (exact absurd (g0.symm.trans hh) (undef_ne _))
                                  | (exact absurd (g0.symm.trans hh) (bool_ne (by decide)))
                                  | (exfalso; revert hh; simp [Held, g0, *]; done)
                                  | (obtain ⟨r1, r2, r3⟩ := hSd W hf.below; refine free_run (v := .agg (pointA x)) (W' := W) rfl ?_ rfl (Below.refl _ _); go_simp)
                              · first
                                  | (exact absurd g0 hh)
                                  | (exfalso; revert hh; simp [Held, g0, *]; done)
                                  | (show undef = _; first | rfl | (simp [*]; done))
                            · intro L ax W hf hd
                              simp [Region.binds] at hd
                              have e147 : ax.tmps[147]?.getD undef = .pointer (some ⟨r, 0, none⟩) := slv (hf.got 8 (by decide) (by simp [hd]))
                              have e151 : ax.tmps[151]?.getD undef = .agg (pointA x) := slv (hf.got 12 (by decide) (by simp [hd]))
                              have g0 : sl ax 146 = .bool false := hf.got 7 (by decide) (by simp [hd])
                              refine ⟨fun hh => ?_, fun hh => ?_⟩
                              · first
                                  | (exact absurd (g0.symm.trans hh) (undef_ne _))
                                  | (exact absurd (g0.symm.trans hh) (bool_ne (by decide)))
                                  | (exfalso; revert hh; simp [Held, g0, *]; done)
                                  | (refine free_call (f := 25) (args := #[.pointer (some ⟨r, 0, none⟩), .agg (pointA x)]) rfl (by go_simp) ?_; refine (HF3 W hf.below).mono ?_; rintro e w' ⟨rfl, hb⟩; exact ⟨_, rfl, rfl, hb⟩)
                              · first
                                  | (exact absurd g0 hh)
                                  | (exfalso; revert hh; simp [Held, g0, *]; done)
                                  | (show undef = _; first | rfl | (simp [*]; done))
                            · intro L ax W hf hd
                              simp [Region.binds] at hd
                              have e12 : ax.tmps[12]?.getD undef = .int .i64 (c : Int) := hf.out 12 (by decide) rfl
                              have g0 : sl ax 146 = .bool false := hf.got 7 (by decide) (by simp [hd])
                              refine ⟨fun hh => ?_, fun hh => ?_⟩
                              · first
                                  | (exact absurd (g0.symm.trans hh) (undef_ne _))
                                  | (exact absurd (g0.symm.trans hh) (bool_ne (by decide)))
                                  | (exfalso; revert hh; simp [Held, g0, *]; done)
                                  | (refine free_run (v := .int .i64 (c : Int)) (W' := W) rfl ?_ rfl (Below.refl _ _); go_simp)
                              · first
                                  | (exact absurd g0 hh)
                                  | (exfalso; revert hh; simp [Held, g0, *]; done)
                                  | (show undef = _; first | rfl | (simp [*]; done))
                            · intro L ax W hf hd
                              simp [Region.binds] at hd
                              have e153 : ax.tmps[153]?.getD undef = .int .i64 (c : Int) := slv (hf.got 14 (by decide) (by simp [hd]))
                              have g0 : sl ax 146 = .bool false := hf.got 7 (by decide) (by simp [hd])
                              refine ⟨fun hh => ?_, fun hh => ?_⟩
                              · first
                                  | (exact absurd (g0.symm.trans hh) (undef_ne _))
                                  | (exact absurd (g0.symm.trans hh) (bool_ne (by decide)))
                                  | (exfalso; revert hh; simp [Held, g0, *]; done)
                                  | (refine free_run (v := .bool false) (W' := W) rfl ?_ rfl (Below.refl _ _); go_simp)
                              · first
                                  | (exact absurd g0 hh)
                                  | (exfalso; revert hh; simp [Held, g0, *]; done)
                                  | (show undef = _; first | rfl | (simp [*]; done))
                            · intro L ax W hf hd
                              simp [Region.binds] at hd
                              have e154 : ax.tmps[154]?.getD undef = .bool false := slv (hf.got 15 (by decide) (by simp [hd]))
                              have g0 : sl ax 146 = .bool false := hf.got 7 (by decide) (by simp [hd])
                              refine ⟨fun hh => ?_, fun hh => ?_⟩
                              · first
                                  | (exact absurd (g0.symm.trans hh) (undef_ne _))
                                  | (exact absurd (g0.symm.trans hh) (bool_ne (by decide)))
                                  | (exfalso; revert hh; simp [Held, g0, *]; done)
                                  | (refine free_run (v := .bool false) (W' := W) rfl ?_ rfl (Below.refl _ _); go_simp)
                              · first
                                  | (exact absurd g0 hh)
                                  | (exfalso; revert hh; simp [Held, g0, *]; done)
                                  | (show undef = _; first | rfl | (simp [*]; done))
                            · intro L ax W hf hd
                              simp [Region.binds] at hd
                              have e12 : ax.tmps[12]?.getD undef = .int .i64 (c : Int) := hf.out 12 (by decide) rfl
                              have g0 : sl ax 155 = .bool false := hf.got 16 (by decide) (by simp [hd])
                              refine ⟨fun hh => ?_, fun hh => ?_⟩
                              · first
                                  | (exact absurd (g0.symm.trans hh) (undef_ne _))
                                  | (exact absurd (g0.symm.trans hh) (bool_ne (by decide)))
                                  | (exfalso; revert hh; simp [Held, g0, *]; done)
                                  | (refine free_run (v := .int .i64 (c : Int)) (W' := W) rfl ?_ rfl (Below.refl _ _); go_simp)
                              · first
                                  | (exact absurd g0 hh)
                                  | (exfalso; revert hh; simp [Held, g0, *]; done)
                                  | (show undef = _; first | rfl | (simp [*]; done))
                            · intro L ax W hf hd
                              simp [Region.binds] at hd
                              have e156 : ax.tmps[156]?.getD undef = .int .i64 (c : Int) := slv (hf.got 17 (by decide) (by simp [hd]))
                              have g0 : sl ax 155 = .bool false := hf.got 16 (by decide) (by simp [hd])
                              refine ⟨fun hh => ?_, fun hh => ?_⟩
                              · first
                                  | (exact absurd (g0.symm.trans hh) (undef_ne _))
                                  | (exact absurd (g0.symm.trans hh) (bool_ne (by decide)))
                                  | (exfalso; revert hh; simp [Held, g0, *]; done)
                                  | (refine free_run (v := .int .i64 ((c : Int) + 1)) (W' := W) rfl ?_ rfl (Below.refl _ _); go_simp)
                              · first
                                  | (exact absurd g0 hh)
                                  | (exfalso; revert hh; simp [Held, g0, *]; done)
                                  | (show undef = _; first | rfl | (simp [*]; done))
                            · intro L ax W hf hd
                              simp [Region.binds] at hd
                              have e5 : ax.tmps[5]?.getD undef = .slice (some ⟨gp, op, none⟩) P.length pc := hf.out 5 (by decide) rfl
                              have g0 : sl ax 155 = .bool false := hf.got 16 (by decide) (by simp [hd])
                              refine ⟨fun hh => ?_, fun hh => ?_⟩
                              · first
                                  | (exact absurd (g0.symm.trans hh) (undef_ne _))
                                  | (exact absurd (g0.symm.trans hh) (bool_ne (by decide)))
                                  | (exfalso; revert hh; simp [Held, g0, *]; done)
                                  | (refine free_run (v := .slice (some ⟨gp, op, none⟩) P.length pc) (W' := W) rfl ?_ rfl (Below.refl _ _); go_simp)
                              · first
                                  | (exact absurd g0 hh)
                                  | (exfalso; revert hh; simp [Held, g0, *]; done)
                                  | (show undef = _; first | rfl | (simp [*]; done))
                            · intro L ax W hf hd
                              simp [Region.binds] at hd
                              have e158 : ax.tmps[158]?.getD undef = .slice (some ⟨gp, op, none⟩) P.length pc := slv (hf.got 19 (by decide) (by simp [hd]))
                              have g0 : sl ax 155 = .bool false := hf.got 16 (by decide) (by simp [hd])
                              refine ⟨fun hh => ?_, fun hh => ?_⟩
                              · first
                                  | (exact absurd (g0.symm.trans hh) (undef_ne _))
                                  | (exact absurd (g0.symm.trans hh) (bool_ne (by decide)))
                                  | (exfalso; revert hh; simp [Held, g0, *]; done)
                                  | (refine free_run (v := .int .i64 (P.length : Int)) (W' := W) rfl ?_ rfl (Below.refl _ _); go_simp)
                              · first
                                  | (exact absurd g0 hh)
                                  | (exfalso; revert hh; simp [Held, g0, *]; done)
                                  | (show undef = _; first | rfl | (simp [*]; done))
                            · intro L ax W hf hd
                              simp [Region.binds] at hd
                              have e157 : ax.tmps[157]?.getD undef = .int .i64 ((c : Int) + 1) := slv (hf.got 18 (by decide) (by simp [hd]))
                              have e159 : ax.tmps[159]?.getD undef = .int .i64 (P.length : Int) := slv (hf.got 20 (by decide) (by simp [hd]))
                              have g0 : sl ax 155 = .bool false := hf.got 16 (by decide) (by simp [hd])
                              refine ⟨fun hh => ?_, fun hh => ?_⟩
                              · first
                                  | (exact absurd (g0.symm.trans hh) (undef_ne _))
                                  | (exact absurd (g0.symm.trans hh) (bool_ne (by decide)))
                                  | (exfalso; revert hh; simp [Held, g0, *]; done)
                                  | (refine free_run (v := .bool true) (W' := W) rfl ?_ rfl (Below.refl _ _); go_simp)
                              · first
                                  | (exact absurd g0 hh)
                                  | (exfalso; revert hh; simp [Held, g0, *]; done)
                                  | (show undef = _; first | rfl | (simp [*]; done))
                            · intro L ax W hf hd
                              simp [Region.binds] at hd
                              have e160 : ax.tmps[160]?.getD undef = .bool true := slv (hf.got 21 (by decide) (by simp [hd]))
                              have g0 : sl ax 155 = .bool false := hf.got 16 (by decide) (by simp [hd])
                              refine ⟨fun hh => ?_, fun hh => ?_⟩
                              · first
                                  | (exact absurd (g0.symm.trans hh) (undef_ne _))
                                  | (exact absurd (g0.symm.trans hh) (bool_ne (by decide)))
                                  | (exfalso; revert hh; simp [Held, g0, *]; done)
                                  | (refine free_run (v := .bool true) (W' := W) rfl ?_ rfl (Below.refl _ _); go_simp)
                              · first
                                  | (exact absurd g0 hh)
                                  | (exfalso; revert hh; simp [Held, g0, *]; done)
                                  | (show undef = _; first | rfl | (simp [*]; done))
                            · intro L ax W hf hd
                              simp [Region.binds] at hd
                              have e5 : ax.tmps[5]?.getD undef = .slice (some ⟨gp, op, none⟩) P.length pc := hf.out 5 (by decide) rfl
                              have g0 : sl ax 161 = .bool true := hf.got 22 (by decide) (by simp [hd])
                              refine ⟨fun hh => ?_, fun hh => ?_⟩
                              · first
                                  | (exact absurd (g0.symm.trans hh) (undef_ne _))
                                  | (exact absurd (g0.symm.trans hh) (bool_ne (by decide)))
                                  | (exfalso; revert hh; simp [Held, g0, *]; done)
                                  | (refine free_run (v := .slice (some ⟨gp, op, none⟩) P.length pc) (W' := W) rfl ?_ rfl (Below.refl _ _); go_simp)
                              · first
                                  | (exact absurd g0 hh)
                                  | (exfalso; revert hh; simp [Held, g0, *]; done)
                                  | (show undef = _; first | rfl | (simp [*]; done))
                            · intro L ax W hf hd
                              simp [Region.binds] at hd
                              have e12 : ax.tmps[12]?.getD undef = .int .i64 (c : Int) := hf.out 12 (by decide) rfl
                              have g0 : sl ax 161 = .bool true := hf.got 22 (by decide) (by simp [hd])
                              refine ⟨fun hh => ?_, fun hh => ?_⟩
                              · first
                                  | (exact absurd (g0.symm.trans hh) (undef_ne _))
                                  | (exact absurd (g0.symm.trans hh) (bool_ne (by decide)))
                                  | (exfalso; revert hh; simp [Held, g0, *]; done)
                                  | (refine free_run (v := .int .i64 (c : Int)) (W' := W) rfl ?_ rfl (Below.refl _ _); go_simp)
                              · first
                                  | (exact absurd g0 hh)
                                  | (exfalso; revert hh; simp [Held, g0, *]; done)
                                  | (show undef = _; first | rfl | (simp [*]; done))
                            · intro L ax W hf hd
                              simp [Region.binds] at hd
                              have e163 : ax.tmps[163]?.getD undef = .int .i64 (c : Int) := slv (hf.got 24 (by decide) (by simp [hd]))
                              have g0 : sl ax 161 = .bool true := hf.got 22 (by decide) (by simp [hd])
                              refine ⟨fun hh => ?_, fun hh => ?_⟩
                              · first
                                  | (exact absurd (g0.symm.trans hh) (undef_ne _))
                                  | (exact absurd (g0.symm.trans hh) (bool_ne (by decide)))
                                  | (exfalso; revert hh; simp [Held, g0, *]; done)
                                  | (refine free_run (v := .int .i64 ((c : Int) + 1)) (W' := W) rfl ?_ rfl (Below.refl _ _); go_simp)
                              · first
                                  | (exact absurd g0 hh)
                                  | (exfalso; revert hh; simp [Held, g0, *]; done)
                                  | (show undef = _; first | rfl | (simp [*]; done))
                            · intro L ax W hf hd
                              simp [Region.binds] at hd
                              have e162 : ax.tmps[162]?.getD undef = .slice (some ⟨gp, op, none⟩) P.length pc := slv (hf.got 23 (by decide) (by simp [hd]))
                              have e164 : ax.tmps[164]?.getD undef = .int .i64 ((c : Int) + 1) := slv (hf.got 25 (by decide) (by simp [hd]))
                              have g0 : sl ax 161 = .bool true := hf.got 22 (by decide) (by simp [hd])
                              refine ⟨fun hh => ?_, fun hh => ?_⟩
                              · first
                                  | (exact absurd (g0.symm.trans hh) (undef_ne _))
                                  | (exact absurd (g0.symm.trans hh) (bool_ne (by decide)))
                                  | (exfalso; revert hh; simp [Held, g0, *]; done)
                                  | (refine free_run (v := .pointer (some ⟨gp, op + (c + 1) * 33, none⟩)) (W' := W) rfl ?_ rfl (Below.refl _ _); go_simp)
                              · first
                                  | (exact absurd g0 hh)
                                  | (exfalso; revert hh; simp [Held, g0, *]; done)
                                  | (show undef = _; first | rfl | (simp [*]; done))
                            · intro L ax W hf hd
                              simp [Region.binds] at hd
                              have e165 : ax.tmps[165]?.getD undef = .pointer (some ⟨gp, op + (c + 1) * 33, none⟩) := slv (hf.got 26 (by decide) (by simp [hd]))
                              have g0 : sl ax 161 = .bool true := hf.got 22 (by decide) (by simp [hd])
                              refine ⟨fun hh => ?_, fun hh => ?_⟩
                              · first
                                  | (exact absurd (g0.symm.trans hh) (undef_ne _))
                                  | (exact absurd (g0.symm.trans hh) (bool_ne (by decide)))
                                  | (exfalso; revert hh; simp [Held, g0, *]; done)
                                  | (refine free_run (v := .pointer (some ⟨gp, op + (c + 1) * 33, none⟩)) (W' := W) rfl ?_ rfl (Below.refl _ _); go_simp)
                              · first
                                  | (exact absurd g0 hh)
                                  | (exfalso; revert hh; simp [Held, g0, *]; done)
                                  | (show undef = _; first | rfl | (simp [*]; done))
                            · intro L ax W hf hd
                              simp [Region.binds] at hd
                              have e166 : ax.tmps[166]?.getD undef = .pointer (some ⟨gp, op + (c + 1) * 33, none⟩) := slv (hf.got 27 (by decide) (by simp [hd]))
                              have g0 : sl ax 161 = .bool true := hf.got 22 (by decide) (by simp [hd])
                              refine ⟨fun hh => ?_, fun hh => ?_⟩
                              · first
                                  | (exact absurd (g0.symm.trans hh) (undef_ne _))
                                  | (exact absurd (g0.symm.trans hh) (bool_ne (by decide)))
                                  | (exfalso; revert hh; simp [Held, g0, *]; done)
                                  | (obtain ⟨r1, r2, r3⟩ := hSd W hf.below; refine free_run (v := .int .u64 (y.epoch.toNat : Int)) (W' := W) rfl ?_ rfl (Below.refl _ _); go_simp)
                              · first
                                  | (exact absurd g0 hh)
                                  | (exfalso; revert hh; simp [Held, g0, *]; done)
                                  | (show undef = _; first | rfl | (simp [*]; done))
                            · intro L ax W hf hd
                              simp [Region.binds] at hd
                              have e5 : ax.tmps[5]?.getD undef = .slice (some ⟨gp, op, none⟩) P.length pc := hf.out 5 (by decide) rfl
                              have g0 : sl ax 161 = .bool true := hf.got 22 (by decide) (by simp [hd])
                              refine ⟨fun hh => ?_, fun hh => ?_⟩
                              · first
                                  | (exact absurd (g0.symm.trans hh) (undef_ne _))
                                  | (exact absurd (g0.symm.trans hh) (bool_ne (by decide)))
                                  | (exfalso; revert hh; simp [Held, g0, *]; done)
                                  | (refine free_run (v := .slice (some ⟨gp, op, none⟩) P.length pc) (W' := W) rfl ?_ rfl (Below.refl _ _); go_simp)
                              · first
                                  | (exact absurd g0 hh)
                                  | (exfalso; revert hh; simp [Held, g0, *]; done)
                                  | (show undef = _; first | rfl | (simp [*]; done))
                            · intro L ax W hf hd
                              simp [Region.binds] at hd
                              have e12 : ax.tmps[12]?.getD undef = .int .i64 (c : Int) := hf.out 12 (by decide) rfl
                              have g0 : sl ax 161 = .bool true := hf.got 22 (by decide) (by simp [hd])
                              refine ⟨fun hh => ?_, fun hh => ?_⟩
                              · first
                                  | (exact absurd (g0.symm.trans hh) (undef_ne _))
                                  | (exact absurd (g0.symm.trans hh) (bool_ne (by decide)))
                                  | (exfalso; revert hh; simp [Held, g0, *]; done)
                                  | (refine free_run (v := .int .i64 (c : Int)) (W' := W) rfl ?_ rfl (Below.refl _ _); go_simp)
                              · first
                                  | (exact absurd g0 hh)
                                  | (exfalso; revert hh; simp [Held, g0, *]; done)
                                  | (show undef = _; first | rfl | (simp [*]; done))
                            · intro L ax W hf hd
                              simp [Region.binds] at hd
                              have e168 : ax.tmps[168]?.getD undef = .slice (some ⟨gp, op, none⟩) P.length pc := slv (hf.got 29 (by decide) (by simp [hd]))
                              have e169 : ax.tmps[169]?.getD undef = .int .i64 (c : Int) := slv (hf.got 30 (by decide) (by simp [hd]))
                              have g0 : sl ax 161 = .bool true := hf.got 22 (by decide) (by simp [hd])
                              refine ⟨fun hh => ?_, fun hh => ?_⟩
                              · first
                                  | (exact absurd (g0.symm.trans hh) (undef_ne _))
                                  | (exact absurd (g0.symm.trans hh) (bool_ne (by decide)))
                                  | (exfalso; revert hh; simp [Held, g0, *]; done)
                                  | (refine free_run (v := .pointer (some ⟨gp, op + c * 33, none⟩)) (W' := W) rfl ?_ rfl (Below.refl _ _); go_simp)
                              · first
                                  | (exact absurd g0 hh)
                                  | (exfalso; revert hh; simp [Held, g0, *]; done)
                                  | (show undef = _; first | rfl | (simp [*]; done))
                            · intro L ax W hf hd
                              simp [Region.binds] at hd
                              have e170 : ax.tmps[170]?.getD undef = .pointer (some ⟨gp, op + c * 33, none⟩) := slv (hf.got 31 (by decide) (by simp [hd]))
                              have g0 : sl ax 161 = .bool true := hf.got 22 (by decide) (by simp [hd])
                              refine ⟨fun hh => ?_, fun hh => ?_⟩
                              · first
                                  | (exact absurd (g0.symm.trans hh) (undef_ne _))
                                  | (exact absurd (g0.symm.trans hh) (bool_ne (by decide)))
                                  | (exfalso; revert hh; simp [Held, g0, *]; done)
                                  | (refine free_run (v := .pointer (some ⟨gp, op + c * 33, none⟩)) (W' := W) rfl ?_ rfl (Below.refl _ _); go_simp)
                              · first
                                  | (exact absurd g0 hh)
                                  | (exfalso; revert hh; simp [Held, g0, *]; done)
                                  | (show undef = _; first | rfl | (simp [*]; done))
                            · intro L ax W hf hd
                              simp [Region.binds] at hd
                              have e171 : ax.tmps[171]?.getD undef = .pointer (some ⟨gp, op + c * 33, none⟩) := slv (hf.got 32 (by decide) (by simp [hd]))
                              have g0 : sl ax 161 = .bool true := hf.got 22 (by decide) (by simp [hd])
                              refine ⟨fun hh => ?_, fun hh => ?_⟩
                              · first
                                  | (exact absurd (g0.symm.trans hh) (undef_ne _))
                                  | (exact absurd (g0.symm.trans hh) (bool_ne (by decide)))
                                  | (exfalso; revert hh; simp [Held, g0, *]; done)
                                  | (obtain ⟨r1, r2, r3⟩ := hSd W hf.below; refine free_run (v := .int .u64 (x.epoch.toNat : Int)) (W' := W) rfl ?_ rfl (Below.refl _ _); go_simp)
                              · first
                                  | (exact absurd g0 hh)
                                  | (exfalso; revert hh; simp [Held, g0, *]; done)
                                  | (show undef = _; first | rfl | (simp [*]; done))
                            · intro L ax W hf hd
                              simp [Region.binds] at hd
                              have e172 : ax.tmps[172]?.getD undef = .int .u64 (x.epoch.toNat : Int) := slv (hf.got 33 (by decide) (by simp [hd]))
                              have g0 : sl ax 161 = .bool true := hf.got 22 (by decide) (by simp [hd])
                              refine ⟨fun hh => ?_, fun hh => ?_⟩
                              · first
                                  | (exact absurd (g0.symm.trans hh) (undef_ne _))
                                  | (exact absurd (g0.symm.trans hh) (bool_ne (by decide)))
                                  | (exfalso; revert hh; simp [Held, g0, *]; done)
                                  | (refine free_run (v := .int .u64 ((x.epoch.toNat : Int) + 1)) (W' := W) rfl ?_ rfl (Below.refl _ _); go_simp)
                              · first
                                  | (exact absurd g0 hh)
                                  | (exfalso; revert hh; simp [Held, g0, *]; done)
                                  | (show undef = _; first | rfl | (simp [*]; done))
                            · intro L ax W hf hd
                              simp [Region.binds] at hd
                              have e167 : ax.tmps[167]?.getD undef = .int .u64 (y.epoch.toNat : Int) := slv (hf.got 28 (by decide) (by simp [hd]))
                              have e173 : ax.tmps[173]?.getD undef = .int .u64 ((x.epoch.toNat : Int) + 1) := slv (hf.got 34 (by decide) (by simp [hd]))
                              have g0 : sl ax 161 = .bool true := hf.got 22 (by decide) (by simp [hd])
                              refine ⟨fun hh => ?_, fun hh => ?_⟩
                              · first
                                  | (exact absurd (g0.symm.trans hh) (undef_ne _))
                                  | (exact absurd (g0.symm.trans hh) (bool_ne (by decide)))
                                  | (exfalso; revert hh; simp [Held, g0, *]; done)
                                  | (refine free_run (v := .bool bf) (W' := W) rfl ?_ rfl (Below.refl _ _); go_simp)
                              · first
                                  | (exact absurd g0 hh)
                                  | (exfalso; revert hh; simp [Held, g0, *]; done)
                                  | (show undef = _; first | rfl | (simp [*]; done))
                            · intro L ax W hf hd
                              simp [Region.binds] at hd
                              have e161 : ax.tmps[161]?.getD undef = .bool true := slv (hf.got 22 (by decide) (by simp [hd]))
                              have e174 : ax.tmps[174]?.getD undef = .bool bf := slv (hf.got 35 (by decide) (by simp [hd]))
                              have g0 : sl ax 155 = .bool false := hf.got 16 (by decide) (by simp [hd])
                              refine ⟨fun hh => ?_, fun hh => ?_⟩
                              · first
                                  | (exact absurd (g0.symm.trans hh) (undef_ne _))
                                  | (exact absurd (g0.symm.trans hh) (bool_ne (by decide)))
                                  | (exfalso; revert hh; simp [Held, g0, *]; done)
                                  | (refine free_run (v := .bool bf) (W' := W) rfl ?_ rfl (Below.refl _ _); go_simp)
                              · first
                                  | (exact absurd g0 hh)
                                  | (exfalso; revert hh; simp [Held, g0, *]; done)
                                  | (show undef = _; first | rfl | (simp [*]; done))
                            · intro L ax W hf hd
                              simp [Region.binds] at hd
                              have e155 : ax.tmps[155]?.getD undef = .bool false := slv (hf.got 16 (by decide) (by simp [hd]))
                              have e175 : ax.tmps[175]?.getD undef = .bool bf := slv (hf.got 36 (by decide) (by simp [hd]))
                              have g0 : sl ax 146 = .bool false := hf.got 7 (by decide) (by simp [hd])
                              refine ⟨fun hh => ?_, fun hh => ?_⟩
                              · first
                                  | (exact absurd (g0.symm.trans hh) (undef_ne _))
                                  | (exact absurd (g0.symm.trans hh) (bool_ne (by decide)))
                                  | (exfalso; revert hh; simp [Held, g0, *]; done)
                                  | (refine free_run (v := .bool bf) (W' := W) rfl ?_ rfl (Below.refl _ _); go_simp)
                              · first
                                  | (exact absurd g0 hh)
                                  | (exfalso; revert hh; simp [Held, g0, *]; done)
                                  | (show undef = _; first | rfl | (simp [*]; done))
                            · intro L ax W hf hd
                              simp [Region.binds] at hd
                              have e152 : ax.tmps[152]?.getD undef = .bool bf := slv (hf.got 13 (by decide) (by simp [hd]))
                              have e176 : ax.tmps[176]?.getD undef = .bool bf := slv (hf.got 37 (by decide) (by simp [hd]))
                              have g0 : sl ax 146 = .bool false := hf.got 7 (by decide) (by simp [hd])
                              refine ⟨fun hh => ?_, fun hh => ?_⟩
                              · first
                                  | (exact absurd (g0.symm.trans hh) (undef_ne _))
                                  | (exact absurd (g0.symm.trans hh) (bool_ne (by decide)))
                                  | (exfalso; revert hh; simp [Held, g0, *]; done)
                                  | (refine free_run (v := .bool false) (W' := W) rfl ?_ rfl (Below.refl _ _); go_simp)
                              · first
                                  | (exact absurd g0 hh)
                                  | (exfalso; revert hh; simp [Held, g0, *]; done)
                                  | (show undef = _; first | rfl | (simp [*]; done))
                            · intro L ax W hf hd
                              simp [Region.binds] at hd
                              have e146 : ax.tmps[146]?.getD undef = .bool false := slv (hf.got 7 (by decide) (by simp [hd]))
                              have e177 : ax.tmps[177]?.getD undef = .bool false := slv (hf.got 38 (by decide) (by simp [hd]))
                              refine ⟨fun _ => ?_, fun h => absurd trivial h⟩
                              refine free_run (v := .bool false) (W' := W) rfl ?_ rfl (Below.refl _ _)
                              go_simp
                          · intro vs W' hl' hF' hb
                            obtain ⟨g', hg1, hg2⟩ := vs_lit vs hl' hF'
                            have e6 : g' 39 = .bool false := hg2 39 (by decide)
                            rw [hg1]
                            clear hF' hg1 hg2 hl'
                            simp only [List.length_cons, List.length_nil, Nat.reduceAdd, show List.range 40 = [0, 1, 2, 3, 4, 5, 6, 7, 8, 9, 10, 11, 12, 13, 14, 15, 16, 17, 18, 19, 20, 21, 22, 23, 24, 25, 26, 27, 28, 29, 30, 31, 32, 33, 34, 35, 36, 37, 38, 39] from rfl, List.map_cons, List.map_nil, putL, List.zip_cons_cons, List.zip_nil_right, List.setIfInBounds_toArray, List.set_cons_succ, List.set_cons_zero, e6]
                            have hK6 := Lib.hid (hKst _ _ _ hKw.out hb)
                            clear hb hSd HJ3 HF3
                            go_wp2_with fail
                            go_roundw
                            case rel => exact ⟨c + 1, by omega, by go_num, hK6⟩
                            case measure => (first | omega | (simp [intOf]; done) | (simp [intOf]; omega))
                        -- DEV>
                      ·
                        -- DEV<
                        as_aux_lemma =>
                          have hbf1 : bf = false := by
                            rw [hbf]
                            refine decide_eq_false fun h => ?_
                            rcases h with h | ⟨h, _⟩
                            · exact hc0 h
                            · exact hc1 h
                          have hSd := fun (W : World) (h : Below wr.heap.size wr W) => hKrow la W (hKst _ _ _ hKw.out h) c hcx
                          clear hbf
                          subst hbf1
                          generalize P[c] = x at *
                          have w5' : decide ((c : Int) + 1 < (P.length : Int)) = false := decide_eq_false (by omega)
                          go_upto_region 25 with fail
                          refine wp_region_freeG_l (fun W W' => Below W.heap.size W W') (by kernel_rfl) [139, 140, 141, 142, 143, 144, 145, 146, 147, 148, 149, 150, 151, 152, 153, 154, 155, 156, 157, 158, 159, 160, 161, 162, 163, 164, 165, 166, 167, 168, 169, 170, 171, 172, 173, 174, 175, 176, 177, 178]
                            [Is (.pointer (some ⟨r, 0, none⟩)), Is (.slice (some ⟨gp, op, none⟩) P.length pc), Is (.int .i64 (c : Int)), Is (.pointer (some ⟨gp, op + c * 33, none⟩)), Is (.agg (pointA x)), Is (.bool true), Is (.bool false), Is (.bool false), Is (.pointer (some ⟨r, 0, none⟩)), Is (.slice (some ⟨gp, op, none⟩) P.length pc), Is (.int .i64 (c : Int)), Is (.pointer (some ⟨gp, op + c * 33, none⟩)), Is (.agg (pointA x)), Is (.bool false), Is (.int .i64 (c : Int)), Is (.bool false), Is (.bool false), Is (.int .i64 (c : Int)), Is (.int .i64 ((c : Int) + 1)), Is (.slice (some ⟨gp, op, none⟩) P.length pc), Is (.int .i64 (P.length : Int)), Is (.bool false), Is (.bool false), Is (undef), Is (undef), Is (undef), Is (undef), Is (undef), Is (undef), Is (undef), Is (undef), Is (undef), Is (undef), Is (undef), Is (undef), Is (undef), Is (.bool false), Is (.bool false), Is (.bool false), Is (.bool false)]
                            (by kernel_rfl) (fun W W' h hb => hb.trans (h.mono hb.size)) ?_ ?_ ?_
                          · intro f hf
                            simp only [List.mem_cons, List.not_mem_nil, or_false] at hf
                            rcases hf with rfl | rfl | rfl | rfl | rfl | rfl | rfl | rfl | rfl | rfl | rfl | rfl | rfl | rfl | rfl | rfl | rfl | rfl | rfl | rfl | rfl | rfl | rfl | rfl | rfl | rfl | rfl | rfl | rfl | rfl | rfl | rfl | rfl | rfl | rfl | rfl | rfl | rfl | rfl | rfl <;> intro x W W' h hr <;> first | exact h
                          · refine ⟨?_, ?_, ?_, ?_, ?_, ?_, ?_, ?_, ?_, ?_, ?_, ?_, ?_, ?_, ?_, ?_, ?_, ?_, ?_, ?_, ?_, ?_, ?_, ?_, ?_, ?_, ?_, ?_, ?_, ?_, ?_, ?_, ?_, ?_, ?_, ?_, ?_, ?_, ?_, ?_, trivial⟩
                            · intro L ax W hf hd
                              try simp [Region.binds] at hd
                              have e7 : ax.tmps[7]?.getD undef = .pointer (some ⟨r, 0, none⟩) := hf.out 7 (by decide) rfl
                              refine ⟨fun _ => ?_, fun h => absurd trivial h⟩
                              refine free_run (v := .pointer (some ⟨r, 0, none⟩)) (W' := W) rfl ?_ rfl (Below.refl _ _)
                              go_simp
                            · intro L ax W hf hd
                              try simp [Region.binds] at hd
                              have e5 : ax.tmps[5]?.getD undef = .slice (some ⟨gp, op, none⟩) P.length pc := hf.out 5 (by decide) rfl
                              refine ⟨fun _ => ?_, fun h => absurd trivial h⟩
                              refine free_run (v := .slice (some ⟨gp, op, none⟩) P.length pc) (W' := W) rfl ?_ rfl (Below.refl _ _)
                              go_simp
                            · intro L ax W hf hd
                              try simp [Region.binds] at hd
                              have e12 : ax.tmps[12]?.getD undef = .int .i64 (c : Int) := hf.out 12 (by decide) rfl
                              refine ⟨fun _ => ?_, fun h => absurd trivial h⟩
                              refine free_run (v := .int .i64 (c : Int)) (W' := W) rfl ?_ rfl (Below.refl _ _)
                              go_simp
                            · intro L ax W hf hd
                              simp [Region.binds] at hd
                              have e140 : ax.tmps[140]?.getD undef = .slice (some ⟨gp, op, none⟩) P.length pc := slv (hf.got 1 (by decide) (by simp [hd]))
                              have e141 : ax.tmps[141]?.getD undef = .int .i64 (c : Int) := slv (hf.got 2 (by decide) (by simp [hd]))
                              refine ⟨fun _ => ?_, fun h => absurd trivial h⟩
                              refine free_run (v := .pointer (some ⟨gp, op + c * 33, none⟩)) (W' := W) rfl ?_ rfl (Below.refl _ _)
                              go_simp
                            · intro L ax W hf hd
                              simp [Region.binds] at hd
                              have e142 : ax.tmps[142]?.getD undef = .pointer (some ⟨gp, op + c * 33, none⟩) := slv (hf.got 3 (by decide) (by simp [hd]))
                              refine ⟨fun _ => ?_, fun h => absurd trivial h⟩
                              have r1 := hSd W hf.below
                              refine free_run (v := .agg (pointA x)) (W' := W) rfl ?_ rfl (Below.refl _ _)
                              go_simp
                            · intro L ax W hf hd
                              simp [Region.binds] at hd
                              have e139 : ax.tmps[139]?.getD undef = .pointer (some ⟨r, 0, none⟩) := slv (hf.got 0 (by decide) (by simp [hd]))
                              have e143 : ax.tmps[143]?.getD undef = .agg (pointA x) := slv (hf.got 4 (by decide) (by simp [hd]))
                              refine ⟨fun _ => ?_, fun h => absurd trivial h⟩
                              refine free_call (f := 24) (args := #[.pointer (some ⟨r, 0, none⟩), .agg (pointA x)]) rfl (by go_simp) ?_
                              refine (HJ3 W hf.below).mono ?_
                              rintro e w' ⟨rfl, hb⟩
                              exact ⟨_, rfl, rfl, hb⟩
                            · intro L ax W hf hd
                              simp [Region.binds] at hd
                              have e144 : ax.tmps[144]?.getD undef = .bool true := slv (hf.got 5 (by decide) (by simp [hd]))
                              refine ⟨fun _ => ?_, fun h => absurd trivial h⟩
                              refine free_run (v := .bool false) (W' := W) rfl ?_ rfl (Below.refl _ _)
                              go_simp
                            · intro L ax W hf hd
                              simp [Region.binds] at hd
                              have e145 : ax.tmps[145]?.getD undef = .bool false := slv (hf.got 6 (by decide) (by simp [hd]))
                              refine ⟨fun _ => ?_, fun h => absurd trivial h⟩
                              refine free_run (v := .bool false) (W' := W) rfl ?_ rfl (Below.refl _ _)
                              go_simp
                            · intro L ax W hf hd
                              simp [Region.binds] at hd
                              have e7 : ax.tmps[7]?.getD undef = .pointer (some ⟨r, 0, none⟩) := hf.out 7 (by decide) rfl
                              have g0 : sl ax 146 = .bool false := hf.got 7 (by decide) (by simp [hd])
                              refine ⟨fun hh => ?_, fun hh => ?_⟩
                              · first
                                  | (exact absurd (g0.symm.trans hh) (undef_ne _))
                                  | (exact absurd (g0.symm.trans hh) (bool_ne (by decide)))
                                  | (exfalso; revert hh; simp [Held, g0, *]; done)
                                  | (refine free_run (v := .pointer (some ⟨r, 0, none⟩)) (W' := W) rfl ?_ rfl (Below.refl _ _); go_simp)
                              · first
                                  | (exact absurd g0 hh)
                                  | (exfalso; revert hh; simp [Held, g0, *]; done)
                                  | (show undef = _; first | rfl | (simp [*]; done))
                            · intro L ax W hf hd
                              simp [Region.binds] at hd
                              have e5 : ax.tmps[5]?.getD undef = .slice (some ⟨gp, op, none⟩) P.length pc := hf.out 5 (by decide) rfl
                              have g0 : sl ax 146 = .bool false := hf.got 7 (by decide) (by simp [hd])
                              refine ⟨fun hh => ?_, fun hh => ?_⟩
                              · first
                                  | (exact absurd (g0.symm.trans hh) (undef_ne _))
                                  | (exact absurd (g0.symm.trans hh) (bool_ne (by decide)))
                                  | (exfalso; revert hh; simp [Held, g0, *]; done)
                                  | (refine free_run (v := .slice (some ⟨gp, op, none⟩) P.length pc) (W' := W) rfl ?_ rfl (Below.refl _ _); go_simp)
                              · first
                                  | (exact absurd g0 hh)
                                  | (exfalso; revert hh; simp [Held, g0, *]; done)
                                  | (show undef = _; first | rfl | (simp [*]; done))
                            · intro L ax W hf hd
                              simp [Region.binds] at hd
                              have e12 : ax.tmps[12]?.getD undef = .int .i64 (c : Int) := hf.out 12 (by decide) rfl
                              have g0 : sl ax 146 = .bool false := hf.got 7 (by decide) (by simp [hd])
                              refine ⟨fun hh => ?_, fun hh => ?_⟩
                              · first
                                  | (exact absurd (g0.symm.trans hh) (undef_ne _))
                                  | (exact absurd (g0.symm.trans hh) (bool_ne (by decide)))
                                  | (exfalso; revert hh; simp [Held, g0, *]; done)
                                  | (refine free_run (v := .int .i64 (c : Int)) (W' := W) rfl ?_ rfl (Below.refl _ _); go_simp)
                              · first
                                  | (exact absurd g0 hh)
                                  | (exfalso; revert hh; simp [Held, g0, *]; done)
                                  | (show undef = _; first | rfl | (simp [*]; done))
                            · intro L ax W hf hd
                              simp [Region.binds] at hd
                              have e148 : ax.tmps[148]?.getD undef = .slice (some ⟨gp, op, none⟩) P.length pc := slv (hf.got 9 (by decide) (by simp [hd]))
                              have e149 : ax.tmps[149]?.getD undef = .int .i64 (c : Int) := slv (hf.got 10 (by decide) (by simp [hd]))
                              have g0 : sl ax 146 = .bool false := hf.got 7 (by decide) (by simp [hd])
                              refine ⟨fun hh => ?_, fun hh => ?_⟩
                              · first
                                  | (exact absurd (g0.symm.trans hh) (undef_ne _))
                                  | (exact absurd (g0.symm.trans hh) (bool_ne (by decide)))
                                  | (exfalso; revert hh; simp [Held, g0, *]; done)
                                  | (refine free_run (v := .pointer (some ⟨gp, op + c * 33, none⟩)) (W' := W) rfl ?_ rfl (Below.refl _ _); go_simp)
                              · first
                                  | (exact absurd g0 hh)
                                  | (exfalso; revert hh; simp [Held, g0, *]; done)
                                  | (show undef = _; first | rfl | (simp [*]; done))
                            · intro L ax W hf hd
                              simp [Region.binds] at hd
                              have e150 : ax.tmps[150]?.getD undef = .pointer (some ⟨gp, op + c * 33, none⟩) := slv (hf.got 11 (by decide) (by simp [hd]))
                              have g0 : sl ax 146 = .bool false := hf.got 7 (by decide) (by simp [hd])
                              refine ⟨fun hh => ?_, fun hh => ?_⟩
                              · first
                                  | (exact absurd (g0.symm.trans hh) (undef_ne _))
                                  | (exact absurd (g0.symm.trans hh) (bool_ne (by decide)))
                                  | (exfalso; revert hh; simp [Held, g0, *]; done)
                                  | ((have r1 := hSd W hf.below); refine free_run (v := .agg (pointA x)) (W' := W) rfl ?_ rfl (Below.refl _ _); go_simp)
                              · first
                                  | (exact absurd g0 hh)
                                  | (exfalso; revert hh; simp [Held, g0, *]; done)
                                  | (show undef = _; first | rfl | (simp [*]; done))
                            · intro L ax W hf hd
                              simp [Region.binds] at hd
                              have e147 : ax.tmps[147]?.getD undef = .pointer (some ⟨r, 0, none⟩) := slv (hf.got 8 (by decide) (by simp [hd]))
                              have e151 : ax.tmps[151]?.getD undef = .agg (pointA x) := slv (hf.got 12 (by decide) (by simp [hd]))
                              have g0 : sl ax 146 = .bool false := hf.got 7 (by decide) (by simp [hd])
                              refine ⟨fun hh => ?_, fun hh => ?_⟩
                              · first
                                  | (exact absurd (g0.symm.trans hh) (undef_ne _))
                                  | (exact absurd (g0.symm.trans hh) (bool_ne (by decide)))
                                  | (exfalso; revert hh; simp [Held, g0, *]; done)
                                  | (refine free_call (f := 25) (args := #[.pointer (some ⟨r, 0, none⟩), .agg (pointA x)]) rfl (by go_simp) ?_; refine (HF3 W hf.below).mono ?_; rintro e w' ⟨rfl, hb⟩; exact ⟨_, rfl, rfl, hb⟩)
                              · first
                                  | (exact absurd g0 hh)
                                  | (exfalso; revert hh; simp [Held, g0, *]; done)
                                  | (show undef = _; first | rfl | (simp [*]; done))
                            · intro L ax W hf hd
                              simp [Region.binds] at hd
                              have e12 : ax.tmps[12]?.getD undef = .int .i64 (c : Int) := hf.out 12 (by decide) rfl
                              have g0 : sl ax 146 = .bool false := hf.got 7 (by decide) (by simp [hd])
                              refine ⟨fun hh => ?_, fun hh => ?_⟩
                              · first
                                  | (exact absurd (g0.symm.trans hh) (undef_ne _))
                                  | (exact absurd (g0.symm.trans hh) (bool_ne (by decide)))
                                  | (exfalso; revert hh; simp [Held, g0, *]; done)
                                  | (refine free_run (v := .int .i64 (c : Int)) (W' := W) rfl ?_ rfl (Below.refl _ _); go_simp)
                              · first
                                  | (exact absurd g0 hh)
                                  | (exfalso; revert hh; simp [Held, g0, *]; done)
                                  | (show undef = _; first | rfl | (simp [*]; done))
                            · intro L ax W hf hd
                              simp [Region.binds] at hd
                              have e153 : ax.tmps[153]?.getD undef = .int .i64 (c : Int) := slv (hf.got 14 (by decide) (by simp [hd]))
                              have g0 : sl ax 146 = .bool false := hf.got 7 (by decide) (by simp [hd])
                              refine ⟨fun hh => ?_, fun hh => ?_⟩
                              · first
                                  | (exact absurd (g0.symm.trans hh) (undef_ne _))
                                  | (exact absurd (g0.symm.trans hh) (bool_ne (by decide)))
                                  | (exfalso; revert hh; simp [Held, g0, *]; done)
                                  | (refine free_run (v := .bool false) (W' := W) rfl ?_ rfl (Below.refl _ _); go_simp)
                              · first
                                  | (exact absurd g0 hh)
                                  | (exfalso; revert hh; simp [Held, g0, *]; done)
                                  | (show undef = _; first | rfl | (simp [*]; done))
                            · intro L ax W hf hd
                              simp [Region.binds] at hd
                              have e154 : ax.tmps[154]?.getD undef = .bool false := slv (hf.got 15 (by decide) (by simp [hd]))
                              have g0 : sl ax 146 = .bool false := hf.got 7 (by decide) (by simp [hd])
                              refine ⟨fun hh => ?_, fun hh => ?_⟩
                              · first
                                  | (exact absurd (g0.symm.trans hh) (undef_ne _))
                                  | (exact absurd (g0.symm.trans hh) (bool_ne (by decide)))
                                  | (exfalso; revert hh; simp [Held, g0, *]; done)
                                  | (refine free_run (v := .bool false) (W' := W) rfl ?_ rfl (Below.refl _ _); go_simp)
                              · first
                                  | (exact absurd g0 hh)
                                  | (exfalso; revert hh; simp [Held, g0, *]; done)
                                  | (show undef = _; first | rfl | (simp [*]; done))
                            · intro L ax W hf hd
                              simp [Region.binds] at hd
                              have e12 : ax.tmps[12]?.getD undef = .int .i64 (c : Int) := hf.out 12 (by decide) rfl
                              have g0 : sl ax 155 = .bool false := hf.got 16 (by decide) (by simp [hd])
                              refine ⟨fun hh => ?_, fun hh => ?_⟩
                              · first
                                  | (exact absurd (g0.symm.trans hh) (undef_ne _))
                                  | (exact absurd (g0.symm.trans hh) (bool_ne (by decide)))
                                  | (exfalso; revert hh; simp [Held, g0, *]; done)
                                  | (refine free_run (v := .int .i64 (c : Int)) (W' := W) rfl ?_ rfl (Below.refl _ _); go_simp)
                              · first
                                  | (exact absurd g0 hh)
                                  | (exfalso; revert hh; simp [Held, g0, *]; done)
                                  | (show undef = _; first | rfl | (simp [*]; done))
                            · intro L ax W hf hd
                              simp [Region.binds] at hd
                              have e156 : ax.tmps[156]?.getD undef = .int .i64 (c : Int) := slv (hf.got 17 (by decide) (by simp [hd]))
                              have g0 : sl ax 155 = .bool false := hf.got 16 (by decide) (by simp [hd])
                              refine ⟨fun hh => ?_, fun hh => ?_⟩
                              · first
                                  | (exact absurd (g0.symm.trans hh) (undef_ne _))
                                  | (exact absurd (g0.symm.trans hh) (bool_ne (by decide)))
                                  | (exfalso; revert hh; simp [Held, g0, *]; done)
                                  | (refine free_run (v := .int .i64 ((c : Int) + 1)) (W' := W) rfl ?_ rfl (Below.refl _ _); go_simp)
                              · first
                                  | (exact absurd g0 hh)
                                  | (exfalso; revert hh; simp [Held, g0, *]; done)
                                  | (show undef = _; first | rfl | (simp [*]; done))
                            · intro L ax W hf hd
                              simp [Region.binds] at hd
                              have e5 : ax.tmps[5]?.getD undef = .slice (some ⟨gp, op, none⟩) P.length pc := hf.out 5 (by decide) rfl
                              have g0 : sl ax 155 = .bool false := hf.got 16 (by decide) (by simp [hd])
                              refine ⟨fun hh => ?_, fun hh => ?_⟩
                              · first
                                  | (exact absurd (g0.symm.trans hh) (undef_ne _))
                                  | (exact absurd (g0.symm.trans hh) (bool_ne (by decide)))
                                  | (exfalso; revert hh; simp [Held, g0, *]; done)
                                  | (refine free_run (v := .slice (some ⟨gp, op, none⟩) P.length pc) (W' := W) rfl ?_ rfl (Below.refl _ _); go_simp)
                              · first
                                  | (exact absurd g0 hh)
                                  | (exfalso; revert hh; simp [Held, g0, *]; done)
                                  | (show undef = _; first | rfl | (simp [*]; done))
                            · intro L ax W hf hd
                              simp [Region.binds] at hd
                              have e158 : ax.tmps[158]?.getD undef = .slice (some ⟨gp, op, none⟩) P.length pc := slv (hf.got 19 (by decide) (by simp [hd]))
                              have g0 : sl ax 155 = .bool false := hf.got 16 (by decide) (by simp [hd])
                              refine ⟨fun hh => ?_, fun hh => ?_⟩
                              · first
                                  | (exact absurd (g0.symm.trans hh) (undef_ne _))
                                  | (exact absurd (g0.symm.trans hh) (bool_ne (by decide)))
                                  | (exfalso; revert hh; simp [Held, g0, *]; done)
                                  | (refine free_run (v := .int .i64 (P.length : Int)) (W' := W) rfl ?_ rfl (Below.refl _ _); go_simp)
                              · first
                                  | (exact absurd g0 hh)
                                  | (exfalso; revert hh; simp [Held, g0, *]; done)
                                  | (show undef = _; first | rfl | (simp [*]; done))
                            · intro L ax W hf hd
                              simp [Region.binds] at hd
                              have e157 : ax.tmps[157]?.getD undef = .int .i64 ((c : Int) + 1) := slv (hf.got 18 (by decide) (by simp [hd]))
                              have e159 : ax.tmps[159]?.getD undef = .int .i64 (P.length : Int) := slv (hf.got 20 (by decide) (by simp [hd]))
                              have g0 : sl ax 155 = .bool false := hf.got 16 (by decide) (by simp [hd])
                              refine ⟨fun hh => ?_, fun hh => ?_⟩
                              · first
                                  | (exact absurd (g0.symm.trans hh) (undef_ne _))
                                  | (exact absurd (g0.symm.trans hh) (bool_ne (by decide)))
                                  | (exfalso; revert hh; simp [Held, g0, *]; done)
                                  | (refine free_run (v := .bool false) (W' := W) rfl ?_ rfl (Below.refl _ _); go_simp)
                              · first
                                  | (exact absurd g0 hh)
                                  | (exfalso; revert hh; simp [Held, g0, *]; done)
                                  | (show undef = _; first | rfl | (simp [*]; done))
                            · intro L ax W hf hd
                              simp [Region.binds] at hd
                              have e160 : ax.tmps[160]?.getD undef = .bool false := slv (hf.got 21 (by decide) (by simp [hd]))
                              have g0 : sl ax 155 = .bool false := hf.got 16 (by decide) (by simp [hd])
                              refine ⟨fun hh => ?_, fun hh => ?_⟩
                              · first
                                  | (exact absurd (g0.symm.trans hh) (undef_ne _))
                                  | (exact absurd (g0.symm.trans hh) (bool_ne (by decide)))
                                  | (exfalso; revert hh; simp [Held, g0, *]; done)
                                  | (refine free_run (v := .bool false) (W' := W) rfl ?_ rfl (Below.refl _ _); go_simp)
                              · first
                                  | (exact absurd g0 hh)
                                  | (exfalso; revert hh; simp [Held, g0, *]; done)
                                  | (show undef = _; first | rfl | (simp [*]; done))
                            · intro L ax W hf hd
                              simp [Region.binds] at hd
                              have e5 : ax.tmps[5]?.getD undef = .slice (some ⟨gp, op, none⟩) P.length pc := hf.out 5 (by decide) rfl
                              have g0 : sl ax 161 = .bool false := hf.got 22 (by decide) (by simp [hd])
                              refine ⟨fun hh => ?_, fun hh => ?_⟩
                              · first
                                  | (exact absurd (g0.symm.trans hh) (undef_ne _))
                                  | (exact absurd (g0.symm.trans hh) (bool_ne (by decide)))
                                  | (exfalso; revert hh; simp [Held, g0, *]; done)
                                  | (refine free_run (v := undef) (W' := W) rfl ?_ rfl (Below.refl _ _); go_simp)
                              · first
                                  | (exact absurd g0 hh)
                                  | (exfalso; revert hh; simp [Held, g0, *]; done)
                                  | (show undef = _; first | rfl | (simp [*]; done))
                            · intro L ax W hf hd
                              simp [Region.binds] at hd
                              have e12 : ax.tmps[12]?.getD undef = .int .i64 (c : Int) := hf.out 12 (by decide) rfl
                              have g0 : sl ax 161 = .bool false := hf.got 22 (by decide) (by simp [hd])
                              refine ⟨fun hh => ?_, fun hh => ?_⟩
                              · first
                                  | (exact absurd (g0.symm.trans hh) (undef_ne _))
                                  | (exact absurd (g0.symm.trans hh) (bool_ne (by decide)))
                                  | (exfalso; revert hh; simp [Held, g0, *]; done)
                                  | (refine free_run (v := undef) (W' := W) rfl ?_ rfl (Below.refl _ _); go_simp)
                              · first
                                  | (exact absurd g0 hh)
                                  | (exfalso; revert hh; simp [Held, g0, *]; done)
                                  | (show undef = _; first | rfl | (simp [*]; done))
                            · intro L ax W hf hd
                              simp [Region.binds] at hd
                              have e163 : ax.tmps[163]?.getD undef = undef := slv (hf.got 24 (by decide) (by simp [hd]))
                              have g0 : sl ax 161 = .bool false := hf.got 22 (by decide) (by simp [hd])
                              refine ⟨fun hh => ?_, fun hh => ?_⟩
                              · first
                                  | (exact absurd (g0.symm.trans hh) (undef_ne _))
                                  | (exact absurd (g0.symm.trans hh) (bool_ne (by decide)))
                                  | (exfalso; revert hh; simp [Held, g0, *]; done)
                                  | (refine free_run (v := undef) (W' := W) rfl ?_ rfl (Below.refl _ _); go_simp)
                              · first
                                  | (exact absurd g0 hh)
                                  | (exfalso; revert hh; simp [Held, g0, *]; done)
                                  | (show undef = _; first | rfl | (simp [*]; done))
                            · intro L ax W hf hd
                              simp [Region.binds] at hd
                              have e162 : ax.tmps[162]?.getD undef = undef := slv (hf.got 23 (by decide) (by simp [hd]))
                              have e164 : ax.tmps[164]?.getD undef = undef := slv (hf.got 25 (by decide) (by simp [hd]))
                              have g0 : sl ax 161 = .bool false := hf.got 22 (by decide) (by simp [hd])
                              refine ⟨fun hh => ?_, fun hh => ?_⟩
                              · first
                                  | (exact absurd (g0.symm.trans hh) (undef_ne _))
                                  | (exact absurd (g0.symm.trans hh) (bool_ne (by decide)))
                                  | (exfalso; revert hh; simp [Held, g0, *]; done)
                                  | (refine free_run (v := undef) (W' := W) rfl ?_ rfl (Below.refl _ _); go_simp)
                              · first
                                  | (exact absurd g0 hh)
                                  | (exfalso; revert hh; simp [Held, g0, *]; done)
                                  | (show undef = _; first | rfl | (simp [*]; done))
                            · intro L ax W hf hd
                              simp [Region.binds] at hd
                              have e165 : ax.tmps[165]?.getD undef = undef := slv (hf.got 26 (by decide) (by simp [hd]))
                              have g0 : sl ax 161 = .bool false := hf.got 22 (by decide) (by simp [hd])
                              refine ⟨fun hh => ?_, fun hh => ?_⟩
                              · first
                                  | (exact absurd (g0.symm.trans hh) (undef_ne _))
                                  | (exact absurd (g0.symm.trans hh) (bool_ne (by decide)))
                                  | (exfalso; revert hh; simp [Held, g0, *]; done)
                                  | (refine free_run (v := undef) (W' := W) rfl ?_ rfl (Below.refl _ _); go_simp)
                              · first
                                  | (exact absurd g0 hh)
                                  | (exfalso; revert hh; simp [Held, g0, *]; done)
                                  | (show undef = _; first | rfl | (simp [*]; done))
                            · intro L ax W hf hd
                              simp [Region.binds] at hd
                              have e166 : ax.tmps[166]?.getD undef = undef := slv (hf.got 27 (by decide) (by simp [hd]))
                              have g0 : sl ax 161 = .bool false := hf.got 22 (by decide) (by simp [hd])
                              refine ⟨fun hh => ?_, fun hh => ?_⟩
                              · first
                                  | (exact absurd (g0.symm.trans hh) (undef_ne _))
                                  | (exact absurd (g0.symm.trans hh) (bool_ne (by decide)))
                                  | (exfalso; revert hh; simp [Held, g0, *]; done)
                                  | (refine free_run (v := undef) (W' := W) rfl ?_ rfl (Below.refl _ _); go_simp)
                              · first
                                  | (exact absurd g0 hh)
                                  | (exfalso; revert hh; simp [Held, g0, *]; done)
                                  | (show undef = _; first | rfl | (simp [*]; done))
                            · intro L ax W hf hd
                              simp [Region.binds] at hd
                              have e5 : ax.tmps[5]?.getD undef = .slice (some ⟨gp, op, none⟩) P.length pc := hf.out 5 (by decide) rfl
                              have g0 : sl ax 161 = .bool false := hf.got 22 (by decide) (by simp [hd])
                              refine ⟨fun hh => ?_, fun hh => ?_⟩
                              · first
                                  | (exact absurd (g0.symm.trans hh) (undef_ne _))
                                  | (exact absurd (g0.symm.trans hh) (bool_ne (by decide)))
                                  | (exfalso; revert hh; simp [Held, g0, *]; done)
                                  | (refine free_run (v := undef) (W' := W) rfl ?_ rfl (Below.refl _ _); go_simp)
                              · first
                                  | (exact absurd g0 hh)
                                  | (exfalso; revert hh; simp [Held, g0, *]; done)
                                  | (show undef = _; first | rfl | (simp [*]; done))
                            · intro L ax W hf hd
                              simp [Region.binds] at hd
                              have e12 : ax.tmps[12]?.getD undef = .int .i64 (c : Int) := hf.out 12 (by decide) rfl
                              have g0 : sl ax 161 = .bool false := hf.got 22 (by decide) (by simp [hd])
                              refine ⟨fun hh => ?_, fun hh => ?_⟩
                              · first
                                  | (exact absurd (g0.symm.trans hh) (undef_ne _))
                                  | (exact absurd (g0.symm.trans hh) (bool_ne (by decide)))
                                  | (exfalso; revert hh; simp [Held, g0, *]; done)
                                  | (refine free_run (v := undef) (W' := W) rfl ?_ rfl (Below.refl _ _); go_simp)
                              · first
                                  | (exact absurd g0 hh)
                                  | (exfalso; revert hh; simp [Held, g0, *]; done)
                                  | (show undef = _; first | rfl | (simp [*]; done))
                            · intro L ax W hf hd
                              simp [Region.binds] at hd
                              have e168 : ax.tmps[168]?.getD undef = undef := slv (hf.got 29 (by decide) (by simp [hd]))
                              have e169 : ax.tmps[169]?.getD undef = undef := slv (hf.got 30 (by decide) (by simp [hd]))
                              have g0 : sl ax 161 = .bool false := hf.got 22 (by decide) (by simp [hd])
                              refine ⟨fun hh => ?_, fun hh => ?_⟩
                              · first
                                  | (exact absurd (g0.symm.trans hh) (undef_ne _))
                                  | (exact absurd (g0.symm.trans hh) (bool_ne (by decide)))
                                  | (exfalso; revert hh; simp [Held, g0, *]; done)
                                  | (refine free_run (v := undef) (W' := W) rfl ?_ rfl (Below.refl _ _); go_simp)
                              · first
                                  | (exact absurd g0 hh)
                                  | (exfalso; revert hh; simp [Held, g0, *]; done)
                                  | (show undef = _; first | rfl | (simp [*]; done))
                            · intro L ax W hf hd
                              simp [Region.binds] at hd
                              have e170 : ax.tmps[170]?.getD undef = undef := slv (hf.got 31 (by decide) (by simp [hd]))
                              have g0 : sl ax 161 = .bool false := hf.got 22 (by decide) (by simp [hd])
                              refine ⟨fun hh => ?_, fun hh => ?_⟩
                              · first
                                  | (exact absurd (g0.symm.trans hh) (undef_ne _))
                                  | (exact absurd (g0.symm.trans hh) (bool_ne (by decide)))
                                  | (exfalso; revert hh; simp [Held, g0, *]; done)
                                  | (refine free_run (v := undef) (W' := W) rfl ?_ rfl (Below.refl _ _); go_simp)
                              · first
                                  | (exact absurd g0 hh)
                                  | (exfalso; revert hh; simp [Held, g0, *]; done)
                                  | (show undef = _; first | rfl | (simp [*]; done))
                            · intro L ax W hf hd
                              simp [Region.binds] at hd
                              have e171 : ax.tmps[171]?.getD undef = undef := slv (hf.got 32 (by decide) (by simp [hd]))
                              have g0 : sl ax 161 = .bool false := hf.got 22 (by decide) (by simp [hd])
                              refine ⟨fun hh => ?_, fun hh => ?_⟩
                              · first
                                  | (exact absurd (g0.symm.trans hh) (undef_ne _))
                                  | (exact absurd (g0.symm.trans hh) (bool_ne (by decide)))
                                  | (exfalso; revert hh; simp [Held, g0, *]; done)
                                  | (refine free_run (v := undef) (W' := W) rfl ?_ rfl (Below.refl _ _); go_simp)
                              · first
                                  | (exact absurd g0 hh)
                                  | (exfalso; revert hh; simp [Held, g0, *]; done)
                                  | (show undef = _; first | rfl | (simp [*]; done))
                            · intro L ax W hf hd
                              simp [Region.binds] at hd
                              have e172 : ax.tmps[172]?.getD undef = undef := slv (hf.got 33 (by decide) (by simp [hd]))
                              have g0 : sl ax 161 = .bool false := hf.got 22 (by decide) (by simp [hd])
                              refine ⟨fun hh => ?_, fun hh => ?_⟩
                              · first
                                  | (exact absurd (g0.symm.trans hh) (undef_ne _))
                                  | (exact absurd (g0.symm.trans hh) (bool_ne (by decide)))
                                  | (exfalso; revert hh; simp [Held, g0, *]; done)
                                  | (refine free_run (v := undef) (W' := W) rfl ?_ rfl (Below.refl _ _); go_simp)
                              · first
                                  | (exact absurd g0 hh)
                                  | (exfalso; revert hh; simp [Held, g0, *]; done)
                                  | (show undef = _; first | rfl | (simp [*]; done))
                            · intro L ax W hf hd
                              simp [Region.binds] at hd
                              have e167 : ax.tmps[167]?.getD undef = undef := slv (hf.got 28 (by decide) (by simp [hd]))
                              have e173 : ax.tmps[173]?.getD undef = undef := slv (hf.got 34 (by decide) (by simp [hd]))
                              have g0 : sl ax 161 = .bool false := hf.got 22 (by decide) (by simp [hd])
                              refine ⟨fun hh => ?_, fun hh => ?_⟩
                              · first
                                  | (exact absurd (g0.symm.trans hh) (undef_ne _))
                                  | (exact absurd (g0.symm.trans hh) (bool_ne (by decide)))
                                  | (exfalso; revert hh; simp [Held, g0, *]; done)
                                  | (refine free_run (v := undef) (W' := W) rfl ?_ rfl (Below.refl _ _); go_simp)
                              · first
                                  | (exact absurd g0 hh)
                                  | (exfalso; revert hh; simp [Held, g0, *]; done)
                                  | (show undef = _; first | rfl | (simp [*]; done))
                            · intro L ax W hf hd
                              simp [Region.binds] at hd
                              have e161 : ax.tmps[161]?.getD undef = .bool false := slv (hf.got 22 (by decide) (by simp [hd]))
                              have e174 : ax.tmps[174]?.getD undef = undef := slv (hf.got 35 (by decide) (by simp [hd]))
                              have g0 : sl ax 155 = .bool false := hf.got 16 (by decide) (by simp [hd])
                              refine ⟨fun hh => ?_, fun hh => ?_⟩
                              · first
                                  | (exact absurd (g0.symm.trans hh) (undef_ne _))
                                  | (exact absurd (g0.symm.trans hh) (bool_ne (by decide)))
                                  | (exfalso; revert hh; simp [Held, g0, *]; done)
                                  | (refine free_run (v := .bool false) (W' := W) rfl ?_ rfl (Below.refl _ _); go_simp)
                              · first
                                  | (exact absurd g0 hh)
                                  | (exfalso; revert hh; simp [Held, g0, *]; done)
                                  | (show undef = _; first | rfl | (simp [*]; done))
                            · intro L ax W hf hd
                              simp [Region.binds] at hd
                              have e155 : ax.tmps[155]?.getD undef = .bool false := slv (hf.got 16 (by decide) (by simp [hd]))
                              have e175 : ax.tmps[175]?.getD undef = .bool false := slv (hf.got 36 (by decide) (by simp [hd]))
                              have g0 : sl ax 146 = .bool false := hf.got 7 (by decide) (by simp [hd])
                              refine ⟨fun hh => ?_, fun hh => ?_⟩
                              · first
                                  | (exact absurd (g0.symm.trans hh) (undef_ne _))
                                  | (exact absurd (g0.symm.trans hh) (bool_ne (by decide)))
                                  | (exfalso; revert hh; simp [Held, g0, *]; done)
                                  | (refine free_run (v := .bool false) (W' := W) rfl ?_ rfl (Below.refl _ _); go_simp)
                              · first
                                  | (exact absurd g0 hh)
                                  | (exfalso; revert hh; simp [Held, g0, *]; done)
                                  | (show undef = _; first | rfl | (simp [*]; done))
                            · intro L ax W hf hd
                              simp [Region.binds] at hd
                              have e152 : ax.tmps[152]?.getD undef = .bool false := slv (hf.got 13 (by decide) (by simp [hd]))
                              have e176 : ax.tmps[176]?.getD undef = .bool false := slv (hf.got 37 (by decide) (by simp [hd]))
                              have g0 : sl ax 146 = .bool false := hf.got 7 (by decide) (by simp [hd])
                              refine ⟨fun hh => ?_, fun hh => ?_⟩
                              · first
                                  | (exact absurd (g0.symm.trans hh) (undef_ne _))
                                  | (exact absurd (g0.symm.trans hh) (bool_ne (by decide)))
                                  | (exfalso; revert hh; simp [Held, g0, *]; done)
                                  | (refine free_run (v := .bool false) (W' := W) rfl ?_ rfl (Below.refl _ _); go_simp)
                              · first
                                  | (exact absurd g0 hh)
                                  | (exfalso; revert hh; simp [Held, g0, *]; done)
                                  | (show undef = _; first | rfl | (simp [*]; done))
                            · intro L ax W hf hd
                              simp [Region.binds] at hd
                              have e146 : ax.tmps[146]?.getD undef = .bool false := slv (hf.got 7 (by decide) (by simp [hd]))
                              have e177 : ax.tmps[177]?.getD undef = .bool false := slv (hf.got 38 (by decide) (by simp [hd]))
                              refine ⟨fun _ => ?_, fun h => absurd trivial h⟩
                              refine free_run (v := .bool false) (W' := W) rfl ?_ rfl (Below.refl _ _)
                              go_simp
                          · intro vs W' hl' hF' hb
                            obtain ⟨g', hg1, hg2⟩ := vs_lit vs hl' hF'
                            have e6 : g' 39 = .bool false := hg2 39 (by decide)
                            rw [hg1]
                            clear hF' hg1 hg2 hl'
                            simp only [List.length_cons, List.length_nil, Nat.reduceAdd, show List.range 40 = [0, 1, 2, 3, 4, 5, 6, 7, 8, 9, 10, 11, 12, 13, 14, 15, 16, 17, 18, 19, 20, 21, 22, 23, 24, 25, 26, 27, 28, 29, 30, 31, 32, 33, 34, 35, 36, 37, 38, 39] from rfl, List.map_cons, List.map_nil, putL, List.zip_cons_cons, List.zip_nil_right, List.setIfInBounds_toArray, List.set_cons_succ, List.set_cons_zero, e6]
                            have hK6 := Lib.hid (hKst _ _ _ hKw.out hb)
                            clear hb hSd HJ3 HF3
                            go_wp2_with fail
                            go_roundw
                            case rel => exact ⟨c + 1, by omega, by go_num, hK6⟩
                            case measure => (first | omega | (simp [intOf]; done) | (simp [intOf]; omega))
                        -- DEV>
                  · obtain rfl : c = P.length := by omega
                    have hPl : P.length - 1 < P.length := by omega
                    have HH2 : ∀ W, K la W → Calls Try.prog 26 #[.pointer (some ⟨r, 0, none⟩)] W fun e w' => e = .returned (.agg (pointA P[P.length - 1])) ∧ K la w' := fun W h => by
                      have := HH W la h hla3
                      rw [hL.out] at this
                      exact this
                    have hSS := fun (W : World) (h : K la W) => hKrow la W h (P.length - 1) hPl
                    have hKd : K la wr.drew := hKst _ _ _ hKw.out (below_drewN (Below.refl wr.heap.size wr) 1)
                    clear hJ hF hL hc hcx
                    generalize P[P.length - 1] = x at *
                    have hSd := hSS _ hKd
                    go_upto_region 27 with fail
                    have w1' : IntKind.i64.wrap ((P.length : Int) - 1) = (P.length : Int) - 1 := IntWalk.i64_in _ (by omega)
                    have w2' : ((P.length : Int) - 1).toNat = P.length - 1 := by omega
                    have w3' : (0 : Int) ≤ (P.length : Int) - 1 := by omega
                    have w4' : (P.length : Int) - 1 < (P.length : Int) := by omega
                    have w5' : (1 : Int) ≤ (P.length : Int) := by omega
                    go_region_held3 (fun W => row? W gp (op + (P.length - 1) * 33) 33 = some (pointA x))
                      (first | go_keep | (with_reducible assumption))
                      (first
                        | (go_simp; go_at_call 26; (with_reducible refine (HH2 _ (by assumption)).mono ?_); rintro e w5 ⟨rfl, hK5⟩; have hS5 := hSS _ hK5)
                        | (go_simp; go_at_call 21; (with_reducible refine (HK _).mono ?_); rintro e w6 ⟨rfl, hb6⟩; have hS6 : row? w6 gp (op + (P.length - 1) * 33) 33 = some (pointA x) := ((kept hb6).2.2 _ _ _ (lt_of_row hS5)).trans hS5))
                    rename_i hHeld
                    clear hHeld
                    have hBe := Lib.hid ((hKB _ _ hK5).trans (hb6.mono (hKB _ _ hK5).size))
                    clear hb6 hS5 hS6 hK5 hSd
                    go_wp2_with fail
                    go_ret
                    exact ⟨rfl, hBe.out⟩
end Go.Proofs.Ytlkflddjpkhndaa
