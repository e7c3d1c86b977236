/- The walk of FfgOrder. -/
import Derived.Test.YtlkflddjpkhndaaTwo
import Derived.Test.YtlkflddjpkhndaaOpenL
namespace Go.Proofs.Ytlkflddjpkhndaa
open Go.RowKit

theorem may_no {p : Pt} (h : mayPt p = false) : ¬ (p.epoch.toNat : Int) ≤ 4611686018427387904 := by
  unfold mayPt at h
  rw [decide_eq_false_iff_not] at h
  omega
theorem IntsR.keep' {w w' : World} {s : Sl} {l : List Int} (h : SlR 1 IntC w s l) (hb : Below w.heap.size w w') : SlR 1 IntC w' s l := SlR.keep h hb (fun _ _ h => h)
/-- Go's (x % n + n) % n -/
theorem idx_in (x : Int) (n : Nat) (hn : 0 < n) (hb : n ≤ 1000) : 0 ≤ (x.tmod n + n).tmod n ∧ (x.tmod n + n).tmod n < n ∧ -1000 < x.tmod n ∧ x.tmod n < 1000 := by
  have h1 := Int.tmod_lt_of_pos x (show (0 : Int) < n by omega)
  have h2 : -(n : Int) < x.tmod n := by
    by_cases hx : 0 ≤ x
    · have := Int.tmod_nonneg (n : Int) hx
      omega
    · have h3 := Int.tmod_lt_of_pos (-x) (show (0 : Int) < n by omega)
      rw [Int.neg_tmod] at h3
      omega
  have h3 : 0 ≤ x.tmod n + n := by omega
  exact ⟨Int.tmod_nonneg _ h3, Int.tmod_lt_of_pos _ (by omega), by omega, by omega⟩

set_option maxRecDepth 100000 in
set_option maxHeartbeats 6400000 in
theorem order13_walk (p : Pt) (s so : Sl) (ls : List Lnk) (os : List Int) (w : World) (hs : LnksR w s ls) (ho : SlR 1 IntC w so os) :
    Calls Try.prog 8 #[.agg (pointA p), s.v, so.v] w fun e w' => e = .returned (.bool true) ∧ Below w.heap.size w w' := by
  obtain ⟨sa, sn, sc⟩ := s
  obtain rfl : sn = ls.length := hs.1
  obtain ⟨oa, on, oc⟩ := so
  obtain rfl : on = os.length := ho.1
  have HK := fun W => known13_c W
  have hbox : row? (w.alloc (.cells (pointA p) 26)) w.heap.size 0 33 = some (pointA p) := by rw [row?_new]; simp
  replace hs := Lib.hid hs
  replace ho := Lib.hid ho
  show Calls Try.prog 8 #[.agg (pointA p), .slice sa ls.length sc, .slice oa os.length oc] w _
  by_cases h30 : ls.length ≤ 30
  case neg =>
    have c1 : (30 : Int) < (ls.length : Int) := by omega
    go_enter Try.func8, Try.ntmps8
    go_wp2_with (go_at_call 21; refine (HK _).mono ?_; rintro e w1 ⟨rfl, hb⟩)
    go_ret
    exact ⟨rfl, by (repeat' (first | (with_reducible exact Below.refl _ _) | (with_reducible assumption) | (with_reducible refine bel_trans (by assumption) ?_ ?_) | (with_reducible refine bel_grown (by assumption) ?_ ?_ ?_) | (with_reducible refine Below.alloc ?_ ?_ _) | (with_reducible refine Below.drew ?_) | (with_reducible refine below_drewN ?_ _) | (with_reducible refine Below.setCell ?_ ?_ _) | (with_reducible refine below_put ?_ ?_ _ _) | (with_reducible exact Nat.le_refl _) | omega | (with_reducible refine Nat.le_trans ?_ (Below.size (by assumption))) | (with_reducible refine Nat.le_trans ?_ (World.grownBy.size (by assumption))) | (simp only [World.size_alloc, World.size_setCell, World.size_drew, size_drewN]; omega) | (simp only [World.size_alloc, World.size_setCell, World.size_drew, size_drewN, size_put]; omega) | (intro k hk; simp [Value.ownBlock] at hk; done) | (intro k hk; simp [Value.ownBlock] at hk; omega) | (simp [size_drewN] at *; omega)))⟩
  have c1 : ¬ (30 : Int) < (ls.length : Int) := by omega
  by_cases h60 : os.length ≤ 60
  case neg =>
    have c2 : (60 : Int) < (os.length : Int) := by omega
    go_enter Try.func8, Try.ntmps8
    go_wp2_with (go_at_call 21; refine (HK _).mono ?_; rintro e w1 ⟨rfl, hb⟩)
    go_ret
    exact ⟨rfl, by (repeat' (first | (with_reducible exact Below.refl _ _) | (with_reducible assumption) | (with_reducible refine bel_trans (by assumption) ?_ ?_) | (with_reducible refine bel_grown (by assumption) ?_ ?_ ?_) | (with_reducible refine Below.alloc ?_ ?_ _) | (with_reducible refine Below.drew ?_) | (with_reducible refine below_drewN ?_ _) | (with_reducible refine Below.setCell ?_ ?_ _) | (with_reducible refine below_put ?_ ?_ _ _) | (with_reducible exact Nat.le_refl _) | omega | (with_reducible refine Nat.le_trans ?_ (Below.size (by assumption))) | (with_reducible refine Nat.le_trans ?_ (World.grownBy.size (by assumption))) | (simp only [World.size_alloc, World.size_setCell, World.size_drew, size_drewN]; omega) | (simp only [World.size_alloc, World.size_setCell, World.size_drew, size_drewN, size_put]; omega) | (intro k hk; simp [Value.ownBlock] at hk; done) | (intro k hk; simp [Value.ownBlock] at hk; omega) | (simp [size_drewN] at *; omega)))⟩
  have c2 : ¬ (60 : Int) < (os.length : Int) := by omega
  cases hp : mayPt p
  case false =>
    have HN := fun W => new_no p W hp
    have c3 := may_no hp
    have ce := cell_of_row? hbox 0 (by omega)
    simp only [Nat.zero_add, pointA_epoch] at ce
    go_enter Try.func8, Try.ntmps8
    go_wp2_with fail
    refine (HN _).mono ?_
    rintro e w1 ⟨rfl, hb1⟩
    have hbox1 : row? w1 w.heap.size 0 33 = some (pointA p) := ((kept hb1).2.2 _ _ _ (by simp)).trans hbox
    go_wp2_with fail
    refine (HN _).mono ?_
    rintro e w2 ⟨rfl, hb2⟩
    have hz1 := hb1.size
    simp only [World.size_alloc] at hz1
    have ce2 : w2.cell? ⟨w.heap.size, 0, none⟩ = some (.int .u64 (p.epoch.toNat : Int)) := ((kept hb2).1 _ _ (by omega)).trans (((kept hb1).1 _ _ (by simp)).trans ce)
    go_wp2_with fail
    refine (HK _).mono ?_
    rintro e w3 ⟨rfl, hb3⟩
    go_wp2_with fail
    go_ret
    exact ⟨rfl, ((bel_a w _).trans (hb1.mono (by simp))).trans ((hb2.mono (by omega)).trans (hb3.mono (by have := hb2.size; omega)))⟩
  have HN := fun W => new_c p W hp
  go_enter Try.func8, Try.ntmps8
  go_wp2_with fail
  refine (HN _).mono ?_
  rintro e w1 ⟨ra, b1, b2, rfl, ha, q1, q2, q3, hb1⟩
  have hbox1 : row? w1 w.heap.size 0 33 = some (pointA p) := ((kept hb1).2.2 _ _ _ (by simp)).trans hbox
  go_wp2_with fail
  refine (HN _).mono ?_
  rintro e w2 ⟨rb, c1', c2', rfl, hc, t1, t2, t3, hb2⟩
  have hz1 : w.heap.size < w1.heap.size := by have := hb1.size; simp at this; omega
  have hT : Two w2 w2.heap.size w.heap.size ra rb p (addAll (ls.take 0)) [] := Two.start ha (by simp at q1; omega) (by simp at q2; omega) (by simp at q3; omega) (by omega) hb2 hc t1 t2 t3
  have hB2 : Below w.heap.size w w2 := ((bel_a w _).trans (hb1.mono (by simp))).trans (hb2.mono (by omega))
  replace hT := Lib.hid hT
  replace hB2 := Lib.hid hB2
  clear ha hc q1 q2 q3 t1 t2 t3 hb1 hb2 hbox hbox1 hz1 HN
  go_wp2_with fail
  go_loopw [11] (fun i W => ∃ k : Nat, k ≤ ls.length ∧ i = .int .i64 k ∧ Hid (Two W W.heap.size w.heap.size ra rb p (addAll (ls.take k)) []) ∧ Hid (Below w.heap.size w W)) (fun i _ => ls.length - (intOf i).toNat)
  case atStart => exact ⟨0, Nat.zero_le _, rfl, hT, hB2⟩
  case round =>
    obtain ⟨k, hk, rfl, hT, hB⟩ := hrel
    by_cases hkx : k < ls.length
    · obtain ⟨g, og, e, hg, hc⟩ := (hs.out.keep' hB.out).at (by omega)
      have e1 := congrArg Sl.a e
      simp only at e1
      subst e1
      clear e
      obtain ⟨cs, hcx, hcs⟩ := hc k hkx
      subst hcs
      clear hc
      have hlen := addAll_length (ls.take k)
      have hlen2 : (ls.take k).length ≤ ls.length := by simp; omega
      have Hsu := Lib.hid (addAll_succ ls k hkx)
      have Hgr := Lib.hid (JL_grows p (la := addAll (ls.take k)) (lb := addAll (ls.take (k + 1))) (fun x hx => by
        rw [addAll_succ ls k hkx, mem_addL]
        exact .inl hx))
      generalize hla : addAll (ls.take k) = la at *
      generalize ls[k] = x at *
      have j0 : (0 : Int) ≤ (k : Int) := by omega
      have j1 : (k : Int) < (ls.length : Int) := by omega
      have HA := allJ_x hT.out.gad (by omega)
      clear hla
      go_wp2_with fail
      refine HA.mono ?_
      rintro e w3 ⟨⟨s3a, s3n, s3c⟩, rfl, hp3, hb3⟩
      obtain rfl : s3n = (JL p la).length := hp3.1
      have hT3 := Lib.hid (hT.out.keep hb3).renew
      have hx3 : row? w3 g (og + k * 66) 66 = some (linkA x) := ((kept hb3).2.2 _ _ _ hg).trans hcx
      have HC := copy_x hT3.out.gad (by omega)
      have hg3 : g < w3.heap.size := Nat.lt_of_lt_of_le hg hb3.size
      have hB3 := Lib.hid (hB.out.trans (hb3.mono hB.out.size))
      clear hp3 HA hcx hb3
      go_wp2_with fail
      refine HC.mono ?_
      rintro e w4 ⟨r', rfl, hgc, hb4⟩
      have HS := two_strong x (hT3.out.keep hb4) (by omega)
      have hx4 : row? w4 g (og + k * 66) 66 = some (linkA x) := ((kept hb4).2.2 _ _ _ hg3).trans hx3
      have hB4 := Lib.hid (hB3.out.trans (hb4.mono hB3.out.size))
      clear HC hx3 hT3 hb4
      go_wp2_with fail
      refine HS.mono ?_
      rintro e w5 ⟨rfl, hT5, hb5, S, hS, hSn⟩
      rw [← Hsu.out] at hT5
      replace hgc := hgc.keepFr hS hSn
      have hB5 := Lib.hid (hB4.out.trans hb5)
      have HA := allJ_x hT5.gad (by have h1 := addAll_length (ls.take (k + 1)); have h2 : (ls.take (k + 1)).length ≤ ls.length := (by simp; omega); omega)
      clear HS hx4 hb5 hS hSn
      go_wp2_with fail
      refine HA.mono ?_
      rintro e w6 ⟨⟨s6a, s6n, s6c⟩, rfl, hp6, hb6⟩
      have hn6 := hp6.1
      simp only at hn6
      have hle : ¬ (s6n : Int) < ((JL p la).length : Int) := by have := Hgr.out; omega
      have HA2 := allJ_x (hgc.keep hb6) (by omega)
      have hT6 := Lib.hid (hT5.keep hb6).renew
      have hB6 := Lib.hid (hB5.out.trans (hb6.mono hB5.out.size))
      clear HA hp6 hn6 hT5 hb6
      go_wp2_with fail
      refine HA2.mono ?_
      rintro e w7 ⟨⟨s7a, s7n, s7c⟩, rfl, hp7, hb7⟩
      obtain rfl : s7n = (JL p la).length := hp7.1
      have hT7 := Lib.hid (hT6.out.keep hb7).renew
      have hB7 := Lib.hid (hB6.out.trans (hb7.mono hB6.out.size))
      clear HA2 hp7 hb7
      go_wp2_with fail
      go_roundw
      case rel => exact ⟨k + 1, by omega, by go_num, hT7, hB7⟩
      case measure => (first | omega | (simp [intOf]; done) | (simp [intOf]; omega))
    · obtain rfl : k = ls.length := by omega
      rw [List.take_length] at hT
      clear hk hkx
      have Hall := Lib.hid (mem_addAll ls)
      have hAl := addAll_length ls
      generalize addAll ls = A at *
      go_wp2_with fail
      -- loop 2
      go_loopw [14] (fun i W => ∃ (k : Nat) (lb : List Lnk), k ≤ os.length ∧ i = .int .i64 k ∧ lb.length ≤ k ∧ Hid (Two W W.heap.size w.heap.size ra rb p A lb) ∧ Hid (Below w.heap.size w W) ∧ Hid (∀ x ∈ lb, x ∈ ls ∧ goodL x = true)) (fun i _ => os.length - (intOf i).toNat)
      case atStart => exact ⟨0, [], Nat.zero_le _, rfl, Nat.le_refl _, hT, hB, Lib.hid (fun x hx => by cases hx)⟩
      case round =>
        clear hT hB
        obtain ⟨k, lb, hk, rfl, hlb, hT, hB, hgd⟩ := hrel
        by_cases hgo : k < os.length ∧ 0 < ls.length
        · obtain ⟨hkx, hl0⟩ := hgo
          obtain ⟨g, og, e, hg, hc⟩ := (hs.out.keep' hB.out).at (by omega)
          have e1 := congrArg Sl.a e
          simp only at e1
          subst e1
          clear e
          obtain ⟨g2, og2, e, hg2, hc2⟩ := (IntsR.keep' ho.out hB.out).at (by omega)
          have e1 := congrArg Sl.a e
          simp only at e1
          subst e1
          clear e
          obtain ⟨cs, hcx, hcs, hx0, hx1⟩ := hc2 k hkx
          subst hcs
          clear hc2
          generalize os[k] = x at *
          obtain ⟨i1, i2, i3, i4⟩ := idx_in x ls.length hl0 (by omega)
          obtain ⟨m, hm⟩ : ∃ m : Nat, (x.tmod ls.length + ls.length).tmod ls.length = (m : Int) := ⟨_, (Int.toNat_of_nonneg i1).symm⟩
          have hml : m < ls.length := by omega
          obtain ⟨cs, hcy, hcs⟩ := hc m hml
          subst hcs
          have Hin := Lib.hid (List.getElem_mem hml)
          generalize ls[m] = y at *
          clear hc
          have hce := cell_of_row? hcx 0 (by omega)
          simp only [Nat.add_zero, Nat.mul_one] at hce
          have j0 : (0 : Int) ≤ (k : Int) := by omega
          have j1 : (k : Int) < (os.length : Int) := by omega
          have j2 : (0 : Int) < (ls.length : Int) := by omega
          have m0 : (0 : Int) ≤ (m : Int) := by omega
          have m1 : (m : Int) < (ls.length : Int) := by omega
          have HS := two_strong y hT.out.symm (by omega)
          go_wp2_with fail
          refine HS.mono ?_
          rintro e w5 ⟨rfl, hT5, hb5, _⟩
          have hT6 := Lib.hid hT5.symm
          have hB6 := Lib.hid (hB.out.trans hb5)
          have hlb6 := addL_length lb y
          have hgd6 := Lib.hid (show ∀ x ∈ addL lb y, x ∈ ls ∧ goodL x = true from fun x hx => by
            rcases (mem_addL lb y x).1 hx with h | ⟨rfl, h⟩
            · exact hgd.out x h
            · exact ⟨Hin.out, h⟩)
          clear HS hT5 hb5 hcy hcx hce
          go_wp2_with fail
          go_roundw
          case rel => exact ⟨k + 1, addL lb y, by omega, by go_num, by omega, hT6, hB6, hgd6⟩
          case measure => (first | omega | (simp [intOf]; done) | (simp [intOf]; omega))
        · have hex : k = os.length ∨ ls.length = 0 := by omega
          have hex2 : Hid (k ≤ 60) := Lib.hid (by omega)
          rcases hex with rfl | h0
          case' inl => have q1 : ¬ (os.length : Int) < (os.length : Int) := by omega
          case' inr =>
            have q1 : (ls.length : Int) = 0 := by omega
            have q2 : (os.length : Int) ≤ k ∨ (k : Int) < os.length := by omega
          all_goals have hlb60 : lb.length ≤ 60 := by have := hex2.out; omega
          all_goals clear hgo hk hlb
          all_goals go_wp2_with fail
          all_goals
            replace hlb60 := Lib.hid hlb60
            go_loopw [15] (fun i W => ∃ (j : Nat) (lb : List Lnk), j ≤ ls.length ∧ i = .int .i64 ((j : Int) - 1) ∧ lb.length + j ≤ 90 ∧ Hid (Two W W.heap.size w.heap.size ra rb p A lb) ∧ Hid (Below w.heap.size w W) ∧ Hid (∀ x ∈ lb, x ∈ ls ∧ goodL x = true) ∧ Hid (∀ (m : Nat) (hm : m < ls.length), j ≤ m → goodL ls[m] = true → ls[m] ∈ lb)) (fun i _ => (intOf i + 1).toNat)
            case atStart => exact ⟨ls.length, lb, Nat.le_refl _, by first | rfl | go_num | (simp [*]; done), by have := hlb60.out; omega, hT, hB, hgd, Lib.hid (fun m hm hj => absurd hm (by omega))⟩
            case round =>
              clear hT hB hgd hlb60
              obtain ⟨j, lb, hj, rfl, hlb, hT, hB, hgd, hin⟩ := hrel
              by_cases hj0 : 0 < j
              · obtain ⟨g, og, e, hg, hc⟩ := (hs.out.keep' hB.out).at (by omega)
                have e1 := congrArg Sl.a e
                simp only at e1
                subst e1
                clear e
                obtain ⟨i, rfl⟩ : ∃ i, j = i + 1 := ⟨j - 1, by omega⟩
                have hil : i < ls.length := by omega
                obtain ⟨cs, hcy, hcs⟩ := hc i hil
                subst hcs
                clear hc
                have Hin := Lib.hid (List.getElem_mem hil)
                have HN := Lib.hid (show ∀ lb' : List Lnk, (∀ x ∈ lb, x ∈ lb') → (goodL ls[i] = true → ls[i] ∈ lb') → ∀ (m : Nat) (hm : m < ls.length), i ≤ m → goodL ls[m] = true → ls[m] ∈ lb' from fun lb' h1 h2 m hm hi hg => by
                  by_cases e : m = i
                  · subst e; exact h2 hg
                  · exact h1 _ (hin.out m hm (by omega) hg))
                generalize ls[i] = y at *
                have ei : (((i + 1 : Nat) : Int) - 1) = (i : Int) := by omega
                have m0 : (0 : Int) ≤ (i : Int) := by omega
                have m1 : (i : Int) < (ls.length : Int) := by omega
                have HS := two_strong y hT.out.symm (by omega)
                rw [ei]
                clear hin
                go_wp2_with fail
                refine HS.mono ?_
                rintro e w5 ⟨rfl, hT5, hb5, _⟩
                have hT6 := Lib.hid hT5.symm
                have hB6 := Lib.hid (hB.out.trans hb5)
                have hlb6 := addL_length lb y
                have hgd6 := Lib.hid (show ∀ x ∈ addL lb y, x ∈ ls ∧ goodL x = true from fun x hx => by
                  rcases (mem_addL lb y x).1 hx with h | ⟨rfl, h⟩
                  · exact hgd.out x h
                  · exact ⟨Hin.out, h⟩)
                have hin6 := Lib.hid (HN.out (addL lb y) (fun x hx => (mem_addL lb y x).2 (.inl hx)) (fun h => (mem_addL lb y y).2 (.inr ⟨rfl, h⟩)))
                clear HS hT5 hb5 hcy HN
                go_wp2_with fail
                go_roundw
                case rel => exact ⟨i, addL lb y, by omega, by go_num, by omega, hT6, hB6, hgd6, hin6⟩
                case measure => (first | omega | (simp [intOf]; done) | (simp [intOf]; omega))
              · obtain rfl : j = 0 := by omega
                have hsame := JL_same (a := p) (ls := A) (ms := lb) (fun x => by
                  rw [Hall.out]
                  refine ⟨fun ⟨h1, h2⟩ => ?_, hgd.out x⟩
                  obtain ⟨m, hm, rfl⟩ := List.mem_iff_getElem.1 h1
                  exact hin.out m hm (Nat.zero_le _) h2)
                have HA := allJ_x hT.out.gad (by omega)
                have hjn := JL_length p A
                have hfn := FL_length p A
                clear hin hgd hj hj0
                rw [show (((0 : Nat) : Int) - 1) = -1 by omega]
                have hJl : (JL p A).length ≤ 1000000 := by omega
                have hFl : (FL p A).length ≤ 1000000 := by omega
                go_wp2_with fail
                refine HA.mono ?_
                rintro e w3 ⟨s3, rfl, hp3, hb3⟩
                have hT3 := Lib.hid (hT.out.keep hb3)
                have hB3 := Lib.hid (hB.out.trans (hb3.mono hB.out.size))
                have HA := allJ_x hT3.out.symm.gad (by omega)
                rw [← hsame.1] at HA
                clear hb3
                go_wp2_with fail
                refine HA.mono ?_
                rintro e w4 ⟨s4, rfl, hp4, hb4⟩
                have hT4 := Lib.hid (hT3.out.keep hb4)
                have hB4 := Lib.hid (hB3.out.trans (hb4.mono hB3.out.size))
                have HS := same_c s3 s4 _ w4 (hp3.keep' hb4) hp4 hJl
                clear hb4 HA hp3 hp4
                go_wp2_with fail
                refine HS.mono ?_
                rintro e w5 ⟨rfl, hb5⟩
                have hT5 := Lib.hid (hT4.out.keep hb5)
                have hB5 := Lib.hid (hB4.out.trans (hb5.mono hB4.out.size))
                have HA := allF_x hT5.out.gad (by omega)
                clear hb5 HS
                go_wp2_with fail
                refine HA.mono ?_
                rintro e w6 ⟨s6, rfl, hp6, hb6⟩
                have hT6 := Lib.hid (hT5.out.keep hb6)
                have hB6 := Lib.hid (hB5.out.trans (hb6.mono hB5.out.size))
                have HA := allF_x hT6.out.symm.gad (by omega)
                rw [← hsame.2] at HA
                clear hb6
                go_wp2_with fail
                refine HA.mono ?_
                rintro e w7 ⟨s7, rfl, hp7, hb7⟩
                have hB7 := Lib.hid (hB6.out.trans (hb7.mono hB6.out.size))
                have HS := same_c s6 s7 _ w7 (hp6.keep' hb7) hp7 hFl
                clear hb7 HA hp6 hp7
                go_wp2_with fail
                refine HS.mono ?_
                rintro e w8 ⟨rfl, hb8⟩
                have hB8 := Lib.hid (hB7.out.trans (hb8.mono hB7.out.size))
                clear hb8 HS
                go_wp2_with fail
                refine (HK _).mono ?_
                rintro e w9 ⟨rfl, hb9⟩
                go_wp2_with fail
                go_ret
                exact ⟨rfl, hB8.out.trans (hb9.mono hB8.out.size)⟩
end Go.Proofs.Ytlkflddjpkhndaa