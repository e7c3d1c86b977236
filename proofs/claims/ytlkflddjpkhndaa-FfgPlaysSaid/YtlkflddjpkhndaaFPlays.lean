/- The walk of FfgPlays. -/
import Derived.Test.YtlkflddjpkhndaaFPlaysG
import Derived.Deep.RegionHeld3
import Derived.Deep.CutRange
namespace Go.Proofs.Ytlkflddjpkhndaa
open Go.RowKit

theorem row?_of_block {w w' : World} {b : Nat} (off n : Nat) (h : w'.heap[b]? = w.heap[b]?) : row? w' b off n = row? w b off n := by
  simp only [row?, h]
theorem addL_eq (la : List Lnk) (x : Lnk) : addL la x = if strongE la x = 0 then la ++ [x] else la := by
  unfold addL strongE
  by_cases h : goodL x = true
  · by_cases hx : x ∈ la
    · simp [h, hx]
    · simp [h, hx]
  · simp [h]

def wantE (la : List Lnk) (x : Lnk) : Int := if x ∈ la then 11 else 0
/-- is a point in a list? (closed to the walk) -/
def inP (y : Pt) (l : List Pt) : Bool := decide (y ∈ l)
theorem inP_succ (y : Pt) (l : List Pt) (c : Nat) (h : c < l.length) : inP y (l.take (c + 1)) = (inP y (l.take c) || decide (l[c] = y)) := by
  unfold inP
  rw [List.take_succ_eq_append_getElem h]
  by_cases h1 : y ∈ l.take c
  · rw [decide_eq_true (List.mem_append_left _ h1), decide_eq_true h1]
    rfl
  · by_cases h2 : l[c] = y
    · rw [decide_eq_true (List.mem_append_right _ (List.mem_singleton.2 h2.symm)), decide_eq_true h2, Bool.or_true]
    · rw [decide_eq_false (fun hh => (List.mem_append.1 hh).elim h1 (fun hh => h2 (List.mem_singleton.1 hh).symm)), decide_eq_false h1, decide_eq_false h2]
      rfl
theorem goodL_int (x : Lnk) : (!goodL x) = (decide ((4611686018427387904 : Int) < (x.source.epoch.toNat : Int)) || decide ((4611686018427387904 : Int) < (x.target.epoch.toNat : Int)) || decide ((x.target.epoch.toNat : Int) ≤ (x.source.epoch.toNat : Int))) := by
  unfold goodL mayPt
  rw [Bool.eq_iff_iff]
  simp only [Bool.not_and, Bool.or_eq_true, Bool.not_eq_true', decide_eq_false_iff_not, decide_eq_true_eq]
  omega

attribute [local go_sem ↓] fold_append fold_bld2
set_option maxRecDepth 100000 in
set_option maxHeartbeats 6400000 in
theorem plays13_walk (p : Pt) (s : Sl) (ls : List Lnk) (w : World) (hs : LnksR w s ls) :
    Calls Try.prog 5 #[.agg (pointA p), s.v] w fun e w' => e = .returned (.bool true) ∧ Below w.heap.size w w' := by
  obtain ⟨sa, sn, sc⟩ := s
  obtain rfl : sn = ls.length := hs.1
  have HK := fun W => known13_c W
  have hbox : row? (w.alloc (.cells (pointA p) 26)) w.heap.size 0 33 = some (pointA p) := by rw [row?_new]; simp
  replace hs := Lib.hid hs
  show Calls Try.prog 5 #[.agg (pointA p), .slice sa ls.length sc] w _
  by_cases h40 : ls.length ≤ 40
  case neg =>
    have c1 : (40 : Int) < (ls.length : Int) := by omega
    go_enter Try.func5, Try.ntmps5
    go_wp2_with (go_at_call 21; refine (HK _).mono ?_; rintro e w1 ⟨rfl, hb⟩)
    go_ret
    exact ⟨rfl, by (repeat' (first | (with_reducible exact Below.refl _ _) | (with_reducible assumption) | (with_reducible refine bel_trans (by assumption) ?_ ?_) | (with_reducible refine bel_grown (by assumption) ?_ ?_ ?_) | (with_reducible refine Below.alloc ?_ ?_ _) | (with_reducible refine Below.drew ?_) | (with_reducible refine below_drewN ?_ _) | (with_reducible refine Below.setCell ?_ ?_ _) | (with_reducible refine below_put ?_ ?_ _ _) | (with_reducible exact Nat.le_refl _) | omega | (with_reducible refine Nat.le_trans ?_ (Below.size (by assumption))) | (with_reducible refine Nat.le_trans ?_ (World.grownBy.size (by assumption))) | (simp only [World.size_alloc, World.size_setCell, World.size_drew, size_drewN]; omega) | (simp only [World.size_alloc, World.size_setCell, World.size_drew, size_drewN, size_put]; omega) | (intro k hk; simp [Value.ownBlock] at hk; done) | (intro k hk; simp [Value.ownBlock] at hk; omega) | (simp [size_drewN] at *; omega)))⟩
  have c1 : ¬ (40 : Int) < (ls.length : Int) := by omega
  have ce := cell_of_row? hbox 0 (by omega)
  simp only [Nat.zero_add, pointA_epoch] at ce
  cases hp : mayPt p
  case false =>
    have HN := fun W => new_no p W hp
    have c3 : (4611686018427387904 : Int) < (p.epoch.toNat : Int) := by
      unfold mayPt at hp
      rw [decide_eq_false_iff_not] at hp
      omega
    go_enter Try.func5, Try.ntmps5
    go_wp2_with fail
    refine (HN _).mono ?_
    rintro e w1 ⟨rfl, hb1⟩
    have hz1 := hb1.size
    simp only [World.size_alloc] at hz1
    have ce2 : w1.cell? ⟨w.heap.size, 0, none⟩ = some (.int .u64 (p.epoch.toNat : Int)) := ((kept hb1).1 _ _ (by simp)).trans ce
    go_wp2_with fail
    refine (HK _).mono ?_
    rintro e w3 ⟨rfl, hb3⟩
    go_wp2_with fail
    go_ret
    exact ⟨rfl, ((bel_a w _).trans (hb1.mono (by simp))).trans (hb3.mono (by omega))⟩
  have c3 : ¬ (4611686018427387904 : Int) < (p.epoch.toNat : Int) := by
    unfold mayPt at hp
    rw [decide_eq_true_iff] at hp
    omega
  have HN := fun W => new_x p W hp
  go_enter Try.func5, Try.ntmps5
  go_wp2_with fail
  refine (HN _).mono ?_
  rintro e w1 ⟨ra, rfl, ha, hb1⟩
  have hbox1 : row? w1 w.heap.size 0 33 = some (pointA p) := ((kept hb1).2.2 _ _ _ (by simp)).trans hbox
  have ce1 : w1.cell? ⟨w.heap.size, 0, none⟩ = some (.int .u64 (p.epoch.toNat : Int)) := ((kept hb1).1 _ _ (by simp)).trans ce
  rw [World.size_alloc] at ha
  have hG : GD w1 w1.heap.size (w.heap.size + 1) ra p (addAll (ls.take 0)) ⟨none, 0, 0⟩ (addAll (ls.take 0)) := by
    rw [List.take_zero]
    exact GD.start ha
  have hB1 : Below w.heap.size w w1 := (bel_a w _).trans (hb1.mono (by simp))
  have hz1 : w.heap.size + 1 ≤ w1.heap.size := by have := hb1.size; simpa using this
  replace hG := Lib.hid hG
  replace hB1 := Lib.hid hB1
  clear ha hb1 hbox HN ce
  go_wp2_with fail
  clear ce1 c3
  -- loop 1
  go_loopw [7, 8] (fun u i W => ∃ (k : Nat) (t : Sl), k ≤ ls.length ∧ u = t.v ∧ i = .int .i64 k ∧ Hid (GD W W.heap.size (w.heap.size + 1) ra p (addAll (ls.take k)) t (addAll (ls.take k))) ∧ Hid (Below w.heap.size w W) ∧ Hid (Below (w.heap.size + 1) w1 W)) (fun _ i _ => ls.length - (intOf i).toNat)
  case atStart => exact ⟨0, ⟨none, 0, 0⟩, Nat.zero_le _, rfl, rfl, hG, hB1, Lib.hid (Below.refl _ _)⟩
  case round =>
    clear hG hB1
    obtain ⟨k, t, hk, hu7, rfl, hG, hB, hB0⟩ := hrel
    obtain ⟨ta, tn, tc⟩ := t
    obtain rfl : tn = (addAll (ls.take k)).length := hG.out.reads.1
    replace hu7 : _ = Value.slice ta (addAll (ls.take k)).length tc := hu7
    subst hu7
    by_cases hkx : k < ls.length
    · obtain ⟨g, og, e, hg, hc⟩ := (hs.out.keep' hB.out).at (by omega)
      have e1 := congrArg Sl.a e
      simp only at e1
      subst e1
      clear e
      obtain ⟨cs, hcx, hcs⟩ := hc k hkx
      subst hcs
      clear hc
      have hlen := addAll_length (ls.take k)
      have hlen2 : (ls.take k).length ≤ ls.length := by simp; omega
      have Hsu := Lib.hid (addAll_succ ls k hkx)
      generalize hla : addAll (ls.take k) = la at *
      generalize ls[k] = x at *
      have hla40 : la.length ≤ 40 := by omega
      have j0 : (0 : Int) ≤ (k : Int) := by omega
      have j1 : (k : Int) < (ls.length : Int) := by omega
      clear hla hlen hlen2
      generalize wr = v at *
      have hown := Lib.hid hG.out.own_lt
      -- x's box
      have hX : Below v.heap.size v (putRow (v.alloc (.cells (linkA ⟨zeroPt, zeroPt⟩) 28)) v.heap.size 0 (linkA x)) := below_put (bel_a v _) (Nat.le_refl _) _ _
      have hXr : row? (putRow (v.alloc (.cells (linkA ⟨zeroPt, zeroPt⟩) 28)) v.heap.size 0 (linkA x)) v.heap.size 0 66 = some (linkA x) := by go_simp
      have hXz : (putRow (v.alloc (.cells (linkA ⟨zeroPt, zeroPt⟩) 28)) v.heap.size 0 (linkA x)).heap.size = v.heap.size + 1 := by simp [size_put]
      have HS := gd_strong x (hG.out.keep hX) (by omega)
      replace hX := Lib.hid hX
      replace hXz := Lib.hid hXz
      go_wp2_with fail
      refine HS.mono ?_
      rintro e w2 ⟨rfl, hG2, hb2, S, hS2, hSN⟩
      have hr2 : row? w2 v.heap.size 0 66 = some (linkA x) := (row?_of_block _ _ (hS2.block _ (by rw [hXz.out]; omega) (fun h => by have := hSN _ h; omega))).trans hXr
      have hB2 := Lib.hid (hB.out.trans ((hX.out.mono hB.out.size).trans (hb2.mono (by omega))))
      have hB02 := Lib.hid (hB0.out.trans ((hX.out.mono (by have := hB0.out.size; omega)).trans hb2))
      have hvz : v.heap.size < w2.heap.size := by
        have := hb2.size
        have := hXz.out
        omega
      replace hG2 := Lib.hid hG2
      clear hb2 hS2 hSN HS hX hXr hXz hcx
      go_wp2_with fail
      -- loop 2
      go_loopw [11, 12] (fun u i W => ∃ c : Nat, c ≤ la.length ∧ u = .int .i64 (wantE (la.take c) x) ∧ i = .int .i64 c ∧ Hid (Below w2.heap.size w2 W)) (fun _ i _ => la.length - (intOf i).toNat)
      case atStart => exact ⟨0, Nat.zero_le _, by simp [wantE], rfl, Lib.hid (Below.refl _ _)⟩
      case round =>
        obtain ⟨c, hc, rfl, rfl, hW⟩ := hrel
        have hx0 : row? wr v.heap.size 0 66 = some (linkA x) := ((kept hW.out).2.2 _ _ _ hvz).trans hr2
        by_cases hcx : c < la.length
        · obtain ⟨g2, og2, e, hg2, hc2⟩ := (hG2.out.reads.keep' hW.out).at (by omega)
          have e1 := congrArg Sl.a e
          simp only at e1
          subst e1
          clear e
          obtain ⟨cs, hcy, hcs⟩ := hc2 c hcx
          subst hcs
          clear hc2
          have htk := Lib.hid (List.take_succ_eq_append_getElem hcx)
          have i0 : (0 : Int) ≤ (c : Int) := by omega
          have i1 : (c : Int) < (la.length : Int) := by omega
          generalize la[c] = y at *
          have hWn := fun n => Lib.hid (hW.out.trans ((below_drewN (Below.refl wr.heap.size wr) n).mono hW.out.size))
          -- DEV<
          as_aux_lemma =>
            by_cases h1 : y = x
            · have hu := Lib.hid (show wantE (la.take (c + 1)) x = 11 by rw [htk.out, h1, wantE, if_pos (by simp)])
              clear htk
              subst h1
              go_wp2_with fail
              go_quiet (fail)
              go_wp2_with fail
              go_roundw
              case rel => exact ⟨c + 1, by omega, by rw [hu.out], by go_num, hWn _⟩
              case measure => (first | omega | (simp [intOf]; done) | (simp [intOf]; omega))
            · have hu := Lib.hid (show wantE (la.take (c + 1)) x = wantE (la.take c) x by
                rw [htk.out, wantE, wantE]
                by_cases hm : x ∈ la.take c
                · rw [if_pos hm, if_pos (List.mem_append_left _ hm)]
                · rw [if_neg hm, if_neg]
                  intro h
                  rcases List.mem_append.1 h with h | h
                  · exact hm h
                  · exact h1 (List.mem_singleton.1 h).symm)
              clear htk
              go_wp2_with fail
              go_quiet (fail)
              go_wp2_with fail
              go_roundw
              case rel => exact ⟨c + 1, by omega, by rw [hu.out], by go_num, hWn _⟩
              case measure => (first | omega | (simp [intOf]; done) | (simp [intOf]; omega))
          -- DEV>
        · obtain rfl : c = la.length := by omega
          rw [List.take_length]
          have hs0 := row?_sub hx0 0 33 (by omega)
          have ht0 := row?_sub hx0 33 33 (by omega)
          rw [linkA_source] at hs0
          rw [linkA_target] at ht0
          have he0 : wr.cell? ⟨v.heap.size, 0, none⟩ = some (.int .u64 (x.source.epoch.toNat : Int)) := (cell_of_row? hs0 0 (by omega)).trans (pointA_epoch _)
          have he1 : wr.cell? ⟨v.heap.size, 33, none⟩ = some (.int .u64 (x.target.epoch.toNat : Int)) := (cell_of_row? ht0 0 (by omega)).trans (pointA_epoch _)
          replace hG2 := Lib.hid (hG2.out.keep hW.out)
          replace hB2 := Lib.hid (hB2.out.trans (hW.out.mono hB2.out.size))
          replace hB02 := Lib.hid (hB02.out.trans (hW.out.mono (by have := hB02.out.size; omega)))
          have hvz3 : v.heap.size < wr.heap.size := Nat.lt_of_lt_of_le hvz hW.out.size
          clear hcx hW hr2 hvz
          generalize wr = w3 at *
          go_upto_region 20 with fail
          go_cut [89] from 46 to 223 (fun b W => b = .bool (!goodL x) ∧ W = w3)
          case first =>
            -- DEV<
            as_aux_lemma =>
              have hgi := Lib.hid (goodL_int x)
              by_cases g1 : (4611686018427387904 : Int) < (x.source.epoch.toNat : Int)
              · go_wp2_with fail
                go_meet
                exact ⟨by rw [hgi.out]; simp [g1], rfl⟩
              · by_cases g2 : (4611686018427387904 : Int) < (x.target.epoch.toNat : Int)
                · go_wp2_with fail
                  go_meet
                  exact ⟨by rw [hgi.out]; simp [g2], rfl⟩
                · by_cases g3 : (x.target.epoch.toNat : Int) ≤ (x.source.epoch.toNat : Int)
                  · go_wp2_with fail
                    go_meet
                    exact ⟨by rw [hgi.out]; simp [g1, g2, g3], rfl⟩
                  · have hall := Lib.hid (show (!goodL x) = false by rw [goodL_int, decide_eq_false g1, decide_eq_false g2, decide_eq_false g3]; rfl)
                    go_wp2_with fail
                    go_meet
                    exact ⟨by rw [hall.out], rfl⟩
            -- DEV>
          case rest =>
            obtain ⟨rfl, hwc⟩ := hcut
            subst hwc
            go_upto_if 89 with fail
            go_cut [11] from 46 to 223 (fun u W => u = .int .i64 (strongE la x) ∧ W = wc)
            case first =>
              -- DEV<
              as_aux_lemma =>
                cases hgd : goodL x
                · have he : strongE la x = 2 := by unfold strongE; rw [hgd]; simp
                  simp only [Bool.not_false]
                  have he := Lib.hid he
                  go_wp2_with fail
                  go_meet
                  exact ⟨by rw [he.out], rfl⟩
                · have he : strongE la x = wantE la x := by unfold strongE wantE; rw [if_pos hgd]
                  simp only [Bool.not_true]
                  have he := Lib.hid he
                  go_wp2_with fail
                  go_meet
                  exact ⟨by rw [he.out], rfl⟩
              -- DEV>
            case rest =>
              obtain ⟨rfl, hwc⟩ := hcut
              subst hwc
              have hae := addL_eq la x
              have hGa := hG2.out.renew
              have hget := Lib.hid (gd_app x (hG2.out.renew) (by omega) )
              generalize hes : strongE la x = es at *
              have hee : (es != es) = false := by simp
              go_upto_if 94 with fail
              go_cut [7] from 46 to 223 (fun u W => ∃ t' : Sl, u = t'.v ∧ Hid (GD W W.heap.size (w.heap.size + 1) ra p (addL la x) t' (addL la x)) ∧ Hid (Below w.heap.size w W) ∧ Hid (Below (w.heap.size + 1) w1 W) ∧ Hid (row? W v.heap.size 0 66 = some (linkA x)) ∧ v.heap.size < W.heap.size)
              case first =>
                -- DEV<
                as_aux_lemma =>
                  have hx0' := Lib.hid hx0
                  by_cases hz : es = 0
                  · subst hz
                    rw [if_pos rfl] at hae
                    have hae := Lib.hid hae
                    obtain ⟨⟨ta', tn', tc'⟩, W2, hrun, hGD, hbB, hS⟩ := hget.out
                    replace hrun : (appLnk #[.slice ta la.length tc, .slice (some ⟨wc.heap.size, 0, none⟩) 1 1]).run Try.prog (wc.alloc (.cells (linkA x) 28)) = .ok (.slice ta' tn' tc') W2 := hrun
                    have hbB := Lib.hid hbB
                    have hS := Lib.hid hS
                    have hGD := Lib.hid hGD
                    go_wp2_with fail
                    go_meet
                    have hz7 := hS.out.size
                    exact ⟨⟨ta', tn', tc'⟩, rfl, Lib.hid (by have h := hGD.out; rw [hae.out] at h ⊢; exact h), Lib.hid (hB2.out.trans (hbB.out.mono (by omega))), Lib.hid (hB02.out.trans hbB.out), Lib.hid ((row?_of_block _ _ (hS.out.block _ hvz3 (fun h => by have := hown.out _ (by simpa using h); omega))).trans hx0'.out), by omega⟩
                  · rw [if_neg hz] at hae
                    have hae := Lib.hid hae
                    have hzb : (es == 0) = false := by simp [hz]
                    go_wp2_with fail
                    go_meet
                    exact ⟨⟨ta, la.length, tc⟩, rfl, Lib.hid (by have h := hG2.out.renew; rw [hae.out] at h ⊢; exact h), hB2, hB02, hx0', hvz3⟩
                -- DEV>
              case rest =>
                obtain ⟨⟨ta2, tn2, tc2⟩, hu, hG4, hB4, hB04, hx4, hvz4⟩ := hcut
                have hl40 : (addL la x).length ≤ 41 := by have := addL_length la x; omega
                obtain rfl : tn2 = (addL la x).length := hG4.out.reads.1
                replace hu : _ = Value.slice ta2 (addL la x).length tc2 := hu
                subst hu
                clear hae hget hown he0 he1 hs0 ht0 hx0
                generalize addL la x = l2 at *
                have hzb : w.heap.size < wc.heap.size := by have := hB04.out.size; omega
                have hbox4 : row? wc w.heap.size 0 33 = some (pointA p) := ((kept hB04.out).2.2 _ _ _ (by omega)).trans hbox1
                have HJ : ∀ W, LnksR W ⟨ta2, l2.length, tc2⟩ l2 → Calls Try.prog 27 #[.agg (pointA p), .slice ta2 l2.length tc2] W fun e w' => ∃ v, e = .returned v ∧ OwnP w' W.heap.size v (JL p l2) ∧ Below W.heap.size W w' := fun W h => rjust_c p ⟨ta2, l2.length, tc2⟩ l2 W h (by omega)
                have HF : ∀ W, LnksR W ⟨ta2, l2.length, tc2⟩ l2 → Calls Try.prog 28 #[.agg (pointA p), .slice ta2 l2.length tc2] W fun e w' => ∃ v, e = .returned v ∧ OwnP w' W.heap.size v (FL p l2) ∧ Below W.heap.size W w' := fun W h => rfinal_c p ⟨ta2, l2.length, tc2⟩ l2 W h (by omega)
                have hL4 : LnksR wc.drew ⟨ta2, l2.length, tc2⟩ l2 := hG4.out.reads.keep' (below_drewN (Below.refl _ _) 1)
                go_wp2_with fail
                have hS4 : row? wc.drew w.heap.size 0 33 = some (pointA p) := hbox4
                go_region_held3 (fun W => row? W w.heap.size 0 33 = some (pointA p))
                  (first | go_keep | (with_reducible assumption))
                  (first
                    | (go_simp; go_at_call 27; (with_reducible refine (HJ _ (by assumption)).mono ?_); rintro e w5 ⟨v5, rfl, ho5, hb5⟩; have hL5 := hL4.keep' hb5; have hS5 : row? w5 w.heap.size 0 33 = some (pointA p) := ((kept hb5).2.2 _ _ _ hzb).trans hbox4)
                    | (go_simp; go_at_call 28; (with_reducible refine (HF _ (by assumption)).mono ?_); rintro e w6 ⟨v6, rfl, ho6, hb6⟩; have hS6 : row? w6 w.heap.size 0 33 = some (pointA p) := ((kept hb6).2.2 _ _ _ (Nat.lt_of_lt_of_le hzb hb5.size)).trans hS5))
                rename_i hHeld
                clear hHeld
                have hb46 : Below wc.heap.size wc w6 := (undrew hb5).trans (hb6.mono hb5.size)
                obtain ⟨⟨aj, nj, cj⟩, h5⟩ := ho5.slice
                obtain ⟨⟨af, nf, cf⟩, h6⟩ := ho6.slice
                replace h5 : v5 = .slice aj nj cj := h5
                replace h6 : v6 = .slice af nf cf := h6
                subst h5 h6
                have hrj : PtsR w6 ⟨aj, nj, cj⟩ (JL p l2) := (OwnP.reads (s := ⟨aj, nj, cj⟩) ho5).keep' hb6
                have hrf : PtsR w6 ⟨af, nf, cf⟩ (FL p l2) := OwnP.reads (s := ⟨af, nf, cf⟩) ho6
                obtain rfl : nj = (JL p l2).length := hrj.1
                obtain rfl : nf = (FL p l2).length := hrf.1
                obtain ⟨K, hK⟩ : ∃ K : World → Prop, K = fun W => KP w w1 W v.heap.size ra p x l2 ⟨ta2, l2.length, tc2⟩ ⟨aj, (JL p l2).length, cj⟩ ⟨af, (FL p l2).length, cf⟩ := ⟨_, rfl⟩
                have hKP : ∀ W, K W → KP w w1 W v.heap.size ra p x l2 ⟨ta2, l2.length, tc2⟩ ⟨aj, (JL p l2).length, cj⟩ ⟨af, (FL p l2).length, cf⟩ := fun W h => by rw [hK] at h; exact h
                have hK6 : K w6 := by
                  rw [hK]
                  exact ⟨(hG4.out.keep hb46).renew, hrj, hrf, hB4.out.trans (hb46.mono hB4.out.size), hB04.out.trans (hb46.mono hzb), ((kept hb46).2.2 _ _ _ hvz4).trans hx4.out, Nat.lt_of_lt_of_le hvz4 hb46.size⟩
                have hKst : ∀ W W', K W → Below W.heap.size W W' → K W' := fun W W' h hb => by
                  have := (hKP W h).step hb
                  rw [hK]
                  exact this
                clear hK
                clear hb46 ho5 ho6 hrj hrf hb5 hb6 hL5 hS5 hS6 hS4 hL4 HJ HF hG4 hB4 hB04 hx4 hvz4 hbox4 hzb
                obtain ⟨gj, oj, e, hlj⟩ := (hKP _ hK6).j.last (JL_ne p l2)
                replace e : aj = some ⟨gj, oj, none⟩ := e
                subst e
                obtain ⟨gf, og, e, hlf⟩ := (hKP _ hK6).f.last (FL_ne p l2)
                replace e : af = some ⟨gf, og, none⟩ := e
                subst e
                clear hlj hlf
                have hlast : ∀ W, K W → row? W gj (oj + ((JL p l2).length - 1) * 33) 33 = some (pointA ((JL p l2).getLast (JL_ne p l2))) ∧ row? W gf (og + ((FL p l2).length - 1) * 33) 33 = some (pointA ((FL p l2).getLast (FL_ne p l2))) := fun W h => by
                  obtain ⟨gj', oj', e, hlj⟩ := (hKP _ h).j.last (JL_ne p l2)
                  replace e : some (⟨gj, oj, none⟩ : Addr) = some ⟨gj', oj', none⟩ := e
                  cases e
                  obtain ⟨gf', of', e, hlf⟩ := (hKP _ h).f.last (FL_ne p l2)
                  replace e : some (⟨gf, og, none⟩ : Addr) = some ⟨gf', of', none⟩ := e
                  cases e
                  exact ⟨hlj, hlf⟩
                have hjn : 0 < (JL p l2).length := List.length_pos_iff.2 (JL_ne p l2)
                have hfn : 0 < (FL p l2).length := List.length_pos_iff.2 (FL_ne p l2)
                have hjl := JL_length p l2
                have hfl := FL_length p l2
                have HAJ := fun (W : World) (h : K W) => (allJ_x (hKP W h).gd.gad (by omega)).mono (R' := fun e w' => ∃ a c, e = .returned (.slice a (JL p l2).length c) ∧ K w' ∧ PtsR w' ⟨a, (JL p l2).length, c⟩ (JL p l2)) (by
                  rintro e w' ⟨⟨a, n, c⟩, rfl, hp, hb⟩
                  obtain rfl : n = (JL p l2).length := hp.1
                  exact ⟨a, c, rfl, hKst _ _ h hb, hp⟩)
                have HAF := fun (W : World) (h : K W) => (allF_x (hKP W h).gd.gad (by omega)).mono (R' := fun e w' => ∃ a c, e = .returned (.slice a (FL p l2).length c) ∧ K w' ∧ PtsR w' ⟨a, (FL p l2).length, c⟩ (FL p l2)) (by
                  rintro e w' ⟨⟨a, n, c⟩, rfl, hp, hb⟩
                  obtain rfl : n = (FL p l2).length := hp.1
                  exact ⟨a, c, rfl, hKst _ _ h hb, hp⟩)
                have HSJ := fun (W : World) (a : Option Addr) (c : Nat) (h : K W) (hp : PtsR W ⟨a, (JL p l2).length, c⟩ (JL p l2)) => (same_c ⟨a, (JL p l2).length, c⟩ ⟨some ⟨gj, oj, none⟩, (JL p l2).length, cj⟩ (JL p l2) W hp (hKP W h).j (by omega)).mono (R' := fun e w' => e = .returned (.bool true) ∧ K w') (fun e w' hh => ⟨hh.1, hKst _ _ h hh.2⟩)
                have HSF := fun (W : World) (a : Option Addr) (c : Nat) (h : K W) (hp : PtsR W ⟨a, (FL p l2).length, c⟩ (FL p l2)) => (same_c ⟨a, (FL p l2).length, c⟩ ⟨some ⟨gf, og, none⟩, (FL p l2).length, cf⟩ (FL p l2) W hp (hKP W h).f (by omega)).mono (R' := fun e w' => e = .returned (.bool true) ∧ K w') (fun e w' hh => ⟨hh.1, hKst _ _ h hh.2⟩)
                have HBE := fun (W : World) (h : K W) => (best_x (hKP W h).gd.gad (by omega)).mono (R' := fun e w' => e = .returned (.agg (pointA ((FL p l2).getLast (FL_ne p l2)))) ∧ K w') (fun e w' hh => ⟨hh.1, hKst _ _ h hh.2⟩)
                have HHI := fun (W : World) (h : K W) => (highest_x (hKP W h).gd.gad (by omega)).mono (R' := fun e w' => e = .returned (.agg (pointA ((JL p l2).getLast (JL_ne p l2)))) ∧ K w') (fun e w' hh => ⟨hh.1, hKst _ _ h hh.2⟩)
                have HLI := fun (W : World) (h : K W) => (links_x (hKP W h).gd.gad (by omega)).mono (R' := fun e w' => ∃ a c, e = .returned (.slice a l2.length c) ∧ K w' ∧ LnksR w' ⟨a, l2.length, c⟩ l2) (by
                  rintro e w' ⟨⟨a, n, c⟩, rfl, hp, hb⟩
                  obtain rfl : n = l2.length := hp.1
                  exact ⟨a, c, rfl, hKst _ _ h hb, hp⟩)
                have HJU := fun (W : World) (y : Pt) (h : K W) => (justified_x y (hKP W h).gd.gad).mono (R' := fun e w' => e = .returned (.bool (inP y (JL p l2))) ∧ K w' ∧ Below W.heap.size W w') (fun e w' hh => ⟨hh.1, hKst _ _ h hh.2, hh.2⟩)
                have HFI := fun (W : World) (y : Pt) (h : K W) => (final_x y (hKP W h).gd.gad).mono (R' := fun e w' => e = .returned (.bool (inP y (FL p l2))) ∧ K w' ∧ Below W.heap.size W w') (fun e w' hh => ⟨hh.1, hKst _ _ h hh.2, hh.2⟩)
                generalize hjL : (JL p l2).getLast (JL_ne p l2) = yj at *
                generalize hfL : (FL p l2).getLast (FL_ne p l2) = yf at *
                have hK6d : K w6.drew := hKst _ _ hK6 (below_drewN (Below.refl _ _) 1)
                clear hjL hfL
                go_upto_region 27 with fail
                have hS6 := hlast _ hK6d
                obtain ⟨qj1, qj2⟩ : (0 : Int) ≤ ((JL p l2).length : Int) - 1 ∧ ((JL p l2).length : Int) - 1 < ((JL p l2).length : Int) := by omega
                obtain ⟨qf1, qf2⟩ : (0 : Int) ≤ ((FL p l2).length : Int) - 1 ∧ ((FL p l2).length : Int) - 1 < ((FL p l2).length : Int) := by omega
                have wj1 : IntKind.i64.wrap (((JL p l2).length : Int) - 1) = ((JL p l2).length : Int) - 1 := IntWalk.i64_in _ (by omega)
                have wf1 : IntKind.i64.wrap (((FL p l2).length : Int) - 1) = ((FL p l2).length : Int) - 1 := IntWalk.i64_in _ (by omega)
                have tj1 : (((JL p l2).length : Int) - 1).toNat = (JL p l2).length - 1 := by omega
                have tf1 : (((FL p l2).length : Int) - 1).toNat = (FL p l2).length - 1 := by omega
                have pj1 : (1 : Int) ≤ ((JL p l2).length : Int) := by omega
                have pf1 : (1 : Int) ≤ ((FL p l2).length : Int) := by omega
                replace hK6 := Lib.hid hK6
                go_region_held3 (fun W => row? W gj (oj + ((JL p l2).length - 1) * 33) 33 = some (pointA yj) ∧ row? W gf (og + ((FL p l2).length - 1) * 33) 33 = some (pointA yf))
                  (first | go_keep | (with_reducible assumption))
                  (first
                    | (go_simp; go_at_call 30; (with_reducible refine (HAJ _ (by assumption)).mono ?_); rintro e w7 ⟨a7, c7, rfl, hK7, hP7⟩; have hS7 := hlast _ hK7)
                    | (go_simp; go_at_call 29; (with_reducible refine (HSJ _ _ _ (by assumption) (by assumption)).mono ?_); rintro e w8 ⟨rfl, hK8⟩; have hS8 := hlast _ hK8)
                    | (go_simp; go_at_call 31; (with_reducible refine (HAF _ (by assumption)).mono ?_); rintro e w9 ⟨a9, c9, rfl, hK9, hP9⟩; have hS9 := hlast _ hK9)
                    | (go_simp; go_at_call 29; (with_reducible refine (HSF _ _ _ (by assumption) (by assumption)).mono ?_); rintro e w10 ⟨rfl, hK10⟩; have hS10 := hlast _ hK10)
                    | (go_simp; go_at_call 32; (with_reducible refine (HBE _ (by assumption)).mono ?_); rintro e w11 ⟨rfl, hK11⟩; have hS11 := hlast _ hK11)
                    | (go_simp; go_at_call 26; (with_reducible refine (HHI _ (by assumption)).mono ?_); rintro e w12 ⟨rfl, hK12⟩; have hS12 := hlast _ hK12))
                rename_i hHeld
                clear hHeld
                clear hS6 hS7 hS8 hS9 hS10 hS11 hS12 hK7 hK8 hK9 hK10 hK11 hP7 hP9 qj1 qj2 qf1 qf2 wj1 wf1 tj1 tf1 pj1 pf1 HAJ HAF HSJ HSF HBE HHI hlast
                have hc13 := HLI _ hK12
                clear hK12 HLI
                go_wp2_with fail
                refine hc13.mono ?_
                rintro e w13 ⟨al, cl, rfl, hK13, hL13⟩
                replace hK13 := Lib.hid hK13
                replace hL13 := Lib.hid hL13
                clear hc13
                go_wp2_with fail
                -- loop 3
                go_loopw [16] (fun i W => ∃ c : Nat, c ≤ l2.length ∧ i = .int .i64 c ∧ Hid (K W) ∧ Hid (LnksR W ⟨al, l2.length, cl⟩ l2)) (fun i _ => l2.length - (intOf i).toNat)
                case atStart => exact ⟨0, Nat.zero_le _, rfl, hK13, hL13⟩
                case round =>
                  clear hK13 hL13
                  obtain ⟨c, hc, rfl, hKw, hLw⟩ := hrel
                  by_cases hcx : c < l2.length
                  · as_aux_lemma =>
                      obtain ⟨g2, og2, e, hg2, hc2⟩ := hLw.out.at (by omega)
                      have e1 := congrArg Sl.a e
                      simp only at e1
                      subst e1
                      clear e
                      obtain ⟨cs, hcy, hcs⟩ := hc2 c hcx
                      subst hcs
                      clear hc2
                      obtain ⟨g3, og3, e, hg3, hc3⟩ := (hKP _ hKw.out).gd.reads.at (by omega)
                      have e1 := congrArg Sl.a e
                      simp only at e1
                      subst e1
                      clear e
                      obtain ⟨cs, hcz, hcs⟩ := hc3 c hcx
                      subst hcs
                      clear hc3
                      have i0 : (0 : Int) ≤ (c : Int) := by omega
                      have i1 : (c : Int) < (l2.length : Int) := by omega
                      have hKn := fun n => Lib.hid (hKst _ _ hKw.out (below_drewN (Below.refl wr.heap.size wr) n))
                      have hLn := fun n => Lib.hid (hLw.out.keep' (below_drewN (Below.refl wr.heap.size wr) n))
                      generalize l2[c] = y at *
                      go_wp2_with fail
                      go_quiet (fail)
                      go_wp2_with fail
                      go_roundw
                      case rel => exact ⟨c + 1, by omega, by go_num, hKn _, hLn _⟩
                      case measure => (first | omega | (simp [intOf]; done) | (simp [intOf]; omega))
                  · obtain rfl : c = l2.length := by omega
                    clear hLw hcx
                    have hx := (hKP _ hKw.out).x
                    have hs0 := row?_sub hx 0 33 (by omega)
                    have ht0 := row?_sub hx 33 33 (by omega)
                    rw [linkA_source] at hs0
                    rw [linkA_target] at ht0
                    clear hx
                    obtain ⟨W5, hW5⟩ : ∃ W5, W5 = wr.alloc (.cells (pts2 x.source x.target) 26) := ⟨_, rfl⟩
                    obtain ⟨pb, hpb⟩ : ∃ pb, pb = wr.heap.size := ⟨_, rfl⟩
                    have hrun : (bld2 #[(0, .agg (pointA x.source)), (1, .agg (pointA x.target))]).run Try.prog wr = .ok (.slice (some ⟨pb, 0, none⟩) 2 2) W5 := by rw [hW5, hpb]; exact run_bld2 _ _ _
                    have hK5 : Hid (K W5) := Lib.hid (hKst _ _ hKw.out (hW5 ▸ bel_a _ _))
                    have hr0 : row? W5 pb 0 33 = some (pointA x.source) := by
                      rw [hW5, hpb, row?_new, if_pos (by rw [pts2_size]; omega)]
                      exact congrArg some (pts2_at0 _ _)
                    have hr1 : row? W5 pb 33 33 = some (pointA x.target) := by
                      rw [hW5, hpb, row?_new, if_pos (by rw [pts2_size]; omega)]
                      exact congrArg some (pts2_at1 _ _)
                    have hlt5 : pb < W5.heap.size := by rw [hW5, hpb]; simp
                    clear hW5 hpb hKw
                    replace hr0 := Lib.hid hr0
                    replace hr1 := Lib.hid hr1
                    go_wp2_with fail
                    clear hs0 ht0 hrun
                    -- loop 4
                    go_loopw [18] (fun i W => ∃ z : Int, i = .int .i64 z ∧ 0 ≤ z ∧ z ≤ 2 ∧ Hid (K W) ∧ Hid (row? W pb 0 33 = some (pointA x.source)) ∧ Hid (row? W pb 33 33 = some (pointA x.target)) ∧ pb < W.heap.size) (fun i _ => 2 - (intOf i).toNat)
                    case atStart => exact ⟨0, rfl, by omega, by omega, hK5, hr0, hr1, hlt5⟩
                    case round =>
                      clear hK5 hr0 hr1 hlt5
                      obtain ⟨z, rfl, hz0, hz2, hKw, hr0, hr1, hltw⟩ := hrel
                      by_cases hzx : z < 2
                      · obtain ⟨y, hy⟩ : ∃ y, row? wr pb (z.toNat * 33) 33 = some (pointA y) := by
                          rcases (show z = 0 ∨ z = 1 by omega) with rfl | rfl
                          · exact ⟨_, hr0.out⟩
                          · exact ⟨_, hr1.out⟩
                        generalize wr = w14 at *
                        replace hy := Lib.hid hy
                        go_wp2_with fail
                        -- loop 5
                        go_loopw [19, 21] (fun b i W => ∃ c : Nat, c ≤ (JL p l2).length ∧ b = .bool (inP y ((JL p l2).take c)) ∧ i = .int .i64 c ∧ Hid (K W) ∧ Hid (Below w14.heap.size w14 W)) (fun _ i _ => (JL p l2).length - (intOf i).toNat)
                        case atStart => exact ⟨0, Nat.zero_le _, by simp [inP], rfl, hKw, Lib.hid (Below.refl _ _)⟩
                        case round =>
                          obtain ⟨c, hc, rfl, rfl, hKw, hbW⟩ := hrel
                          by_cases hcx : c < (JL p l2).length
                          · as_aux_lemma =>
                              obtain ⟨g3, og3, e, hg3, hc3⟩ := (hKP _ hKw.out).j.at (by omega)
                              have e1 := congrArg Sl.a e
                              simp only at e1
                              cases e1
                              clear e
                              obtain ⟨cs, hcz, hcs⟩ := hc3 c hcx
                              subst hcs
                              clear hc3
                              have hyW : row? wr pb (z.toNat * 33) 33 = some (pointA y) := ((kept hbW.out).2.2 _ _ _ hltw).trans hy.out
                              have hKn := fun n => Lib.hid (hKst _ _ hKw.out (below_drewN (Below.refl wr.heap.size wr) n))
                              have hbn := fun n => Lib.hid (hbW.out.trans ((below_drewN (Below.refl wr.heap.size wr) n).mono hbW.out.size))
                              have hsu := Lib.hid (inP_succ y (JL p l2) c hcx)
                              have i0 : (0 : Int) ≤ (c : Int) := by omega
                              have i1 : (c : Int) < ((JL p l2).length : Int) := by omega
                              generalize (JL p l2)[c] = q at *
                              generalize inP y ((JL p l2).take c) = b0 at *
                              cases b0
                              · by_cases h1 : q = y
                                · have hu := Lib.hid (show inP y ((JL p l2).take (c + 1)) = true by rw [hsu.out, h1]; simp)
                                  clear hsu
                                  subst h1
                                  go_wp2_with fail
                                  go_quiet (fail)
                                  go_wp2_with fail
                                  go_roundw
                                  case rel => exact ⟨c + 1, by omega, by rw [hu.out], by go_num, hKn _, hbn _⟩
                                  case measure => (first | omega | (simp [intOf]; done) | (simp [intOf]; omega))
                                · have hu := Lib.hid (show inP y ((JL p l2).take (c + 1)) = false by rw [hsu.out, decide_eq_false h1]; rfl)
                                  clear hsu
                                  go_wp2_with fail
                                  go_quiet (fail)
                                  go_wp2_with fail
                                  go_roundw
                                  case rel => exact ⟨c + 1, by omega, by rw [hu.out], by go_num, hKn _, hbn _⟩
                                  case measure => (first | omega | (simp [intOf]; done) | (simp [intOf]; omega))
                              · have hu := Lib.hid (show inP y ((JL p l2).take (c + 1)) = true by rw [hsu.out]; rfl)
                                clear hsu
                                go_wp2_with fail
                                go_quiet (fail)
                                go_wp2_with fail
                                go_roundw
                                case rel => exact ⟨c + 1, by omega, by rw [hu.out], by go_num, hKn _, hbn _⟩
                                case measure => (first | omega | (simp [intOf]; done) | (simp [intOf]; omega))
                          · obtain rfl : c = (JL p l2).length := by omega
                            rw [List.take_length]
                            clear hcx hc
                            have hbW5 := hbW
                            clear hbW
                            generalize wr = w15 at *
                            go_wp2_with fail
                            -- loop 6
                            go_loopw [20, 22] (fun b i W => ∃ c : Nat, c ≤ (FL p l2).length ∧ b = .bool (inP y ((FL p l2).take c)) ∧ i = .int .i64 c ∧ Hid (K W) ∧ Hid (Below w14.heap.size w14 W)) (fun _ i _ => (FL p l2).length - (intOf i).toNat)
                            case atStart => exact ⟨0, Nat.zero_le _, by simp [inP], rfl, hKw, hbW5⟩
                            case round =>
                              clear hKw hbW5
                              obtain ⟨c, hc, rfl, rfl, hKw, hbW⟩ := hrel
                              by_cases hcx : c < (FL p l2).length
                              · as_aux_lemma =>
                                  obtain ⟨g3, og3, e, hg3, hc3⟩ := (hKP _ hKw.out).f.at (by omega)
                                  have e1 := congrArg Sl.a e
                                  simp only at e1
                                  cases e1
                                  clear e
                                  obtain ⟨cs, hcz, hcs⟩ := hc3 c hcx
                                  subst hcs
                                  clear hc3
                                  have hyW : row? wr pb (z.toNat * 33) 33 = some (pointA y) := ((kept hbW.out).2.2 _ _ _ hltw).trans hy.out
                                  have hKn := fun n => Lib.hid (hKst _ _ hKw.out (below_drewN (Below.refl wr.heap.size wr) n))
                                  have hbn := fun n => Lib.hid (hbW.out.trans ((below_drewN (Below.refl wr.heap.size wr) n).mono hbW.out.size))
                                  have hsu := Lib.hid (inP_succ y (FL p l2) c hcx)
                                  have i0 : (0 : Int) ≤ (c : Int) := by omega
                                  have i1 : (c : Int) < ((FL p l2).length : Int) := by omega
                                  generalize (FL p l2)[c] = q at *
                                  generalize inP y ((FL p l2).take c) = b0 at *
                                  cases b0
                                  · by_cases h1 : q = y
                                    · have hu := Lib.hid (show inP y ((FL p l2).take (c + 1)) = true by rw [hsu.out, h1]; simp)
                                      clear hsu
                                      subst h1
                                      go_wp2_with fail
                                      go_quiet (fail)
                                      go_wp2_with fail
                                      go_roundw
                                      case rel => exact ⟨c + 1, by omega, by rw [hu.out], by go_num, hKn _, hbn _⟩
                                      case measure => (first | omega | (simp [intOf]; done) | (simp [intOf]; omega))
                                    · have hu := Lib.hid (show inP y ((FL p l2).take (c + 1)) = false by rw [hsu.out, decide_eq_false h1]; rfl)
                                      clear hsu
                                      go_wp2_with fail
                                      go_quiet (fail)
                                      go_wp2_with fail
                                      go_roundw
                                      case rel => exact ⟨c + 1, by omega, by rw [hu.out], by go_num, hKn _, hbn _⟩
                                      case measure => (first | omega | (simp [intOf]; done) | (simp [intOf]; omega))
                                  · have hu := Lib.hid (show inP y ((FL p l2).take (c + 1)) = true by rw [hsu.out]; rfl)
                                    clear hsu
                                    go_wp2_with fail
                                    go_quiet (fail)
                                    go_wp2_with fail
                                    go_roundw
                                    case rel => exact ⟨c + 1, by omega, by rw [hu.out], by go_num, hKn _, hbn _⟩
                                    case measure => (first | omega | (simp [intOf]; done) | (simp [intOf]; omega))
                              · obtain rfl : c = (FL p l2).length := by omega
                                rw [List.take_length]
                                clear hcx hc
                                have hyW : row? wr pb (z.toNat * 33) 33 = some (pointA y) := ((kept hbW.out).2.2 _ _ _ hltw).trans hy.out
                                have hJJ := HJU wr y hKw.out
                                have hFF := fun W h => HFI W y h
                                generalize inP y (JL p l2) = bj at *
                                generalize inP y (FL p l2) = bf at *
                                have hjne : (bj != bj) = false := by simp
                                have hfne : (bf != bf) = false := by simp
                                have hltr : pb < wr.heap.size := Nat.lt_of_lt_of_le hltw hbW.out.size
                                go_wp2_with fail
                                refine hJJ.mono ?_
                                rintro e w16 ⟨rfl, hK16, hb16⟩
                                have hy16 : row? w16 pb (z.toNat * 33) 33 = some (pointA y) := ((kept hb16).2.2 _ _ _ hltr).trans hyW
                                have hb16' := Lib.hid hb16
                                have hK16' := hFF _ hK16
                                clear hb16 hJJ hyW hK16
                                go_wp2_with fail
                                refine hK16'.mono ?_
                                rintro e w17 ⟨rfl, hK17, hb17⟩
                                have hK17' := Lib.hid hK17
                                have hkeep := fun (b o n : Nat) (h : b < w14.heap.size) => ((kept hb17).2.2 b o n (Nat.lt_of_lt_of_le (Nat.lt_of_lt_of_le h hbW.out.size) hb16'.out.size)).trans (((kept hb16'.out).2.2 b o n (Nat.lt_of_lt_of_le h hbW.out.size)).trans ((kept hbW.out).2.2 b o n h))
                                have h17 := Lib.hid (And.intro ((hkeep pb 0 33 hltw).trans hr0.out) ((hkeep pb 33 33 hltw).trans hr1.out))
                                have hlt17 : pb < w17.heap.size := Nat.lt_of_lt_of_le hltr (Nat.le_trans hb16'.out.size hb17.size)
                                clear hkeep hb17 hK17 hy16 hK16' hFF
                                go_wp2_with fail
                                go_roundw
                                case rel => exact ⟨z + 1, rfl, by omega, by omega, hK17', Lib.hid h17.out.1, Lib.hid h17.out.2, hlt17⟩
                                case measure => (first | omega | (simp [intOf]; done) | (simp [intOf]; omega))
                      · obtain rfl : z = 2 := by omega
                        clear hzx hz0 hz2 hr0 hr1
                        obtain ⟨hGk, hBk, hB0k⟩ : GD wr wr.heap.size (w.heap.size + 1) ra p l2 ⟨ta2, l2.length, tc2⟩ l2 ∧ Below w.heap.size w wr ∧ Below (w.heap.size + 1) w1 wr := ⟨(hKP _ hKw.out).gd, (hKP _ hKw.out).hB, (hKP _ hKw.out).hB0⟩
                        replace hGk := Lib.hid hGk
                        replace hBk := Lib.hid hBk
                        replace hB0k := Lib.hid hB0k
                        clear hKw HJU HFI hKP hKst
                        go_wp2_with fail
                        go_roundw
                        case rel => exact ⟨k + 1, ⟨ta2, l2.length, tc2⟩, by omega, rfl, by go_num, by rw [Hsu.out]; exact hGk, hBk, hB0k⟩
                        case measure => (first | omega | (simp [intOf]; done) | (simp [intOf]; omega))
    · obtain rfl : k = ls.length := by omega
      clear hk hkx hG
      go_wp2_with fail
      refine (HK _).mono ?_
      rintro e w7 ⟨rfl, hb7⟩
      go_wp2_with fail
      go_ret
      exact ⟨rfl, hB.out.trans (hb7.mono hB.out.size)⟩
end Go.Proofs.Ytlkflddjpkhndaa
