/- The walk of FfgLeast. -/
import Derived.Test.YtlkflddjpkhndaaTwo
import Derived.Test.YtlkflddjpkhndaaOpenL
import Derived.Deep.RegionHeld3
namespace Go.Proofs.Ytlkflddjpkhndaa
open Go.RowKit

/-- how many links have a target of a later epoch -/
def later (q : Pt) (la : List Lnk) : Nat := la.countP fun x => decide (q.epoch.toNat < x.target.epoch.toNat)
theorem later_le (q : Pt) (la : List Lnk) : later q la ≤ la.length := List.countP_le_length
theorem countP_step (f g : Lnk → Bool) (x : Lnk) (hx : g x = true) (hn : f x = false) (h : ∀ y, f y = true → g y = true) : ∀ (l : List Lnk), x ∈ l → l.countP f + 1 ≤ l.countP g
  | y :: l, hm => by
    by_cases e : x = y
    · subst e
      rw [List.countP_cons_of_neg (by simp [hn]), List.countP_cons_of_pos (by simp [hx])]
      have := List.countP_mono_left (l := l) (p := f) (q := g) (fun y _ hy => h y hy)
      omega
    · have ih := countP_step f g x hx hn h l (by
        rcases List.mem_cons.1 hm with h' | h'
        · exact absurd h' e
        · exact h')
      rw [List.countP_cons, List.countP_cons]
      by_cases hf : f y = true
      · rw [if_pos hf, if_pos (h y hf)]
        omega
      · rw [if_neg hf]
        omega
theorem later_step {x : Lnk} {la : List Lnk} (hx : x ∈ la) (hg : goodL x = true) : later x.target la + 1 ≤ later x.source la := by
  unfold goodL at hg
  simp only [Bool.and_eq_true, decide_eq_true_eq] at hg
  refine countP_step _ _ x (by simpa using hg.2) (by simp) (fun y hy => ?_) la hx
  simp only [decide_eq_true_eq] at hy ⊢
  omega
theorem jus_step {a q : Pt} {la : List Lnk} (h : Jus a la q) (hne : q ≠ a) : ∃ x ∈ la, x.target = q ∧ Jus a la x.source := by
  cases h with
  | anchor => exact absurd rfl hne
  | step l hl hs => exact ⟨l, hl, rfl, hs⟩

set_option maxRecDepth 100000 in
set_option maxHeartbeats 6400000 in
theorem least_walk (p : Pt) (s : Sl) (ls : List Lnk) (w : World) (hs : LnksR w s ls) :
    Calls Try.prog 6 #[.agg (pointA p), s.v] w fun e w' => e = .returned (.bool true) ∧ Below w.heap.size w w' := by
  obtain ⟨sa, sn, sc⟩ := s
  obtain rfl : sn = ls.length := hs.1
  have HK := fun W => known13_c W
  have hbox : row? (w.alloc (.cells (pointA p) 26)) w.heap.size 0 33 = some (pointA p) := by rw [row?_new]; simp
  replace hs := Lib.hid hs
  show Calls Try.prog 6 #[.agg (pointA p), .slice sa ls.length sc] w _
  by_cases h40 : ls.length ≤ 40
  case neg =>
    have c1 : (40 : Int) < (ls.length : Int) := by omega
    go_enter Try.func6, Try.ntmps6
    go_wp2_with (go_at_call 21; refine (HK _).mono ?_; rintro e w1 ⟨rfl, hb⟩)
    go_ret
    exact ⟨rfl, by (repeat' (first | (with_reducible exact Below.refl _ _) | (with_reducible assumption) | (with_reducible refine bel_trans (by assumption) ?_ ?_) | (with_reducible refine bel_grown (by assumption) ?_ ?_ ?_) | (with_reducible refine Below.alloc ?_ ?_ _) | (with_reducible refine Below.drew ?_) | (with_reducible refine below_drewN ?_ _) | (with_reducible refine Below.setCell ?_ ?_ _) | (with_reducible refine below_put ?_ ?_ _ _) | (with_reducible exact Nat.le_refl _) | omega | (with_reducible refine Nat.le_trans ?_ (Below.size (by assumption))) | (with_reducible refine Nat.le_trans ?_ (World.grownBy.size (by assumption))) | (simp only [World.size_alloc, World.size_setCell, World.size_drew, size_drewN]; omega) | (simp only [World.size_alloc, World.size_setCell, World.size_drew, size_drewN, size_put]; omega) | (intro k hk; simp [Value.ownBlock] at hk; done) | (intro k hk; simp [Value.ownBlock] at hk; omega) | (simp [size_drewN] at *; omega)))⟩
  have c1 : ¬ (40 : Int) < (ls.length : Int) := by omega
  cases hp : mayPt p
  case false =>
    have HN := fun W => new_no p W hp
    have c3 : (4611686018427387904 : Int) < (p.epoch.toNat : Int) := by
      unfold mayPt at hp
      rw [decide_eq_false_iff_not] at hp
      omega
    have ce := cell_of_row? hbox 0 (by omega)
    simp only [Nat.zero_add, pointA_epoch] at ce
    go_enter Try.func6, Try.ntmps6
    go_wp2_with fail
    refine (HN _).mono ?_
    rintro e w1 ⟨rfl, hb1⟩
    have hz1 := hb1.size
    simp only [World.size_alloc] at hz1
    have ce2 : w1.cell? ⟨w.heap.size, 0, none⟩ = some (.int .u64 (p.epoch.toNat : Int)) := ((kept hb1).1 _ _ (by simp)).trans ce
    go_wp2_with fail
    refine (HK _).mono ?_
    rintro e w3 ⟨rfl, hb3⟩
    go_wp2_with fail
    go_ret
    exact ⟨rfl, ((bel_a w _).trans (hb1.mono (by simp))).trans (hb3.mono (by omega))⟩
  have HN := fun W => new_x p W hp
  go_enter Try.func6, Try.ntmps6
  go_wp2_with fail
  refine (HN _).mono ?_
  rintro e w1 ⟨ra, rfl, ha, hb1⟩
  have hbox1 : row? w1 w.heap.size 0 33 = some (pointA p) := ((kept hb1).2.2 _ _ _ (by simp)).trans hbox
  have hG : GadX w1 (w.heap.size + 1) ra p (addAll (ls.take 0)) := by
    rw [List.take_zero]
    have ha' := ha
    rw [World.size_alloc] at ha'
    exact ha'
  have hB1 : Below w.heap.size w w1 := (bel_a w _).trans (hb1.mono (by simp))
  have hz1 : w.heap.size + 1 ≤ w1.heap.size := by have := hb1.size; simpa using this
  replace hG := Lib.hid hG
  replace hB1 := Lib.hid hB1
  clear ha hb1 hbox HN
  go_wp2_with fail
  go_loopw [7] (fun i W => ∃ k : Nat, k ≤ ls.length ∧ i = .int .i64 k ∧ Hid (GadX W (w.heap.size + 1) ra p (addAll (ls.take k))) ∧ Hid (Below w.heap.size w W) ∧ Hid (Below (w.heap.size + 1) w1 W)) (fun i _ => ls.length - (intOf i).toNat)
  case atStart => exact ⟨0, Nat.zero_le _, rfl, hG, hB1, Lib.hid (Below.refl _ _)⟩
  case round =>
    obtain ⟨k, hk, rfl, hG, hB, hB0⟩ := hrel
    by_cases hkx : k < ls.length
    · obtain ⟨g, og, e, hg, hc⟩ := (hs.out.keep' hB.out).at (by omega)
      have e1 := congrArg Sl.a e
      simp only at e1
      subst e1
      clear e
      obtain ⟨cs, hcx, hcs⟩ := hc k hkx
      subst hcs
      clear hc
      have hlen := addAll_length (ls.take k)
      have hlen2 : (ls.take k).length ≤ ls.length := by simp; omega
      have Hsu := Lib.hid (addAll_succ ls k hkx)
      generalize hla : addAll (ls.take k) = la at *
      generalize ls[k] = x at *
      have j0 : (0 : Int) ≤ (k : Int) := by omega
      have j1 : (k : Int) < (ls.length : Int) := by omega
      have HS := strong_x x hG.out (by omega)
      clear hla
      go_wp2_with fail
      refine HS.mono ?_
      rintro e w5 ⟨rfl, hG5, hb5⟩
      rw [← Hsu.out] at hG5
      have hB5 := Lib.hid (hB.out.trans (hb5.mono (by omega)))
      have hB05 := Lib.hid (hB0.out.trans hb5)
      replace hG5 := Lib.hid hG5
      clear HS hb5
      go_wp2_with fail
      go_roundw
      case rel => exact ⟨k + 1, by omega, by go_num, hG5, hB5, hB05⟩
      case measure => (first | omega | (simp [intOf]; done) | (simp [intOf]; omega))
    · obtain rfl : k = ls.length := by omega
      rw [List.take_length] at hG
      have Hgood := Lib.hid (fun x hx => ((mem_addAll ls x).1 hx).2)
      have hlen := addAll_length ls
      generalize addAll ls = la at *
      have hbox2 : row? wr w.heap.size 0 33 = some (pointA p) := ((kept hB0.out).2.2 _ _ _ (by omega)).trans hbox1
      have hzr : w.heap.size < wr.heap.size := by have := hB0.out.size; omega
      have HL := links_x hG.out (by omega)
      clear hk hkx hbox1
      go_wp2_with fail
      refine HL.mono ?_
      rintro e w2 ⟨⟨ka, kn, kc⟩, he, hl, hb2⟩
      replace he : e = .returned (.slice ka kn kc) := he
      subst he
      obtain rfl : kn = la.length := hl.1
      replace hG := Lib.hid (hG.out.keep hb2)
      replace hB := Lib.hid (hB.out.trans (hb2.mono hB.out.size))
      have hbox3 : row? w2 w.heap.size 0 33 = some (pointA p) := ((kept hb2).2.2 _ _ _ hzr).trans hbox2
      have hz2 : w.heap.size < w2.heap.size := Nat.lt_of_lt_of_le hzr hb2.size
      have HJ := justified_x p hG.out
      rw [decide_eq_true ((JL_mem p la p).2 .anchor)] at HJ
      replace hl := Lib.hid hl
      clear HL hb2 hbox2 hzr hB0
      go_wp2_with fail
      refine HJ.mono ?_
      rintro e w3 ⟨rfl, hb3⟩
      replace hG := Lib.hid (hG.out.keep hb3)
      replace hB := Lib.hid (hB.out.trans (hb3.mono hB.out.size))
      have hbox4 : row? w3 w.heap.size 0 33 = some (pointA p) := ((kept hb3).2.2 _ _ _ hz2).trans hbox3
      have hz3 : w.heap.size < w3.heap.size := Nat.lt_of_lt_of_le hz2 hb3.size
      replace hl := Lib.hid (hl.out.keep' hb3)
      have HF := final_x p hG.out
      rw [decide_eq_true ((FL_mem p la p).2 (.inl rfl))] at HF
      clear HJ hb3 hbox3 hz2
      go_wp2_with fail
      refine HF.mono ?_
      rintro e w4 ⟨rfl, hb4⟩
      replace hG := Lib.hid (hG.out.keep hb4)
      replace hB := Lib.hid (hB.out.trans (hb4.mono hB.out.size))
      have hbox5 : row? w4 w.heap.size 0 33 = some (pointA p) := ((kept hb4).2.2 _ _ _ hz3).trans hbox4
      have hz4 : w.heap.size < w4.heap.size := Nat.lt_of_lt_of_le hz3 hb4.size
      replace hl := Lib.hid (hl.out.keep' hb4)
      clear HF hb4 hbox4 hz3
      go_wp2_with fail
      -- loop 2
      go_loopw [9] (fun i W => ∃ k : Nat, k ≤ la.length ∧ i = .int .i64 k ∧ Hid (Below w4.heap.size w4 W)) (fun i _ => la.length - (intOf i).toNat)
      case atStart => exact ⟨0, Nat.zero_le _, rfl, Lib.hid (Below.refl _ _)⟩
      case round =>
        obtain ⟨k, hk, rfl, hW⟩ := hrel
        by_cases hkx : k < la.length
        · obtain ⟨g, og, e, hg, hc⟩ := (hl.out.keep' hW.out).at (by omega)
          have e1 := congrArg Sl.a e
          simp only at e1
          subst e1
          clear e
          obtain ⟨cs, hcx, hcs⟩ := hc k hkx
          subst hcs
          clear hc
          have hmem : la[k] ∈ la := List.getElem_mem _
          generalize la[k] = x at *
          have hsrc : row? wr g (og + k * 66) 33 = some (pointA x.source) := (row?_sub hcx 0 33 (by omega)).trans (by rw [linkA_source])
          have htgt : row? wr g (og + k * 66 + 33) 33 = some (pointA x.target) := (row?_sub hcx 33 33 (by omega)).trans (by rw [linkA_target])
          have j0 : (0 : Int) ≤ (k : Int) := by omega
          have j1 : (k : Int) < (la.length : Int) := by omega
          have HJ1 := justified_x x.source (hG.out.keep hW.out)
          have Hj := Lib.hid (show x.source ∈ JL p la → x.target ∈ JL p la from fun h => (JL_mem p la _).2 (.step x hmem ((JL_mem p la _).1 h)))
          clear hcx
          by_cases h1 : x.source ∈ JL p la
          · rw [decide_eq_true h1] at HJ1
            go_wp2_with fail
            refine HJ1.mono ?_
            rintro e w5 ⟨rfl, hb5⟩
            have ht5 : row? w5 g (og + k * 66 + 33) 33 = some (pointA x.target) := ((kept hb5).2.2 _ _ _ hg).trans htgt
            have hW5 := Lib.hid (hW.out.trans (hb5.mono hW.out.size))
            have HJ2 := justified_x x.target (hG.out.keep hW5.out)
            rw [decide_eq_true (Hj.out h1)] at HJ2
            clear HJ1 hb5 hsrc htgt
            go_wp2_with fail
            refine HJ2.mono ?_
            rintro e w6 ⟨rfl, hb6⟩
            have hW6 := Lib.hid (hW5.out.trans (hb6.mono hW5.out.size))
            clear HJ2 hb6 ht5
            go_wp2_with fail
            go_roundw
            case rel => exact ⟨k + 1, by omega, by go_num, hW6⟩
            case measure => (first | omega | (simp [intOf]; done) | (simp [intOf]; omega))
          · rw [decide_eq_false h1] at HJ1
            go_wp2_with fail
            refine HJ1.mono ?_
            rintro e w5 ⟨rfl, hb5⟩
            have hW5 := Lib.hid (hW.out.trans (hb5.mono hW.out.size))
            clear HJ1 hb5 hsrc htgt
            go_wp2_with fail
            go_roundw
            case rel => exact ⟨k + 1, by omega, by go_num, hW5⟩
            case measure => (first | omega | (simp [intOf]; done) | (simp [intOf]; omega))
        · obtain rfl : k = la.length := by omega
          have HA := allJ_x (hG.out.keep hW.out) (by omega)
          have hjl := JL_length p la
          clear hk hkx
          go_wp2_with fail
          refine HA.mono ?_
          rintro e w5 ⟨⟨ja, jn, jc⟩, he, hj, hb5⟩
          replace he : e = .returned (.slice ja jn jc) := he
          subst he
          obtain rfl : jn = (JL p la).length := hj.1
          have hW5 := Lib.hid (hW.out.trans (hb5.mono hW.out.size))
          replace hj := Lib.hid hj
          clear HA hb5 hW
          have Hmem := Lib.hid (fun q => JL_mem p la q)
          generalize hJ : JL p la = J at *
          replace hJ := Lib.hid hJ
          go_wp2_with fail
          -- loop 3
          go_loopw [11] (fun i W => ∃ k : Nat, k ≤ J.length ∧ i = .int .i64 k ∧ Hid (Below w5.heap.size w5 W)) (fun i _ => J.length - (intOf i).toNat)
          case atStart => exact ⟨0, Nat.zero_le _, rfl, Lib.hid (Below.refl _ _)⟩
          case round =>
            obtain ⟨k, hk, rfl, hW⟩ := hrel
            by_cases hkx : k < J.length
            · obtain ⟨g, og, e, hg, hc⟩ := (hj.out.keep' hW.out).at (by omega)
              have e1 := congrArg Sl.a e
              simp only at e1
              subst e1
              clear e
              obtain ⟨cs, hcx, hcs⟩ := hc k hkx
              subst hcs
              clear hc
              have hq0 : Jus p la J[k] := (Hmem.out _).1 (List.getElem_mem _)
              generalize J[k] = q0 at *
              have hq0 := Lib.hid hq0
              have j0 : (0 : Int) ≤ (k : Int) := by omega
              have j1 : (k : Int) < (J.length : Int) := by omega
              -- the base of this round
              have hV := Lib.hid (hW5.out.trans (hW.out.mono hW5.out.size))
              have hGv := Lib.hid (hG.out.keep hV.out)
              have hlv := Lib.hid (hl.out.keep' hV.out)
              have hbv : row? wr w.heap.size 0 33 = some (pointA p) := ((kept hV.out).2.2 _ _ _ hz4).trans hbox5
              have hzv : w.heap.size < wr.heap.size := Nat.lt_of_lt_of_le hz4 hV.out.size
              generalize wr = v at *
              have hX : Below v.heap.size v (putRow (v.alloc (.cells (pointA zeroPt) 26)) v.heap.size 0 (pointA q0)) := below_put (bel_a v _) (Nat.le_refl _) _ _
              have hXr : row? (putRow (v.alloc (.cells (pointA zeroPt) 26)) v.heap.size 0 (pointA q0)) v.heap.size 0 33 = some (pointA q0) := by go_simp
              have hXt : there (putRow (v.alloc (.cells (pointA zeroPt) 26)) v.heap.size 0 (pointA q0)) v.heap.size 0 33 := by go_simp
              replace hX := Lib.hid hX
              replace hXr := Lib.hid hXr
              replace hXt := Lib.hid hXt
              go_wp2_with fail
              -- loop 4
              go_loopw [13] (fun i W => ∃ (n : Nat) (cur : Pt), i = .int .i64 n ∧ Hid (Jus p la cur) ∧ n ≤ later cur la ∧ Hid (row? W v.heap.size 0 33 = some (pointA cur)) ∧ Hid (there W v.heap.size 0 33) ∧ Hid (Below v.heap.size v W) ∧ v.heap.size < W.heap.size) (fun i _ => la.length - (intOf i).toNat)
              case atStart => exact ⟨0, q0, rfl, hq0, Nat.zero_le _, hXr, hXt, hX, by simp only [size_put, World.size_alloc]; omega⟩
              case round =>
                obtain ⟨n, cur, rfl, hq, hn, hr, ht, hX, hbz⟩ := hrel
                have hr0 := hr.out
                have hb0 : row? wr w.heap.size 0 33 = some (pointA p) := ((kept hX.out).2.2 _ _ _ hzv).trans hbv
                have hle := later_le cur la
                by_cases hcp : cur = p
                · subst hcp
                  have hV' := Lib.hid (hW.out.trans (hX.out.mono hW.out.size))
                  go_wp2_with fail
                  go_roundw
                  case rel => exact ⟨k + 1, by omega, by go_num, hV'⟩
                  case measure => (first | omega | (simp [intOf]; done) | (simp [intOf]; omega))
                · obtain ⟨x, hx, hxt, hxs⟩ := jus_step hq.out hcp
                  obtain ⟨m, hm, hmx⟩ := List.mem_iff_getElem.1 hx
                  have hpm := Lib.hid (And.intro hxt (And.intro hmx hxs))
                  have hcp' := Lib.hid hcp
                  have hn0 : (0 : Int) ≤ (n : Int) := by omega
                  have hn1 : (n : Int) ≤ (la.length : Int) := by omega
                  clear hxt hxs hmx hx
                  go_wp2_with fail
                  clear hb0 hr0 hcp
                  generalize wr = v4 at *
                  -- loop 5
                  go_loopw [14, 15] (fun u i W => ∃ (f : Bool) (c : Nat) (q : Pt), u = .bool f ∧ i = .int .i64 c ∧ c ≤ la.length ∧ Hid (row? W v.heap.size 0 33 = some (pointA q)) ∧ Hid (there W v.heap.size 0 33) ∧ Hid (Below v.heap.size v W) ∧ v.heap.size < W.heap.size ∧ ((f = false ∧ c ≤ m ∧ q = cur) ∨ (f = true ∧ Hid (Jus p la q) ∧ later cur la + 1 ≤ later q la))) (fun _ i _ => la.length - (intOf i).toNat)
                  case atStart => exact ⟨false, 0, cur, rfl, rfl, Nat.zero_le _, hr, ht, hX, hbz, .inl ⟨rfl, Nat.zero_le _, rfl⟩⟩
                  case round =>
                    clear hr ht hX hbz
                    obtain ⟨f, c, q, rfl, rfl, hc, hr, ht, hX, hbz, hor⟩ := hrel
                    have c0 : (0 : Int) ≤ (c : Int) := by omega
                    rcases hor with ⟨rfl, hcm, rfl⟩ | ⟨rfl, hq', hlt⟩
                    · have c1 : (c : Int) < (la.length : Int) := by omega
                      obtain ⟨g, og, e, hg, hgc⟩ := (hlv.out.keep' hX.out).at (by omega)
                      have e1 := congrArg Sl.a e
                      simp only at e1
                      subst e1
                      clear e
                      obtain ⟨cs, hcx, hcs⟩ := hgc c (by omega)
                      subst hcs
                      clear hgc
                      have hmem : la[c] ∈ la := List.getElem_mem _
                      have hgd := Hgood.out _ hmem
                      have hnx : c = m → la[c].target = q ∧ Jus p la la[c].source := fun h => by
                        subst h
                        obtain ⟨a1, a2, a3⟩ := hpm.out
                        rw [a2]
                        exact ⟨a1, a3⟩
                      generalize la[c] = y at *
                      have hsrc : row? wr g (og + c * 66) 33 = some (pointA y.source) := (row?_sub hcx 0 33 (by omega)).trans (by rw [linkA_source])
                      have htgt : row? wr g (og + c * 66 + 33) 33 = some (pointA y.target) := (row?_sub hcx 33 33 (by omega)).trans (by rw [linkA_target])
                      have hr0 := hr.out
                      clear hcx
                      by_cases h1 : y.target = q
                      · have hGd := Lib.hid (show GadX wr.drew (w.heap.size + 1) ra p la from (hGv.out.keep hX.out).keep (below_drewN (Below.refl _ _) 1))
                        have HJ := justified_x y.source hGd.out
                        by_cases h2 : y.source ∈ JL p la
                        · rw [decide_eq_true h2] at HJ
                          have h2' := Lib.hid ((JL_mem p la _).1 h2)
                          have hls : later q la + 1 ≤ later y.source la := by
                            rw [← h1]
                            exact later_step hmem hgd
                          have hll := later_le y.source la
                          clear h2 hnx
                          subst h1
                          go_wp2_with fail
                          have hS0 : row? wr.drew g (og + c * 66) 33 = some (pointA y.source) ∧ row? wr.drew g (og + c * 66 + 33) 33 = some (pointA y.target) ∧ row? wr.drew v.heap.size 0 33 = some (pointA y.target) := ⟨hsrc, htgt, hr0⟩
                          go_region_held3 (fun W => row? W g (og + c * 66) 33 = some (pointA y.source) ∧ row? W g (og + c * 66 + 33) 33 = some (pointA y.target) ∧ row? W v.heap.size 0 33 = some (pointA y.target))
                            (first | go_keep | (with_reducible exact hS0) | (with_reducible exact hS6))
                            (first
                              | (go_simp; go_at_call 24; (with_reducible refine HJ.mono ?_); rintro e w6 ⟨rfl, hb6⟩; have hS6 : row? w6 g (og + c * 66) 33 = some (pointA y.source) ∧ row? w6 g (og + c * 66 + 33) 33 = some (pointA y.target) ∧ row? w6 v.heap.size 0 33 = some (pointA y.target) := ⟨((kept hb6).2.2 _ _ _ hg).trans hsrc, ((kept hb6).2.2 _ _ _ hg).trans htgt, ((kept hb6).2.2 _ _ _ hbz).trans hr0⟩))
                          rename_i hHeld
                          clear hHeld hS0
                          have q6 : Below wr.heap.size wr w6 := undrew hb6
                          obtain ⟨_, _, hr6⟩ := hS6
                          have hs6 : row? w6 g (og + c * 66) 33 = some (pointA y.source) := ((kept q6).2.2 _ _ _ hg).trans hsrc
                          have ht6 := there_below q6 hbz ht.out
                          have hX6 := Lib.hid (below_put (hX.out.trans (q6.mono hX.out.size)) (Nat.le_refl _) 0 (pointA y.source))
                          have hr7 : row? (putRow w6 v.heap.size 0 (pointA y.source)) v.heap.size 0 33 = some (pointA y.source) := by go_simp
                          have ht7 : there (putRow w6 v.heap.size 0 (pointA y.source)) v.heap.size 0 33 := by go_simp
                          have hz7 : v.heap.size < (putRow w6 v.heap.size 0 (pointA y.source)).heap.size := by
                            have := q6.size
                            rw [size_put]
                            omega
                          replace hr7 := Lib.hid hr7
                          replace ht7 := Lib.hid ht7
                          clear HJ hb6 hr0 hsrc htgt hr6 q6
                          go_wp2_with fail
                          go_roundw
                          case rel => exact ⟨true, c + 1, y.source, rfl, by go_num, by omega, hr7, ht7, hX6, hz7, .inr ⟨rfl, h2', hls⟩⟩
                          case measure => (first | omega | (simp [intOf]; done) | (simp [intOf]; omega))
                        · rw [decide_eq_false h2] at HJ
                          have hcm' : c ≠ m := fun h => h2 ((JL_mem p la _).2 (hnx h).2)
                          clear h2 hnx
                          subst h1
                          go_wp2_with fail
                          have hS0 : row? wr.drew g (og + c * 66) 33 = some (pointA y.source) ∧ row? wr.drew g (og + c * 66 + 33) 33 = some (pointA y.target) ∧ row? wr.drew v.heap.size 0 33 = some (pointA y.target) := ⟨hsrc, htgt, hr0⟩
                          go_region_held3 (fun W => row? W g (og + c * 66) 33 = some (pointA y.source) ∧ row? W g (og + c * 66 + 33) 33 = some (pointA y.target) ∧ row? W v.heap.size 0 33 = some (pointA y.target))
                            (first | go_keep | (with_reducible exact hS0) | (with_reducible exact hS6))
                            (first
                              | (go_simp; go_at_call 24; (with_reducible refine HJ.mono ?_); rintro e w6 ⟨rfl, hb6⟩; have hS6 : row? w6 g (og + c * 66) 33 = some (pointA y.source) ∧ row? w6 g (og + c * 66 + 33) 33 = some (pointA y.target) ∧ row? w6 v.heap.size 0 33 = some (pointA y.target) := ⟨((kept hb6).2.2 _ _ _ hg).trans hsrc, ((kept hb6).2.2 _ _ _ hg).trans htgt, ((kept hb6).2.2 _ _ _ hbz).trans hr0⟩))
                          rename_i hHeld
                          clear hHeld hS0
                          have q6 : Below wr.heap.size wr w6 := undrew hb6
                          obtain ⟨_, _, hr6⟩ := hS6
                          have ht6 := Lib.hid (there_below q6 hbz ht.out)
                          have hX6 := Lib.hid (hX.out.trans (q6.mono hX.out.size))
                          have hz7 : v.heap.size < w6.heap.size := by have := q6.size; omega
                          replace hr6 := Lib.hid hr6
                          clear HJ hb6 hr0 hsrc htgt q6
                          go_wp2_with fail
                          go_roundw
                          case rel => exact ⟨false, c + 1, y.target, rfl, by go_num, by omega, hr6, ht6, hX6, hz7, .inl ⟨rfl, by omega, rfl⟩⟩
                          case measure => (first | omega | (simp [intOf]; done) | (simp [intOf]; omega))
                      · have hcm' : c ≠ m := fun h => h1 (hnx h).1
                        have hX6 := fun n => Lib.hid (hX.out.trans ((below_drewN (Below.refl wr.heap.size wr) n).mono hX.out.size))
                        clear hnx
                        go_wp2_with fail
                        go_quiet (fail)
                        go_wp2_with fail
                        go_roundw
                        case rel => exact ⟨false, c + 1, q, rfl, by go_num, by omega, Lib.hid hr0, Lib.hid ht.out, hX6 _, hbz, .inl ⟨rfl, by omega, rfl⟩⟩
                        case measure => (first | omega | (simp [intOf]; done) | (simp [intOf]; omega))
                    · have hll := later_le q la
                      by_cases c1 : (c : Int) < (la.length : Int)
                      · go_wp2_with fail
                        go_roundw
                        case rel => exact ⟨n + 1, q, by go_num, hq', by omega, hr, ht, hX, hbz⟩
                        case measure => (first | omega | (simp [intOf]; done) | (simp [intOf]; omega))
                      · go_wp2_with fail
                        go_roundw
                        case rel => exact ⟨n + 1, q, by go_num, hq', by omega, hr, ht, hX, hbz⟩
                        case measure => (first | omega | (simp [intOf]; done) | (simp [intOf]; omega))
            · obtain rfl : k = J.length := by omega
              have hV := Lib.hid (hW5.out.trans (hW.out.mono hW5.out.size))
              have hGv := Lib.hid (hG.out.keep hV.out)
              clear hk hkx hl hj Hmem hJ hjl
              have HF := allF_x hGv.out (by omega)
              have hfl := FL_length p la
              go_wp2_with fail
              refine HF.mono ?_
              rintro e w6 ⟨⟨fa, fn, fc⟩, he, hf, hb6⟩
              replace he : e = .returned (.slice fa fn fc) := he
              subst he
              obtain rfl : fn = (FL p la).length := hf.1
              have hV6 := Lib.hid (hV.out.trans (hb6.mono hV.out.size))
              replace hf := Lib.hid hf
              clear HF hb6 hV hGv hW
              have Hmem := Lib.hid (fun q (h : q ∈ FL p la) => show q ∈ JL p la from by
                rcases (FL_mem p la q).1 h with rfl | ⟨_, _, _, h, _⟩
                · exact (JL_mem _ la _).2 .anchor
                · exact (JL_mem p la q).2 h)
              generalize FL p la = F at *
              go_wp2_with fail
              -- loop 6
              go_loopw [17] (fun i W => ∃ k : Nat, k ≤ F.length ∧ i = .int .i64 k ∧ Hid (Below w6.heap.size w6 W)) (fun i _ => F.length - (intOf i).toNat)
              case atStart => exact ⟨0, Nat.zero_le _, rfl, Lib.hid (Below.refl _ _)⟩
              case round =>
                obtain ⟨k, hk, rfl, hW⟩ := hrel
                have hV := Lib.hid (hV6.out.trans (hW.out.mono hV6.out.size))
                by_cases hkx : k < F.length
                · obtain ⟨g, og, e, hg, hc⟩ := (hf.out.keep' hW.out).at (by omega)
                  have e1 := congrArg Sl.a e
                  simp only at e1
                  subst e1
                  clear e
                  obtain ⟨cs, hcx, hcs⟩ := hc k hkx
                  subst hcs
                  clear hc
                  have hq0 := Hmem.out _ (List.getElem_mem hkx)
                  generalize F[k] = q0 at *
                  have j0 : (0 : Int) ≤ (k : Int) := by omega
                  have j1 : (k : Int) < (F.length : Int) := by omega
                  have HJ := justified_x q0 (hG.out.keep hV.out)
                  rw [decide_eq_true hq0] at HJ
                  go_wp2_with fail
                  refine HJ.mono ?_
                  rintro e w7 ⟨rfl, hb7⟩
                  have hW7 := Lib.hid (hW.out.trans (hb7.mono hW.out.size))
                  clear HJ hb7 hcx hq0
                  go_wp2_with fail
                  go_roundw
                  case rel => exact ⟨k + 1, by omega, by go_num, hW7⟩
                  case measure => (first | omega | (simp [intOf]; done) | (simp [intOf]; omega))
                · obtain rfl : k = F.length := by omega
                  clear hk hkx hf
                  go_wp2_with fail
                  refine (HK _).mono ?_
                  rintro e w7 ⟨rfl, hb7⟩
                  go_wp2_with fail
                  go_ret
                  exact ⟨rfl, hB.out.trans ((hV.out.trans (hb7.mono hV.out.size)).mono hB.out.size)⟩
end Go.Proofs.Ytlkflddjpkhndaa
