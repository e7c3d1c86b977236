/- Contract: landmarkref13.Final. -/
import Derived.Test.YtlkflddjpkhndaaRef13j
namespace Go.Proofs.Ytlkflddjpkhndaa
open Go.RowKit

theorem fold_fone_length (j : List Pt) : ∀ (ls : List Lnk) (l : List Pt), (ls.foldl (fone j) l).length ≤ l.length + ls.length
  | [], l => Nat.le_refl _
  | x :: ls, l => by
    have h1 := fold_fone_length j ls (fone j l x)
    have h2 : (fone j l x).length ≤ l.length + 1 := by unfold fone; split <;> simp
    simp only [List.foldl_cons, List.length_cons]
    omega
theorem fone_no1 (j l : List Pt) (x : Lnk) (h : x.source ∉ j) : fone j l x = l := by unfold fone; rw [if_neg (fun h' => h h'.1)]
theorem fone_no2 (j l : List Pt) (x : Lnk) (h : ¬ Nxt x) : fone j l x = l := by unfold fone; rw [if_neg (fun h' => h h'.2.1)]
theorem fone_no3 (j l : List Pt) (x : Lnk) (h : x.source ∈ l) : fone j l x = l := by unfold fone; rw [if_neg (fun h' => h'.2.2 h)]
theorem fone_yes (j l : List Pt) (x : Lnk) (h : x.source ∈ j) (h2 : Nxt x) (h3 : x.source ∉ l) : fone j l x = l ++ [x.source] := by unfold fone; rw [if_pos ⟨h, h2, h3⟩]

set_option maxRecDepth 100000 in
set_option maxHeartbeats 3200000 in
theorem rfinal_c (a : Pt) (s : Sl) (ls : List Lnk) (w : World) (hs : LnksR w s ls) (hl : ls.length ≤ 1000) :
    Calls Try.prog 28 #[.agg (pointA a), s.v] w fun e w' => ∃ v, e = .returned v ∧ OwnP w' w.heap.size v (srtPt (refFin a ls (srtPt (refJus a ls)))) ∧ Below w.heap.size w w' := by
  obtain ⟨sa, sn, sc⟩ := s
  obtain rfl : sn = ls.length := hs.1
  have HJ := rjust_c a ⟨sa, ls.length, sc⟩ ls (w.alloc (.cells (pointA a) 26)) (hs.keep' (bel_a w _)) hl
  have hjl : (srtPt (refJus a ls)).length ≤ 1001 := by rw [srt_length]; have := passes_length a ls (ls.length + 1); unfold refJus; omega
  unfold refFin
  generalize srtPt (refJus a ls) = jl at *
  have Hs := Lib.hid hs
  clear hs
  show Calls Try.prog 28 #[.agg (pointA a), .slice sa ls.length sc] w _
  go_enter Try.func28, Try.ntmps28
  go_wp2_with fail
  refine HJ.mono ?_
  rintro e w0 ⟨vj, rfl, hj, hb0⟩
  have hB0 : Below w.heap.size w w0 := (bel_a w _).trans (hb0.mono (by simp))
  have hz0 : w.heap.size < w0.heap.size := by have := hb0.size; simp at this; omega
  have hbox : row? w0 w.heap.size 0 33 = some (pointA a) := by
    rw [(kept hb0).2.2 _ _ _ (by simp), row?_new]
    simp
  obtain ⟨sj, rfl⟩ := hj.slice
  replace hj := Lib.hid hj.reads
  clear HJ hb0
  go_wp2_with fail
  go_loopw [6, 7] (fun u i w' => ∃ k : Nat, k ≤ ls.length ∧ OwnP w' w0.heap.size u ((ls.take k).foldl (fone jl) [a]) ∧ i = .int .i64 k ∧ Below w0.heap.size w0 w') (fun _ i _ => ls.length - (intOf i).toNat)
  case atStart =>
    have h := OwnP.one w0 a 26 w0.heap.size (Nat.le_refl _)
    exact ⟨0, Nat.zero_le _, by simpa using h, rfl, by (repeat' (first | (with_reducible exact Below.refl _ _) | (with_reducible assumption) | (with_reducible refine bel_trans (by assumption) ?_ ?_) | (with_reducible refine bel_grown (by assumption) ?_ ?_ ?_) | (with_reducible refine Below.alloc ?_ ?_ _) | (with_reducible refine Below.drew ?_) | (with_reducible refine below_drewN ?_ _) | (with_reducible refine Below.setCell ?_ ?_ _) | (with_reducible refine below_put ?_ ?_ _ _) | (with_reducible exact Nat.le_refl _) | omega | (with_reducible refine Nat.le_trans ?_ (Below.size (by assumption))) | (with_reducible refine Nat.le_trans ?_ (World.grownBy.size (by assumption))) | (simp only [World.size_alloc, World.size_setCell, World.size_drew, size_drewN]; omega) | (simp only [World.size_alloc, World.size_setCell, World.size_drew, size_drewN, size_put]; omega) | (intro k hk; simp [Value.ownBlock] at hk; done) | (intro k hk; simp [Value.ownBlock] at hk; omega) | (simp [size_drewN] at *; omega)))⟩
  case round =>
    obtain ⟨k, hk, hown, rfl, hB⟩ := hrel
    by_cases hkx : k < ls.length
    · have hBw : Below w.heap.size w wr := hB0.trans (hB.mono hB0.size)
      obtain ⟨g, og, e, hg, hc⟩ := (Hs.out.keep' hBw).at (by omega)
      have e1 := congrArg Sl.a e
      simp only at e1
      subst e1
      clear e
      obtain ⟨cs, hcx, hcs⟩ := hc k hkx
      subst hcs
      clear hc
      have hlen1 := fold_fone_length jl (ls.take k) [a]
      have hlen2 : (ls.take k).length ≤ ls.length := by simp; omega
      have Hft := Lib.hid (fold_take_succ (fone jl) ls [a] k hkx)
      generalize hfl : (ls.take k).foldl (fone jl) [a] = c2 at *
      generalize ls[k] = x at *
      obtain ⟨su, rfl⟩ := hown.slice
      have hc2 : c2.length ≤ 3000 := by simp at hlen1; omega
      have j0 : (0 : Int) ≤ (k : Int) := by omega
      have j1 : (k : Int) < (ls.length : Int) := by omega
      have hX : Below wr.heap.size wr (putRow (wr.alloc (.cells (linkA zeroLnk) 28)) wr.heap.size 0 (linkA x)) := below_put (bel_a wr _) (Nat.le_refl _) _ _
      have hXr : row? (putRow (wr.alloc (.cells (linkA zeroLnk) 28)) wr.heap.size 0 (linkA x)) wr.heap.size 0 66 = some (linkA x) := by go_simp
      have hXs : (putRow (wr.alloc (.cells (linkA zeroLnk) 28)) wr.heap.size 0 (linkA x)).heap.size = wr.heap.size + 1 := by rw [size_put]; simp
      replace hown := Lib.hid hown
      clear hfl
      have hXs1 := (row?_sub hXr 0 33 (by omega)).trans (by rw [linkA_source] : _ = some (pointA x.source))
      have hXt1 := (row?_sub hXr 33 33 (by omega)).trans (by rw [linkA_target] : _ = some (pointA x.target))
      simp only [Nat.zero_add] at hXs1 hXt1
      go_wp2_with fail
      generalize putRow (wr.alloc (.cells (linkA zeroLnk) 28)) wr.heap.size 0 (linkA x) = X at *
      have hBX : Below w0.heap.size w0 X := hB.trans (hX.mono hB.size)
      replace hown := Lib.hid (hown.out.keep hX)
      have HC1 := has_c sj jl x.source X (hj.out.keep' hBX) (by omega)
      have hcl : wr.heap.size < X.heap.size := by omega
      have hzr := hB.size
      clear hX hXr hXs hcx
      by_cases h1 : x.source ∈ jl
      · rw [decide_eq_true h1] at HC1
        refine HC1.mono ?_
        rintro e w2 ⟨rfl, hb2⟩
        have hs2 : row? w2 wr.heap.size 0 33 = some (pointA x.source) := (row?_below _ _ _ hb2 hcl).trans hXs1
        have ht2 : row? w2 wr.heap.size 33 33 = some (pointA x.target) := (row?_below _ _ _ hb2 hcl).trans hXt1
        have hXe0 : w2.cell? ⟨wr.heap.size, 0, none⟩ = some (.int .u64 (x.source.epoch.toNat : Int)) := (cell_of_row? hs2 0 (by omega)).trans (pointA_epoch _)
        have hXe1 : w2.cell? ⟨wr.heap.size, 33, none⟩ = some (.int .u64 (x.target.epoch.toNat : Int)) := (cell_of_row? ht2 0 (by omega)).trans (pointA_epoch _)
        have hB2 : Below w0.heap.size w0 w2 := hBX.trans (hb2.mono hBX.size)
        replace hown := Lib.hid (hown.out.keep hb2)
        have hcl2 : wr.heap.size < w2.heap.size := Nat.lt_of_lt_of_le hcl hb2.size
        clear hb2 HC1 hXs1 hXt1 ht2
        by_cases h2 : Nxt x
        · have d1 := nxt_true h2
          have HC2 := has_c su c2 x.source w2 hown.out.reads (by omega)
          by_cases h3 : x.source ∈ c2
          · rw [decide_eq_true h3] at HC2
            have Hft := Lib.hid (Hft.out.trans (fone_no3 _ _ _ h3))
            go_wp2_with fail
            refine HC2.mono ?_
            rintro e w3 ⟨rfl, hb3⟩
            replace hown := Lib.hid (hown.out.keep hb3)
            have hB3 : Below w0.heap.size w0 w3 := hB2.trans (hb3.mono hB2.size)
            clear hb3 HC2 hXe0 hXe1 d1
            go_wp2_with fail
            go_roundw
            case rel => exact ⟨k + 1, by omega, by rw [Hft.out]; exact hown.out, by go_num, hB3⟩
            case measure => simp [intOf]; omega
          · rw [decide_eq_false h3] at HC2
            have Hft := Lib.hid (Hft.out.trans (fone_yes _ _ _ h1 h2 h3))
            go_wp2_with fail
            refine HC2.mono ?_
            rintro e w3 ⟨rfl, hb3⟩
            have hs3 : row? w3 wr.heap.size 0 33 = some (pointA x.source) := (row?_below _ _ _ hb3 hcl2).trans hs2
            replace hown := Lib.hid (hown.out.keep hb3)
            have hB3 : Below w0.heap.size w0 w3 := hB2.trans (hb3.mono hB2.size)
            clear hb3 HC2 hXe0 hXe1 d1 hs2
            go_wp2_with (at_builtin; refine wpList_append_pts _ rfl (.tmp 45) (.tmp 48) (by rfl) w0.heap.size _ c2 (by rfl) (hown.out.keep (bel_a _ _)) ⟨some ⟨_, 0, none⟩, 1, 1⟩ [x.source] (by rfl) (PtsR.one _ _ _ _ rfl) (by simp; omega) (by have := hB3.size; simp; omega) ?_; intro v' w4 hown4 hg4 _)
            have hB5 : Below w0.heap.size w0 w4 := bel_grown hg4 (hB3.trans ((bel_a _ _).mono hB3.size)) (by have := hB3.size; simp; omega) (fun k hk => (OwnC.lt hown.out k hk).1)
            go_roundw
            case rel => exact ⟨k + 1, by omega, by rw [Hft.out]; exact hown4, by go_num, hB5⟩
            case measure => simp [intOf]; omega
        · have d1 := nxt_false h2
          have Hft := Lib.hid (Hft.out.trans (fone_no2 _ _ _ h2))
          go_wp2_with fail
          go_roundw
          case rel => exact ⟨k + 1, by omega, by rw [Hft.out]; exact hown.out, by go_num, hB2⟩
          case measure => simp [intOf]; omega
      · rw [decide_eq_false h1] at HC1
        have Hft := Lib.hid (Hft.out.trans (fone_no1 _ _ _ h1))
        refine HC1.mono ?_
        rintro e w2 ⟨rfl, hb2⟩
        have hB2 : Below w0.heap.size w0 w2 := hBX.trans (hb2.mono hBX.size)
        replace hown := Lib.hid (hown.out.keep hb2)
        clear hb2 HC1 hXs1 hXt1
        go_wp2_with fail
        go_roundw
        case rel => exact ⟨k + 1, by omega, by rw [Hft.out]; exact hown.out, by go_num, hB2⟩
        case measure => simp [intOf]; omega
    · obtain rfl : k = ls.length := by omega
      rw [List.take_length] at hown
      obtain ⟨su, rfl⟩ := hown.slice
      have hlen1 := fold_fone_length jl ls [a]
      simp at hlen1
      have HS := rsort_c su _ wr hown.reads (by omega)
      generalize hfl : ls.foldl (fone jl) [a] = fl at *
      replace hfl := Lib.hid hfl
      clear hown
      go_wp2_with (go_at_call 76; refine HS.mono ?_; rintro e w2 ⟨v, rfl, h1, h2⟩)
      go_ret
      have hBw : Below w.heap.size w wr := hB0.trans (hB.mono hB0.size)
      exact ⟨v, rfl, by rw [hfl.out]; exact h1.more hBw.size, hBw.trans (h2.mono hBw.size)⟩
end Go.Proofs.Ytlkflddjpkhndaa
