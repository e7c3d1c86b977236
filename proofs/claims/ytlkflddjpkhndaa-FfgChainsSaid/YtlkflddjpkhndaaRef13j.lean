/- Contracts: landmarkref13.Justified, Final. -/
import Derived.Test.YtlkflddjpkhndaaRef13s
namespace Go.Proofs.Ytlkflddjpkhndaa
open Go.RowKit

theorem LnksR.keep' {w w' : World} {s : Sl} {l : List Lnk} (h : LnksR w s l) (hb : Below w.heap.size w w') : LnksR w' s l := SlR.keep h hb (fun _ _ h => h)
theorem fold_one_length : ∀ (ls : List Lnk) (l : List Pt), (ls.foldl one1 l).length ≤ l.length + ls.length
  | [], l => Nat.le_refl _
  | x :: ls, l => by
    have h1 := fold_one_length ls (one1 l x)
    have h2 : (one1 l x).length ≤ l.length + 1 := by unfold one1; split <;> simp
    simp only [List.foldl_cons, List.length_cons]
    omega
theorem passes_length (a : Pt) (ls : List Lnk) (n : Nat) : (passes ls n [a]).length ≤ ls.length + 1 := by
  obtain ⟨h1, _, _, h4, _⟩ := passes_inv a ls n
  have := nodup_sub_length (m := a :: ls.map (·.target)) h1 (fun p hp => by
    rcases h4 p hp with h | ⟨x, hx, h⟩
    · simp [h]
    · exact List.mem_cons_of_mem _ (List.mem_map.2 ⟨x, hx, h⟩))
  simpa using this
theorem fold_take_succ {α β : Type} (f : β → α → β) (l : List α) (b : β) (k : Nat) (hk : k < l.length) : (l.take (k + 1)).foldl f b = f ((l.take k).foldl f b) l[k] := by
  rw [List.take_succ_eq_append_getElem hk, List.foldl_append]
  rfl
theorem one1_no (l : List Pt) (x : Lnk) (h : x.source ∉ l) : one1 l x = l := by unfold one1; rw [if_neg (fun h' => h h'.1)]
theorem one1_no2 (l : List Pt) (x : Lnk) (h : x.target ∈ l) : one1 l x = l := by unfold one1; rw [if_neg (fun h' => h'.2 h)]
theorem one1_yes (l : List Pt) (x : Lnk) (h : x.source ∈ l) (h2 : x.target ∉ l) : one1 l x = l ++ [x.target] := by unfold one1; rw [if_pos ⟨h, h2⟩]

set_option maxRecDepth 100000 in
set_option maxHeartbeats 3200000 in
theorem rjust_c (a : Pt) (s : Sl) (ls : List Lnk) (w : World) (hs : LnksR w s ls) (hl : ls.length ≤ 1000) :
    Calls Try.prog 27 #[.agg (pointA a), s.v] w fun e w' => ∃ v, e = .returned v ∧ OwnP w' w.heap.size v (srtPt (refJus a ls)) ∧ Below w.heap.size w w' := by
  obtain ⟨sa, sn, sc⟩ := s
  obtain rfl : sn = ls.length := hs.1
  have Hs := Lib.hid hs
  clear hs
  show Calls Try.prog 27 #[.agg (pointA a), .slice sa ls.length sc] w _
  go_enter Try.func27, Try.ntmps27
  go_wp2_with fail
  go_loopw [5, 6] (fun u i w' => ∃ n : Nat, n ≤ ls.length + 1 ∧ OwnP w' w.heap.size u (passes ls n [a]) ∧ i = .int .i64 n ∧ Below w.heap.size w w') (fun _ i _ => ls.length + 1 - (intOf i).toNat)
  case atStart =>
    have h := OwnP.one (w.alloc (.cells (pointA a) 26)) a 26 w.heap.size (by simp)
    exact ⟨0, Nat.zero_le _, by simpa [passes] using h, rfl, by (repeat' (first | (with_reducible exact Below.refl _ _) | (with_reducible assumption) | (with_reducible refine bel_trans (by assumption) ?_ ?_) | (with_reducible refine bel_grown (by assumption) ?_ ?_ ?_) | (with_reducible refine Below.alloc ?_ ?_ _) | (with_reducible refine Below.drew ?_) | (with_reducible refine below_drewN ?_ _) | (with_reducible refine Below.setCell ?_ ?_ _) | (with_reducible refine below_put ?_ ?_ _ _) | (with_reducible exact Nat.le_refl _) | omega | (with_reducible refine Nat.le_trans ?_ (Below.size (by assumption))) | (with_reducible refine Nat.le_trans ?_ (World.grownBy.size (by assumption))) | (simp only [World.size_alloc, World.size_setCell, World.size_drew, size_drewN]; omega) | (simp only [World.size_alloc, World.size_setCell, World.size_drew, size_drewN, size_put]; omega) | (intro k hk; simp [Value.ownBlock] at hk; done) | (intro k hk; simp [Value.ownBlock] at hk; omega) | (simp [size_drewN] at *; omega)))⟩
  case round =>
    obtain ⟨n, hn, hown, rfl, hB⟩ := hrel
    have hlen0 := passes_length a ls n
    have HN := Lib.hid (show pass ls (passes ls n [a]) = passes ls (n + 1) [a] from rfl)
    generalize hcur : passes ls n [a] = cur at *
    by_cases hnx : n ≤ ls.length
    · have i0 : (n : Int) ≤ (ls.length : Int) := by omega
      have Hown := Lib.hid hown
      clear hown hcur
      go_wp2_with fail
      generalize wr = w1 at *
      go_loopw [5, 7] (fun u i w' => ∃ k : Nat, k ≤ ls.length ∧ OwnP w' w.heap.size u ((ls.take k).foldl one1 cur) ∧ i = .int .i64 k ∧ Below w.heap.size w w') (fun _ i _ => ls.length - (intOf i).toNat)
      case atStart => exact ⟨0, Nat.zero_le _, Hown.out, rfl, hB⟩
      case round =>
        obtain ⟨k, hk, hown, rfl, hB2⟩ := hrel
        by_cases hkx : k < ls.length
        · obtain ⟨g, og, e, hg, hc⟩ := (Hs.out.keep' hB2).at (by omega)
          have e1 := congrArg Sl.a e
          simp only at e1
          subst e1
          clear e
          obtain ⟨cs, hcx, hcs⟩ := hc k hkx
          subst hcs
          clear hc
          have hlen1 := fold_one_length (ls.take k) cur
          have hlen2 : (ls.take k).length ≤ ls.length := by simp; omega
          have Hft := Lib.hid (fold_take_succ one1 ls cur k hkx)
          generalize hfl : (ls.take k).foldl one1 cur = c2 at *
          generalize ls[k] = x at *
          have hsrc : row? wr g (og + k * 66) 33 = some (pointA x.source) := (row?_sub hcx 0 33 (by omega)).trans (by rw [linkA_source])
          have htgt : row? wr g (og + k * 66 + 33) 33 = some (pointA x.target) := (row?_sub hcx 33 33 (by omega)).trans (by rw [linkA_target])
          obtain ⟨su, rfl⟩ := hown.slice
          have hrd := hown.reads
          have hc2 : c2.length ≤ 3000 := by omega
          have HC1 := has_c su c2 x.source wr hrd (by omega)
          have HC2 := fun W (h : PtsR W su c2) => has_c su c2 x.target W h (by omega)
          have j0 : (0 : Int) ≤ (k : Int) := by omega
          have j1 : (k : Int) < (ls.length : Int) := by omega
          replace hown := Lib.hid hown
          replace hrd := Lib.hid hrd
          clear hfl hcx
          by_cases h1 : x.source ∈ c2
          · rw [decide_eq_true h1] at HC1
            go_wp2_with fail
            refine HC1.mono ?_
            rintro e w2 ⟨rfl, hb2⟩
            have htgt2 : row? w2 g (og + k * 66 + 33) 33 = some (pointA x.target) := (row?_below _ _ _ hb2 hg).trans htgt
            have HC2 := HC2 w2 (hrd.out.keep' hb2)
            have hB3 : Below w.heap.size w w2 := hB2.trans (hb2.mono hB2.size)
            replace hown := Lib.hid (hown.out.keep hb2)
            have hg2 : g < w2.heap.size := Nat.lt_of_lt_of_le hg hb2.size
            clear hb2 hsrc htgt HC1 hrd hB2
            by_cases h2 : x.target ∈ c2
            · rw [decide_eq_true h2] at HC2
              have Hft := Lib.hid (Hft.out.trans (one1_no2 _ _ h2))
              go_wp2_with fail
              refine HC2.mono ?_
              rintro e w3 ⟨rfl, hb3⟩
              replace hown := Lib.hid (hown.out.keep hb3)
              have hB4 : Below w.heap.size w w3 := hB3.trans (hb3.mono hB3.size)
              clear HC2 hb3
              go_wp2_with fail
              go_roundw
              case rel => exact ⟨k + 1, by omega, by rw [Hft.out]; exact hown.out, by go_num, hB4⟩
              case measure => simp [intOf]; omega
            · rw [decide_eq_false h2] at HC2
              have Hft := Lib.hid (Hft.out.trans (one1_yes _ _ h1 h2))
              go_wp2_with fail
              refine HC2.mono ?_
              rintro e w3 ⟨rfl, hb3⟩
              replace hown := Lib.hid (hown.out.keep hb3)
              have hB4 : Below w.heap.size w w3 := hB3.trans (hb3.mono hB3.size)
              have htgt3 : row? w3 g (og + k * 66 + 33) 33 = some (pointA x.target) := (row?_below _ _ _ hb3 hg2).trans htgt2
              clear HC2 hb3 htgt2
              go_wp2_with (at_builtin; refine wpList_append_pts _ rfl (.tmp 39) (.tmp 45) (by rfl) w.heap.size _ c2 (by rfl) (hown.out.keep (bel_a _ _)) ⟨some ⟨_, 0, none⟩, 1, 1⟩ [x.target] (by rfl) (PtsR.one _ _ _ _ rfl) (by simp; omega) (by have := hB4.size; simp; omega) ?_; intro v' w4 hown4 hg4 _)
              have hB5 : Below w.heap.size w w4 := bel_grown hg4 (hB4.trans ((bel_a _ _).mono hB4.size)) (by have := hB4.size; simp; omega) (fun k hk => (OwnC.lt hown.out k hk).1)
              go_roundw
              case rel => exact ⟨k + 1, by omega, by rw [Hft.out]; exact hown4, by go_num, hB5⟩
              case measure => simp [intOf]; omega
          · rw [decide_eq_false h1] at HC1
            have Hft := Lib.hid (Hft.out.trans (one1_no _ _ h1))
            go_wp2_with fail
            refine HC1.mono ?_
            rintro e w2 ⟨rfl, hb2⟩
            have hB3 : Below w.heap.size w w2 := hB2.trans (hb2.mono hB2.size)
            replace hown := Lib.hid (hown.out.keep hb2)
            clear hb2 hsrc htgt HC1 HC2 hrd
            go_wp2_with fail
            go_roundw
            case rel => exact ⟨k + 1, by omega, by rw [Hft.out]; exact hown.out, by go_num, hB3⟩
            case measure => simp [intOf]; omega
        · obtain rfl : k = ls.length := by omega
          rw [List.take_length] at hown
          replace hown := Lib.hid (show OwnP wr w.heap.size _ (passes ls (n + 1) [a]) by rw [← HN.out]; exact hown)
          go_wp2_with fail
          go_roundw
          case rel => exact ⟨n + 1, by omega, hown.out, by go_num, hB2⟩
          case measure => simp [intOf]; omega
    · obtain rfl : n = ls.length + 1 := by omega
      obtain ⟨su, rfl⟩ := hown.slice
      have HS := rsort_c su cur wr hown.reads (by omega)
      rw [show cur = refJus a ls from hcur.symm] at HS
      clear hown hcur HN
      go_wp2_with (go_at_call 76; refine HS.mono ?_; rintro e w2 ⟨v, rfl, h1, h2⟩)
      go_ret
      exact ⟨v, rfl, h1.more hB.size, hB.trans (h2.mono hB.size)⟩
end Go.Proofs.Ytlkflddjpkhndaa
