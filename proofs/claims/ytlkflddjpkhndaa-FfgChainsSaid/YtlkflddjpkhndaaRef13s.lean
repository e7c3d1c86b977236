/- Contract: landmarkref13.sort. -/
import Derived.Test.YtlkflddjpkhndaaRef13
namespace Go.Proofs.Ytlkflddjpkhndaa
open Go.RowKit

/-- append at checkpoints, by a name that the walk does not open -/
def appPt (args : Array Value) : Sem Value := Builtin.append_ #[49, 49] 49 args
theorem fold_appPt (args : Array Value) : Builtin.append_ #[49, 49] 49 args = appPt args := rfl
attribute [local go_sem ↓] fold_appPt
theorem appPt_run {w : World} {base : Nat} {v : Value} {l : List Pt} (hown : OwnP w base v l) {s : Sl} {m : List Pt} (hr : PtsR w s m) (hlen : l.length + m.length ≤ 1000000) (hbase : base ≤ w.heap.size) :
    ∃ v' w', (appPt #[v, s.v]).run Try.prog w = .ok v' w' ∧ OwnP w' base v' (l ++ m) ∧ w.grownBy w' v.ownBlock ∧ (v'.ownBlock = v.ownBlock ∨ v'.ownBlock = some w.heap.size) := by
  obtain ⟨i0, hi, hy0, hy1, hy2⟩ := info_parts info_pt
  obtain ⟨v', w', h1, h2, h3, h4⟩ := run_append_ownC (P := Try.prog) w base 49 49 49 26 i0 _ 33 40 Try.underlying49 hi hy0 hy1 hy2 (by simp [Value.cells]) v l.length (ptCells l) hown s.v m.length (ptCells m) (hr.src Try.underlying49) (by simp only [maxLen]; omega) (by omega) hbase
  exact ⟨v', w', h1, by unfold OwnP; rw [ptCells_append, List.length_append]; exact h2, h3, h4⟩
theorem PtsR.takeS {w : World} {g og n c : Nat} {l : List Pt} (h : PtsR w ⟨some ⟨g, og, none⟩, n, c⟩ l) (j : Nat) (hj : j ≤ l.length) : PtsR w ⟨some ⟨g, og, none⟩, j, c⟩ (l.take j) := by
  have h1 := h.1
  have h2 := h.2.1
  simp only at h1 h2
  refine ⟨by simp; omega, by simp only; omega, fun h0 => ?_⟩
  obtain ⟨b, o, e, hr⟩ := h.2.2 (fun e => h0 (by rw [e]; simp))
  cases e
  refine ⟨g, og, rfl, fun i hi => ?_⟩
  obtain ⟨cs, h3, h4⟩ := hr i (by simp at hi; omega)
  exact ⟨cs, h3, by rw [h4]; simp⟩
theorem PtsR.dropS {w : World} {g og n c : Nat} {l : List Pt} (h : PtsR w ⟨some ⟨g, og, none⟩, n, c⟩ l) (j : Nat) (hj : j ≤ l.length) : PtsR w ⟨some ⟨g, og + j * 33, none⟩, n - j, c - j⟩ (l.drop j) := by
  have h1 := h.1
  have h2 := h.2.1
  simp only at h1 h2
  refine ⟨by simp; omega, by simp only; omega, fun h0 => ?_⟩
  obtain ⟨b, o, e, hr⟩ := h.2.2 (fun e => h0 (by rw [e]; simp))
  cases e
  refine ⟨g, og + j * 33, rfl, fun i hi => ?_⟩
  obtain ⟨cs, h3, h4⟩ := hr (j + i) (by simp at hi; omega)
  exact ⟨cs, by rw [show og + j * 33 + i * 33 = og + (j + i) * 33 by omega]; exact h3, by rw [h4]; simp⟩
/-- the three appends of the insertion, behind world W1 in which the literal lies -/
theorem ins_appends {W W1 : World} {sl s2 : Sl} {v1 : Value} {l1 l2 : List Pt} {x : Pt} (hW : Below W.heap.size W W1) (o1 : OwnP W1 W.heap.size v1 l1) (PL : PtsR W1 sl [x]) (P2 : PtsR W s2 l2) (hlen : l1.length + 1 + l2.length ≤ 1000000) :
    ∃ v2 W2 v3 W3, (appPt #[v1, sl.v]).run Try.prog W1 = .ok v2 W2 ∧ (appPt #[v2, s2.v]).run Try.prog W2 = .ok v3 W3 ∧ OwnP W3 W.heap.size v3 (l1 ++ x :: l2) ∧ Below W.heap.size W W3 := by
  obtain ⟨v2, W2, r2, o2, g2, _⟩ := appPt_run o1 PL (by simp; omega) hW.size
  have hW2 : Below W.heap.size W W2 := bel_grown g2 hW hW.size (fun k hk => (OwnC.lt o1 k hk).1)
  obtain ⟨v3, W3, r3, o3, g3, _⟩ := appPt_run o2 (P2.keep' hW2) (by simp; omega) hW2.size
  have hW3 : Below W.heap.size W W3 := bel_grown g3 hW2 hW2.size (fun k hk => (OwnC.lt o2 k hk).1)
  exact ⟨v2, W2, v3, W3, r2, r3, by simpa using o3, hW3⟩
theorem ins_yx {W : World} {s1 s2 : Sl} {l1 l2 : List Pt} (x : Pt) (t : TypeId) (P1 : PtsR W s1 l1) (P2 : PtsR W s2 l2) (hlen : l1.length + 1 + l2.length ≤ 1000000) :
    ∃ v1 W1 v2 W2 v3 W3, (appPt #[.slice none 0 0, s1.v]).run Try.prog (W.alloc (.cells (pointA x) t)).drew = .ok v1 W1 ∧ (appPt #[v1, .slice (some ⟨W.heap.size, 0, none⟩) 1 1]).run Try.prog W1 = .ok v2 W2 ∧ (appPt #[v2, s2.v]).run Try.prog W2 = .ok v3 W3 ∧
      OwnP W3 W.heap.size v3 (l1 ++ x :: l2) ∧ Below W.heap.size W W3 ∧ Below W.heap.size W W1 := by
  have hW0 : Below W.heap.size W (W.alloc (.cells (pointA x) t)).drew := bel_ad W _
  obtain ⟨v1, W1, r1, o1, g1, _⟩ := appPt_run (OwnP.nil (W.alloc (.cells (pointA x) t)).drew W.heap.size) (P1.keep' hW0) (by simp; omega) hW0.size
  have hg : Below (W.alloc (.cells (pointA x) t)).drew.heap.size (W.alloc (.cells (pointA x) t)).drew W1 := bel_grown g1 (Below.refl _ _) (Nat.le_refl _) (fun k hk => by cases hk)
  have hW1 : Below W.heap.size W W1 := hW0.trans (hg.mono hW0.size)
  have PL : PtsR W1 ⟨some ⟨W.heap.size, 0, none⟩, 1, 1⟩ [x] := PtsR.keep' (w := (W.alloc (.cells (pointA x) t)).drew) (PtsR.one W x t _ rfl) hg
  obtain ⟨v2, W2, v3, W3, r2, r3, o3, h3⟩ := ins_appends hW1 (by simpa using o1) PL P2 hlen
  exact ⟨v1, W1, v2, W2, v3, W3, r1, r2, r3, o3, h3, hW1⟩
theorem ins_xy {W : World} {s1 s2 : Sl} {l1 l2 : List Pt} (x : Pt) (t : TypeId) (P1 : PtsR W s1 l1) (P2 : PtsR W s2 l2) (hlen : l1.length + 1 + l2.length ≤ 1000000) :
    ∃ v1 W1 v2 W2 v3 W3, (appPt #[.slice none 0 0, s1.v]).run Try.prog W.drew = .ok v1 W1 ∧ (appPt #[v1, .slice (some ⟨W1.heap.size, 0, none⟩) 1 1]).run Try.prog (W1.alloc (.cells (pointA x) t)) = .ok v2 W2 ∧ (appPt #[v2, s2.v]).run Try.prog W2 = .ok v3 W3 ∧
      OwnP W3 W.heap.size v3 (l1 ++ x :: l2) ∧ Below W.heap.size W W3 ∧ Below W.heap.size W W1 := by
  have hW0 : Below W.heap.size W W.drew := (Below.refl _ _).drew
  obtain ⟨v1, W1, r1, o1, g1, _⟩ := appPt_run (OwnP.nil W.drew W.heap.size) (P1.keep' hW0) (by simp; omega) hW0.size
  have hg : Below W.drew.heap.size W.drew W1 := bel_grown g1 (Below.refl _ _) (Nat.le_refl _) (fun k hk => by cases hk)
  have hW1 : Below W.heap.size W W1 := hW0.trans (hg.mono hW0.size)
  have hA : Below W1.heap.size W1 (W1.alloc (.cells (pointA x) t)) := bel_a W1 _
  obtain ⟨v2, W2, v3, W3, r2, r3, o3, h3⟩ := ins_appends (hW1.trans (hA.mono hW1.size)) (l1 := l1) (OwnP.keep (by simpa using o1) hA) (PtsR.one W1 x t _ rfl) P2 hlen
  exact ⟨v1, W1, v2, W2, v3, W3, r1, r2, r3, o3, h3, hW1⟩
theorem ins_take (l : List Pt) (i : Nat) (hi : i < l.length) : (l.take (i + 1)).foldl (fun o x => insPt x o) [] = insPt l[i] ((l.take i).foldl (fun o x => insPt x o) []) := by
  rw [List.take_succ_eq_append_getElem hi, List.foldl_append]
  rfl
set_option maxRecDepth 100000 in
set_option maxHeartbeats 1600000 in
theorem rsort_c (s : Sl) (l : List Pt) (w : World) (hs : PtsR w s l) (hl : l.length ≤ 10000) :
    Calls Try.prog 76 #[s.v] w fun e w' => ∃ v, e = .returned v ∧ OwnP w' w.heap.size v (srtPt l) ∧ Below w.heap.size w w' := by
  obtain ⟨sa, sn, sc⟩ := s
  obtain rfl : sn = l.length := hs.1
  have Hs := Lib.hid hs
  clear hs
  show Calls Try.prog 76 #[.slice sa l.length sc] w _
  go_enter Try.func76, Try.ntmps76
  go_wp2_with fail
  go_loopw [3, 4] (fun u i w' => ∃ k : Nat, k ≤ l.length ∧ OwnP w' w.heap.size u ((l.take k).foldl (fun o x => insPt x o) []) ∧ i = .int .i64 k ∧ Below w.heap.size w w') (fun _ i _ => l.length - (intOf i).toNat)
  case atStart => exact ⟨0, Nat.zero_le _, OwnP.nil _ _, rfl, Below.refl _ _⟩
  case round =>
    obtain ⟨k, hk, hown, rfl, hB⟩ := hrel
    by_cases hkx : k < l.length
    · obtain ⟨b, off, e, hb, hc⟩ := (Hs.out.keep' hB).at (by omega)
      have e1 := congrArg Sl.a e
      simp only at e1
      subst e1
      clear e
      obtain ⟨cs, hcx, hcs⟩ := hc k hkx
      subst hcs
      clear hc
      have Hit := Lib.hid (ins_take l k hkx)
      have holen : ((l.take k).foldl (fun o x => insPt x o) []).length = k := by
        have := (srt_fold (l.take k) []).1
        simp at this
        omega
      generalize hout : (l.take k).foldl (fun o x => insPt x o) [] = out at *
      generalize l[k] = x at *
      have hol : out.length ≤ 10000 := by omega
      replace holen := Lib.hid holen
      have i0 : (0 : Int) ≤ (k : Int) := by omega
      have i1 : (k : Int) < (l.length : Int) := by omega
      obtain ⟨⟨oa, on, oc⟩, rfl⟩ := hown.slice
      have hrd := hown.reads
      obtain rfl : on = out.length := hrd.1
      have Ho := Lib.hid hown
      have Hr := Lib.hid hrd
      clear hown hrd hout
      have hbl : b < wr.heap.size := lt_of_row hcx
      generalize wr = w1 at *
      dsimp only [Sl.v]
      go_wp2_with fail
      go_loopw [5] (fun i w' => ∃ j : Nat, j ≤ out.length ∧ i = .int .i64 j ∧ Hid (∀ (i : Nat) (hi : i < out.length), i < j → ptLt out[i] x) ∧ Below w1.heap.size w1 w') (fun i _ => out.length - (intOf i).toNat)
      case atStart => exact ⟨0, Nat.zero_le _, rfl, Lib.hid (fun i _ hi => by omega), Below.refl _ _⟩
      case round =>
        obtain ⟨j, hj, rfl, hlt, hB2⟩ := hrel
        have hcx2 : row? wr b (off + k * 33) 33 = some (pointA x) := (row?_below _ _ _ hB2 hbl).trans hcx
        have hz := hB2.size
        by_cases hjl : j < out.length
        · obtain ⟨g, og, e, hg, hc⟩ := (Hr.out.keep' hB2).at (by omega)
          have e1 := congrArg Sl.a e
          simp only at e1
          subst e1
          clear e
          obtain ⟨cs, hcy, hcs⟩ := hc j hjl
          subst hcs
          clear hc
          have j0 : (0 : Int) ≤ (j : Int) := by omega
          have j1 : (j : Int) < (out.length : Int) := by omega
          have Hls := Lib.hid (show ptLt out[j] x → ∀ (i : Nat) (hi : i < out.length), i < j + 1 → ptLt out[i] x from fun h i hi hij => by
            by_cases e : i = j
            · subst e; exact h
            · exact hlt.out i hi (by omega))
          have Hst := Lib.hid (show ¬ ptLt out[j] x → insAt x out = j from fun h => insAt_is x out j hj hlt.out fun _ => h)
          have HL := fun W => (fless_c out[j] x W).mono (R' := fun e w' => e = .returned (.bool (decide (ptLt out[j] x))) ∧ Below W.heap.size W w') fun e w' h => ⟨h.1, by obtain ⟨_, n, h⟩ := h; rw [h]; exact below_drewN (((Below.refl _ _).alloc (Nat.le_refl _) _).alloc (by simp) _) n⟩
          generalize out[j] = y at *
          have hS0 : row? wr.drew b (off + k * 33) 33 = some (pointA x) ∧ row? wr.drew g (og + j * 33) 33 = some (pointA y) := ⟨hcx2, hcy⟩
          by_cases hyx : ptLt y x
          · rw [decide_eq_true hyx] at HL
            have Hls := Lib.hid (Hls.out hyx)
            go_wp2_with fail
            go_region_held3 (fun W => row? W b (off + k * 33) 33 = some (pointA x) ∧ row? W g (og + j * 33) 33 = some (pointA y))
              (first | go_keep | (with_reducible exact hS0) | (with_reducible exact hS4))
              (first
                | (go_simp; go_at_call 113; (with_reducible refine (HL _).mono ?_); rintro e w4 ⟨rfl, hb4⟩; have hS4 : row? w4 b (off + k * 33) 33 = some (pointA x) ∧ row? w4 g (og + j * 33) 33 = some (pointA y) := ⟨((kept hb4).2.2 _ _ _ (show b < wr.heap.size by omega)).trans hcx2, ((kept hb4).2.2 _ _ _ (show g < wr.heap.size by omega)).trans hcy⟩))
            replace hb4 : Below wr.heap.size wr w4 := undrew hb4
            clear hS4 hS0 HL
            go_wp2_with fail
            go_roundw
            case rel => exact ⟨j + 1, by omega, by go_num, Lib.hid Hls.out, by (repeat' (first | (with_reducible exact Below.refl _ _) | (with_reducible assumption) | (with_reducible refine bel_trans (by assumption) ?_ ?_) | (with_reducible refine bel_grown (by assumption) ?_ ?_ ?_) | (with_reducible refine Below.alloc ?_ ?_ _) | (with_reducible refine Below.drew ?_) | (with_reducible refine below_drewN ?_ _) | (with_reducible refine Below.setCell ?_ ?_ _) | (with_reducible refine below_put ?_ ?_ _ _) | (with_reducible exact Nat.le_refl _) | omega | (with_reducible refine Nat.le_trans ?_ (Below.size (by assumption))) | (with_reducible refine Nat.le_trans ?_ (World.grownBy.size (by assumption))) | (simp only [World.size_alloc, World.size_setCell, World.size_drew, size_drewN]; omega) | (simp only [World.size_alloc, World.size_setCell, World.size_drew, size_drewN, size_put]; omega) | (intro k hk; simp [Value.ownBlock] at hk; done) | (intro k hk; simp [Value.ownBlock] at hk; omega) | (simp [size_drewN] at *; omega)))⟩
            case measure => simp [intOf]; omega
          · rw [decide_eq_false hyx] at HL
            have Hj := Lib.hid (Hst.out hyx)
            go_wp2_with fail
            go_region_held3 (fun W => row? W b (off + k * 33) 33 = some (pointA x) ∧ row? W g (og + j * 33) 33 = some (pointA y))
              (first | go_keep | (with_reducible exact hS0) | (with_reducible exact hS4))
              (first
                | (go_simp; go_at_call 113; (with_reducible refine (HL _).mono ?_); rintro e w4 ⟨rfl, hb4⟩; have hS4 : row? w4 b (off + k * 33) 33 = some (pointA x) ∧ row? w4 g (og + j * 33) 33 = some (pointA y) := ⟨((kept hb4).2.2 _ _ _ (show b < wr.heap.size by omega)).trans hcx2, ((kept hb4).2.2 _ _ _ (show g < wr.heap.size by omega)).trans hcy⟩))
            go_wp2_with fail
            have hb5 : Below w1.heap.size w1 w4 := hB2.trans ((undrew hb4).mono hz)
            have hn1 := Hr.out.2.1
            simp only at hn1
            have n1 : j ≤ oc := by omega
            have n2 : out.length ≤ oc := by omega
            have n3 : ¬ oc = j := by omega
            clear hb4 hS0 HL
            have hcx5 : row? w4 b (off + k * 33) 33 = some (pointA x) := (row?_below _ _ _ hb5 hbl).trans hcx
            have hR5 := Hr.out.keep' hb5
            have hz5 := hb5.size
            have Hins := Lib.hid (Hit.out.trans (by unfold insPt; rw [Hj.out] : insPt x out = out.take j ++ x :: out.drop j))
            obtain ⟨v1, W1, v2, W2, v3, W3, r1, r2, r3, o3, h3, h1⟩ := ins_yx (W := w4) x 26 (hR5.takeS j hj) (hR5.dropS j hj) (by simp; omega)
            obtain ⟨u1, X1, u2, X2, u3, X3, t1, t2, t3, q3, p3, p1⟩ := ins_xy (W := w4) x 26 (hR5.takeS j hj) (hR5.dropS j hj) (by simp; omega)
            dsimp only [Sl.v] at r1 r3 t1 t3
            have n4 : b < w4.heap.size := by omega
            have hcxX : row? X1 b (off + k * 33) 33 = some (pointA x) := (row?_below _ _ _ p1 n4).trans hcx5
            have n5 : b ≠ w4.heap.size := by omega
            clear h1 p1 hR5
            replace o3 := Lib.hid o3
            replace q3 := Lib.hid q3
            replace h3 := Lib.hid h3
            replace p3 := Lib.hid p3
            go_region
            all_goals clear r1 r2 r3 t1 t2 t3
            all_goals go_wp2_with fail
            all_goals go_roundw
            case rel => exact ⟨k + 1, by omega, by rw [Hins.out]; first | exact o3.out.more (Nat.le_trans hB.size hz5) | exact q3.out.more (Nat.le_trans hB.size hz5), by go_num, by first | exact (hB.trans (hb5.mono hB.size)).trans (h3.out.mono (Nat.le_trans hB.size hz5)) | exact (hB.trans (hb5.mono hB.size)).trans (p3.out.mono (Nat.le_trans hB.size hz5))⟩
            case measure => simp [intOf]; omega
            case rel => exact ⟨k + 1, by omega, by rw [Hins.out]; first | exact o3.out.more (Nat.le_trans hB.size hz5) | exact q3.out.more (Nat.le_trans hB.size hz5), by go_num, by first | exact (hB.trans (hb5.mono hB.size)).trans (h3.out.mono (Nat.le_trans hB.size hz5)) | exact (hB.trans (hb5.mono hB.size)).trans (p3.out.mono (Nat.le_trans hB.size hz5))⟩
            case measure => simp [intOf]; omega
        · obtain rfl : j = out.length := by omega
          have Hj := Lib.hid (insAt_is x out out.length (Nat.le_refl _) hlt.out (fun h => absurd h (Nat.lt_irrefl _)))
          go_wp2_with fail
          go_quiet (fail)
          have hb5 : Below w1.heap.size w1 (wr.drewN nq) := below_drewN hB2 nq
          generalize wr.drewN nq = w4 at *
          go_wp2_with fail
          rcases Ho.out.2 with ⟨e, h0⟩ | ⟨g, cap, e, _⟩
          · injection e with e1 e2 e3
            subst e1 e3
            have hnil : out = [] := List.eq_nil_of_length_eq_zero h0
            subst hnil
            simp only [List.length_nil, Int.natCast_zero]
            have hcx5 : row? w4 b (off + k * 33) 33 = some (pointA x) := (row?_below _ _ _ hb5 hbl).trans hcx
            have hz5 := hb5.size
            have Hins := Lib.hid (Hit.out.trans (rfl : insPt x [] = [] ++ x :: []))
            obtain ⟨v1, W1, v2, W2, v3, W3, r1, r2, r3, o3, h3, h1⟩ := ins_yx (W := w4) x 26 (SlR.nil _ _ _ none 0) (SlR.nil _ _ _ none 0) (by simp)
            obtain ⟨u1, X1, u2, X2, u3, X3, t1, t2, t3, q3, p3, p1⟩ := ins_xy (W := w4) x 26 (SlR.nil _ _ _ none 0) (SlR.nil _ _ _ none 0) (by simp)
            dsimp only [Sl.v] at r1 r3 t1 t3
            have n4 : b < w4.heap.size := by omega
            have hcxX : row? X1 b (off + k * 33) 33 = some (pointA x) := (row?_below _ _ _ p1 n4).trans hcx5
            have n5 : b ≠ w4.heap.size := by omega
            clear h1 p1
            replace o3 := Lib.hid o3
            replace q3 := Lib.hid q3
            replace h3 := Lib.hid h3
            replace p3 := Lib.hid p3
            go_region
            all_goals clear r1 r2 r3 t1 t2 t3
            all_goals go_wp2_with fail
            all_goals go_roundw
            case rel => exact ⟨k + 1, by omega, by rw [Hins.out]; first | exact o3.out.more (Nat.le_trans hB.size hz5) | exact q3.out.more (Nat.le_trans hB.size hz5), by go_num, by first | exact (hB.trans (hb5.mono hB.size)).trans (h3.out.mono (Nat.le_trans hB.size hz5)) | exact (hB.trans (hb5.mono hB.size)).trans (p3.out.mono (Nat.le_trans hB.size hz5))⟩
            case measure => simp [intOf]; omega
            case rel => exact ⟨k + 1, by omega, by rw [Hins.out]; first | exact o3.out.more (Nat.le_trans hB.size hz5) | exact q3.out.more (Nat.le_trans hB.size hz5), by go_num, by first | exact (hB.trans (hb5.mono hB.size)).trans (h3.out.mono (Nat.le_trans hB.size hz5)) | exact (hB.trans (hb5.mono hB.size)).trans (p3.out.mono (Nat.le_trans hB.size hz5))⟩
            case measure => simp [intOf]; omega
          · injection e with e1 e2 e3
            subst e1 e3
            have hn1 := Hr.out.2.1
            simp only at hn1
            by_cases n3 : oc = out.length
            · subst n3
              have hcx5 : row? w4 b (off + k * 33) 33 = some (pointA x) := (row?_below _ _ _ hb5 hbl).trans hcx
              have hR5 := Hr.out.keep' hb5
              have hz5 := hb5.size
              have Hins := Lib.hid (Hit.out.trans (by unfold insPt; rw [Hj.out, List.drop_length] : insPt x out = out.take out.length ++ x :: []))
              obtain ⟨v1, W1, v2, W2, v3, W3, r1, r2, r3, o3, h3, h1⟩ := ins_yx (W := w4) x 26 (hR5.takeS out.length (Nat.le_refl _)) (SlR.nil _ _ _ (some ⟨g, 0, none⟩) 0) (by simp; omega)
              obtain ⟨u1, X1, u2, X2, u3, X3, t1, t2, t3, q3, p3, p1⟩ := ins_xy (W := w4) x 26 (hR5.takeS out.length (Nat.le_refl _)) (SlR.nil _ _ _ (some ⟨g, 0, none⟩) 0) (by simp; omega)
              dsimp only [Sl.v] at r1 r3 t1 t3
              have n4 : b < w4.heap.size := by omega
              have hcxX : row? X1 b (off + k * 33) 33 = some (pointA x) := (row?_below _ _ _ p1 n4).trans hcx5
              have n5 : b ≠ w4.heap.size := by omega
              clear h1 p1 hR5
              replace o3 := Lib.hid o3
              replace q3 := Lib.hid q3
              replace h3 := Lib.hid h3
              replace p3 := Lib.hid p3
              go_region
              all_goals clear r1 r2 r3 t1 t2 t3
              all_goals go_wp2_with fail
              all_goals go_roundw
              case rel => exact ⟨k + 1, by omega, by rw [Hins.out]; first | exact o3.out.more (Nat.le_trans hB.size hz5) | exact q3.out.more (Nat.le_trans hB.size hz5), by go_num, by first | exact (hB.trans (hb5.mono hB.size)).trans (h3.out.mono (Nat.le_trans hB.size hz5)) | exact (hB.trans (hb5.mono hB.size)).trans (p3.out.mono (Nat.le_trans hB.size hz5))⟩
              case measure => simp [intOf]; omega
              case rel => exact ⟨k + 1, by omega, by rw [Hins.out]; first | exact o3.out.more (Nat.le_trans hB.size hz5) | exact q3.out.more (Nat.le_trans hB.size hz5), by go_num, by first | exact (hB.trans (hb5.mono hB.size)).trans (h3.out.mono (Nat.le_trans hB.size hz5)) | exact (hB.trans (hb5.mono hB.size)).trans (p3.out.mono (Nat.le_trans hB.size hz5))⟩
              case measure => simp [intOf]; omega
            · 
              have hcx5 : row? w4 b (off + k * 33) 33 = some (pointA x) := (row?_below _ _ _ hb5 hbl).trans hcx
              have hR5 := Hr.out.keep' hb5
              have hz5 := hb5.size
              have Hins := Lib.hid (Hit.out.trans (by unfold insPt; rw [Hj.out, List.drop_length] : insPt x out = out.take out.length ++ x :: []))
              obtain ⟨v1, W1, v2, W2, v3, W3, r1, r2, r3, o3, h3, h1⟩ := ins_yx (W := w4) x 26 (hR5.takeS out.length (Nat.le_refl _)) (SlR.nil _ _ _ (some ⟨g, out.length * 33, none⟩) (oc - out.length)) (by simp; omega)
              obtain ⟨u1, X1, u2, X2, u3, X3, t1, t2, t3, q3, p3, p1⟩ := ins_xy (W := w4) x 26 (hR5.takeS out.length (Nat.le_refl _)) (SlR.nil _ _ _ (some ⟨g, out.length * 33, none⟩) (oc - out.length)) (by simp; omega)
              dsimp only [Sl.v] at r1 r3 t1 t3
              have n4 : b < w4.heap.size := by omega
              have hcxX : row? X1 b (off + k * 33) 33 = some (pointA x) := (row?_below _ _ _ p1 n4).trans hcx5
              have n5 : b ≠ w4.heap.size := by omega
              clear h1 p1 hR5
              replace o3 := Lib.hid o3
              replace q3 := Lib.hid q3
              replace h3 := Lib.hid h3
              replace p3 := Lib.hid p3
              go_region
              all_goals clear r1 r2 r3 t1 t2 t3
              all_goals go_wp2_with fail
              all_goals go_roundw
              case rel => exact ⟨k + 1, by omega, by rw [Hins.out]; first | exact o3.out.more (Nat.le_trans hB.size hz5) | exact q3.out.more (Nat.le_trans hB.size hz5), by go_num, by first | exact (hB.trans (hb5.mono hB.size)).trans (h3.out.mono (Nat.le_trans hB.size hz5)) | exact (hB.trans (hb5.mono hB.size)).trans (p3.out.mono (Nat.le_trans hB.size hz5))⟩
              case measure => simp [intOf]; omega
              case rel => exact ⟨k + 1, by omega, by rw [Hins.out]; first | exact o3.out.more (Nat.le_trans hB.size hz5) | exact q3.out.more (Nat.le_trans hB.size hz5), by go_num, by first | exact (hB.trans (hb5.mono hB.size)).trans (h3.out.mono (Nat.le_trans hB.size hz5)) | exact (hB.trans (hb5.mono hB.size)).trans (p3.out.mono (Nat.le_trans hB.size hz5))⟩
              case measure => simp [intOf]; omega
    · obtain rfl : k = l.length := by omega
      rw [List.take_length] at hown
      have Hown := Lib.hid hown
      clear hown
      go_wp2_with fail
      go_ret
      exact ⟨_, rfl, Hown.out, hB⟩
end Go.Proofs.Ytlkflddjpkhndaa
