/- Texts of this proof, one behind the other: Churns. -/
import Derived.Test.YtkocpihfdpahpaaRE
import Derived.Deep.RegionHeld3
import Derived.Deep.CutRange
import Derived.Deep.QuietTactic
import Derived.BigQuiet
set_option linter.unusedVariables false
set_option linter.unusedSimpArgs false
/- The walk of landmarklaw11.RegistryChurns. -/
namespace Go.Proofs.Ytkocpihfdpahpaa
open Go.RowKit
attribute [local go_sem ↓] fold_bsR fold_appR fold_bsE fold_appE
attribute [local go_sem] regA_size

/-- three facts that a region reads -/
theorem s3_below {B : Nat} {W W' : World} {p bh off b2 o2 : Nat} {A H : Array Value} {v : Value} (hb : Below B W W') (h1 : p < B) (h2 : bh < B) (h3 : b2 < B)
    (h : row? W p 0 4 = some A ∧ row? W bh off 34 = some H ∧ W.cell? ⟨b2, o2, none⟩ = some v) : row? W' p 0 4 = some A ∧ row? W' bh off 34 = some H ∧ W'.cell? ⟨b2, o2, none⟩ = some v :=
  ⟨(row?_below _ _ _ hb h1).trans h.1, (row?_below _ _ _ hb h2).trans h.2.1, (hb.cell (p := ⟨b2, o2, none⟩) h3).trans h.2.2⟩
/-- the first loop's state -/
structure ChI (c : UInt64) (W : World) (B p k : Nat) (sa se : Sl) (ys : List Ent) (x : Ent) : Prop where
  br : BrM W B p sa se (ys ++ [x])
  row : row? W p 0 4 = some (regA x.1)
  thr : there W p 0 4
  may : ∀ y ∈ ys ++ [x], RegP y.2.1
  lnk : Branch ((ys ++ [x]).map (·.2))
  chn : ∀ y ∈ ys ++ [x], y.2.1.churn = c
  len : ys.length ≤ k
theorem ChI.keep {c : UInt64} {W W' : World} {B p k : Nat} {sa se : Sl} {ys : List Ent} {x : Ent} (h : ChI c W B p k sa se ys x) (hb : Below W.heap.size W W') : ChI c W' B p k sa se ys x :=
  ⟨h.br.keep hb, (row?_below _ _ _ hb (lt_of_row h.row)).trans h.row, there_below hb (lt_of_row h.row) h.thr, h.may, h.lnk, h.chn, h.len⟩
theorem ChI.late {c : UInt64} {W : World} {B p k k' : Nat} {sa se : Sl} {ys : List Ent} {x : Ent} (h : ChI c W B p k sa se ys x) (hk : k ≤ k') : ChI c W B p k' sa se ys x :=
  ⟨h.br, h.row, h.thr, h.may, h.lnk, h.chn, Nat.le_trans h.len hk⟩
theorem ChI.reg {c : UInt64} {W : World} {B p k : Nat} {sa se : Sl} {ys : List Ent} {x : Ent} (h : ChI c W B p k sa se ys x) : RegR W x.1 x.2.1 := (h.br.regs x (List.mem_append_right _ (List.mem_singleton.2 rfl))).reg
theorem branch_snoc {rs : List (Reg × UInt64)} {x y : Reg × UInt64} (h : Branch (rs ++ [x])) (hl : Links x y) : Branch (rs ++ [x] ++ [y]) := by
  intro i u v hu hv
  have hlt := lt_of_get hv
  simp only [List.length_append, List.length_singleton] at hlt
  by_cases hi : i + 1 < (rs ++ [x]).length
  · rw [List.getElem?_append_left hi] at hv
    rw [List.getElem?_append_left (by omega)] at hu
    exact h i u v hu hv
  · have hl2 : (rs ++ [x]).length = rs.length + 1 := by simp
    obtain rfl : i = rs.length := by omega
    rw [List.getElem?_append_right (by omega), hl2, Nat.sub_self] at hv
    injection hv with hv
    subst hv
    rw [List.getElem?_append_left (by omega), List.getElem?_append_right (Nat.le_refl _), Nat.sub_self] at hu
    injection hu with hu
    subst hu
    exact hl
/-- a register more -/
theorem ChI.app {c : UInt64} {W W0 W1 W2 : World} {B p k : Nat} {sa se sa' se' : Sl} {ys : List Ent} {x : Ent} (h : ChI c W B p k sa se ys x) (y : Ent) (hlk : Links x.2 y.2) (hy : RegP y.2.1)
    (h0 : W0 = putRow W p 0 (regA y.1)) (hx : RegM (fun k => k = p ∨ sa.v.ownBlock = some k ∨ se.v.ownBlock = some k) W y.1 y.2.1)
    (ha : OwnRs W1 B sa'.v ((ys ++ [x]).map (·.1) ++ [y.1])) (fa : AppF B W0 W1 sa sa') (he : OwnEs W2 B se'.v ((ys ++ [x]).map (·.2.2) ++ [y.2.2])) (fe : AppF B W1 W2 se se') : ChI c W2 B p (k + 1) sa' se' (ys ++ [x]) y := by
  subst h0
  have hp := h.br.hp
  have hpl := lt_of_row h.row
  have hs : (putRow W p 0 (regA y.1)).heap.size = W.heap.size := size_put _ _ _ _
  have hM : RegM (fun k => k = p ∨ sa.v.ownBlock = some k ∨ se.v.ownBlock = some k) (putRow W p 0 (regA y.1)) y.1 y.2.1 := hx.step (by rw [hs]; exact Nat.le_refl _) (fun k hk _ => put_far _ _ _ _ k fun e => hk (.inl e)) fun _ _ h => h
  have hrow : row? (putRow W p 0 (regA y.1)) p 0 4 = some (regA y.1) := row?_put_same _ _ _ _ _ (by rfl) (by omega) h.thr
  have hthr : there (putRow W p 0 (regA y.1)) p 0 4 := there_put _ _ _ _ _ _ _ h.thr
  have hB := fa.below.trans fe.below
  obtain ⟨hc, hch⟩ : (regNext x.2.1 (Classical.choose hlk) x.2.2).2 = 0 ∧ y.2 = ((regNext x.2.1 (Classical.choose hlk) x.2.2).1, (Classical.choose hlk).epoch) := Classical.choose_spec hlk
  refine ⟨(h.br.put 0 (regA y.1)).app y hM ha fa he fe, (row?_below _ _ _ hB hp).trans hrow, there_below hB hp hthr, fun z hz => ?_, ?_, fun z hz => ?_, by rw [List.length_append]; have := h.len; simpa using this⟩
  · rcases List.mem_append.1 hz with hz | hz
    · exact h.may z hz
    · rw [List.mem_singleton] at hz
      subst hz
      exact hy
  · have := h.lnk
    rw [List.map_append] at this
    rw [List.map_append, List.map_append]
    exact branch_snoc this hlk
  · rcases List.mem_append.1 hz with hz | hz
    · exact h.chn z hz
    · rw [List.mem_singleton] at hz
      subst hz
      rw [hch]
      show (regNext x.2.1 _ x.2.2).1.churn = c
      rw [regNext_churn hc]
      exact h.chn x (List.mem_append_right _ (List.mem_singleton.2 rfl))
theorem most_lt {M C D : Nat} (h0 : 0 < M) (hc : 1 ≤ C) (h : M ≤ D * C) : (M - 1) / C < D := by
  rw [Nat.div_lt_iff_lt_mul hc]
  omega
set_option maxRecDepth 100000 in
set_option maxHeartbeats 6400000 in
theorem churns_walk (g : GAnc) (a : Anc) (s : Sl) (l : List Hdr) (w : World) (ha : AncR w g a) (hl : HdrsR w s l) :
    Calls Try.prog 10 #[.agg (ancA g), s.v] w fun e w' => e = .returned (.bool true) ∧ Below w.heap.size w w' := by
  have HB0 := ABox.new w g a 113 ha
  have hB0 : Below w.heap.size w (w.alloc (.cells (ancA g) 113)) := bel_a _ _
  have hz0 : (w.alloc (.cells (ancA g) 113)).heap.size = w.heap.size + 1 := by simp
  have n1 := ha.2.1.1
  have n2 := hl.1
  have hep := ha.1
  have hHl := Lib.hid hl
  obtain ⟨gp, ⟨va, vn, vc⟩, gc, gd⟩ := g
  obtain ⟨sa, sn, sc⟩ := s
  simp only at n1 n2 hep
  subst n1 n2 hep
  clear ha hl
  show Calls Try.prog 10 #[.agg _, .slice sa l.length sc] w _
  go_enter Try.func10, Try.ntmps10
  go_upto_region 1 with fail
  generalize w.alloc (.cells (ancA ⟨a.point, ⟨va, a.vals.length, vc⟩, gc, gd⟩) 113) = W0 at *
  obtain ⟨_, c0, c33, _, _, _⟩ := HB0.cells
  have hrowA := HB0.row
  simp only at c0 c33
  dsimp only [Sl.v] at c33
  have HK := fun W => known11_c W
  by_cases s1 : (100 : Int) < (a.vals.length : Int)
  · go_wp2_with (go_at_call 55; (with_reducible refine (HK _).mono ?_); rintro e W4 ⟨rfl, hb4⟩)
    go_ret
    exact ⟨rfl, hB0.trans (hb4.mono (by omega))⟩
  by_cases s2 : (40 : Int) < (l.length : Int)
  · go_wp2_with (go_at_call 55; (with_reducible refine (HK _).mono ?_); rintro e W4 ⟨rfl, hb4⟩)
    go_ret
    exact ⟨rfl, hB0.trans (hb4.mono (by omega))⟩
  have hv1 : a.vals.length ≤ 1000000 := by omega
  have hl40 : l.length ≤ 40 := by omega
  have HF := first_c HB0.anc hv1
  have HFP := Lib.hid (show firstP a = if ancMay a then (firstReg a, 0) else (zeroReg, 2) from rfl)
  have hMayP := Lib.hid (show ancMay a = true → RegP (firstReg a) from first_may)
  go_wp2_with fail
  refine HF.mono ?_
  clear HF
  rintro e w2 ⟨g0, rfl, hR0, hb2⟩
  have hz2 := hb2.size
  have hA2 := HB0.keep hb2
  have hB2 := Lib.hid (hB0.trans (hb2.mono (by omega)))
  clear hb2 HB0 hB0 c0 c33 hrowA s1 s2
  obtain ⟨r0, hr0⟩ : ∃ r, r = (firstP a).1 := ⟨_, rfl⟩
  obtain ⟨e0, he0⟩ : ∃ c, c = (firstP a).2 := ⟨_, rfl⟩
  rw [← hr0] at hR0
  rw [← he0]
  replace hr0 := Lib.hid hr0
  replace he0 := Lib.hid he0
  go_upto_region 4 with fail
  obtain ⟨w3, hw3, hr3, ht3, hb3, hz3⟩ := box_reg w2 g0
  rw [← hw3]
  have hV3 : RVar w3 w2.heap.size g0 r0 := ⟨hr3, ht3, hR0.offNew hb3⟩
  clear hw3 hr3 ht3 hR0
  obtain ⟨p5, hp5⟩ : ∃ p, p = w2.heap.size := ⟨_, rfl⟩
  rw [← hp5] at hV3 ⊢
  have hA3 := hA2.keep hb3
  have hB3 := Lib.hid (hB2.out.trans (hb3.mono (by omega)))
  have hwp : w.heap.size < p5 := by omega
  clear hb3 hz3 hA2 hB2 hp5 hz2 hz0
  obtain ⟨_, c0, c33, _, _, hAl⟩ := hA3.cells
  have hrowA := hA3.row
  simp only at c0 c33
  dsimp only [Sl.v] at c33
  have HMA := fun W (hb : Below w3.heap.size w3 W) => fmayAnchor_c (hA3.keep hb).anc hv1
  cases hma : ancMay a
  · have hc : e0 = 2 := by rw [he0.out, HFP.out, hma]; rfl
    subst hc
    have HMA := HMA w3 (Below.refl _ _)
    rw [hma] at HMA
    clear hV3
    go_wp2_with (first
      | (go_at_call 63; (with_reducible refine HMA.mono ?_); rintro e w4 ⟨rfl, hb4⟩)
      | (go_at_call 55; (with_reducible refine (HK _).mono ?_); rintro e w5 ⟨rfl, hb5⟩))
    go_ret
    have hz4 := hb4.size
    have hz3 := hB3.out.size
    exact ⟨rfl, hB3.out.trans ((hb4.mono hz3).trans (hb5.mono (by omega)))⟩
  have hc : e0 = 0 := by rw [he0.out, HFP.out, hma]; rfl
  have hr : r0 = firstReg a := by rw [hr0.out, HFP.out, hma]; rfl
  have hP0 := Lib.hid (show RegP r0 by rw [hr]; exact hMayP.out hma)
  subst hc
  have hch0 := Lib.hid (show r0.churn = a.churn by rw [hr]; rfl)
  clear hma HMA hr hr0 he0 HFP hMayP c33 hrowA
  have hgc : gc = a.churn := hA3.anc.2.2.1
  obtain ⟨_, c0, _, c34, _, hAl⟩ := hA3.cells
  simp only at c0 c34
  have hC0 : BrM w3 w3.heap.size p5 ⟨none, 0, 0⟩ ⟨none, 0, 0⟩ [] := ⟨OwnC.nil _ _ _, OwnC.nil _ _ _, fun k hk => by simp [Sl.v, Value.ownBlock] at hk, hV3.lt, Nat.le_refl _, fun x hx => absurd hx (List.not_mem_nil)⟩
  have hMx : RegM (fun k => k = p5 ∨ (Sl.v ⟨none, 0, 0⟩).ownBlock = some k ∨ (Sl.v ⟨none, 0, 0⟩).ownBlock = some k) w3 g0 r0 := fun W2 h1 h2 => hV3.off W2 h1 fun k hk hl => h2 k (by simp [Sl.v, Value.ownBlock]; exact hk) hl
  have hrow3 := hV3.row
  obtain ⟨s7, wi, e71, e72, fa⟩ := app_reg (W := w3) (B := w3.heap.size) (s := ⟨none, 0, 0⟩) (gs := []) (OwnC.nil _ _ _) (Nat.le_refl _) (by simp) g0
  have c04 := (fa.below.cell (p := ⟨w.heap.size, 0, none⟩) hAl).trans c0
  have hbs := fun W => bsR_one g0 W
  obtain ⟨a7, n7, cc7⟩ := s7
  dsimp only [Sl.v] at e71
  have fa' := Lib.hid fa
  clear fa
  go_upto_region 9 with fail
  obtain ⟨s8, wj, e81, e82, fe⟩ := app_ep (W := wi) (B := w3.heap.size) (s := ⟨none, 0, 0⟩) (es := []) (OwnC.nil _ _ _) (Nat.le_of_lt fa'.out.size) (by simp) a.point.epoch
  have hbe := fun W => bsE_one a.point.epoch W
  obtain ⟨a8, n8, cc8⟩ := s8
  dsimp only [Sl.v] at e81
  have hC5 := hC0.app (g0, r0, a.point.epoch) hMx e72 fa'.out e82 fe
  have hB35 := fa'.out.below.trans fe.below
  have hp3 := hV3.lt
  have hCI := Lib.hid (show ChI a.churn wj w3.heap.size p5 0 ⟨a7, n7, cc7⟩ ⟨a8, n8, cc8⟩ [] (g0, r0, a.point.epoch) from ⟨hC5, (row?_below _ _ _ hB35 hp3).trans hrow3, there_below hB35 hp3 hV3.thr, fun y hy => by
      rw [List.nil_append, List.mem_singleton] at hy
      subst hy
      exact hP0.out, fun i u v hu hv => by
      have := lt_of_get hv
      simp at this, fun y hy => by
      rw [List.nil_append, List.mem_singleton] at hy
      subst hy
      exact hch0.out, Nat.le_refl _⟩)
  have hB5 := Lib.hid (show Below p5 w3 wj from hB35.mono (Nat.le_of_lt hp3))
  clear hbs e71 e72 fa' fe e82 hC0 hMx hC5 hB35 hrow3 hV3 hch0 hA3 hP0
  go_upto_region 11 with fail
  go_loopw [7, 8, 9] (fun al ep i W' => ∃ (k : Nat) (ys : List Ent) (x : Ent) (sa se : Sl), k ≤ l.length ∧ al = .slice sa.a sa.n sa.c ∧ ep = .slice se.a se.n se.c ∧ i = .int .i64 k ∧ Hid (ChI a.churn W' w3.heap.size p5 k sa se ys x) ∧ Hid (Below p5 w3 W')) (fun _ _ i _ => l.length - (intOf i).toNat)
  case atStart => exact ⟨0, [], (g0, r0, a.point.epoch), ⟨a7, n7, cc7⟩, ⟨a8, n8, cc8⟩, Nat.zero_le _, rfl, rfl, rfl, hCI, hB5⟩
  case round =>
    clear hCI hB5 c04 e81 hbe
    obtain ⟨k, ys, ⟨gr, rr, en⟩, ⟨a1, n1, q1⟩, ⟨a2, n2, q2⟩, hk, rfl, rfl, rfl, hCI, hB⟩ := hrel
    have hBw := Lib.hid (hB3.out.trans (hB.out.mono (Nat.le_of_lt hwp)))
    have hmk : ys.length ≤ k := hCI.out.len
    by_cases hkx : k < l.length
    · skip
      -- DEV<
      obtain ⟨b1, o1, b2, o2, f1, f2, hb1, hb2, hq1, hq2, hrs, hes⟩ := regs_at hCI.out.br (by simp)
      have hln : (ys ++ [((gr, rr, en) : Ent)]).length = ys.length + 1 := by simp
      rw [hln] at f1 f2 hq1 hq2
      injection f1 with f11 f12
      injection f2 with f21 f22
      subst f11 f12 f21 f22
      obtain ⟨m, hm⟩ : ∃ m, m = ys.length := ⟨_, rfl⟩
      have hec := hes m (by omega)
      have hlast : (ys ++ [((gr, rr, en) : Ent)])[m]'(by omega) = (gr, rr, en) := by subst hm; simp
      rw [hlast] at hec
      clear hrs hes hlast hln
      rw [← hm] at hq1 hq2 hmk hCI ⊢
      have hkl := Lib.hid (show k + 1 ≤ l.length from hkx)
      have hm40 : m ≤ 1000000 := by omega
      obtain ⟨bh, oh, e, hbh0, hch⟩ := hHl.out.at (by omega)
      have e1 := congrArg Sl.a e
      simp only at e1
      subst e1
      clear e
      obtain ⟨cs, hcx0, g1, rfl, hv0⟩ := hch k hkx
      clear hch
      have hcx := (row?_below _ _ _ hBw.out hbh0).trans hcx0
      have hv1 := hv0.keep' hBw.out
      have hbh : bh < wr.heap.size := Nat.lt_of_lt_of_le hbh0 hBw.out.size
      clear hcx0 hv0
      generalize l[k] = h at *
      have k1 : (k : Int) < (l.length : Int) := by omega
      have hbw := hBw.out.size
      have HMu := rmuch_c g1 h wr hv1
      have hepg := Lib.hid hv1.2.1
      have hmo := Lib.hid (show rmuch h = false → HdrFits h from fun e => (rmuch_out e).1)
      generalize rmuch h = mu at *
      have hpl := lt_of_row hCI.out.row
      replace hm := Lib.hid hm
      go_wp2_with fail
      refine HMu.mono ?_
      clear HMu
      rintro e w4 ⟨rfl, hb4⟩
      have hz4 := hb4.size
      have hCI4 := Lib.hid (hCI.out.keep hb4)
      have hB4 := Lib.hid (hB.out.trans (hb4.mono (Nat.le_of_lt hpl)))
      have hBw4 := Lib.hid (hBw.out.trans (hb4.mono hbw))
      have hv4 := hv1.keep' hb4
      have hcx4 := (row?_below _ _ _ hb4 hbh).trans hcx
      have hec4 := (hb4.cell (p := ⟨b2, o2 + m, none⟩) hb2).trans hec
      have hrow4 := hCI4.out.row
      have hbh4 : bh < w4.heap.size := by omega
      have hb24 : b2 < w4.heap.size := by omega
      have hpl4 : p5 < w4.heap.size := by omega
      clear hb4 hCI hv1 hcx hec hB hBw
      cases mu
      rotate_left
      · go_wp2_with (go_at_call 55; (with_reducible refine (HK _).mono ?_); rintro e w5 ⟨rfl, hb5⟩)
        go_ret
        exact ⟨rfl, hBw4.out.trans (hb5.mono hBw4.out.size)⟩
      have hfit := hmo.out rfl
      clear hmo
      have hPr := Lib.hid (hCI4.out.may (gr, rr, en) (List.mem_append_right _ (List.mem_singleton.2 rfl)))
      obtain ⟨q1', q2', q3'⟩ := stays_bounds hPr.out
      obtain ⟨nr, hnr⟩ : ∃ x, x = regNext rr h en := ⟨_, rfl⟩
      have HNX := fun W (hb : Below w4.heap.size w4 W) => next_c en (hCI4.out.keep hb).reg (hv4.keep' hb) q1' q2' q3' hfit
      rw [← hnr] at HNX
      replace hnr := Lib.hid hnr
      obtain ⟨wa, hwa⟩ : ∃ wa, wa = (w4.alloc (.cells #[.slice none 0 0, .slice none 0 0, .slice none 0 0, .int .u64 0] 103)).drew := ⟨_, rfl⟩
      have hba : Below w4.heap.size w4 wa := by rw [hwa]; exact (bel_a w4 _).drew
      have hza : wa.heap.size = w4.heap.size + 1 := by rw [hwa]; simp
      have hta : there wa w4.heap.size 0 4 := by rw [hwa]; exact there_new w4 _ _ 0 4 (by simp)
      have HNA := HNX w4.drew ((Below.refl _ w4).drew)
      have HNB := HNX wa hba
      have S0 : row? w4.drew p5 0 4 = some (regA gr) ∧ row? w4.drew bh (oh + k * 34) 34 = some (headerA g1) ∧ w4.drew.cell? ⟨b2, o2 + m, none⟩ = some (.int .u64 (en.toNat : Int)) := ⟨hrow4, hcx4, hec4⟩
      have S1 := s3_below hba hpl4 hbh4 hb24 S0
      have hwa' := hwa.symm
      have x1 : IntKind.i64.wrap ((m : Int) + 1 - 1) = m := by rw [show (m : Int) + 1 - 1 = m by omega]; exact IntWalk.i64_in _ (by omega)
      have x1' : IntKind.i64.wrap (m : Int) = m := IntWalk.i64_in _ (by omega)
      have x0 : (0 : Int) ≤ (m : Int) := by omega
      have x2 : (m : Int) < (m : Int) + 1 := by omega
      clear q1' q2' q3' hfit hv4 HNX hwa
      obtain ⟨N, code⟩ := nr
      go_upto_region 15 with fail
      go_cut [10, 11] from 53 to 94 (fun u c W => ∃ (p9 : Nat) (gN : GReg), u = .pointer (some ⟨p9, 0, none⟩) ∧ c = .int .i64 code ∧ p9 ≠ p5 ∧ Hid (row? W p9 0 4 = some (regA gN)) ∧ Hid (RegAt w4.heap.size W gN N) ∧ Hid (Below w4.heap.size w4 W))
      case first =>
        go_region_held3 (fun W => row? W p5 0 4 = some (regA gr) ∧ row? W bh (oh + k * 34) 34 = some (headerA g1) ∧ W.cell? ⟨b2, o2 + m, none⟩ = some (.int .u64 (en.toNat : Int)))
          (first | go_keep | (with_reducible exact S0) | (with_reducible exact S1) | (rw [hwa']; with_reducible exact S1) | (with_reducible exact S6) | (with_reducible exact S7) | (with_reducible exact S8))
          (first
            | (go_simp; go_at_call 58; (with_reducible refine HNA.mono ?_); rintro e w6 ⟨gN, rfl, hRN, hb6⟩;
               have S6 := s3_below (undrew hb6) hpl4 hbh4 hb24 S0;
               have l6 : p5 < w6.heap.size := Nat.lt_of_lt_of_le hpl4 hb6.size;
               have m6 : bh < w6.heap.size := Nat.lt_of_lt_of_le hbh4 hb6.size;
               have n6 : b2 < w6.heap.size := Nat.lt_of_lt_of_le hb24 hb6.size;
               have S7 := s3_below (bel_a w6 (.cells #[.slice none 0 0, .slice none 0 0, .slice none 0 0, .int .u64 0] 103)) l6 m6 n6 S6;
               have S8 := s3_below (below_put (bel_a w6 (.cells #[.slice none 0 0, .slice none 0 0, .slice none 0 0, .int .u64 0] 103)) (Nat.le_refl _) 0 (regA gN)) l6 m6 n6 S6)
            | (go_simp; go_at_call 58; (with_reducible refine HNB.mono ?_); rintro e w6 ⟨gN, rfl, hRN, hb6⟩;
               have S6 := s3_below hb6 (Nat.lt_of_lt_of_le hpl4 hba.size) (Nat.lt_of_lt_of_le hbh4 hba.size) (Nat.lt_of_lt_of_le hb24 hba.size) S1;
               have ht6 := there_below hb6 (show w4.heap.size < wa.heap.size by omega) hta;
               have hst6 := store_reg w6 w4.heap.size 0 (regA gN) rfl (onesReg _) ht6;
               have S8 := s3_below (below_put (hb6.mono (Nat.le_of_lt (show w4.heap.size < wa.heap.size by omega))) (Nat.le_refl _) 0 (regA gN)) hpl4 hbh4 hb24 S1))
        · obtain ⟨w9, hw9, hr9, ht9, hb9, hz9⟩ := box_reg w6 gN
          rw [← hw9]
          have hb49 : Below w4.heap.size w4 w9 := (show Below w4.heap.size w4 w6 from undrew hb6).trans (hb9.mono hb6.size)
          have hRN9 : RegAt w4.heap.size w9 gN N := hRN.keep hb9
          try simp only
          have hne : w6.heap.size ≠ p5 := by omega
          go_wp2_with fail
          go_meet
          exact ⟨w6.heap.size, gN, rfl, rfl, hne, Lib.hid hr9, Lib.hid hRN9, Lib.hid hb49⟩
        · obtain ⟨w9, hw9⟩ : ∃ w9, w9 = putRow w6 w4.heap.size 0 (regA gN) := ⟨_, rfl⟩
          have hr9 : row? w9 w4.heap.size 0 4 = some (regA gN) := by rw [hw9]; exact row?_put_same _ _ _ _ _ (by rfl) (by omega) ht6
          have hb49 : Below w4.heap.size w4 w9 := by
            rw [hw9]
            exact below_put (hba.trans (hb6.mono (by omega))) (Nat.le_refl _) _ _
          have hRN9 : RegAt w4.heap.size w9 gN N := by
            rw [hw9]
            exact (hRN.put (show w4.heap.size < wa.heap.size by omega)).more (by omega)
          rw [← hw9]
          try simp only
          have hne : w4.heap.size ≠ p5 := by omega
          clear hw9 S6 S8 hRN hb6 ht6 hst6
          obtain ⟨p9, hp9⟩ : ∃ p9, p9 = w4.heap.size := ⟨_, rfl⟩
          rw [← hp9] at hr9 hne ⊢
          replace hp9 := Lib.hid hp9
          go_wp2_with fail
          go_meet
          exact ⟨p9, gN, rfl, rfl, hne, Lib.hid hr9, Lib.hid hRN9, Lib.hid hb49⟩
      case rest =>
        obtain ⟨p9, gN, rfl, rfl, hne, hr9, hRN9, hb49⟩ := hcut
        generalize wc = w9 at *
        replace hr9 := hr9.out
        replace hb49 := hb49.out
        have hCI9 := Lib.hid (hCI4.out.keep hb49)
        have hB9 := Lib.hid (hB4.out.trans (hb49.mono (Nat.le_of_lt hpl4)))
        have hBw9 := Lib.hid (hBw4.out.trans (hb49.mono hBw4.out.size))
        have hcx9 := (row?_below _ _ _ hb49 hbh4).trans hcx4
        have hM9 := Lib.hid (show RegM (fun j => j = p5 ∨ (Sl.v ⟨some ⟨b1, o1, none⟩, m + 1, q1⟩).ownBlock = some j ∨ (Sl.v ⟨some ⟨b2, o2, none⟩, m + 1, q2⟩).ownBlock = some j) w9 gN N from hRN9.out.toM fun j hj hh => by
          rcases hh with hh | hh | hh
          · omega
          · exact (hCI4.out.br.all.lt j hh).2
          · exact (hCI4.out.br.eps.lt j hh).2)
        clear hRN9 S0 S1 hza hba hta HNA HNB hcx4 hbh4 hz4 hbw hpl hpl4 hrow4 hec4 hb24 hb49 hwa' hCI4 hB4 hBw4 x1 x1' x0 x2
        have hbp : bh ≠ p5 := by omega
        by_cases hz : code = 0
        rotate_left
        · have bz : (code == 0) = false := by simpa using hz
          clear hz
          replace hr9 := Lib.hid hr9
          replace hcx9 := Lib.hid hcx9
          go_wp2_with fail
          go_roundw
          case rel => exact ⟨k + 1, ys, (gr, rr, en), ⟨some ⟨b1, o1, none⟩, m + 1, q1⟩, ⟨some ⟨b2, o2, none⟩, m + 1, q2⟩, hkl.out, rfl, rfl, by go_num, Lib.hid (hCI9.out.late (Nat.le_succ _)), hB9⟩
          case measure =>
            have := hkl.out
            simp [intOf]
            omega
        · subst hz
          have hzz : (regNext rr h en).2 = 0 := by rw [← hnr.out]
          have hN : N = (regNext rr h en).1 := by rw [← hnr.out]
          have hP9 := Lib.hid (show RegP N by rw [hN]; exact regNext_may hzz)
          have hlk := Lib.hid (show Links (rr, en) (N, h.epoch) from ⟨h, hzz, by rw [hN]⟩)
          have hst := store_reg w9 p5 0 (regA gN) rfl (onesReg _) hCI9.out.thr
          have hr10 : row? (putRow w9 p5 0 (regA gN)) p5 0 4 = some (regA gN) := row?_put_same _ _ _ _ _ (by rfl) (by omega) hCI9.out.thr
          have hcx10 := (row?_put_far w9 p5 0 (regA gN) bh (oh + k * 34) 34 hbp).trans hcx9
          have hbr10 := hCI9.out.br.put 0 (regA gN)
          have hb10 : Below p5 w3 (putRow w9 p5 0 (regA gN)) := below_put hB9.out (Nat.le_refl _) _ _
          obtain ⟨w10, hw10⟩ : ∃ w10, w10 = putRow w9 p5 0 (regA gN) := ⟨_, rfl⟩
          rw [← hw10] at hst hr10 hcx10 hbr10 hb10
          have hxl : (ys ++ [((gr, rr, en) : Ent)]).length = m + 1 := by rw [hm.out]; simp
          have hpB := hbr10.hp
          obtain ⟨⟨ta, tn, tc⟩, w11, e71, e72, fa⟩ := app_reg (W := w10) (B := w3.heap.size) (s := ⟨some ⟨b1, o1, none⟩, m + 1, q1⟩) hbr10.all hbr10.hB (by rw [List.length_map, hxl]; omega) gN
          obtain ⟨⟨ua, un, uc⟩, w12, e81, e82, fe⟩ := app_ep (W := w11) (B := w3.heap.size) (s := ⟨some ⟨b2, o2, none⟩, m + 1, q2⟩) (hbr10.eps1 fa) (Nat.le_trans hbr10.hB (Nat.le_of_lt fa.size)) (by rw [List.length_map, hxl]; omega) h.epoch
          have hcx11 := hdr_epoch ((row?_below _ _ _ fa.below (by omega)).trans hcx10)
          rw [hepg.out] at hcx11
          have hCI12 := Lib.hid (hCI9.out.app (gN, N, h.epoch) hlk.out hP9.out hw10 hM9.out e72 fa e82 fe)
          have hB12 := Lib.hid ((hb10.trans (fa.below.mono (Nat.le_of_lt hpB))).trans (fe.below.mono (Nat.le_of_lt hpB)))
          dsimp only [Sl.v] at e71 e81
          have hbs := fun W => bsR_one gN W
          have hbe := fun W => bsE_one h.epoch W
          replace hw10 := Lib.hid hw10
          clear hzz hN hxl hbr10 hb10 e72 e82 fa fe hpB hM9 hB9 hCI9 hBw9
          go_upto_region 19 with fail
          go_wp2_with fail
          go_roundw
          case rel => exact ⟨k + 1, ys ++ [(gr, rr, en)], (gN, N, h.epoch), ⟨ta, tn, tc⟩, ⟨ua, un, uc⟩, hkl.out, rfl, rfl, by go_num, hCI12, hB12⟩
          case measure =>
            have := hkl.out
            simp [intOf]
            omega
    -- DEV>
    · have hX0 : 0 < (ys ++ [((gr, rr, en) : Ent)]).length := by simp
      have hl41 : l.length ≤ 1000 := by omega
      have hX1 : (ys ++ [((gr, rr, en) : Ent)]).length ≤ 1000000 := by
        rw [List.length_append, List.length_singleton]
        omega
      have hXB := hCI.out.br
      have hXP := Lib.hid hCI.out.may
      have hXL := Lib.hid hCI.out.lnk
      have hXC := Lib.hid hCI.out.chn
      have hc34 := (hB.out.cell (p := ⟨w.heap.size, 34, none⟩) hwp).trans c34
      obtain ⟨xs, hxs⟩ : ∃ xs, xs = ys ++ [((gr, rr, en) : Ent)] := ⟨_, rfl⟩
      rw [← hxs] at hX0 hX1 hXB hXP hXL hXC
      clear hxs
      obtain ⟨b1, o1, b2, o2, f1, f2, hb1, hb2, hq1, hq2, hrs, hes⟩ := regs_at hXB hX0
      injection f1 with f11 f12
      injection f2 with f21 f22
      subst f11 f12 f21 f22
      replace hrs := Lib.hid hrs
      replace hes := Lib.hid hes
      replace hXB := Lib.hid hXB
      have hal := Nat.lt_of_lt_of_le hwp (Nat.le_of_lt (lt_of_row hCI.out.row))
      have hnl : ¬ (k : Int) < (l.length : Int) := by omega
      have hx9 := Lib.hid (Below.refl wr.heap.size wr)
      have hBx3 := Lib.hid (hB.out.mono (Nat.le_of_lt hwp))
      clear hCI hB c34 hmk hk hkx
      rename World => wx
      go_upto_region 21 with fail
      go_loopw [12] (fun i W' => ∃ i1 : Nat, i1 ≤ xs.length ∧ i = .int .i64 i1 ∧ Hid (Below wx.heap.size wx W')) (fun i _ => xs.length - (intOf i).toNat)
      case atStart => exact ⟨0, Nat.zero_le _, rfl, hx9⟩
      case round =>
        clear hx9
        obtain ⟨i1, hi1, rfl, hB1⟩ := hrel
        by_cases hix : i1 < xs.length
        · have hri := (row?_below _ _ _ hB1.out hb1).trans (hrs.out i1 hix)
          have hei := Lib.hid (hes.out i1 hix)
          have hRi := Lib.hid ((hXB.out.regs _ (List.getElem_mem hix)).keep hB1.out)
          have hPi := Lib.hid (hXP.out _ (List.getElem_mem hix))
          have hci := Lib.hid (hXC.out _ (List.getElem_mem hix))
          have hgi := Lib.hid (show (xs.map (·.2))[i1]? = some (xs[i1].2) by rw [List.getElem?_map, List.getElem?_eq_getElem hix]; rfl)
          generalize xs[i1] = xi at *
          obtain ⟨gi, ri, ei⟩ := xi
          simp only at hri
          have hil := Lib.hid (show i1 + 1 ≤ xs.length from hix)
          have hlen := (stays_bounds hPi.out).1
          have HT := regTotal_c hRi.out.reg hlen
          rw [totW_tot hPi.out] at HT
          have hT := tot_pos hPi.out
          generalize totN ri = T at *
          have i1x : (i1 : Int) < (xs.length : Int) := by omega
          have i0x : (0 : Int) ≤ (i1 : Int) := by omega
          have bT : ((T : Int) == 0) = false := by simp; omega
          go_upto_region 23 with fail
          go_wp2_with fail
          refine HT.mono ?_
          clear HT
          rintro e w1 ⟨rfl, hb1'⟩
          have hB2 := Lib.hid (hB1.out.trans (hb1'.mono hB1.out.size))
          have hri2 := (row?_below _ _ _ hb1' (lt_of_row hri)).trans hri
          have hRi2 := Lib.hid (hRi.out.keep hb1')
          clear hb1' hB1 hri hRi
          go_upto_region 26 with fail
          have hw11 := Lib.hid (Below.refl w1.heap.size w1)
          go_loopw [13] (fun i W' => ∃ k1 : Nat, i1 + 1 ≤ k1 ∧ k1 ≤ xs.length ∧ i = .int .i64 k1 ∧ Hid (Below w1.heap.size w1 W')) (fun i _ => xs.length - (intOf i).toNat)
          case atStart => exact ⟨i1 + 1, Nat.le_refl _, hil.out, by go_num, hw11⟩
          case round =>
            clear hw11
            obtain ⟨k1, hk0, hk1, rfl, hB3k⟩ := hrel
            by_cases hkx : k1 < xs.length
            · have hBx := Lib.hid (hB2.out.trans (hB3k.out.mono hB2.out.size))
              have hrk := (row?_below _ _ _ hBx.out hb1).trans (hrs.out k1 hkx)
              have hek := Lib.hid (hes.out k1 hkx)
              have hRk := Lib.hid ((hXB.out.regs _ (List.getElem_mem hkx)).keep hBx.out)
              have hPk := Lib.hid (hXP.out _ (List.getElem_mem hkx))
              have hgk := show (xs.map (·.2))[i1 + (k1 - i1)]? = some (xs[k1].2) by rw [show i1 + (k1 - i1) = k1 by omega, List.getElem?_map, List.getElem?_eq_getElem hkx]; rfl
              have hbb := Lib.hid (branch_bound hXL.out i1 _ hgi.out (k1 - i1) _ hgk)
              clear hgk
              generalize xs[k1] = xk at *
              obtain ⟨gk, rk, ek⟩ := xk
              simp only at hrk
              obtain ⟨z1, z2, -, z4⟩ := hbb.out
              simp only at z1 z2
              have hck := Lib.hid (show ri.churn = a.churn from hci.out)
              have hI := Lib.hid (show sumTo (inT ri rk) rk.members.length ≤ (ek.toNat - ei.toNat) * a.churn.toNat by rw [← hck.out]; exact (z4 _).1)
              have hO := Lib.hid (show sumTo (outT ri rk) rk.members.length ≤ (ek.toNat - ei.toNat) * a.churn.toNat by rw [← hck.out]; exact (z4 _).2)
              have hc1 := Lib.hid (show 1 ≤ a.churn.toNat by rw [← hck.out]; exact hPi.out.churn.1)
              have hle := Lib.hid z1
              clear z1 z2 z4 hbb
              have hlk := (stays_bounds hPk.out).1
              have lk := hRk.out.reg.1.1
              obtain ⟨⟨ma, mn, mc⟩, gk1, gk2, gkc⟩ := gk
              simp only at lk
              subst lk
              have k1x : (k1 : Int) < (xs.length : Int) := by omega
              have k0x : (0 : Int) ≤ (k1 : Int) := by omega
              have hbk := lt_of_row hrk
              have hri3 := (row?_below _ _ _ hB3k.out (lt_of_row hri2)).trans hri2
              have hRi3 := Lib.hid (hRi2.out.keep hB3k.out)
              have hw33 := Lib.hid (Below.refl wr.heap.size wr)
              rename World => wo
              go_upto_region 30 with fail
              go_loopw [14, 15, 16] (fun ca cb ci W' => ∃ m : Nat, m ≤ rk.members.length ∧ ca = .int .u64 (sumTo (inT ri rk) m : Nat) ∧ cb = .int .u64 (sumTo (outT ri rk) m : Nat) ∧ ci = .int .i64 ((m : Int) + 1) ∧ Hid (Below wo.heap.size wo W')) (fun _ _ ci _ => rk.members.length + 1 - (intOf ci).toNat)
              case atStart => exact ⟨0, Nat.zero_le _, rfl, rfl, rfl, hw33⟩
              case round =>
                clear hw33
                obtain ⟨m, hm, rfl, rfl, rfl, hB4⟩ := hrel
                have hriM := (row?_below _ _ _ hB4.out (lt_of_row hri3)).trans hri3
                have hrkM := (row?_below _ _ _ hB4.out (lt_of_row hrk)).trans hrk
                have ukM := cell_of_row? hrkM 0 (by omega)
                have ukM' : wr.cell? ⟨b1, o1 + k1 * 4, none⟩ = some (.slice ma rk.members.length mc) := ukM
                clear ukM
                by_cases hmx : m < rk.members.length
                · have hbm := lt_of_row hriM
                  have HA1 := fun W (hb : Below wr.heap.size wr W) => regActive_c ((hRi3.out.keep hB4.out).keep hb).reg hlen ((m : Int) + 1)
                  have HA2 := fun W (hb : Below wr.heap.size wr W) => regActive_c ((hRk.out.keep hB4.out).keep hb).reg hlk ((m : Int) + 1)
                  rw [actI_at] at HA1 HA2
                  obtain ⟨ia, ib⟩ := in_le (a := ri) hPk.out (m + 1) hmx
                  have Hin := Lib.hid (sumTo_succ (inT ri rk) m)
                  have Hout := Lib.hid (sumTo_succ (outT ri rk) m)
                  obtain ⟨bm, om, em, hbmm, hrm, -⟩ := mbrs_at (hRk.out.keep hB4.out).reg.1 (by omega)
                  have e1 := congrArg Sl.a em
                  simp only at e1
                  subst e1
                  clear em
                  have hmrow := hrm m hmx
                  clear hrm
                  have hsk := Lib.hid (show stk rk m = (rk.members[m]).stake.toNat by rw [stk, getD_of (List.getElem?_eq_getElem hmx)])
                  generalize rk.members[m] = mb at *
                  obtain ⟨-, mst, -, -⟩ := mbr_cells hmrow
                  clear hmrow
                  obtain ⟨sk, hskk⟩ : ∃ sk, sk = mb.stake.toNat := ⟨_, rfl⟩
                  rw [← hskk] at mst hsk
                  clear hskk
                  have Hin2 := Lib.hid (show sumTo (inT ri rk) (m + 1) = sumTo (inT ri rk) m + (if actAt rk m && !actAt ri m then sk else 0) by rw [sumTo_succ, ← hsk.out]; rfl)
                  have Hout2 := Lib.hid (show sumTo (outT ri rk) (m + 1) = sumTo (outT ri rk) m + (if actAt ri m && !actAt rk m then sk else 0) by rw [sumTo_succ, ← hsk.out]; rfl)
                  generalize actAt ri m = ai at *
                  generalize actAt rk m = ak at *
                  obtain ⟨I0, hI0⟩ : ∃ x, sumTo (inT ri rk) m = x := ⟨_, rfl⟩
                  obtain ⟨O0, hO0⟩ : ∃ x, sumTo (outT ri rk) m = x := ⟨_, rfl⟩
                  rw [hI0] at Hin2 ⊢
                  rw [hO0] at Hout2 ⊢
                  replace hI0 := Lib.hid hI0
                  replace hO0 := Lib.hid hO0
                  have m1x : (m : Int) + 1 ≤ (rk.members.length : Int) := by omega
                  have m2x : (m : Int) < (rk.members.length : Int) := by omega
                  have m0x : (0 : Int) ≤ (m : Int) := by omega
                  have hms := Lib.hid (show m + 1 ≤ rk.members.length from hmx)
                  have x1 : IntKind.i64.wrap ((m : Int) + 1 - 1) = m := by rw [show (m : Int) + 1 - 1 = m by omega]; exact IntWalk.i64_in _ (by omega)
                  have x2 : IntKind.i64.wrap ((m : Int) + 1 + 1) = (m : Int) + 1 + 1 := IntWalk.i64_in _ (by omega)
                  have hsk32 : sk ≤ 4294967296 := by
                    rw [← hsk.out, stk]
                    exact (hPk.out.stakes _ (mem_get.2 ⟨m, get_some hmx zeroMbr⟩)).2
                  obtain ⟨ia', ib'⟩ := in_le (a := ri) hPk.out m (by omega)
                  rw [hI0.out] at ia'
                  rw [hO0.out] at ib'
                  have y1 : IntKind.u64.wrap ((I0 : Int) + (sk : Int)) = ((I0 + sk : Nat) : Int) := by
                    rw [IntKind.wrap_u64]
                    omega
                  have y2 : IntKind.u64.wrap ((O0 : Int) + (sk : Int)) = ((O0 + sk : Nat) : Int) := by
                    rw [IntKind.wrap_u64]
                    omega
                  clear Hin Hout hsk hsk32 ia' ib' hI0 hO0
                  go_upto_region 32 with fail
                  refine wp_region_freeG_l (fun W W' => Below W.heap.size W W') (by kernel_rfl) [125, 126, 127, 128, 129, 130, 131, 132, 133, 134, 135, 136, 17, 18]
                    [Is (.slice (some ⟨b1, o1, none⟩) xs.length q1), Is (.int .i64 (i1 : Int)), Is (.pointer (some ⟨b1, o1 + i1 * 4, none⟩)), Is (.agg (regA gi)), Is (.int .i64 ((m : Int) + 1)), Is (.bool ai), Is (.slice (some ⟨b1, o1, none⟩) xs.length q1), Is (.int .i64 (k1 : Int)), Is (.pointer (some ⟨b1, o1 + k1 * 4, none⟩)), Is (.agg (regA ⟨⟨some ⟨bm, om, none⟩, rk.members.length, mc⟩, gk1, gk2, gkc⟩)), Is (.int .i64 ((m : Int) + 1)), Is (.bool ak), Is (.bool ai), Is (.bool ak)]
                    (by kernel_rfl) (fun W W' h hb => hb.trans (h.mono hb.size)) ?_ ?_ ?_
                  · intro f hf
                    simp only [List.mem_cons, List.not_mem_nil, or_false] at hf
                    rcases hf with rfl | rfl | rfl | rfl | rfl | rfl | rfl | rfl | rfl | rfl | rfl | rfl | rfl | rfl <;> intro x W W' h hr <;> first | exact h
                  · refine ⟨?_, ?_, ?_, ?_, ?_, ?_, ?_, ?_, ?_, ?_, ?_, ?_, ?_, ?_, trivial⟩
                    · intro L ax W hf hd
                      try simp [Region.binds] at hd
                      have e7 : ax.tmps[7]?.getD undef = .slice (some ⟨b1, o1, none⟩) xs.length q1 := hf.out 7 (by decide) rfl
                      refine ⟨fun _ => ?_, fun h => absurd trivial h⟩
                      refine free_run (v := .slice (some ⟨b1, o1, none⟩) xs.length q1) (W' := W) rfl ?_ rfl (Below.refl _ _)
                      go_simp
                    · intro L ax W hf hd
                      try simp [Region.binds] at hd
                      have e12 : ax.tmps[12]?.getD undef = .int .i64 (i1 : Int) := hf.out 12 (by decide) rfl
                      refine ⟨fun _ => ?_, fun h => absurd trivial h⟩
                      refine free_run (v := .int .i64 (i1 : Int)) (W' := W) rfl ?_ rfl (Below.refl _ _)
                      go_simp
                    · intro L ax W hf hd
                      simp [Region.binds] at hd
                      have e125 : ax.tmps[125]?.getD undef = .slice (some ⟨b1, o1, none⟩) xs.length q1 := slv (hf.got 0 (by decide) (by simp [hd]))
                      have e126 : ax.tmps[126]?.getD undef = .int .i64 (i1 : Int) := slv (hf.got 1 (by decide) (by simp [hd]))
                      refine ⟨fun _ => ?_, fun h => absurd trivial h⟩
                      refine free_run (v := .pointer (some ⟨b1, o1 + i1 * 4, none⟩)) (W' := W) rfl ?_ rfl (Below.refl _ _)
                      go_simp
                    · intro L ax W hf hd
                      simp [Region.binds] at hd
                      have e127 : ax.tmps[127]?.getD undef = .pointer (some ⟨b1, o1 + i1 * 4, none⟩) := slv (hf.got 2 (by decide) (by simp [hd]))
                      refine ⟨fun _ => ?_, fun h => absurd trivial h⟩
                      have h1 := (row?_below _ _ _ hf.below hbm).trans hriM
                      refine free_run (v := .agg (regA gi)) (W' := W) rfl ?_ rfl (Below.refl _ _)
                      go_simp
                    · intro L ax W hf hd
                      try simp [Region.binds] at hd
                      have e16 : ax.tmps[16]?.getD undef = .int .i64 ((m : Int) + 1) := hf.out 16 (by decide) rfl
                      refine ⟨fun _ => ?_, fun h => absurd trivial h⟩
                      refine free_run (v := .int .i64 ((m : Int) + 1)) (W' := W) rfl ?_ rfl (Below.refl _ _)
                      go_simp
                    · intro L ax W hf hd
                      simp [Region.binds] at hd
                      have e128 : ax.tmps[128]?.getD undef = .agg (regA gi) := slv (hf.got 3 (by decide) (by simp [hd]))
                      have e129 : ax.tmps[129]?.getD undef = .int .i64 ((m : Int) + 1) := slv (hf.got 4 (by decide) (by simp [hd]))
                      refine ⟨fun _ => ?_, fun h => absurd trivial h⟩
                      refine free_call (f := 66) (args := #[.agg (regA gi), .int .i64 ((m : Int) + 1)]) rfl (by go_simp) ?_
                      refine (HA1 W hf.below).mono ?_
                      rintro e w' ⟨rfl, hb⟩
                      exact ⟨_, rfl, rfl, hb⟩
                    · intro L ax W hf hd
                      try simp [Region.binds] at hd
                      have e7 : ax.tmps[7]?.getD undef = .slice (some ⟨b1, o1, none⟩) xs.length q1 := hf.out 7 (by decide) rfl
                      refine ⟨fun _ => ?_, fun h => absurd trivial h⟩
                      refine free_run (v := .slice (some ⟨b1, o1, none⟩) xs.length q1) (W' := W) rfl ?_ rfl (Below.refl _ _)
                      go_simp
                    · intro L ax W hf hd
                      try simp [Region.binds] at hd
                      have e13 : ax.tmps[13]?.getD undef = .int .i64 (k1 : Int) := hf.out 13 (by decide) rfl
                      refine ⟨fun _ => ?_, fun h => absurd trivial h⟩
                      refine free_run (v := .int .i64 (k1 : Int)) (W' := W) rfl ?_ rfl (Below.refl _ _)
                      go_simp
                    · intro L ax W hf hd
                      simp [Region.binds] at hd
                      have e131 : ax.tmps[131]?.getD undef = .slice (some ⟨b1, o1, none⟩) xs.length q1 := slv (hf.got 6 (by decide) (by simp [hd]))
                      have e132 : ax.tmps[132]?.getD undef = .int .i64 (k1 : Int) := slv (hf.got 7 (by decide) (by simp [hd]))
                      refine ⟨fun _ => ?_, fun h => absurd trivial h⟩
                      refine free_run (v := .pointer (some ⟨b1, o1 + k1 * 4, none⟩)) (W' := W) rfl ?_ rfl (Below.refl _ _)
                      go_simp
                    · intro L ax W hf hd
                      simp [Region.binds] at hd
                      have e133 : ax.tmps[133]?.getD undef = .pointer (some ⟨b1, o1 + k1 * 4, none⟩) := slv (hf.got 8 (by decide) (by simp [hd]))
                      refine ⟨fun _ => ?_, fun h => absurd trivial h⟩
                      have h1 := (row?_below _ _ _ hf.below hbm).trans hrkM
                      refine free_run (v := .agg (regA ⟨⟨some ⟨bm, om, none⟩, rk.members.length, mc⟩, gk1, gk2, gkc⟩)) (W' := W) rfl ?_ rfl (Below.refl _ _)
                      go_simp
                    · intro L ax W hf hd
                      try simp [Region.binds] at hd
                      have e16 : ax.tmps[16]?.getD undef = .int .i64 ((m : Int) + 1) := hf.out 16 (by decide) rfl
                      refine ⟨fun _ => ?_, fun h => absurd trivial h⟩
                      refine free_run (v := .int .i64 ((m : Int) + 1)) (W' := W) rfl ?_ rfl (Below.refl _ _)
                      go_simp
                    · intro L ax W hf hd
                      simp [Region.binds] at hd
                      have e134 : ax.tmps[134]?.getD undef = .agg (regA ⟨⟨some ⟨bm, om, none⟩, rk.members.length, mc⟩, gk1, gk2, gkc⟩) := slv (hf.got 9 (by decide) (by simp [hd]))
                      have e135 : ax.tmps[135]?.getD undef = .int .i64 ((m : Int) + 1) := slv (hf.got 10 (by decide) (by simp [hd]))
                      refine ⟨fun _ => ?_, fun h => absurd trivial h⟩
                      refine free_call (f := 66) (args := #[.agg (regA ⟨⟨some ⟨bm, om, none⟩, rk.members.length, mc⟩, gk1, gk2, gkc⟩), .int .i64 ((m : Int) + 1)]) rfl (by go_simp) ?_
                      refine (HA2 W hf.below).mono ?_
                      rintro e w' ⟨rfl, hb⟩
                      exact ⟨_, rfl, rfl, hb⟩
                    · intro L ax W hf hd
                      simp [Region.binds] at hd
                      have e130 : ax.tmps[130]?.getD undef = .bool ai := slv (hf.got 5 (by decide) (by simp [hd]))
                      refine ⟨fun _ => ?_, fun h => absurd trivial h⟩
                      refine free_run (v := .bool ai) (W' := W) rfl ?_ rfl (Below.refl _ _)
                      go_simp
                    · intro L ax W hf hd
                      simp [Region.binds] at hd
                      have e136 : ax.tmps[136]?.getD undef = .bool ak := slv (hf.got 11 (by decide) (by simp [hd]))
                      refine ⟨fun _ => ?_, fun h => absurd trivial h⟩
                      refine free_run (v := .bool ak) (W' := W) rfl ?_ rfl (Below.refl _ _)
                      go_simp
                  · intro vs W' hl' hF hb
                    obtain ⟨g', hg1, hg2⟩ := vs_lit vs hl' hF
                    have e17 : g' 12 = .bool ai := hg2 12 (by decide)
                    have e18 : g' 13 = .bool ak := hg2 13 (by decide)
                    rw [hg1]
                    have hB5 := Lib.hid (hB4.out.trans (hb.mono hB4.out.size))
                    have ukN := (hb.cell (p := ⟨b1, o1 + k1 * 4, none⟩) hbm).trans ukM'
                    have mstN := (hb.cell (p := ⟨bm, om + m * 35 + 32, none⟩) hbmm).trans mst
                    clear hF hg1 hg2 hl' hb HA1 HA2 hriM hrkM ukM' mst hB4
                    simp only [List.length_cons, List.length_nil, Nat.reduceAdd, show List.range 14 = [0, 1, 2, 3, 4, 5, 6, 7, 8, 9, 10, 11, 12, 13] from rfl, List.map_cons, List.map_nil, putL, List.zip_cons_cons, List.zip_nil_right, List.setIfInBounds_toArray, List.set_cons_succ, List.set_cons_zero, e17, e18]
                    cases ai <;> cases ak
                    all_goals
                      simp only [Bool.not_true, Bool.not_false, Bool.and_true, Bool.and_false, Bool.true_and, Bool.false_and, Bool.false_eq_true, if_false, if_true, Nat.add_zero] at Hin2 Hout2
                      go_wp2_with fail
                      go_roundw
                      case rel => exact ⟨m + 1, hms.out, by first | (rw [Hin2.out]; done) | (rw [Hin2.out, Int.natCast_add]), by first | (rw [Hout2.out]; done) | (rw [Hout2.out, Int.natCast_add]), by go_num, hB5⟩
                      case measure =>
                        have := hms.out
                        simp [intOf]
                        omega
                · obtain rfl : m = rk.members.length := by omega
                  obtain ⟨ia, ib⟩ := in_le (a := ri) hPk.out rk.members.length (Nat.le_refl _)
                  generalize sumTo (inT ri rk) rk.members.length = I at *
                  generalize sumTo (outT ri rk) rk.members.length = O at *
                  have nlt : ¬ ((rk.members.length : Int) + 1 ≤ (rk.members.length : Int)) := by omega
                  have hBy := Lib.hid (hBx.out.trans (hB4.out.mono hBx.out.size))
                  have hB35' := Lib.hid (hB4.out.mono hB3k.out.size)
                  have hchw := (hBy.out.cell (p := ⟨w.heap.size, 34, none⟩) hal).trans hc34
                  have hekw := (hBy.out.cell (p := ⟨b2, o2 + k1, none⟩) hb2).trans hek.out
                  have heiw := (hBy.out.cell (p := ⟨b2, o2 + i1, none⟩) hb2).trans hei.out
                  have hgc' := Lib.hid hgc
                  have hk1s := Lib.hid (show k1 + 1 ≤ xs.length from hkx)
                  clear hriM hrkM hB4 hgc
                  go_upto_if 174 with fail
                  go_cut [19] from 109 to 194 (fun u W => ∃ M : Nat, u = .int .u64 M ∧ Hid (M ≤ (ek.toNat - ei.toNat) * a.churn.toNat) ∧ M ≤ 274877906944 ∧ W = wr)
                  case first =>
                    clear hchw hekw heiw
                    by_cases hOI : (I : Int) < (O : Int)
                    · go_wp2_with fail
                      go_meet
                      exact ⟨O, rfl, hO, ib, rfl⟩
                    · go_wp2_with fail
                      go_meet
                      exact ⟨I, rfl, hI, ia, rfl⟩
                  case rest =>
                    obtain ⟨M, rfl, hM, hM38, hwc⟩ := hcut
                    subst hwc
                    have hq1' := hle.out
                    have hlt2 := Lib.hid hc1.out
                    rw [hgc'.out] at hchw
                    obtain ⟨E, hE⟩ : ∃ E, E = ek.toNat := ⟨_, rfl⟩
                    obtain ⟨F, hF⟩ : ∃ F, F = ei.toNat := ⟨_, rfl⟩
                    obtain ⟨C, hC⟩ : ∃ C, C = a.churn.toNat := ⟨_, rfl⟩
                    have hE64 := UInt64.toNat_lt ek
                    rw [← hE] at hekw hM hq1' hE64
                    rw [← hF] at heiw hM hq1'
                    rw [← hC] at hchw hM hlt2
                    replace hE := Lib.hid hE
                    replace hF := Lib.hid hF
                    replace hC := Lib.hid hC
                    replace hE64 := Lib.hid hE64
                    have hal9 := Nat.lt_of_lt_of_le hal hBy.out.size
                    have hb29 := Nat.lt_of_lt_of_le hb2 hBy.out.size
                    have R1 := hchw
                    have R2 := hekw
                    have R3 := heiw
                    have hB6 := Lib.hid (hB3k.out.trans hB35'.out)
                    clear hchw hekw heiw ukM' nlt hri2 hri3 hrk hI hO ia ib
                    go_upto_region 40 with fail
                    by_cases hM0 : M = 0
                    · subst hM0
                      clear R1 R2 R3
                      go_quiet (fail)
                      go_wp2_with fail
                      go_roundw
                      case rel => exact ⟨k1 + 1, by omega, hk1s.out, by go_num, Lib.hid (by have hB6 := hB6.out; (repeat' (first | (with_reducible exact Below.refl _ _) | (with_reducible assumption) | (with_reducible refine bel_trans (by assumption) ?_ ?_) | (with_reducible refine bel_grown (by assumption) ?_ ?_ ?_) | (with_reducible refine Below.alloc ?_ ?_ _) | (with_reducible refine Below.drew ?_) | (with_reducible refine below_drewN ?_ _) | (with_reducible refine Below.setCell ?_ ?_ _) | (with_reducible refine below_put ?_ ?_ _ _) | (with_reducible exact Nat.le_refl _) | omega | (with_reducible refine Nat.le_trans ?_ (Below.size (by assumption))) | (with_reducible refine Nat.le_trans ?_ (World.grownBy.size (by assumption))) | (simp only [World.size_alloc, World.size_setCell, World.size_drew, size_drewN]; omega) | (simp only [World.size_alloc, World.size_setCell, World.size_drew, size_drewN, size_put]; omega) | (intro k hk; simp [Value.ownBlock] at hk; done) | (intro k hk; simp [Value.ownBlock] at hk; omega) | (simp [size_drewN] at *; omega))))⟩
                      case measure =>
                        have := hk1s.out
                        simp [intOf]
                        omega
                    · have hC1 := hlt2.out
                      have hE6 := hE64.out
                      have hfin := most_lt (Nat.pos_of_ne_zero hM0) hC1 hM.out
                      obtain ⟨M1, hM1⟩ : ∃ x, x = M - 1 := ⟨_, rfl⟩
                      obtain ⟨E1, hE1⟩ : ∃ x, x = E - F := ⟨_, rfl⟩
                      obtain ⟨Q, hQ⟩ : ∃ x, x = M1 / C := ⟨_, rfl⟩
                      rw [← hM1, ← hE1, ← hQ] at hfin
                      have m1 : IntKind.u64.wrap ((M : Int) - 1) = (M1 : Int) := by rw [IntKind.wrap_u64]; omega
                      have m2 : IntKind.u64.wrap ((E : Int) - (F : Int)) = (E1 : Int) := by rw [IntKind.wrap_u64]; omega
                      have m3 : Int.tdiv (M1 : Int) (C : Int) = (Q : Int) := by rw [hQ]; rfl
                      have m4 : ¬ (E1 : Int) ≤ (Q : Int) := by omega
                      have d0 : (0 : Int) < (M : Int) := by omega
                      have c0' : ¬ (C : Int) = 0 := by omega
                      have cN : ¬ C = 0 := by omega
                      have d0N : 0 < M := by omega
                      have m5 : IntKind.u64.wrap (Q : Int) = (Q : Int) := by rw [IntKind.wrap_u64]; omega
                      clear hM0 hC1 hE6 hM38 hM1 hE1 hQ hfin
                      refine wp_region_freeG_l (fun W W' => Below W.heap.size W W') (by kernel_rfl) [176, 177, 178, 179, 180, 181, 182, 183, 184, 185, 186, 187, 188, 189, 190, 191, 192, 193, 194]
                        [Is (.int .u64 (M : Int)), Is (.bool true), Is (.bool true), Is (.int .u64 (M : Int)), Is (.int .u64 (M1 : Int)), Is (.pointer (some ⟨w.heap.size, 34, none⟩)), Is (.int .u64 (C : Int)), Is (.int .u64 (Q : Int)), Is (.slice (some ⟨b2, o2, none⟩) xs.length q2), Is (.int .i64 (k1 : Int)), Is (.pointer (some ⟨b2, o2 + k1, none⟩)), Is (.int .u64 (E : Int)), Is (.slice (some ⟨b2, o2, none⟩) xs.length q2), Is (.int .i64 (i1 : Int)), Is (.pointer (some ⟨b2, o2 + i1, none⟩)), Is (.int .u64 (F : Int)), Is (.int .u64 (E1 : Int)), Is (.bool false), Is (.bool false)]
                        (by kernel_rfl) (fun W W' h hb => hb.trans (h.mono hb.size)) ?_ ?_ ?_
                      · intro f hf
                        simp only [List.mem_cons, List.not_mem_nil, or_false] at hf
                        rcases hf with rfl | rfl | rfl | rfl | rfl | rfl | rfl | rfl | rfl | rfl | rfl | rfl | rfl | rfl | rfl | rfl | rfl | rfl | rfl <;> intro x W W' h hr <;> first | exact h
                      · refine ⟨?_, ?_, ?_, ?_, ?_, ?_, ?_, ?_, ?_, ?_, ?_, ?_, ?_, ?_, ?_, ?_, ?_, ?_, ?_, trivial⟩
                        · intro L ax W hf hd
                          try simp [Region.binds] at hd
                          have e19 : ax.tmps[19]?.getD undef = .int .u64 (M : Int) := hf.out 19 (by decide) rfl
                          refine ⟨fun _ => ?_, fun h => absurd trivial h⟩
                          refine free_run (v := .int .u64 (M : Int)) (W' := W) rfl ?_ rfl (Below.refl _ _)
                          go_simp
                        · intro L ax W hf hd
                          simp [Region.binds] at hd
                          have e176 : ax.tmps[176]?.getD undef = .int .u64 (M : Int) := slv (hf.got 0 (by decide) (by simp [hd]))
                          refine ⟨fun _ => ?_, fun h => absurd trivial h⟩
                          refine free_run (v := .bool true) (W' := W) rfl ?_ rfl (Below.refl _ _)
                          go_simp
                        · intro L ax W hf hd
                          simp [Region.binds] at hd
                          have e177 : ax.tmps[177]?.getD undef = .bool true := slv (hf.got 1 (by decide) (by simp [hd]))
                          refine ⟨fun _ => ?_, fun h => absurd trivial h⟩
                          refine free_run (v := .bool true) (W' := W) rfl ?_ rfl (Below.refl _ _)
                          go_simp
                        · intro L ax W hf hd
                          simp [Region.binds] at hd
                          have e19 : ax.tmps[19]?.getD undef = .int .u64 (M : Int) := hf.out 19 (by decide) rfl
                          have g0 : sl ax 178 = .bool true := hf.got 2 (by decide) (by simp [hd])
                          refine ⟨fun hh => ?_, fun hh => ?_⟩
                          · first
                              | (exact absurd (g0.symm.trans hh) (undef_ne _))
                              | (exact absurd (g0.symm.trans hh) (bool_ne (by decide)))
                              | (exfalso; revert hh; simp [Held, g0, *]; done)
                              | (refine free_run (v := .int .u64 (M : Int)) (W' := W) rfl ?_ rfl (Below.refl _ _); go_simp)
                          · first
                              | (exact absurd g0 hh)
                              | (exfalso; revert hh; simp [Held, g0, *]; done)
                              | (show undef = _; first | rfl | (simp [*]; done))
                        · intro L ax W hf hd
                          simp [Region.binds] at hd
                          have e179 : ax.tmps[179]?.getD undef = .int .u64 (M : Int) := slv (hf.got 3 (by decide) (by simp [hd]))
                          have g0 : sl ax 178 = .bool true := hf.got 2 (by decide) (by simp [hd])
                          refine ⟨fun hh => ?_, fun hh => ?_⟩
                          · first
                              | (exact absurd (g0.symm.trans hh) (undef_ne _))
                              | (exact absurd (g0.symm.trans hh) (bool_ne (by decide)))
                              | (exfalso; revert hh; simp [Held, g0, *]; done)
                              | (refine free_run (v := .int .u64 (M1 : Int)) (W' := W) rfl ?_ rfl (Below.refl _ _); go_simp)
                          · first
                              | (exact absurd g0 hh)
                              | (exfalso; revert hh; simp [Held, g0, *]; done)
                              | (show undef = _; first | rfl | (simp [*]; done))
                        · intro L ax W hf hd
                          simp [Region.binds] at hd
                          have e2 : ax.tmps[2]?.getD undef = .pointer (some ⟨w.heap.size, 0, none⟩) := hf.out 2 (by decide) rfl
                          have g0 : sl ax 178 = .bool true := hf.got 2 (by decide) (by simp [hd])
                          refine ⟨fun hh => ?_, fun hh => ?_⟩
                          · first
                              | (exact absurd (g0.symm.trans hh) (undef_ne _))
                              | (exact absurd (g0.symm.trans hh) (bool_ne (by decide)))
                              | (exfalso; revert hh; simp [Held, g0, *]; done)
                              | (refine free_run (v := .pointer (some ⟨w.heap.size, 34, none⟩)) (W' := W) rfl ?_ rfl (Below.refl _ _); go_simp)
                          · first
                              | (exact absurd g0 hh)
                              | (exfalso; revert hh; simp [Held, g0, *]; done)
                              | (show undef = _; first | rfl | (simp [*]; done))
                        · intro L ax W hf hd
                          simp [Region.binds] at hd
                          have e181 : ax.tmps[181]?.getD undef = .pointer (some ⟨w.heap.size, 34, none⟩) := slv (hf.got 5 (by decide) (by simp [hd]))
                          have g0 : sl ax 178 = .bool true := hf.got 2 (by decide) (by simp [hd])
                          refine ⟨fun hh => ?_, fun hh => ?_⟩
                          · first
                              | (exact absurd (g0.symm.trans hh) (undef_ne _))
                              | (exact absurd (g0.symm.trans hh) (bool_ne (by decide)))
                              | (exfalso; revert hh; simp [Held, g0, *]; done)
                              | ((have h1 := (hf.below.cell (p := ⟨w.heap.size, 34, none⟩) hal9).trans R1); refine free_run (v := .int .u64 (C : Int)) (W' := W) rfl ?_ rfl (Below.refl _ _); go_simp)
                          · first
                              | (exact absurd g0 hh)
                              | (exfalso; revert hh; simp [Held, g0, *]; done)
                              | (show undef = _; first | rfl | (simp [*]; done))
                        · intro L ax W hf hd
                          simp [Region.binds] at hd
                          have e180 : ax.tmps[180]?.getD undef = .int .u64 (M1 : Int) := slv (hf.got 4 (by decide) (by simp [hd]))
                          have e182 : ax.tmps[182]?.getD undef = .int .u64 (C : Int) := slv (hf.got 6 (by decide) (by simp [hd]))
                          have g0 : sl ax 178 = .bool true := hf.got 2 (by decide) (by simp [hd])
                          refine ⟨fun hh => ?_, fun hh => ?_⟩
                          · first
                              | (exact absurd (g0.symm.trans hh) (undef_ne _))
                              | (exact absurd (g0.symm.trans hh) (bool_ne (by decide)))
                              | (exfalso; revert hh; simp [Held, g0, *]; done)
                              | (refine free_run (v := .int .u64 (Q : Int)) (W' := W) rfl ?_ rfl (Below.refl _ _); go_simp)
                          · first
                              | (exact absurd g0 hh)
                              | (exfalso; revert hh; simp [Held, g0, *]; done)
                              | (show undef = _; first | rfl | (simp [*]; done))
                        · intro L ax W hf hd
                          simp [Region.binds] at hd
                          have e8 : ax.tmps[8]?.getD undef = .slice (some ⟨b2, o2, none⟩) xs.length q2 := hf.out 8 (by decide) rfl
                          have g0 : sl ax 178 = .bool true := hf.got 2 (by decide) (by simp [hd])
                          refine ⟨fun hh => ?_, fun hh => ?_⟩
                          · first
                              | (exact absurd (g0.symm.trans hh) (undef_ne _))
                              | (exact absurd (g0.symm.trans hh) (bool_ne (by decide)))
                              | (exfalso; revert hh; simp [Held, g0, *]; done)
                              | (refine free_run (v := .slice (some ⟨b2, o2, none⟩) xs.length q2) (W' := W) rfl ?_ rfl (Below.refl _ _); go_simp)
                          · first
                              | (exact absurd g0 hh)
                              | (exfalso; revert hh; simp [Held, g0, *]; done)
                              | (show undef = _; first | rfl | (simp [*]; done))
                        · intro L ax W hf hd
                          simp [Region.binds] at hd
                          have e13 : ax.tmps[13]?.getD undef = .int .i64 (k1 : Int) := hf.out 13 (by decide) rfl
                          have g0 : sl ax 178 = .bool true := hf.got 2 (by decide) (by simp [hd])
                          refine ⟨fun hh => ?_, fun hh => ?_⟩
                          · first
                              | (exact absurd (g0.symm.trans hh) (undef_ne _))
                              | (exact absurd (g0.symm.trans hh) (bool_ne (by decide)))
                              | (exfalso; revert hh; simp [Held, g0, *]; done)
                              | (refine free_run (v := .int .i64 (k1 : Int)) (W' := W) rfl ?_ rfl (Below.refl _ _); go_simp)
                          · first
                              | (exact absurd g0 hh)
                              | (exfalso; revert hh; simp [Held, g0, *]; done)
                              | (show undef = _; first | rfl | (simp [*]; done))
                        · intro L ax W hf hd
                          simp [Region.binds] at hd
                          have e184 : ax.tmps[184]?.getD undef = .slice (some ⟨b2, o2, none⟩) xs.length q2 := slv (hf.got 8 (by decide) (by simp [hd]))
                          have e185 : ax.tmps[185]?.getD undef = .int .i64 (k1 : Int) := slv (hf.got 9 (by decide) (by simp [hd]))
                          have g0 : sl ax 178 = .bool true := hf.got 2 (by decide) (by simp [hd])
                          refine ⟨fun hh => ?_, fun hh => ?_⟩
                          · first
                              | (exact absurd (g0.symm.trans hh) (undef_ne _))
                              | (exact absurd (g0.symm.trans hh) (bool_ne (by decide)))
                              | (exfalso; revert hh; simp [Held, g0, *]; done)
                              | (refine free_run (v := .pointer (some ⟨b2, o2 + k1, none⟩)) (W' := W) rfl ?_ rfl (Below.refl _ _); go_simp)
                          · first
                              | (exact absurd g0 hh)
                              | (exfalso; revert hh; simp [Held, g0, *]; done)
                              | (show undef = _; first | rfl | (simp [*]; done))
                        · intro L ax W hf hd
                          simp [Region.binds] at hd
                          have e186 : ax.tmps[186]?.getD undef = .pointer (some ⟨b2, o2 + k1, none⟩) := slv (hf.got 10 (by decide) (by simp [hd]))
                          have g0 : sl ax 178 = .bool true := hf.got 2 (by decide) (by simp [hd])
                          refine ⟨fun hh => ?_, fun hh => ?_⟩
                          · first
                              | (exact absurd (g0.symm.trans hh) (undef_ne _))
                              | (exact absurd (g0.symm.trans hh) (bool_ne (by decide)))
                              | (exfalso; revert hh; simp [Held, g0, *]; done)
                              | ((have h1 := (hf.below.cell (p := ⟨b2, o2 + k1, none⟩) hb29).trans R2); refine free_run (v := .int .u64 (E : Int)) (W' := W) rfl ?_ rfl (Below.refl _ _); go_simp)
                          · first
                              | (exact absurd g0 hh)
                              | (exfalso; revert hh; simp [Held, g0, *]; done)
                              | (show undef = _; first | rfl | (simp [*]; done))
                        · intro L ax W hf hd
                          simp [Region.binds] at hd
                          have e8 : ax.tmps[8]?.getD undef = .slice (some ⟨b2, o2, none⟩) xs.length q2 := hf.out 8 (by decide) rfl
                          have g0 : sl ax 178 = .bool true := hf.got 2 (by decide) (by simp [hd])
                          refine ⟨fun hh => ?_, fun hh => ?_⟩
                          · first
                              | (exact absurd (g0.symm.trans hh) (undef_ne _))
                              | (exact absurd (g0.symm.trans hh) (bool_ne (by decide)))
                              | (exfalso; revert hh; simp [Held, g0, *]; done)
                              | (refine free_run (v := .slice (some ⟨b2, o2, none⟩) xs.length q2) (W' := W) rfl ?_ rfl (Below.refl _ _); go_simp)
                          · first
                              | (exact absurd g0 hh)
                              | (exfalso; revert hh; simp [Held, g0, *]; done)
                              | (show undef = _; first | rfl | (simp [*]; done))
                        · intro L ax W hf hd
                          simp [Region.binds] at hd
                          have e12 : ax.tmps[12]?.getD undef = .int .i64 (i1 : Int) := hf.out 12 (by decide) rfl
                          have g0 : sl ax 178 = .bool true := hf.got 2 (by decide) (by simp [hd])
                          refine ⟨fun hh => ?_, fun hh => ?_⟩
                          · first
                              | (exact absurd (g0.symm.trans hh) (undef_ne _))
                              | (exact absurd (g0.symm.trans hh) (bool_ne (by decide)))
                              | (exfalso; revert hh; simp [Held, g0, *]; done)
                              | (refine free_run (v := .int .i64 (i1 : Int)) (W' := W) rfl ?_ rfl (Below.refl _ _); go_simp)
                          · first
                              | (exact absurd g0 hh)
                              | (exfalso; revert hh; simp [Held, g0, *]; done)
                              | (show undef = _; first | rfl | (simp [*]; done))
                        · intro L ax W hf hd
                          simp [Region.binds] at hd
                          have e188 : ax.tmps[188]?.getD undef = .slice (some ⟨b2, o2, none⟩) xs.length q2 := slv (hf.got 12 (by decide) (by simp [hd]))
                          have e189 : ax.tmps[189]?.getD undef = .int .i64 (i1 : Int) := slv (hf.got 13 (by decide) (by simp [hd]))
                          have g0 : sl ax 178 = .bool true := hf.got 2 (by decide) (by simp [hd])
                          refine ⟨fun hh => ?_, fun hh => ?_⟩
                          · first
                              | (exact absurd (g0.symm.trans hh) (undef_ne _))
                              | (exact absurd (g0.symm.trans hh) (bool_ne (by decide)))
                              | (exfalso; revert hh; simp [Held, g0, *]; done)
                              | (refine free_run (v := .pointer (some ⟨b2, o2 + i1, none⟩)) (W' := W) rfl ?_ rfl (Below.refl _ _); go_simp)
                          · first
                              | (exact absurd g0 hh)
                              | (exfalso; revert hh; simp [Held, g0, *]; done)
                              | (show undef = _; first | rfl | (simp [*]; done))
                        · intro L ax W hf hd
                          simp [Region.binds] at hd
                          have e190 : ax.tmps[190]?.getD undef = .pointer (some ⟨b2, o2 + i1, none⟩) := slv (hf.got 14 (by decide) (by simp [hd]))
                          have g0 : sl ax 178 = .bool true := hf.got 2 (by decide) (by simp [hd])
                          refine ⟨fun hh => ?_, fun hh => ?_⟩
                          · first
                              | (exact absurd (g0.symm.trans hh) (undef_ne _))
                              | (exact absurd (g0.symm.trans hh) (bool_ne (by decide)))
                              | (exfalso; revert hh; simp [Held, g0, *]; done)
                              | ((have h1 := (hf.below.cell (p := ⟨b2, o2 + i1, none⟩) hb29).trans R3); refine free_run (v := .int .u64 (F : Int)) (W' := W) rfl ?_ rfl (Below.refl _ _); go_simp)
                          · first
                              | (exact absurd g0 hh)
                              | (exfalso; revert hh; simp [Held, g0, *]; done)
                              | (show undef = _; first | rfl | (simp [*]; done))
                        · intro L ax W hf hd
                          simp [Region.binds] at hd
                          have e187 : ax.tmps[187]?.getD undef = .int .u64 (E : Int) := slv (hf.got 11 (by decide) (by simp [hd]))
                          have e191 : ax.tmps[191]?.getD undef = .int .u64 (F : Int) := slv (hf.got 15 (by decide) (by simp [hd]))
                          have g0 : sl ax 178 = .bool true := hf.got 2 (by decide) (by simp [hd])
                          refine ⟨fun hh => ?_, fun hh => ?_⟩
                          · first
                              | (exact absurd (g0.symm.trans hh) (undef_ne _))
                              | (exact absurd (g0.symm.trans hh) (bool_ne (by decide)))
                              | (exfalso; revert hh; simp [Held, g0, *]; done)
                              | (refine free_run (v := .int .u64 (E1 : Int)) (W' := W) rfl ?_ rfl (Below.refl _ _); go_simp)
                          · first
                              | (exact absurd g0 hh)
                              | (exfalso; revert hh; simp [Held, g0, *]; done)
                              | (show undef = _; first | rfl | (simp [*]; done))
                        · intro L ax W hf hd
                          simp [Region.binds] at hd
                          have e183 : ax.tmps[183]?.getD undef = .int .u64 (Q : Int) := slv (hf.got 7 (by decide) (by simp [hd]))
                          have e192 : ax.tmps[192]?.getD undef = .int .u64 (E1 : Int) := slv (hf.got 16 (by decide) (by simp [hd]))
                          have g0 : sl ax 178 = .bool true := hf.got 2 (by decide) (by simp [hd])
                          refine ⟨fun hh => ?_, fun hh => ?_⟩
                          · first
                              | (exact absurd (g0.symm.trans hh) (undef_ne _))
                              | (exact absurd (g0.symm.trans hh) (bool_ne (by decide)))
                              | (exfalso; revert hh; simp [Held, g0, *]; done)
                              | (refine free_run (v := .bool false) (W' := W) rfl ?_ rfl (Below.refl _ _); go_simp)
                          · first
                              | (exact absurd g0 hh)
                              | (exfalso; revert hh; simp [Held, g0, *]; done)
                              | (show undef = _; first | rfl | (simp [*]; done))
                        · intro L ax W hf hd
                          simp [Region.binds] at hd
                          have e178 : ax.tmps[178]?.getD undef = .bool true := slv (hf.got 2 (by decide) (by simp [hd]))
                          have e193 : ax.tmps[193]?.getD undef = .bool false := slv (hf.got 17 (by decide) (by simp [hd]))
                          refine ⟨fun _ => ?_, fun h => absurd trivial h⟩
                          refine free_run (v := .bool false) (W' := W) rfl ?_ rfl (Below.refl _ _)
                          go_simp
                      · intro vs W' hl' hF hb
                        obtain ⟨g', hg1, hg2⟩ := vs_lit vs hl' hF
                        have e194 : g' 18 = .bool false := hg2 18 (by decide)
                        rw [hg1]
                        have hB7 := Lib.hid (hB6.out.trans (hb.mono hB6.out.size))
                        clear hF hg1 hg2 hl' hb
                        simp only [List.length_cons, List.length_nil, Nat.reduceAdd, show List.range 19 = [0, 1, 2, 3, 4, 5, 6, 7, 8, 9, 10, 11, 12, 13, 14, 15, 16, 17, 18] from rfl, List.map_cons, List.map_nil, putL, List.zip_cons_cons, List.zip_nil_right, List.setIfInBounds_toArray, List.set_cons_succ, List.set_cons_zero, e194]
                        go_wp2_with fail
                        go_roundw
                        case rel => exact ⟨k1 + 1, by omega, hk1s.out, by go_num, hB7⟩
                        case measure =>
                          have := hk1s.out
                          simp [intOf]
                          omega
            · have hk2 : ¬ (k1 : Int) < (xs.length : Int) := by omega
              have hB9 := Lib.hid (hB2.out.trans (hB3k.out.mono hB2.out.size))
              go_wp2_with fail
              go_roundw
              case rel => exact ⟨i1 + 1, hil.out, by go_num, hB9⟩
              case measure =>
                have := hil.out
                simp [intOf]
                omega
        · have HKx := HK wr
          have hi2 : ¬ (i1 : Int) < (xs.length : Int) := by omega
          have hBz := Lib.hid (hB3.out.trans (hBx3.out.trans (hB1.out.mono (Nat.le_trans hB3.out.size hBx3.out.size))))
          go_wp2_with (go_at_call 55; (with_reducible refine (HK _).mono ?_); rintro e w5 ⟨rfl, hb5⟩)
          go_ret
          exact ⟨rfl, hBz.out.trans (hb5.mono hBz.out.size)⟩
end Go.Proofs.Ytkocpihfdpahpaa
