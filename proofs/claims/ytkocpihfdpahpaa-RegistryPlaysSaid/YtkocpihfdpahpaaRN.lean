/- Texts of this proof, one behind the other: Plays. -/
import Derived.Test.YtkocpihfdpahpaaRM
import Derived.Test.YtkocpihfdpahpaaRK
import Derived.Test.YtkocpihfdpahpaaRL
import Derived.Test.YtkocpihfdpahpaaRE
import Derived.Deep.RegionHeld3
import Derived.Deep.CutRange
set_option linter.unusedVariables false
set_option linter.unusedSimpArgs false
/- The walk of landmarklaw11.RegistryPlays. -/
namespace Go.Proofs.Ytkocpihfdpahpaa
open Go.RowKit

/-- a register's variable; its memory does not hang on this one nor on another one -/
structure PVar (W : World) (p q : Nat) (g : GReg) (r : Reg) : Prop where
  row : row? W p 0 4 = some (regA g)
  thr : there W p 0 4
  mem : RegM (fun k => k = p ∨ k = q) W g r
theorem PVar.lt {W : World} {p q : Nat} {g : GReg} {r : Reg} (h : PVar W p q g r) : p < W.heap.size := lt_of_row h.row
theorem PVar.keep {W W' : World} {p q : Nat} {g : GReg} {r : Reg} (h : PVar W p q g r) (hb : Below W.heap.size W W') : PVar W' p q g r := ⟨(row?_below _ _ _ hb h.lt).trans h.row, there_below hb h.lt h.thr, h.mem.keep hb⟩
theorem regM_put {W : World} {M : Nat → Prop} {g : GReg} {r : Reg} (h : RegM M W g r) {p : Nat} (hp : M p) (xs : Array Value) : RegM M (putRow W p 0 xs) g r :=
  h.step (by rw [size_put]; exact Nat.le_refl _) (fun k hk _ => put_far _ _ _ _ k fun e => hk (e ▸ hp)) fun _ _ h => h
theorem PVar.set {W : World} {p q : Nat} {g g' : GReg} {r r' : Reg} (h : PVar W p q g r) (h' : RegM (fun k => k = p ∨ k = q) W g' r') : PVar (putRow W p 0 (regA g')) p q g' r' :=
  ⟨row?_put_same _ _ _ _ _ (by rfl) (by omega) h.thr, there_put _ _ _ _ _ _ _ h.thr, regM_put h' (.inl rfl) _⟩
theorem PVar.other {W : World} {p q : Nat} {g : GReg} {r : Reg} (h : PVar W p q g r) (hpq : p ≠ q) (xs : Array Value) : PVar (putRow W q 0 xs) p q g r :=
  ⟨(row?_put_far _ _ _ _ _ _ _ hpq).trans h.row, there_put _ _ _ _ _ _ _ h.thr, regM_put h.mem (.inr rfl) _⟩
theorem RegAt.mem {B : Nat} {M : Nat → Prop} {W W' : World} {g : GReg} {r : Reg} (h : RegAt B W g r) (hb : Below W.heap.size W W') (hM : ∀ k, M k → k < B ∨ W.heap.size ≤ k) : RegM M W' g r := fun W2 h2 hb2 =>
  h W2 (Nat.le_trans hb.size h2) fun k h3 h4 => (hb2 k (fun hm => by rcases hM k hm with h | h <;> omega) (Nat.lt_of_lt_of_le h4 hb.size)).trans (hb.block k h4)
set_option maxRecDepth 100000 in
set_option maxHeartbeats 6400000 in
theorem plays_walk (g : GAnc) (a : Anc) (s : Sl) (l : List Hdr) (w : World) (ha : AncR w g a) (hl : HdrsR w s l) :
    Calls Try.prog 9 #[.agg (ancA g), s.v] w fun e w' => e = .returned (.bool true) ∧ Below w.heap.size w w' := by
  have HB0 := ABox.new w g a 113 ha
  have hB0 : Below w.heap.size w (w.alloc (.cells (ancA g) 113)) := bel_a _ _
  have hz0 : (w.alloc (.cells (ancA g) 113)).heap.size = w.heap.size + 1 := by simp
  have n1 := ha.2.1.1
  have n2 := hl.1
  have hep := ha.1
  have hHl := Lib.hid hl
  obtain ⟨gp, ⟨va, vn, vc⟩, gc, gd⟩ := g
  obtain ⟨sa, sn, sc⟩ := s
  simp only at n1 n2 hep
  subst n1 n2 hep
  clear ha hl
  show Calls Try.prog 9 #[.agg _, .slice sa l.length sc] w _
  go_enter Try.func9, Try.ntmps9
  go_upto_region 1 with fail
  generalize w.alloc (.cells (ancA ⟨a.point, ⟨va, a.vals.length, vc⟩, gc, gd⟩) 113) = W0 at *
  obtain ⟨_, c0, c33, _, _, _⟩ := HB0.cells
  have hrowA := HB0.row
  simp only at c0 c33
  dsimp only [Sl.v] at c33
  have HK := fun W => known11_c W
  by_cases s1 : (100 : Int) < (a.vals.length : Int)
  · go_wp2_with (go_at_call 55; (with_reducible refine (HK _).mono ?_); rintro e W4 ⟨rfl, hb4⟩)
    go_ret
    exact ⟨rfl, hB0.trans (hb4.mono (by omega))⟩
  by_cases s2 : (40 : Int) < (l.length : Int)
  · go_wp2_with (go_at_call 55; (with_reducible refine (HK _).mono ?_); rintro e W4 ⟨rfl, hb4⟩)
    go_ret
    exact ⟨rfl, hB0.trans (hb4.mono (by omega))⟩
  have hv1 : a.vals.length ≤ 1000000 := by omega
  have hl40 : l.length ≤ 1000000 := by omega
  have HF := first_c HB0.anc hv1
  have HFP := Lib.hid (show firstP a = if ancMay a then (firstReg a, 0) else (zeroReg, 2) from rfl)
  have hMayP := Lib.hid (show ancMay a = true → RegP (firstReg a) from first_may)
  go_wp2_with fail
  refine HF.mono ?_
  clear HF
  rintro e w2 ⟨g0, rfl, hR0, hb2⟩
  have hz2 := hb2.size
  have hA2 := HB0.keep hb2
  have hB2 := Lib.hid (hB0.trans (hb2.mono (by omega)))
  clear hb2 HB0 hB0 c0 c33 hrowA s1 s2
  obtain ⟨r0, hr0⟩ : ∃ r, r = (firstP a).1 := ⟨_, rfl⟩
  obtain ⟨e0, he0⟩ : ∃ c, c = (firstP a).2 := ⟨_, rfl⟩
  rw [← hr0] at hR0
  rw [← he0]
  replace hr0 := Lib.hid hr0
  replace he0 := Lib.hid he0
  go_upto_region 4 with fail
  obtain ⟨w3, hw3, hr3, ht3, hb3, hz3⟩ := box_reg w2 g0
  rw [← hw3]
  clear hw3
  obtain ⟨p5, hp5⟩ : ∃ p, p = w2.heap.size := ⟨_, rfl⟩
  rw [← hp5] at hr3 ht3 ⊢
  have hA3 := hA2.keep hb3
  have hB3 := Lib.hid (hB2.out.trans (hb3.mono (by omega)))
  have hwp : w.heap.size < p5 := by omega
  have hw3 : w.heap.size < w3.heap.size := by omega
  clear hA2 hB2 hz0
  have hrowA := hA3.row
  obtain ⟨rm, hrm⟩ : ∃ x, x = ancMay a := ⟨_, rfl⟩
  have HMA := fun W (hb : Below w3.heap.size w3 W) => rmayAnchor_c (hA3.keep hb).anc hv1
  have HMC := fun W (hb : Below w3.heap.size w3 W) => fmayAnchor_c (hA3.keep hb).anc hv1
  rw [← hrm] at HMA HMC
  replace hrm := Lib.hid hrm
  replace hp5 := Lib.hid hp5
  replace hR0 := Lib.hid hR0
  refine wp_region_freeG_l (fun W W' => Below W.heap.size W W') (by kernel_rfl) [29, 30, 31, 32, 33]
    [Is (.agg (ancA ⟨a.point, ⟨va, a.vals.length, vc⟩, gc, gd⟩)), Is (.bool rm), Is (.agg (ancA ⟨a.point, ⟨va, a.vals.length, vc⟩, gc, gd⟩)), Is (.bool rm), Is (.bool false)]
    (by kernel_rfl) (fun W W' h hb => hb.trans (h.mono hb.size)) ?_ ?_ ?_
  · intro f hf
    simp only [List.mem_cons, List.not_mem_nil, or_false] at hf
    rcases hf with rfl | rfl | rfl | rfl | rfl <;> intro x W W' h hr <;> first | exact h
  · refine ⟨?_, ?_, ?_, ?_, ?_, trivial⟩
    · intro L ax W hf hd
      try simp [Region.binds] at hd
      have e2 : ax.tmps[2]?.getD undef = .pointer (some ⟨w.heap.size, 0, none⟩) := hf.out 2 (by decide) rfl
      refine ⟨fun _ => ?_, fun h => absurd trivial h⟩
      have h1 := (row?_below _ _ _ hf.below hw3).trans hrowA
      refine free_run (v := .agg (ancA ⟨a.point, ⟨va, a.vals.length, vc⟩, gc, gd⟩)) (W' := W) rfl ?_ rfl (Below.refl _ _)
      go_simp
    · intro L ax W hf hd
      simp [Region.binds] at hd
      have e29 : ax.tmps[29]?.getD undef = .agg (ancA ⟨a.point, ⟨va, a.vals.length, vc⟩, gc, gd⟩) := slv (hf.got 0 (by decide) (by simp [hd]))
      refine ⟨fun _ => ?_, fun h => absurd trivial h⟩
      refine free_call (f := 62) (args := #[.agg (ancA ⟨a.point, ⟨va, a.vals.length, vc⟩, gc, gd⟩)]) rfl (by go_simp) ?_
      refine (HMA W hf.below).mono ?_
      rintro e w' ⟨rfl, hb⟩
      exact ⟨_, rfl, rfl, hb⟩
    · intro L ax W hf hd
      try simp [Region.binds] at hd
      have e2 : ax.tmps[2]?.getD undef = .pointer (some ⟨w.heap.size, 0, none⟩) := hf.out 2 (by decide) rfl
      refine ⟨fun _ => ?_, fun h => absurd trivial h⟩
      have h1 := (row?_below _ _ _ hf.below hw3).trans hrowA
      refine free_run (v := .agg (ancA ⟨a.point, ⟨va, a.vals.length, vc⟩, gc, gd⟩)) (W' := W) rfl ?_ rfl (Below.refl _ _)
      go_simp
    · intro L ax W hf hd
      simp [Region.binds] at hd
      have e31 : ax.tmps[31]?.getD undef = .agg (ancA ⟨a.point, ⟨va, a.vals.length, vc⟩, gc, gd⟩) := slv (hf.got 2 (by decide) (by simp [hd]))
      refine ⟨fun _ => ?_, fun h => absurd trivial h⟩
      refine free_call (f := 63) (args := #[.agg (ancA ⟨a.point, ⟨va, a.vals.length, vc⟩, gc, gd⟩)]) rfl (by go_simp) ?_
      refine (HMC W hf.below).mono ?_
      rintro e w' ⟨rfl, hb⟩
      exact ⟨_, rfl, rfl, hb⟩
    · intro L ax W hf hd
      simp [Region.binds] at hd
      have e30 : ax.tmps[30]?.getD undef = .bool rm := slv (hf.got 1 (by decide) (by simp [hd]))
      have e32 : ax.tmps[32]?.getD undef = .bool rm := slv (hf.got 3 (by decide) (by simp [hd]))
      refine ⟨fun _ => ?_, fun h => absurd trivial h⟩
      refine free_run (v := .bool false) (W' := W) rfl ?_ rfl (Below.refl _ _)
      go_simp
  · intro vs W' hl' hF hb
    obtain ⟨g', hg1, hg2⟩ := vs_lit vs hl' hF
    have e4 : g' 4 = .bool false := hg2 4 (by decide)
    rw [hg1]
    have hA4 := hA3.keep hb
    have hB4 := Lib.hid (hB3.out.trans (hb.mono (by omega)))
    have hb34 := Lib.hid (hb3.trans (hb.mono (by omega)))
    have hr4 := (row?_below _ _ _ hb (show p5 < w3.heap.size by have := hp5.out; omega)).trans hr3
    have ht4 := there_below hb (show p5 < w3.heap.size by have := hp5.out; omega) ht3
    have hz4 := hb.size
    clear hF hg1 hg2 hl' hb HMA HMC hr3 ht3 hA3 hB3 hrowA hb3
    simp only [List.length_cons, List.length_nil, Nat.reduceAdd, show List.range 5 = [0, 1, 2, 3, 4] from rfl, List.map_cons, List.map_nil, putL, List.zip_cons_cons, List.zip_nil_right, List.setIfInBounds_toArray, List.set_cons_succ, List.set_cons_zero, e4]
    rename World => w4
    have hw4 : w.heap.size < w4.heap.size := by omega
    have hrowA := hA4.row
    have HMC := fmayAnchor_c hA4.anc hv1
    rw [← hrm.out] at HMC
    cases rm
    · have hma := hrm.out.symm
      have hc : e0 = 2 := by rw [he0.out, HFP.out, hma]; rfl
      have hrz : r0 = zeroReg := by rw [hr0.out, HFP.out, hma]; rfl
      subst hc hrz
      have hn5 := hR0.out.reg.1.1
      obtain ⟨⟨x1, x2, x3⟩, y5, z5, k5⟩ := g0
      replace hn5 : x2 = 0 := hn5
      subst hn5
      clear hrm hma
      go_wp2_with fail
      refine HMC.mono ?_
      clear HMC
      rintro e w5 ⟨rfl, hb5⟩
      have hz5 := hb5.size
      have hr5 := (row?_below _ _ _ hb5 (show p5 < w4.heap.size by have := hp5.out; omega)).trans hr4
      have c0 := cell_of_row? hr5 0 (by omega)
      simp only [regA] at c0
      dsimp only [Sl.v] at c0
      have hB5 := Lib.hid (hB4.out.trans (hb5.mono (by omega)))
      clear hr4 ht4 hA4 hB4 hb5 hR0 hb34
      go_wp2_with (go_at_call 55; (with_reducible refine (HK _).mono ?_); rintro e W4 ⟨rfl, hb4⟩)
      go_ret
      exact ⟨rfl, hB5.out.trans (hb4.mono (by omega))⟩
    have hma := hrm.out.symm
    have hc : e0 = 0 := by rw [he0.out, HFP.out, hma]; rfl
    have hr : r0 = firstReg a := by rw [hr0.out, HFP.out, hma]; rfl
    have hP0 := Lib.hid (show RegP r0 by rw [hr]; exact hMayP.out hma)
    subst hc
    clear hma
    go_wp2_with fail
    refine HMC.mono ?_
    clear HMC
    rintro e w5 ⟨rfl, hb5⟩
    have hz5 := hb5.size
    have hb35 := Lib.hid (hb34.out.trans (hb5.mono (by omega)))
    have hr5 := (row?_below _ _ _ hb5 (show p5 < w4.heap.size by have := hp5.out; omega)).trans hr4
    have ht5 := there_below hb5 (show p5 < w4.heap.size by have := hp5.out; omega) ht4
    have hB5 := Lib.hid (hB4.out.trans (hb5.mono (by omega)))
    have hA5 := hA4.keep hb5
    clear hb5 hr4 ht4 hA4 hB4 hb34 hrowA
    have hrowA := hA5.row
    have HF := rfirst_c hA5.anc hv1
    rw [← hr] at HF
    replace hr := Lib.hid hr
    go_upto_region 8 with fail
    go_wp2_with fail
    refine HF.mono ?_
    clear HF
    rintro e w6 ⟨g1, rfl, hR1, hb6⟩
    have hz6 := hb6.size
    go_upto_region 9 with fail
    obtain ⟨w7, hw7, hr7, ht7, hb7, hz7⟩ := box_reg w6 g1
    rw [← hw7]
    clear hw7
    obtain ⟨p7, hp7⟩ : ∃ p, p = w6.heap.size := ⟨_, rfl⟩
    rw [← hp7] at hr7 ht7 ⊢
    have hb57 := hb6.trans (hb7.mono hz6)
    have h5w : p5 < w5.heap.size := by have := hp5.out; omega
    have hne : p5 ≠ p7 := by omega
    have hV5 : PVar w7 p5 p7 g0 r0 := ⟨(row?_below _ _ _ hb57 h5w).trans hr5, there_below hb57 h5w ht5, hR0.out.mem (hb35.out.trans (hb57.mono (by omega))) (fun k hk => by have := hp5.out; omega)⟩
    have hV7 : PVar w7 p7 p5 g1 r0 := ⟨hr7, ht7, hR1.mem hb7 (fun k hk => by omega)⟩
    have hB7 := Lib.hid (hB5.out.trans (hb57.mono (by omega)))
    have hA7 := hA5.keep hb57
    have hwp7 : w.heap.size < p7 := by omega
    clear hr7 ht7 hb57 hb6 hb7 hR0 hR1 hr5 ht5 hb35 hB5 hA5 hrowA hp7 hp5 hz7 hz6 hz5 hz4 hz3 hz2 h5w hr he0 hr0 HFP hMayP hrm hw3 hw4
    obtain ⟨_, c0, -, -, _, hAl⟩ := hA7.cells
    have hrowA := hA7.row
    simp only at c0
    have hrow5 := hV5.row
    have hrow7 := hV7.row
    obtain ⟨q1, q2, q3⟩ := stays_bounds hP0.out
    have HS := rsame_c hV5.mem.reg hV7.mem.reg q1 q2 q3
    rw [decide_eq_true rfl] at HS
    replace hV5 := Lib.hid hV5
    replace hV7 := Lib.hid hV7
    clear q1 q2 q3
    go_wp2_with fail
    refine HS.mono ?_
    clear HS
    rintro e w8 ⟨rfl, hb8⟩
    have hz8 := hb8.size
    have hV58 := Lib.hid (hV5.out.keep hb8)
    have hV78 := Lib.hid (hV7.out.keep hb8)
    have hB8 := Lib.hid (hB7.out.trans (hb8.mono (by have := hB7.out.size; omega)))
    have c08 := (hb8.cell (p := ⟨w.heap.size, 0, none⟩) hAl).trans c0
    clear hb8 hV5 hV7 hB7 hrow5 hrow7 hrowA hA7 c0 hAl hz8
    go_upto_region 13 with fail
    go_loopw [8, 9] (fun t i W' => ∃ (k : Nat) (rr : Reg) (gr gw : GReg) (en : UInt64), k ≤ l.length ∧ t = .int .u64 (en.toNat : Int) ∧ i = .int .i64 k ∧ Hid (RegP rr) ∧ Hid (PVar W' p5 p7 gr rr) ∧ Hid (PVar W' p7 p5 gw rr) ∧ Hid (Below w.heap.size w W')) (fun _ i _ => l.length - (intOf i).toNat)
    case atStart => exact ⟨0, r0, g0, g1, a.point.epoch, Nat.zero_le _, rfl, rfl, hP0, hV58, hV78, hB8⟩
    case round =>
      clear hV58 hV78 hP0 c08 hB8
      obtain ⟨k, rr, gr, gw, en, hk, rfl, rfl, hP, hV, hY, hB⟩ := hrel
      by_cases hkx : k < l.length
      · have hkl := Lib.hid (show k + 1 ≤ l.length from hkx)
        obtain ⟨bh, oh, e, hbh0, hch⟩ := hHl.out.at (by omega)
        have e1 := congrArg Sl.a e
        simp only at e1
        subst e1
        clear e
        obtain ⟨cs, hcx0, gg, rfl, hv0⟩ := hch k hkx
        clear hch
        have hcx := (row?_below _ _ _ hB.out hbh0).trans hcx0
        have hv1 := hv0.keep' hB.out
        have hbh : bh < wr.heap.size := Nat.lt_of_lt_of_le hbh0 hB.out.size
        clear hcx0 hv0
        generalize l[k] = h at *
        have k1 : (k : Int) < (l.length : Int) := by omega
        have hbw := hB.out.size
        have HMu := rmuch_c gg h wr hv1
        have hepg := Lib.hid hv1.2.1
        have hmo := Lib.hid (show rmuch h = false → HdrFits h ∧ h.ops.length ≤ 30 from fun e => rmuch_out e)
        generalize rmuch h = mu at *
        go_wp2_with fail
        refine HMu.mono ?_
        clear HMu
        rintro e w4' ⟨rfl, hb4⟩
        generalize w4' = w4 at *
        have hz4 := hb4.size
        have hV4 := Lib.hid (hV.out.keep hb4)
        have hY4 := Lib.hid (hY.out.keep hb4)
        have hB4 := Lib.hid (hB.out.trans (hb4.mono hbw))
        have hv4 := hv1.keep' hb4
        have hcx4 := (row?_below _ _ _ hb4 hbh).trans hcx
        have hbh4 : bh < w4.heap.size := by omega
        clear hb4 hV hY hv1 hcx hbh
        cases mu
        rotate_left
        · go_wp2_with (go_at_call 55; (with_reducible refine (HK _).mono ?_); rintro e w5 ⟨rfl, hb5⟩)
          go_ret
          exact ⟨rfl, hB4.out.trans (hb5.mono hB4.out.size)⟩
        obtain ⟨hfit, hop⟩ := hmo.out rfl
        clear hmo
        obtain ⟨q1, q2, q3⟩ := stays_bounds hP.out
        have hpl4 : p5 < w4.heap.size := hV4.out.lt
        have hpm4 : p7 < w4.heap.size := hY4.out.lt
        obtain ⟨nr, hnr⟩ : ∃ x, x = regNext rr h en := ⟨_, rfl⟩
        have HNX := fun W (hb : Below w4.heap.size w4 W) => next_c en (hV4.out.keep hb).mem.reg (hv4.keep' hb) q1 q2 q3 hfit
        rw [← hnr] at HNX
        replace hnr := Lib.hid hnr
        obtain ⟨wa, hwa⟩ : ∃ wa, wa = (w4.alloc (.cells #[.slice none 0 0, .slice none 0 0, .slice none 0 0, .int .u64 0] 103)).drew := ⟨_, rfl⟩
        have hba : Below w4.heap.size w4 wa := by rw [hwa]; exact (bel_a w4 _).drew
        have hza : wa.heap.size = w4.heap.size + 1 := by rw [hwa]; simp
        have hta : there wa w4.heap.size 0 4 := by rw [hwa]; exact there_new w4 _ _ 0 4 (by simp)
        have HNA := HNX w4.drew ((Below.refl _ w4).drew)
        have HNB := HNX wa hba
        have S0 : row? w4.drew p5 0 4 = some (regA gr) ∧ row? w4.drew bh (oh + k * 34) 34 = some (headerA gg) := ⟨hV4.out.row, hcx4⟩
        have S1 : row? wa p5 0 4 = some (regA gr) ∧ row? wa bh (oh + k * 34) 34 = some (headerA gg) := ⟨(row?_below _ _ _ hba hpl4).trans hV4.out.row, (row?_below _ _ _ hba hbh4).trans hcx4⟩
        have hwa' := hwa.symm
        clear HNX hwa
        obtain ⟨N, code⟩ := nr
        go_upto_region 17 with fail
        go_cut [10, 11] from 61 to 108 (fun u c W => ∃ (p10 : Nat) (gN : GReg), u = .pointer (some ⟨p10, 0, none⟩) ∧ c = .int .i64 code ∧ w4.heap.size ≤ p10 ∧ Hid (row? W p10 0 4 = some (regA gN)) ∧ Hid (RegM (fun k => k = p5 ∨ k = p7) W gN N) ∧ Hid (Below w4.heap.size w4 W))
        case first =>
          go_region_held3 (fun W => row? W p5 0 4 = some (regA gr) ∧ row? W bh (oh + k * 34) 34 = some (headerA gg))
            (first | go_keep | (with_reducible exact S0) | (with_reducible exact S1) | (rw [hwa']; with_reducible exact S1) | (with_reducible exact S6) | (with_reducible exact S7) | (with_reducible exact S8))
            (first
              | (go_simp; go_at_call 58; (with_reducible refine HNA.mono ?_); rintro e w6 ⟨gN, rfl, hRN, hb6⟩;
                 have S6 : row? w6 p5 0 4 = some (regA gr) ∧ row? w6 bh (oh + k * 34) 34 = some (headerA gg) := ⟨(row?_below _ _ _ (undrew hb6) hpl4).trans S0.1, (row?_below _ _ _ (undrew hb6) hbh4).trans S0.2⟩;
                 have l6 : p5 < w6.heap.size := Nat.lt_of_lt_of_le hpl4 hb6.size;
                 have m6 : bh < w6.heap.size := Nat.lt_of_lt_of_le hbh4 hb6.size;
                 have S7 : row? (w6.alloc (.cells #[.slice none 0 0, .slice none 0 0, .slice none 0 0, .int .u64 0] 103)) p5 0 4 = some (regA gr) ∧ row? (w6.alloc (.cells #[.slice none 0 0, .slice none 0 0, .slice none 0 0, .int .u64 0] 103)) bh (oh + k * 34) 34 = some (headerA gg) := ⟨(row?_old _ _ _ _ _ l6).trans S6.1, (row?_old _ _ _ _ _ m6).trans S6.2⟩;
                 have S8 : row? (putRow (w6.alloc (.cells #[.slice none 0 0, .slice none 0 0, .slice none 0 0, .int .u64 0] 103)) w6.heap.size 0 (regA gN)) p5 0 4 = some (regA gr) ∧ row? (putRow (w6.alloc (.cells #[.slice none 0 0, .slice none 0 0, .slice none 0 0, .int .u64 0] 103)) w6.heap.size 0 (regA gN)) bh (oh + k * 34) 34 = some (headerA gg) := ⟨(row?_put_far _ _ _ _ _ _ _ (Nat.ne_of_lt l6)).trans S7.1, (row?_put_far _ _ _ _ _ _ _ (Nat.ne_of_lt m6)).trans S7.2⟩)
              | (go_simp; go_at_call 58; (with_reducible refine HNB.mono ?_); rintro e w6 ⟨gN, rfl, hRN, hb6⟩;
                 have S6 : row? w6 p5 0 4 = some (regA gr) ∧ row? w6 bh (oh + k * 34) 34 = some (headerA gg) := ⟨(row?_below _ _ _ hb6 (Nat.lt_of_lt_of_le hpl4 hba.size)).trans S1.1, (row?_below _ _ _ hb6 (Nat.lt_of_lt_of_le hbh4 hba.size)).trans S1.2⟩;
                 have ht6 := there_below hb6 (show w4.heap.size < wa.heap.size by omega) hta;
                 have hst6 := store_reg w6 w4.heap.size 0 (regA gN) rfl (onesReg _) ht6;
                 have S8 : row? (putRow w6 w4.heap.size 0 (regA gN)) p5 0 4 = some (regA gr) ∧ row? (putRow w6 w4.heap.size 0 (regA gN)) bh (oh + k * 34) 34 = some (headerA gg) := ⟨(row?_put_far _ _ _ _ _ _ _ (Nat.ne_of_lt hpl4)).trans S6.1, (row?_put_far _ _ _ _ _ _ _ (Nat.ne_of_lt hbh4)).trans S6.2⟩))
          · obtain ⟨w9, hw9, hr9, ht9, hb9, hz9⟩ := box_reg w6 gN
            rw [← hw9]
            have hb46 : Below w4.heap.size w4 w6 := undrew hb6
            have hb49 : Below w4.heap.size w4 w9 := hb46.trans (hb9.mono hb6.size)
            have hM9 : RegM (fun k => k = p5 ∨ k = p7) w9 gN N := hRN.mem hb9 (fun k hk => .inl (show k < w4.drew.heap.size from by have : w4.drew.heap.size = w4.heap.size := rfl; omega))
            try simp only
            have hle : w4.heap.size ≤ w6.heap.size := hb46.size
            go_wp2_with fail
            go_meet
            exact ⟨w6.heap.size, gN, rfl, rfl, hle, Lib.hid hr9, Lib.hid hM9, Lib.hid hb49⟩
          · obtain ⟨w9, hw9⟩ : ∃ w9, w9 = putRow w6 w4.heap.size 0 (regA gN) := ⟨_, rfl⟩
            have hr9 : row? w9 w4.heap.size 0 4 = some (regA gN) := by
              rw [hw9]
              exact row?_put_same _ _ _ _ _ (by rfl) (by omega) ht6
            have hb49 : Below w4.heap.size w4 w9 := by
              rw [hw9]
              exact below_put (hba.trans (hb6.mono (by omega))) (Nat.le_refl _) _ _
            have hM9 : RegM (fun k => k = p5 ∨ k = p7) w9 gN N := by
              rw [hw9]
              exact (hRN.put (show w4.heap.size < wa.heap.size by omega)).mem (Below.refl _ _) (fun k hk => .inl (by omega))
            rw [← hw9]
            try simp only
            clear hw9 S6 S8 hRN hb6 ht6 hst6
            obtain ⟨p9, hp9⟩ : ∃ p9, p9 = w4.heap.size := ⟨_, rfl⟩
            rw [← hp9] at hr9 ⊢
            go_wp2_with fail
            go_meet
            exact ⟨p9, gN, rfl, rfl, by omega, Lib.hid hr9, Lib.hid hM9, Lib.hid hb49⟩
        case rest =>
          obtain ⟨p10, gN, rfl, rfl, hp10, hr10, hM10, hb4c⟩ := hcut
          generalize wc = w9 at *
          have hz9 := hb4c.out.size
          have hV9 := Lib.hid (hV4.out.keep hb4c.out)
          have hY9 := Lib.hid (hY4.out.keep hb4c.out)
          have hB9 := Lib.hid (hB4.out.trans (hb4c.out.mono hB4.out.size))
          have hcx9 := (row?_below _ _ _ hb4c.out hbh4).trans hcx4
          have hbh9 : bh < w9.heap.size := by omega
          have hv9 := hv4.keep' hb4c.out
          clear HNA HNB S0 S1 hwa' hta hza hba hV4 hY4 hB4 hcx4 hv4 hb4c hbw hz4
          have HNX := fun W (hb : Below w9.heap.size w9 W) => rnext_c en (hY9.out.keep hb).mem.reg (hv9.keep' hb) q1 q2 q3 (show h.ops.length ≤ 1000000 by omega)
          rw [← hnr.out] at HNX
          have hpl9 : p5 < w9.heap.size := hV9.out.lt
          have hpm9 : p7 < w9.heap.size := hY9.out.lt
          obtain ⟨wa, hwa⟩ : ∃ wa, wa = (w9.alloc (.cells #[.slice none 0 0, .slice none 0 0, .slice none 0 0, .int .u64 0] 103)).drew := ⟨_, rfl⟩
          have hba : Below w9.heap.size w9 wa := by rw [hwa]; exact (bel_a w9 _).drew
          have hza : wa.heap.size = w9.heap.size + 1 := by rw [hwa]; simp
          have hta : there wa w9.heap.size 0 4 := by rw [hwa]; exact there_new w9 _ _ 0 4 (by simp)
          have HNA := HNX w9.drew ((Below.refl _ w9).drew)
          have HNB := HNX wa hba
          have S0 : row? w9.drew p7 0 4 = some (regA gw) ∧ row? w9.drew bh (oh + k * 34) 34 = some (headerA gg) := ⟨hY9.out.row, hcx9⟩
          have S1 : row? wa p7 0 4 = some (regA gw) ∧ row? wa bh (oh + k * 34) 34 = some (headerA gg) := ⟨(row?_below _ _ _ hba hpm9).trans hY9.out.row, (row?_below _ _ _ hba hbh9).trans hcx9⟩
          have hwa' := hwa.symm
          clear HNX hwa
          go_upto_region 18 with fail
          go_cut [12, 13] from 61 to 108 (fun u c W => ∃ (p12 : Nat) (gM : GReg), u = .pointer (some ⟨p12, 0, none⟩) ∧ c = .int .i64 code ∧ w9.heap.size ≤ p12 ∧ Hid (row? W p12 0 4 = some (regA gM)) ∧ Hid (RegM (fun k => k = p7 ∨ k = p5) W gM N) ∧ Hid (Below w9.heap.size w9 W))
          case first =>
            go_region_held3 (fun W => row? W p7 0 4 = some (regA gw) ∧ row? W bh (oh + k * 34) 34 = some (headerA gg))
              (first | go_keep | (with_reducible exact S0) | (with_reducible exact S1) | (rw [hwa']; with_reducible exact S1) | (with_reducible exact S6) | (with_reducible exact S7) | (with_reducible exact S8))
              (first
                | (go_simp; go_at_call 59; (with_reducible refine HNA.mono ?_); rintro e w6 ⟨gM, rfl, hRN, hb6⟩;
                   have S6 : row? w6 p7 0 4 = some (regA gw) ∧ row? w6 bh (oh + k * 34) 34 = some (headerA gg) := ⟨(row?_below _ _ _ (undrew hb6) hpm9).trans S0.1, (row?_below _ _ _ (undrew hb6) hbh9).trans S0.2⟩;
                   have l6 : p7 < w6.heap.size := Nat.lt_of_lt_of_le hpm9 hb6.size;
                   have m6 : bh < w6.heap.size := Nat.lt_of_lt_of_le hbh9 hb6.size;
                   have S7 : row? (w6.alloc (.cells #[.slice none 0 0, .slice none 0 0, .slice none 0 0, .int .u64 0] 103)) p7 0 4 = some (regA gw) ∧ row? (w6.alloc (.cells #[.slice none 0 0, .slice none 0 0, .slice none 0 0, .int .u64 0] 103)) bh (oh + k * 34) 34 = some (headerA gg) := ⟨(row?_old _ _ _ _ _ l6).trans S6.1, (row?_old _ _ _ _ _ m6).trans S6.2⟩;
                   have S8 : row? (putRow (w6.alloc (.cells #[.slice none 0 0, .slice none 0 0, .slice none 0 0, .int .u64 0] 103)) w6.heap.size 0 (regA gM)) p7 0 4 = some (regA gw) ∧ row? (putRow (w6.alloc (.cells #[.slice none 0 0, .slice none 0 0, .slice none 0 0, .int .u64 0] 103)) w6.heap.size 0 (regA gM)) bh (oh + k * 34) 34 = some (headerA gg) := ⟨(row?_put_far _ _ _ _ _ _ _ (Nat.ne_of_lt l6)).trans S7.1, (row?_put_far _ _ _ _ _ _ _ (Nat.ne_of_lt m6)).trans S7.2⟩)
                | (go_simp; go_at_call 59; (with_reducible refine HNB.mono ?_); rintro e w6 ⟨gM, rfl, hRN, hb6⟩;
                   have S6 : row? w6 p7 0 4 = some (regA gw) ∧ row? w6 bh (oh + k * 34) 34 = some (headerA gg) := ⟨(row?_below _ _ _ hb6 (Nat.lt_of_lt_of_le hpm9 hba.size)).trans S1.1, (row?_below _ _ _ hb6 (Nat.lt_of_lt_of_le hbh9 hba.size)).trans S1.2⟩;
                   have ht6 := there_below hb6 (show w9.heap.size < wa.heap.size by omega) hta;
                   have hst6 := store_reg w6 w9.heap.size 0 (regA gM) rfl (onesReg _) ht6;
                   have S8 : row? (putRow w6 w9.heap.size 0 (regA gM)) p7 0 4 = some (regA gw) ∧ row? (putRow w6 w9.heap.size 0 (regA gM)) bh (oh + k * 34) 34 = some (headerA gg) := ⟨(row?_put_far _ _ _ _ _ _ _ (Nat.ne_of_lt hpm9)).trans S6.1, (row?_put_far _ _ _ _ _ _ _ (Nat.ne_of_lt hbh9)).trans S6.2⟩))
            · obtain ⟨w1, hw1, hr1, ht1, hb1, hz1⟩ := box_reg w6 gM
              rw [← hw1]
              have hb96 : Below w9.heap.size w9 w6 := undrew hb6
              have hb91 : Below w9.heap.size w9 w1 := hb96.trans (hb1.mono hb6.size)
              have hM1 : RegM (fun k => k = p7 ∨ k = p5) w1 gM N := hRN.mem hb1 (fun k hk => .inl (show k < w9.drew.heap.size from by have : w9.drew.heap.size = w9.heap.size := rfl; omega))
              try simp only
              have hle : w9.heap.size ≤ w6.heap.size := hb96.size
              go_wp2_with fail
              go_meet
              exact ⟨w6.heap.size, gM, rfl, rfl, hle, Lib.hid hr1, Lib.hid hM1, Lib.hid hb91⟩
            · obtain ⟨w1, hw1⟩ : ∃ w1, w1 = putRow w6 w9.heap.size 0 (regA gM) := ⟨_, rfl⟩
              have hr1 : row? w1 w9.heap.size 0 4 = some (regA gM) := by
                rw [hw1]
                exact row?_put_same _ _ _ _ _ (by rfl) (by omega) ht6
              have hb91 : Below w9.heap.size w9 w1 := by
                rw [hw1]
                exact below_put (hba.trans (hb6.mono (by omega))) (Nat.le_refl _) _ _
              have hM1 : RegM (fun k => k = p7 ∨ k = p5) w1 gM N := by
                rw [hw1]
                exact (hRN.put (show w9.heap.size < wa.heap.size by omega)).mem (Below.refl _ _) (fun k hk => .inl (by omega))
              rw [← hw1]
              try simp only
              clear hw1 S6 S8 hRN hb6 ht6 hst6
              obtain ⟨p9, hp9⟩ : ∃ p9, p9 = w9.heap.size := ⟨_, rfl⟩
              rw [← hp9] at hr1 ⊢
              go_wp2_with fail
              go_meet
              exact ⟨p9, gM, rfl, rfl, by omega, Lib.hid hr1, Lib.hid hM1, Lib.hid hb91⟩
          case rest =>
            obtain ⟨p12, gM, rfl, rfl, hp12, hr12, hM12, hb9c⟩ := hcut
            generalize wc = w1 at *
            have hz1 := hb9c.out.size
            have hl10 : p10 < w9.heap.size := lt_of_row hr10.out
            have hr10' := (row?_below _ _ _ hb9c.out hl10).trans hr10.out
            have hr12' := hr12.out
            have hV1 := Lib.hid (hV9.out.keep hb9c.out)
            have hY1 := Lib.hid (hY9.out.keep hb9c.out)
            have hM10' := Lib.hid (hM10.out.keep hb9c.out)
            have hB1 := Lib.hid (hB9.out.trans (hb9c.out.mono hB9.out.size))
            have hcx1 := (row?_below _ _ _ hb9c.out hbh9).trans hcx9
            have hcm := hdr_epoch hcx1
            rw [show gg.epoch = h.epoch from hepg.out] at hcm
            have hn5 : p10 ≠ p5 := by omega
            have hn7 : p10 ≠ p7 := by omega
            have hm5 : p12 ≠ p5 := by omega
            have hm7 : p12 ≠ p7 := by omega
            clear HNA HNB S0 S1 hwa' hta hza hba hV9 hY9 hB9 hcx9 hv9 hb9c hr10 hr12 hM10 hcx1 hz9 hpl4 hpm4 hbh4 hp10 hp12 hl10
            by_cases hz : code = 0
            rotate_left
            · have bz : (code != 0) = true := by simpa using hz
              have bz2 : decide (code = 0) = false := by simpa using hz
              have bz3 : ¬ code = 0 := hz
              have hrow5 := hV1.out.row
              have hrow7 := hY1.out.row
              have HS := rsame_c hV1.out.mem.reg hY1.out.mem.reg q1 q2 q3
              rw [decide_eq_true rfl] at HS
              clear hz hcm hr10' hr12' hM10' hM12 q1 q2 q3
              go_wp2_with fail
              refine HS.mono ?_
              clear HS
              rintro e w2 ⟨rfl, hb2⟩
              have hV2 := Lib.hid (hV1.out.keep hb2)
              have hY2 := Lib.hid (hY1.out.keep hb2)
              have hB2 := Lib.hid (hB1.out.trans (hb2.mono hB1.out.size))
              clear hb2 hV1 hY1 hB1 hrow5 hrow7
              go_wp2_with fail
              go_roundw
              case rel => exact ⟨k + 1, rr, gr, gw, en, hkl.out, rfl, by go_num, hP, hV2, hY2, hB2⟩
              case measure =>
                have := hkl.out
                simp [intOf]
                omega
            · subst hz
              have hzz : (regNext rr h en).2 = 0 := by rw [← hnr.out]
              have hN : N = (regNext rr h en).1 := by rw [← hnr.out]
              have hPN := Lib.hid (show RegP N by rw [hN]; exact regNext_may hzz)
              clear hzz hN q1 q2 q3
              obtain ⟨wd, hwd⟩ : ∃ wd, wd = w1.drew := ⟨_, rfl⟩
              have hBd : Below w1.heap.size w1 wd := by rw [hwd]; exact (Below.refl _ w1).drew
              have hVd := hV1.out.keep hBd
              have hYd := hY1.out.keep hBd
              have d10 : row? wd p10 0 4 = some (regA gN) := by rw [hwd]; exact hr10'
              have d12 : row? wd p12 0 4 = some (regA gM) := by rw [hwd]; exact hr12'
              have dcm : wd.cell? ⟨bh, oh + k * 34 + 32, none⟩ = some (.int .u64 (h.epoch.toNat : Int)) := by rw [hwd]; exact hcm
              have s5 := store_reg wd p5 0 (regA gN) rfl (onesReg _) hVd.thr
              have s7 := store_reg wd p7 0 (regA gM) rfl (onesReg _) hYd.thr
              have hBf := Lib.hid (hB1.out.trans (hBd.mono hB1.out.size))
              have hMN := hM10'.out.keep hBd
              have hMM := hM12.out.keep hBd
              have x5 : row? (putRow wd p5 0 (regA gN)) p12 0 4 = some (regA gM) := (row?_put_far _ _ _ _ _ _ _ hm5).trans d12
              have x7 : row? (putRow wd p7 0 (regA gM)) p10 0 4 = some (regA gN) := (row?_put_far _ _ _ _ _ _ _ hn7).trans d10
              have hbp5 : bh ≠ p5 := by omega
              have hbp7 : bh ≠ p7 := by omega
              have y5 := (cell_put_far wd p5 0 (regA gN) bh (oh + k * 34 + 32) (by omega)).trans dcm
              have y7 := (cell_put_far wd p7 0 (regA gM) bh (oh + k * 34 + 32) (by omega)).trans dcm
              have s57 := store_reg (putRow wd p5 0 (regA gN)) p7 0 (regA gM) rfl (onesReg _) (there_put _ _ _ _ _ _ _ hYd.thr)
              have s75 := store_reg (putRow wd p7 0 (regA gM)) p5 0 (regA gN) rfl (onesReg _) (there_put _ _ _ _ _ _ _ hVd.thr)
              have y57 := (cell_put_far (putRow wd p5 0 (regA gN)) p7 0 (regA gM) bh (oh + k * 34 + 32) (by omega)).trans y5
              have y75 := (cell_put_far (putRow wd p7 0 (regA gM)) p5 0 (regA gN) bh (oh + k * 34 + 32) (by omega)).trans y7
              replace hwd := hwd.symm
              clear hr10' hr12' hcm
              go_upto_region 22 with fail
              go_region
              have hVf := (hVd.set hMN).other (show p5 ≠ p7 from hne) (regA gM)
              have hYf := (hYd.other (show p7 ≠ p5 from fun e => hne e.symm) (regA gN)).set (regM_put hMM (.inr rfl) (regA gN))
              have hBf2 : Below w.heap.size w (putRow (putRow wd p5 0 (regA gN)) p7 0 (regA gM)) := below_put (below_put hBf.out (show w.heap.size ≤ p5 by omega) 0 (regA gN)) (show w.heap.size ≤ p7 by omega) 0 (regA gM)
              clear s5 s7 x5 x7 y5 y7 s57 s75 y57 y75 hVd hYd hMN hMM d10 d12 dcm hBf hBd hwd hM10' hM12 hV1 hY1 hB1
              generalize putRow (putRow wd p5 0 (regA gN)) p7 0 (regA gM) = we at *
              have hrow5 := hVf.row
              have hrow7 := hYf.row
              obtain ⟨q1, q2, q3⟩ := stays_bounds hPN.out
              have HS := rsame_c hVf.mem.reg hYf.mem.reg q1 q2 q3
              rw [decide_eq_true rfl] at HS
              replace hVf := Lib.hid hVf
              replace hYf := Lib.hid hYf
              replace hBf2 := Lib.hid hBf2
              clear q1 q2 q3
              go_wp2_with fail
              refine HS.mono ?_
              clear HS
              rintro e w2 ⟨rfl, hb2⟩
              have hV2 := Lib.hid (hVf.out.keep hb2)
              have hY2 := Lib.hid (hYf.out.keep hb2)
              have hB2 := Lib.hid (hBf2.out.trans (hb2.mono hBf2.out.size))
              clear hb2 hVf hYf hBf2 hrow5 hrow7
              go_wp2_with fail
              go_roundw
              case rel => exact ⟨k + 1, N, gN, gM, h.epoch, hkl.out, rfl, by go_num, hPN, hV2, hY2, hB2⟩
              case measure =>
                have := hkl.out
                simp [intOf]
                omega
      · go_wp2_with (go_at_call 55; (with_reducible refine (HK _).mono ?_); rintro e w5 ⟨rfl, hb5⟩)
        go_ret
        exact ⟨rfl, hB.out.trans (hb5.mono hB.out.size)⟩
end Go.Proofs.Ytkocpihfdpahpaa
