/- Texts of this proof, one behind the other: ApaW. -/
import Derived.Test.YthdjhbiigmcecaaKL
import Derived.Test.YthdjhbiigmcecaaKI
import Derived.Test.YthdjhbiigmcecaaKG
set_option linter.unusedVariables false
set_option linter.unusedSimpArgs false
/- The walk of ChainApart. -/
namespace Go.Proofs.Ythdjhbiigmcecaa
open Go.RowKit

def nm9H : Hash := ⟨9 :: List.replicate 31 0, by simp⟩
def apaPt : Pt := ⟨3, nm9H⟩
theorem doA_pre (C : List Blk) (l : List Act) : ∃ t, doA C l = C ++ t := by
  induction l generalizing C with
  | nil => exact ⟨[], by simp [doA]⟩
  | cons b l ih =>
    obtain ⟨t, ht⟩ := ih (chAdd C (actH C b))
    show ∃ t, doA (chAdd C (actH C b)) l = C ++ t
    rw [ht]
    unfold chAdd
    split
    · exact ⟨_, List.append_assoc _ _ _⟩
    · exact ⟨t, rfl⟩
theorem doA_new {C : List Blk} (hok : ChnOk C) (l : List Act) (i : Nat) (b : Blk) (hb : (doA C l)[i]? = some b) (hi : C.length ≤ i) : chAt C b.p.name = none := by
  have hD := doA_ok hok l
  have h1 := chAt_of hD hb
  cases h : chAt C b.p.name with
  | none => rfl
  | some j =>
    obtain ⟨c, hc, hcn⟩ := chAt_some h
    have hj := chAt_lt h
    obtain ⟨t, ht⟩ := doA_pre C l
    have hc' : (doA C l)[j]? = some c := by rw [ht, List.getElem?_append_left hj]; exact hc
    have h2 := chAt_of hD hc'
    rw [hcn, h1] at h2
    injection h2 with h2
    omega
theorem hash_guard_a : Try.prog.eqGuardType Try.prog.depth 24 = false := by kernel_rfl
theorem run_bldNm9 (W : World) : (bldNm #[(0, .int .u8 9)]).run Try.prog W = .ok (.agg (hashA nm9H)) W := by
  unfold bldNm
  go_simp
  rfl
theorem run_bldPt3 (W : World) : (bldPt #[(0, .int .u64 3), (1, .agg (hashA nm9H))]).run Try.prog W = .ok (.agg (pointA apaPt)) W := by
  unfold bldPt
  go_simp
  rfl
/-- the law's copy is told more: done, or not yet -/
structure HApa (w0 : World) (B : Nat) (T : Nat → Nat) (w : World) (ob cv : Nat) (D : List Blk) (L : List Bool) (_V : List Value) (W : World) : Prop where
  no : L.getD 0 false = false → W = w.drew
  yes : L.getD 0 false = true → ∃ T', Both w0 B T' W ob cv D D ∧ Fr T w.drew T' W
  a1 : L.getD 1 false = true → L.getD 0 false = true
  a2 : L.getD 2 false = true → L.getD 1 false = true
section
variable {w0 : World} {B : Nat} {T : Nat → Nat} {w W W' : World} {ob cv : Nat} {D : List Blk} {l0 l1 l2 l3 : Bool} {v0 v1 v2 v3 u0 u1 u2 u3 : Value}
theorem HApa.zero (V : List Value) : HApa w0 B T w ob cv D [false, false, false, false] V w.drew := ⟨fun _ => rfl, fun q => (by cases q), fun q => (by cases q), fun q => (by cases q)⟩
theorem HApa.tell (h : HApa w0 B T w ob cv D [l0, l1, l2, l3] [v0, v1, v2, v3] W) (h2 : l2 = true) : ∃ T', Both w0 B T' W ob cv D D ∧ Fr T w.drew T' W := h.yes (h.a1 (h.a2 h2))
theorem HApa.keep (h : HApa w0 B T w ob cv D [l0, l1, l2, l3] [v0, v1, v2, v3] W) (hb : Below W.heap.size W W') (h2 : l2 = true) : HApa w0 B T w ob cv D [l0, l1, l2, true] [u0, u1, u2, u3] W' := by
  obtain ⟨T', k1, k2⟩ := h.tell h2
  refine ⟨fun q => ?_, fun _ => ⟨T', k1.keep hb, k2.below hb⟩, h.a1, h.a2⟩
  have h0 := h.a1 (h.a2 h2)
  rw [show l0 = true from h0] at q
  cases q
theorem HApa.did {T' : Nat → Nat} (h1 : Both w0 B T' W' ob cv D D) (h2 : Fr T w.drew T' W') (h : HApa w0 B T w ob cv D [l0, l1, l2, l3] [v0, v1, v2, v3] W) : HApa w0 B T w ob cv D [true, l1, l2, l3] [u0, u1, u2, u3] W' := ⟨fun q => (by cases q), fun _ => ⟨T', h1, h2⟩, fun _ => rfl, h.a2⟩
theorem HApa.by1 (h : HApa w0 B T w ob cv D [l0, l1, l2, l3] [v0, v1, v2, v3] W) (h0 : l0 = true) : HApa w0 B T w ob cv D [l0, true, l2, l3] [u0, u1, u2, u3] W := ⟨h.no, h.yes, fun _ => h0, fun _ => rfl⟩
theorem HApa.by2 (h : HApa w0 B T w ob cv D [l0, l1, l2, l3] [v0, v1, v2, v3] W) (h1 : l1 = true) : HApa w0 B T w ob cv D [l0, l1, true, l3] [u0, u1, u2, u3] W := ⟨h.no, h.yes, h.a1, fun _ => h1⟩
end
attribute [local go_sem ↓] fold_bldNm fold_bldPt
set_option maxRecDepth 100000 in
set_option maxHeartbeats 3200000 in
theorem apart_walk (s : Sl) (l : List Act) (sm : Sl) (m : List Act) (w : World) (ha : ActsR w s l) (hl : l.length ≤ 9223372036854775807) (hma : ActsR w sm m) (hml : m.length ≤ 9223372036854775807) :
    Calls Try.prog 8 #[s.v, sm.v] w fun e w' => e = .returned (.bool true) ∧ Below w.heap.size w w' := by
  have HK := fun W => known10_c W
  have hend := Lib.hid (show ∀ W, Below w.heap.size w W → Calls Try.prog 31 #[] W fun e w' => e = .returned (.bool true) ∧ Below w.heap.size w w' from fun W hW => (HK W).mono fun e w' ⟨h1, h2⟩ => ⟨h1, hW.trans (h2.mono hW.size)⟩)
  clear HK
  have hF := fewA_c ha hl 30
  have hF2 := fun W (hb : Below w.heap.size w W) => fewA_c (hma.keep' hb) hml 30
  have ha0 := Lib.hid ha
  have hm0 := Lib.hid hma
  clear ha hma
  obtain ⟨q, hq⟩ : ∃ m, m = fewA l 30 := ⟨_, rfl⟩
  rw [← hq] at hF
  obtain ⟨q2, hq2⟩ : ∃ q, q = fewA m 30 := ⟨_, rfl⟩
  rw [← hq2] at hF2
  obtain ⟨sa, sn, sc⟩ := s
  obtain ⟨ma, mn, mc⟩ := sm
  dsimp only [Sl.v] at hF hF2 ⊢
  replace hq := Lib.hid hq
  replace hq2 := Lib.hid hq2
  go_enter Try.func8, Try.ntmps8
  go_wp2_with fail
  (with_reducible refine hF.mono ?_)
  clear hF
  rintro e w1 ⟨rfl, hb1⟩
  cases q
  · have HE := hend.out w1 hb1
    go_wp2_with fail
    (with_reducible refine HE.mono ?_)
    rintro e w3 ⟨rfl, hb3⟩
    go_wp2_with fail
    go_ret
    exact ⟨rfl, hb3⟩
  have hF3 := hF2 w1 hb1
  clear hF2
  go_wp2_with fail
  (with_reducible refine hF3.mono ?_)
  clear hF3
  rintro e w2 ⟨rfl, hb2⟩
  have hB2 := Lib.hid (hb1.trans (hb2.mono hb1.size))
  clear hb1 hb2
  cases q2
  · have HE := hend.out w2 hB2.out
    go_wp2_with fail
    (with_reducible refine HE.mono ?_)
    rintro e w3 ⟨rfl, hb3⟩
    go_wp2_with fail
    go_ret
    exact ⟨rfl, hb3⟩
  have hn9 := run_bldNm9
  have hp3 := run_bldPt3
  go_upto_region 4 with fail
  obtain ⟨w3, hw3, hr3, -, hb3, hz3⟩ := box_row w2 (pointA zeroPt) (pointA apaPt) 26 33 (by omega) (by simp) (by simp)
  rw [← hw3]
  obtain ⟨b5, hb5⟩ : ∃ b, b = w2.heap.size := ⟨_, rfl⟩
  rw [← hb5] at hr3 ⊢
  have hB3 := Lib.hid (hB2.out.trans (hb3.mono hB2.out.size))
  have hpe : apaPt.epoch.toNat ≤ 4611686018427387904 := by decide
  have hl30 := fewA_out hq.out.symm
  have hm30 := fewA_out hq2.out.symm
  have hf1 := Lib.hid hl30.1
  have hf2 := Lib.hid hm30.1
  have hl1 : l.length ≤ 30 := by have := hl30.2; omega
  have hl2 : m.length ≤ 30 := by have := hm30.2; omega
  have ha3 := Lib.hid (ha0.out.keep' hB3.out)
  have hm3 := Lib.hid (hm0.out.keep' hB3.out)
  clear hw3 hn9 hp3 hb3 hl30 hm30 ha0 hm0 hl hml
  replace hz3 : b5 < w3.heap.size := by omega
  replace hb5 := Lib.hid hb5
  generalize apaPt = p at *
  have HN := chnew_c p w3 hpe
  unfold ptrV at HN
  go_wp2_with fail
  (with_reducible refine HN.mono ?_)
  clear HN
  rintro e w4 ⟨cb, rfl, hcb, ⟨T0, hC0⟩, hb4⟩
  have hr4 := (row?_below _ _ _ hb4 hz3).trans hr3
  have HR := rnew_c w3 w4 hb4 p
  unfold ptrV at HR
  go_wp2_with fail
  (with_reducible refine HR.mono ?_)
  clear HR
  rintro e w5 ⟨cr, rb0, rfl, hcr, hrb, hR0, hb5'⟩
  obtain ⟨T1, hB5⟩ := Both.start hC0 hb5' hR0 hcr hrb (Nat.le_refl _)
  have HD := actdo_c hB5 (chNew_ok p) ha3.out (by omega) hf1.out
  have hok := Lib.hid (doA_ok (chNew_ok p) l)
  have hlen : (doA (chNew p) l).length ≤ 31 := by
    have := doA_len (chNew p) l
    have h1 : (chNew p).length = 1 := rfl
    omega
  generalize doA (chNew p) l = C at *
  unfold ptrV at HD
  dsimp only [Sl.v] at HD
  clear hC0 hb5' hR0 hB5 hr4 hb4 hcr hrb hcb
  go_wp2_with fail
  (with_reducible refine HD.mono ?_)
  clear HD
  rintro e w6 ⟨rfl, T2, hB6, -⟩
  have hr6 := (row?_below _ _ _ hB6.bel hz3).trans hr3
  have HC := ChR.copy_c hB6.real hok.out.pos (by omega)
  unfold ptrV at HC
  replace hB6 := Lib.hid hB6
  go_wp2_with fail
  (with_reducible refine HC.mono ?_)
  clear HC
  rintro e w7 ⟨ob, T3, rfl, hob, hO, hT3, hT30, hb7⟩
  have hB37 : Below w3.heap.size w3 w7 := hB6.out.bel.trans (hb7.mono hB6.out.bel.size)
  have hr7 := (row?_below _ _ _ hB37 hz3).trans hr3
  have HR := rnew_c w3 w7 hB37 p
  unfold ptrV at HR
  clear hr6
  go_wp2_with fail
  (with_reducible refine HR.mono ?_)
  clear HR
  rintro e w8 ⟨cv, rv, rfl, hcv, hrv, hR8, hb8⟩
  obtain ⟨rb, cap, hcr6, c06, hc8, hne, ⟨v8, hv8⟩, hf8, hb9, T4, hB9, hT4⟩ := Both.second hB6.out (by omega) hO hT3 hb7 hR8 hb8 hcv
  have hBd := hB9.keep ((Below.refl (w8.setCell ⟨cv, 0, none⟩ (.slice (some ⟨rb, 0, none⟩) C.length cap)).heap.size _).drew)
  have HD := actdo_c hBd hok.out hm3.out (by omega) hf2.out
  obtain rfl : mn = m.length := hm3.out.1
  unfold ptrV at HD
  dsimp only [Sl.v] at HD
  have hBel := fun W (h : ∃ T', Both w3 w3.heap.size T' W ob cv (doA C m) (doA C m) ∧ Fr T4 (w8.setCell ⟨cv, 0, none⟩ (.slice (some ⟨rb, 0, none⟩) C.length cap)).drew T' W) => show Below w6.heap.size w6 W from by
    obtain ⟨T', h1, h2⟩ := h
    exact Both.apart hBd hb9.drew hT4 h1 h2
  have HLn := fun W (hb : Below w6.heap.size w6 W) => show Calls Try.prog 36 #[ptrV cb] W fun e w' => e = .returned (.int .i64 ((C.length : Int) - 1)) ∧ Below W.heap.size W w' from by
    obtain ⟨sA, mb, G, hM⟩ := (hB6.out.keep hb).real
    obtain ⟨ab, -, -, hv⟩ := hM.view hok.out.pos
    exact chlen_c hv hok.out.pos (by omega)
  obtain ⟨n1, hn1⟩ : ∃ n : Nat, n = C.length - 1 := ⟨_, rfl⟩
  have hp1 := hok.out.pos
  have hn1i : ((C.length : Int) - 1) = (n1 : Int) := by omega
  simp only [hn1i] at HLn
  unfold ptrV at HLn
  have hwn : IntKind.i64.wrap (n1 : Int) = (n1 : Int) := IntWalk.i64_in _ (by omega)
  replace hn1 := Lib.hid hn1
  replace hB9 := Lib.hid hB9
  replace hT4 := Lib.hid hT4
  replace hb9 := Lib.hid hb9
  clear hO hT3 hT30 hb7 hb8 hr7 hR8 hB37 hcv hrv hob
  go_upto_region 11 with fail
  obtain ⟨w9, hw9⟩ : ∃ W, W = w8.setCell ⟨cv, 0, none⟩ (.slice (some ⟨rb, 0, none⟩) C.length cap) := ⟨_, rfl⟩
  rw [← hw9] at hB9 hb9 HD hBel ⊢
  clear hw9 hc8 hne hv8 hf8
  refine wp_region_freeI_l (by kernel_rfl) [62, 63, 64, 65, 66, 67, 68, 69, 70, 71, 72, 73, 74, 75, 76, 77]
    [(fun v => v = .pointer (some ⟨ob, 0, none⟩)), (fun v => v = .pointer (some ⟨cv, 0, none⟩)), (fun v => v = .slice ma m.length mc), (fun v => v = .bool true), (fun v => v = .bool false), (fun v => v = .bool false), (fun v => v = .pointer (some ⟨cb, 0, none⟩)), (fun v => v = .int .i64 (n1 : Int)), (fun v => v = .pointer (some ⟨cr, 0, none⟩)), (fun v => v = .pointer (some ⟨cr, 0, none⟩)), (fun v => v = .pointer (some ⟨cr, 0, none⟩)), (fun v => v = .slice (some ⟨rb, 0, none⟩) C.length cap), (fun v => v = .int .i64 (C.length : Int)), (fun v => v = .int .i64 (n1 : Int)), (fun v => v = .bool false), (fun v => v = .bool false)]
    [3, 4, 5, 7] (HApa w3 w3.heap.size T4 w9 ob cv (doA C m)) [[3, 4, 5, 6, 7, 8, 9, 10, 11, 12, 13, 14, 15], [3, 4, 5, 6, 7, 8, 9, 10, 11, 12, 13, 14, 15], [3, 4, 5, 6, 7, 8, 9, 10, 11, 12, 13, 14, 15], [4, 5, 6, 7, 8, 9, 10, 11, 12, 13, 14, 15], [5, 6, 7, 8, 9, 10, 11, 12, 13, 14, 15], [6, 7, 8, 9, 10, 11, 12, 13, 14, 15], [7, 14, 15], [14, 15], [9, 10, 11, 12, 13, 14, 15], [10, 11, 12, 13, 14, 15], [11, 12, 13, 14, 15], [12, 13, 14, 15], [13, 14, 15], [14, 15], [15], []] (by kernel_rfl) (by kernel_rfl) ?_ ?_ ?_
  · show HApa w3 w3.heap.size T4 w9 ob cv (doA C m) [false, false, false, false] [_, _, _, _] _
    exact HApa.zero _
  · refine ⟨?_, ?_, ?_, ?_, ?_, ?_, ?_, ?_, ?_, ?_, ?_, ?_, ?_, ?_, ?_, ?_, trivial⟩
    · intro L ax W hf hLi hno hd
      try simp [Region.binds] at hd
      have e9 : ax.tmps[9]?.getD undef = .pointer (some ⟨ob, 0, none⟩) := hf.out 9 (by decide) rfl
      refine ⟨fun _ => ?_, fun h => absurd trivial h⟩
      refine freeI_run (v := .pointer (some ⟨ob, 0, none⟩)) rfl hf (by decide) ?_ rfl
      go_simp
    · intro L ax W hf hLi hno hd
      try simp [Region.binds] at hd
      have e10 : ax.tmps[10]?.getD undef = .pointer (some ⟨cv, 0, none⟩) := hf.out 10 (by decide) rfl
      refine ⟨fun _ => ?_, fun h => absurd trivial h⟩
      refine freeI_run (v := .pointer (some ⟨cv, 0, none⟩)) rfl hf (by decide) ?_ rfl
      go_simp
    · intro L ax W hf hLi hno hd
      try simp [Region.binds] at hd
      have e1 : ax.tmps[1]?.getD undef = .slice ma m.length mc := hf.out 1 (by decide) rfl
      refine ⟨fun _ => ?_, fun h => absurd trivial h⟩
      refine freeI_run (v := .slice ma m.length mc) rfl hf (by decide) ?_ rfl
      go_simp
    · intro L ax W hf hLi hno hd
      simp [Region.binds] at hd
      have e62 : ax.tmps[62]?.getD undef = .pointer (some ⟨ob, 0, none⟩) := slv (hf.got 0 (by decide) (by simp [hd]))
      have e63 : ax.tmps[63]?.getD undef = .pointer (some ⟨cv, 0, none⟩) := slv (hf.got 1 (by decide) (by simp [hd]))
      have e64 : ax.tmps[64]?.getD undef = .slice ma m.length mc := slv (hf.got 2 (by decide) (by simp [hd]))
      refine ⟨fun _ => ?_, fun h => absurd trivial h⟩
      have hG : HApa w3 w3.heap.size T4 w9 ob cv (doA C m) [L 3, L 4, L 5, L 7] [sl ax 65, sl ax 66, sl ax 67, sl ax 69] W := hf.glob
      have hW : W = w9.drew := hG.no hLi
      subst hW
      refine freeI_call (f := 34) (args := #[.pointer (some ⟨ob, 0, none⟩), .pointer (some ⟨cv, 0, none⟩), .slice ma m.length mc]) rfl (by go_simp) ?_
      refine HD.mono ?_
      rintro e w' ⟨rfl, T, hB, hFr⟩
      exact ⟨_, rfl, rfl, HApa.did hB hFr hG⟩
    · intro L ax W hf hLi hno hd
      simp [Region.binds] at hd
      have f65 : (fun v => v = .bool true) (sl ax 65) := hf.got 3 (by decide) (by simp [hd])
      refine ⟨fun _ => ?_, fun h => absurd trivial h⟩
      have hG : HApa w3 w3.heap.size T4 w9 ob cv (doA C m) [L 3, L 4, L 5, L 7] [sl ax 65, sl ax 66, sl ax 67, sl ax 69] W := hf.glob
      have e65 := slv f65
      refine freeI_val (v := .bool false) (W' := W) rfl ?_ rfl (HApa.by1 hG (by simp [updB, hd]))
      go_simp
    · intro L ax W hf hLi hno hd
      simp [Region.binds] at hd
      have f66 : (fun v => v = .bool false) (sl ax 66) := hf.got 4 (by decide) (by simp [hd])
      refine ⟨fun _ => ?_, fun h => absurd trivial h⟩
      have hG : HApa w3 w3.heap.size T4 w9 ob cv (doA C m) [L 3, L 4, L 5, L 7] [sl ax 65, sl ax 66, sl ax 67, sl ax 69] W := hf.glob
      have e66 := slv f66
      refine freeI_val (v := .bool false) (W' := W) rfl ?_ rfl (HApa.by2 hG (by simp [updB, hd]))
      go_simp
    · intro L ax W hf hLi hno hd
      simp [Region.binds] at hd
      have e6 : ax.tmps[6]?.getD undef = .pointer (some ⟨cb, 0, none⟩) := hf.out 6 (by decide) rfl
      have g0 : sl ax 67 = .bool false := hf.got 5 (by decide) (by simp [hd])
      refine ⟨fun hh => ?_, fun hh => ?_⟩
      · first
          | (exact absurd (g0.symm.trans hh) (undef_ne _))
          | (exact absurd (g0.symm.trans hh) (bool_ne (by decide)))
          | (exfalso; revert hh; simp [Held, g0, *]; done)
          | (refine freeI_run (v := .pointer (some ⟨cb, 0, none⟩)) rfl hf (by decide) ?_ rfl; go_simp)
      · first
          | (exact absurd g0 hh)
          | (exfalso; revert hh; simp [Held, g0, *]; done)
          | (refine ⟨?_, by rw [updB_map (by decide), updV_map (by decide)]; exact hf.glob⟩; show undef = _; first | rfl | (simp [*]; done))
    · intro L ax W hf hLi hno hd
      simp [Region.binds] at hd
      have e68 : ax.tmps[68]?.getD undef = .pointer (some ⟨cb, 0, none⟩) := slv (hf.got 6 (by decide) (by simp [hd]))
      have g0 : sl ax 67 = .bool false := hf.got 5 (by decide) (by simp [hd])
      refine ⟨fun hh => ?_, fun hh => ?_⟩
      · first
          | (exact absurd (g0.symm.trans hh) (undef_ne _))
          | (exact absurd (g0.symm.trans hh) (bool_ne (by decide)))
          | (exfalso; revert hh; simp [Held, g0, *]; done)
          | ((have hG : HApa w3 w3.heap.size T4 w9 ob cv (doA C m) [L 3, L 4, L 5, L 7] [sl ax 65, sl ax 66, sl ax 67, sl ax 69] W := hf.glob); (have hbw := hBel W (hG.tell (by simp [hd]))); refine freeI_call (f := 36) (args := #[.pointer (some ⟨cb, 0, none⟩)]) rfl (by go_simp) ?_; refine (HLn W hbw).mono ?_; rintro e w' ⟨rfl, hb⟩; exact ⟨_, rfl, rfl, HApa.keep hG hb (by simp [updB, hd])⟩)
      · first
          | (exact absurd g0 hh)
          | (exfalso; revert hh; simp [Held, g0, *]; done)
          | (refine ⟨?_, by rw [updB_map (by decide), updV_map (by decide)]; exact hf.glob⟩; show undef = _; first | rfl | (simp [*]; done))
    · intro L ax W hf hLi hno hd
      simp [Region.binds] at hd
      have e8 : ax.tmps[8]?.getD undef = .pointer (some ⟨cr, 0, none⟩) := hf.out 8 (by decide) rfl
      have g0 : sl ax 67 = .bool false := hf.got 5 (by decide) (by simp [hd])
      refine ⟨fun hh => ?_, fun hh => ?_⟩
      · first
          | (exact absurd (g0.symm.trans hh) (undef_ne _))
          | (exact absurd (g0.symm.trans hh) (bool_ne (by decide)))
          | (exfalso; revert hh; simp [Held, g0, *]; done)
          | (refine freeI_run (v := .pointer (some ⟨cr, 0, none⟩)) rfl hf (by decide) ?_ rfl; go_simp)
      · first
          | (exact absurd g0 hh)
          | (exfalso; revert hh; simp [Held, g0, *]; done)
          | (refine ⟨?_, by rw [updB_map (by decide), updV_map (by decide)]; exact hf.glob⟩; show undef = _; first | rfl | (simp [*]; done))
    · intro L ax W hf hLi hno hd
      simp [Region.binds] at hd
      have e70 : ax.tmps[70]?.getD undef = .pointer (some ⟨cr, 0, none⟩) := slv (hf.got 8 (by decide) (by simp [hd]))
      have g0 : sl ax 67 = .bool false := hf.got 5 (by decide) (by simp [hd])
      refine ⟨fun hh => ?_, fun hh => ?_⟩
      · first
          | (exact absurd (g0.symm.trans hh) (undef_ne _))
          | (exact absurd (g0.symm.trans hh) (bool_ne (by decide)))
          | (exfalso; revert hh; simp [Held, g0, *]; done)
          | (refine freeI_run (v := .pointer (some ⟨cr, 0, none⟩)) rfl hf (by decide) ?_ rfl; go_simp)
      · first
          | (exact absurd g0 hh)
          | (exfalso; revert hh; simp [Held, g0, *]; done)
          | (refine ⟨?_, by rw [updB_map (by decide), updV_map (by decide)]; exact hf.glob⟩; show undef = _; first | rfl | (simp [*]; done))
    · intro L ax W hf hLi hno hd
      simp [Region.binds] at hd
      have e71 : ax.tmps[71]?.getD undef = .pointer (some ⟨cr, 0, none⟩) := slv (hf.got 9 (by decide) (by simp [hd]))
      have g0 : sl ax 67 = .bool false := hf.got 5 (by decide) (by simp [hd])
      refine ⟨fun hh => ?_, fun hh => ?_⟩
      · first
          | (exact absurd (g0.symm.trans hh) (undef_ne _))
          | (exact absurd (g0.symm.trans hh) (bool_ne (by decide)))
          | (exfalso; revert hh; simp [Held, g0, *]; done)
          | (refine freeI_run (v := .pointer (some ⟨cr, 0, none⟩)) rfl hf (by decide) ?_ rfl; go_simp)
      · first
          | (exact absurd g0 hh)
          | (exfalso; revert hh; simp [Held, g0, *]; done)
          | (refine ⟨?_, by rw [updB_map (by decide), updV_map (by decide)]; exact hf.glob⟩; show undef = _; first | rfl | (simp [*]; done))
    · intro L ax W hf hLi hno hd
      simp [Region.binds] at hd
      have e72 : ax.tmps[72]?.getD undef = .pointer (some ⟨cr, 0, none⟩) := slv (hf.got 10 (by decide) (by simp [hd]))
      have g0 : sl ax 67 = .bool false := hf.got 5 (by decide) (by simp [hd])
      refine ⟨fun hh => ?_, fun hh => ?_⟩
      · first
          | (exact absurd (g0.symm.trans hh) (undef_ne _))
          | (exact absurd (g0.symm.trans hh) (bool_ne (by decide)))
          | (exfalso; revert hh; simp [Held, g0, *]; done)
          | ((have hG : HApa w3 w3.heap.size T4 w9 ob cv (doA C m) [L 3, L 4, L 5, L 7] [sl ax 65, sl ax 66, sl ax 67, sl ax 69] W := hf.glob); (have hbw := hBel W (hG.tell (by simp [hd]))); (have h1 := (hbw.cell (p := ⟨cr, 0, none⟩) hcr6).trans c06); refine freeI_run (v := .slice (some ⟨rb, 0, none⟩) C.length cap) rfl hf (by decide) ?_ rfl; go_simp)
      · first
          | (exact absurd g0 hh)
          | (exfalso; revert hh; simp [Held, g0, *]; done)
          | (refine ⟨?_, by rw [updB_map (by decide), updV_map (by decide)]; exact hf.glob⟩; show undef = _; first | rfl | (simp [*]; done))
    · intro L ax W hf hLi hno hd
      simp [Region.binds] at hd
      have e73 : ax.tmps[73]?.getD undef = .slice (some ⟨rb, 0, none⟩) C.length cap := slv (hf.got 11 (by decide) (by simp [hd]))
      have g0 : sl ax 67 = .bool false := hf.got 5 (by decide) (by simp [hd])
      refine ⟨fun hh => ?_, fun hh => ?_⟩
      · first
          | (exact absurd (g0.symm.trans hh) (undef_ne _))
          | (exact absurd (g0.symm.trans hh) (bool_ne (by decide)))
          | (exfalso; revert hh; simp [Held, g0, *]; done)
          | (refine freeI_run (v := .int .i64 (C.length : Int)) rfl hf (by decide) ?_ rfl; go_simp)
      · first
          | (exact absurd g0 hh)
          | (exfalso; revert hh; simp [Held, g0, *]; done)
          | (refine ⟨?_, by rw [updB_map (by decide), updV_map (by decide)]; exact hf.glob⟩; show undef = _; first | rfl | (simp [*]; done))
    · intro L ax W hf hLi hno hd
      simp [Region.binds] at hd
      have e74 : ax.tmps[74]?.getD undef = .int .i64 (C.length : Int) := slv (hf.got 12 (by decide) (by simp [hd]))
      have g0 : sl ax 67 = .bool false := hf.got 5 (by decide) (by simp [hd])
      refine ⟨fun hh => ?_, fun hh => ?_⟩
      · first
          | (exact absurd (g0.symm.trans hh) (undef_ne _))
          | (exact absurd (g0.symm.trans hh) (bool_ne (by decide)))
          | (exfalso; revert hh; simp [Held, g0, *]; done)
          | (refine freeI_run (v := .int .i64 (n1 : Int)) rfl hf (by decide) ?_ rfl; go_simp)
      · first
          | (exact absurd g0 hh)
          | (exfalso; revert hh; simp [Held, g0, *]; done)
          | (refine ⟨?_, by rw [updB_map (by decide), updV_map (by decide)]; exact hf.glob⟩; show undef = _; first | rfl | (simp [*]; done))
    · intro L ax W hf hLi hno hd
      simp [Region.binds] at hd
      have f69 : (fun v => v = .int .i64 (n1 : Int)) (sl ax 69) := hf.got 7 (by decide) (by simp [hd])
      have e75 : ax.tmps[75]?.getD undef = .int .i64 (n1 : Int) := slv (hf.got 13 (by decide) (by simp [hd]))
      have g0 : sl ax 67 = .bool false := hf.got 5 (by decide) (by simp [hd])
      refine ⟨fun hh => ?_, fun hh => ?_⟩
      · first
          | (exact absurd (g0.symm.trans hh) (undef_ne _))
          | (exact absurd (g0.symm.trans hh) (bool_ne (by decide)))
          | (exfalso; revert hh; simp [Held, g0, *]; done)
          | ((have hG : HApa w3 w3.heap.size T4 w9 ob cv (doA C m) [L 3, L 4, L 5, L 7] [sl ax 65, sl ax 66, sl ax 67, sl ax 69] W := hf.glob); (have e69 := slv f69); refine freeI_run (v := .bool false) rfl hf (by decide) ?_ rfl; go_simp)
      · first
          | (exact absurd g0 hh)
          | (exfalso; revert hh; simp [Held, g0, *]; done)
          | (refine ⟨?_, by rw [updB_map (by decide), updV_map (by decide)]; exact hf.glob⟩; show undef = _; first | rfl | (simp [*]; done))
    · intro L ax W hf hLi hno hd
      simp [Region.binds] at hd
      have f67 : (fun v => v = .bool false) (sl ax 67) := hf.got 5 (by decide) (by simp [hd])
      have e76 : ax.tmps[76]?.getD undef = .bool false := slv (hf.got 14 (by decide) (by simp [hd]))
      refine ⟨fun _ => ?_, fun h => absurd trivial h⟩
      have hG : HApa w3 w3.heap.size T4 w9 ob cv (doA C m) [L 3, L 4, L 5, L 7] [sl ax 65, sl ax 66, sl ax 67, sl ax 69] W := hf.glob
      have e67 := slv f67
      refine freeI_run (v := .bool false) rfl hf (by decide) ?_ rfl
      go_simp
  · intro vs W hl' hF hG
    obtain ⟨g', hg1, hg2⟩ := vs_litI vs hl' hF
    have e15 : g' 15 = .bool false := hg2 15 (by decide)
    obtain ⟨T5, hB10, hF10⟩ := hG.yes rfl
    have hbw := Lib.hid (hBel W ⟨T5, hB10, hF10⟩)
    replace hB10 := Lib.hid hB10
    rw [hg1]
    simp only [List.length_cons, List.length_nil, Nat.reduceAdd, show List.range 16 = [0, 1, 2, 3, 4, 5, 6, 7, 8, 9, 10, 11, 12, 13, 14, 15] from rfl, List.map_cons, List.map_nil, slotsIn, putL, List.setIfInBounds_toArray, List.set_cons_succ, List.set_cons_zero, e15, List.size_toArray, Nat.reduceLT, if_true, if_false]
    clear hg1 hg2 hG hF hl' hF10 hBel HD HLn hB9 hb9 hT4 c06 hcr6
    go_wp2_with fail
    have hokD := Lib.hid (doA_ok hok.out m)
    have hDl : (doA C m).length ≤ 61 := by
      have := doA_len C m
      omega
    have hCD := Lib.hid (doA_new hok.out m)
    generalize doA C m = D at *
    go_loopw [11] (fun t W' => ∃ i : Nat, 1 ≤ i ∧ i ≤ D.length ∧ t = .int .i64 i ∧ Hid (Below W.heap.size W W')) (fun t _ => D.length - (intOf t).toNat)
    case atStart => exact ⟨1, Nat.le_refl _, hokD.out.pos, rfl, Lib.hid (Below.refl _ _)⟩
    case round =>
      obtain ⟨i, hi1, hi2, rfl, hBi⟩ := hrel
      have hBo := Lib.hid (hB10.out.keep hBi.out)
      obtain ⟨rb9, cap9, hDv⟩ := hBo.out.view
      have hcq := hDv.clt
      have c0q := hDv.c0
      have hDo := Lib.hid hDv
      by_cases hix : i < D.length
      · obtain ⟨-, hnm0, -⟩ := hDv.at hix
        obtain ⟨bi, hbi⟩ : ∃ b, b = D[i] := ⟨_, rfl⟩
        have hnm : row? wr rb9 (i * 68 + 1) 32 = some (hashA bi.p.name) := by rw [hbi]; exact hnm0
        have HH := show Calls Try.prog 50 #[ptrV ob, .agg (hashA bi.p.name)] wr fun e w' => ∃ g', e = .returned (.tuple #[.agg (headerA g'), .int .i64 0]) ∧ HdrAt wr.heap.size w' g' bi.h ∧ Below wr.heap.size wr w' ∧ OpsT wr.heap.size w' g'.ops from by
          rw [hbi]
          obtain ⟨sA, mb, G, hM⟩ := hBo.out.real
          obtain ⟨ab, -, -, hv⟩ := hM.view hokD.out.pos
          exact chheader_some hv hokD.out (chAt_self hokD.out hix) (List.getElem?_eq_getElem hix) (by omega)
        have hdn := Lib.hid (show bi.p = ⟨bi.h.epoch, hdName bi.h⟩ ∧ hdrMay bi.h = true from by rw [hbi]; exact hokD.out.hdr i D[i] (List.getElem?_eq_getElem hix) (by omega))
        clear hnm0
        unfold ptrV at HH
        have hix2 := Lib.hid hix
        have hi0 : (0 : Int) ≤ (i : Int) := by omega
        have hi1' : (i : Int) < (D.length : Int) := by omega
        obtain ⟨nm, hnme⟩ : ∃ n, n = bi.p.name := ⟨_, rfl⟩
        rw [← hnme] at hnm HH
        replace hnme := Lib.hid hnme
        replace hbi := Lib.hid hbi
        go_wp2_with fail
        (with_reducible refine HH.mono ?_)
        clear HH
        rintro e w10 ⟨g, rfl, -, hb10, hty⟩
        go_upto_region 17 with fail
        obtain ⟨w11, hw11, hr12, -, hb11, hz11⟩ := box_row w10 (headerA ⟨zeroHash, 0, ⟨none, 0, 0⟩⟩) (headerA g) 49 34 (by omega) (by simp) (by simp)
        rw [← hw11]
        clear hw11
        have hz10 := hb10.size
        obtain ⟨b12, hb12⟩ : ∃ b, b = w10.heap.size := ⟨_, rfl⟩
        rw [← hb12] at hr12 ⊢
        have c33 := cell_of_row? hr12 33 (by omega)
        simp only [headerA_ops, Nat.zero_add] at c33
        have hty11 : OpsT wr.heap.size w11 g.ops := hty.kd (kd_off (below_fresh hb11 _))
        have hB11 := Lib.hid (hb10.trans (hb11.mono hz10))
        have hb12w := Lib.hid (show wr.heap.size ≤ b12 by omega)
        obtain ⟨gp, ge, so⟩ := g
        dsimp only at c33 hty11
        replace hb12 := Lib.hid hb12
        replace hty11 := Lib.hid hty11
        have c33' := Lib.hid c33
        clear hb10 hb11 hty hr12 hnm c0q
        go_upto_region 20 with fail
        generalize wr = wH at *
        go_loopw [14] (fun t W' => ∃ k : Nat, k ≤ so.n ∧ t = .int .i64 k ∧ Hid (OpsT wH.heap.size W' so) ∧ Hid (W'.cell? ⟨b12, 33, none⟩ = some so.v) ∧ Hid (Below wH.heap.size wH W')) (fun t _ => so.n - (intOf t).toNat)
        case atStart => exact ⟨0, Nat.zero_le _, rfl, hty11, c33', hB11⟩
        case round =>
          obtain ⟨k, hk, rfl, hty, hc33, hBk⟩ := hrel
          have h33 := hc33.out
          obtain ⟨oa, on, oc⟩ := so
          dsimp only [Sl.v] at h33 hk
          by_cases hkn : k < on
          · rcases hty.out with h0 | ⟨ob2, h1, h2, h3⟩
            · exact absurd hkn (by dsimp only at h0; omega)
            dsimp only at h1
            subst h1
            obtain ⟨t1, ⟨st, t2⟩, ev, t3, t4⟩ := h3 k hkn
            have hmx := h2.2
            replace h2 := h2.1
            dsimp only at hmx
            obtain ⟨-, f2⟩ := t1 33 (by omega)
            have k0 : (0 : Int) ≤ (k : Int) := by omega
            have k1 : (k : Int) < (on : Int) := by omega
            have hOb := h2
            have hev := Lib.hid (And.intro t3 t4)
            clear t3 t4 h3 t1
            go_upto_region 23 with fail
            obtain ⟨st2, hst2⟩ : ∃ x : UInt64, IntKind.u64.wrap ((st.toNat : Int) + 1) = (x.toNat : Int) := ⟨UInt64.ofNat (st.toNat + 1), by rw [IntKind.wrap_u64]; simp⟩
            rw [hst2]
            have hkd := kd_set (B := wH.heap.size) wr (v' := .int .u64 (st2.toNat : Int)) t2 (.inr (.inr (.inl ⟨_, _, rfl, rfl⟩)))
            have hty4 := Lib.hid (hty.out.kd hkd)
            have hc4 := Lib.hid (hkd.slice (s := ⟨some ⟨ob2, 0, none⟩, on, oc⟩) hb12w.out hc33.out)
            have hev4 := Lib.hid (And.intro (hkd.slice hOb hev.out.1) (hev.out.2.kd hkd))
            have hB4 := Lib.hid (hBk.out.setCell (p := ⟨ob2, k * 36 + 33, none⟩) hOb (.int .u64 (st2.toNat : Int)))
            generalize wr.setCell ⟨ob2, k * 36 + 33, none⟩ (.int .u64 (st2.toNat : Int)) = w13 at *
            clear hkd t2 f2 h33 hty hc33 hBk hst2 hev
            go_upto_region 24 with fail
            go_loopw [15] (fun t W' => ∃ j : Nat, j ≤ ev.n ∧ t = .int .i64 j ∧ Hid (OpsT wH.heap.size W' ⟨some ⟨ob2, 0, none⟩, on, oc⟩) ∧ Hid (W'.cell? ⟨b12, 33, none⟩ = some (Sl.v ⟨some ⟨ob2, 0, none⟩, on, oc⟩)) ∧ Hid (Below wH.heap.size wH W') ∧ Hid (W'.cell? ⟨ob2, k * 36 + 35, none⟩ = some ev.v ∧ EvT wH.heap.size W' ev)) (fun t _ => ev.n - (intOf t).toNat)
            case atStart => exact ⟨0, Nat.zero_le _, rfl, hty4, hc4, hB4, hev4⟩
            case round =>
              clear hty4 hc4 hB4 hev4
              obtain ⟨j, hj, rfl, hty, hc33, hBk, hev⟩ := hrel
              have h33 := hc33.out
              have h35 := hev.out.1
              obtain ⟨ea, en, ec⟩ := ev
              dsimp only [Sl.v] at h33 h35 hj
              by_cases hjn : j < en
              · rcases hev.out.2 with h0 | ⟨eb, e1, e2, e3⟩
                · exact absurd hjn (by dsimp only at h0; omega)
                dsimp only at e1
                subst e1
                obtain ⟨t1, ⟨vd, t2⟩, sg, t3, t4⟩ := e3 j hjn
                have emx := e2.2
                replace e2 := e2.1
                dsimp only at emx
                obtain ⟨-, f2⟩ := t1 0 (by omega)
                rw [Nat.add_zero] at f2
                have j0 : (0 : Int) ≤ (j : Int) := by omega
                have j1 : (j : Int) < (en : Int) := by omega
                have hjn2 := Lib.hid hjn
                have hsg := Lib.hid (And.intro t3 t4)
                clear t3 t4 e3 t1
                go_upto_region 27 with fail
                obtain ⟨vd2, hvd2⟩ : ∃ x, x = wrap64 (vd + 1) := ⟨_, rfl⟩
                rw [← hvd2]
                have hkd := kd_set (B := wH.heap.size) wr (v' := .int .i64 vd2) t2 (.inr (.inr (.inr ⟨_, _, rfl, rfl⟩)))
                have hty5 := Lib.hid (hty.out.kd hkd)
                have hc5 := Lib.hid (hkd.slice (s := ⟨some ⟨ob2, 0, none⟩, on, oc⟩) hb12w.out hc33.out)
                have hev5 := Lib.hid (And.intro (hkd.slice (s := ⟨some ⟨eb, 0, none⟩, en, ec⟩) hOb hev.out.1) (hev.out.2.kd hkd))
                have hB5 := Lib.hid (hBk.out.setCell (p := ⟨eb, j * 68, none⟩) e2 (.int .i64 vd2))
                have hsg5 := Lib.hid (And.intro (hkd.slice e2 hsg.out.1) (hsg.out.2.kd hkd))
                generalize wr.setCell ⟨eb, j * 68, none⟩ (.int .i64 vd2) = w14 at *
                clear hkd t2 f2 h33 h35 hty hc33 hBk hvd2 hev hsg
                have h33 := hc5.out
                have h35 := hev5.out.1
                have hsgc := hsg5.out.1
                obtain ⟨sga, sgn, sgc⟩ := sg
                dsimp only [Sl.v] at h33 h35 hsgc
                by_cases hs0 : 0 < sgn
                · rcases hsg5.out.2 with h0 | ⟨qb, q1, q2, q3⟩
                  · exact absurd hs0 (by dsimp only at h0; omega)
                  dsimp only at q1
                  subst q1
                  obtain ⟨⟨u, cu⟩, fu⟩ := q3 0 hs0
                  unfold byteV at cu
                  have s0 : (0 : Int) < (sgn : Int) := by omega
                  clear q3
                  go_upto_region 25 with fail
                  obtain ⟨u2, hu2⟩ : ∃ x : UInt8, ((u.toNat : Int) + 1) % 256 = (x.toNat : Int) := ⟨UInt8.ofNat (u.toNat + 1), by simp⟩
                  rw [hu2]
                  have hkd := kd_set (B := wH.heap.size) w14 (v' := .int .u8 (u2.toNat : Int)) cu (.inr (.inl ⟨_, _, rfl, rfl⟩))
                  have hty6 := Lib.hid (hty5.out.kd hkd)
                  have hc6 := Lib.hid (hkd.slice (s := ⟨some ⟨ob2, 0, none⟩, on, oc⟩) hb12w.out hc5.out)
                  have hev6 := Lib.hid (And.intro (hkd.slice (s := ⟨some ⟨eb, 0, none⟩, en, ec⟩) hOb hev5.out.1) (hev5.out.2.kd hkd))
                  have hB6' := Lib.hid (hB5.out.setCell (p := ⟨qb, 0, none⟩) q2 (.int .u8 (u2.toNat : Int)))
                  generalize w14.setCell ⟨qb, 0, none⟩ (.int .u8 (u2.toNat : Int)) = w15 at *
                  clear hkd cu fu h33 h35 hsgc hu2
                  go_wp2_with fail
                  go_roundw
                  case rel => exact ⟨j + 1, by have := hjn2.out; omega, by go_num, hty6, hc6, hB6', hev6⟩
                  case measure => have := hjn2.out; simp [intOf]; omega
                · have s0 : ¬ (0 : Int) < (sgn : Int) := by omega
                  go_wp2_with fail
                  go_roundw
                  case rel => exact ⟨j + 1, by have := hjn2.out; omega, by go_num, hty5, hc5, hB5, hev5⟩
                  case measure => have := hjn2.out; simp [intOf]; omega
              · have hjn' : ¬ (j : Int) < (en : Int) := by omega
                have hkn2 := Lib.hid hkn
                clear hev
                go_wp2_with fail
                go_roundw
                case rel => exact ⟨k + 1, by have := hkn2.out; omega, by go_num, hty, hc33, hBk⟩
                case measure => have := hkn2.out; simp [intOf]; omega
          · have hkn' : ¬ (k : Int) < (on : Int) := by omega
            have hBq := Lib.hid (hBi.out.trans (hBk.out.mono hBi.out.size))
            have hBh := Lib.hid (hBo.out.keep hBk.out)
            have hDh := hDo.out.keep hBk.out
            have hqcv := hDh.clt
            have hqrb := hDh.lt
            have c0q := hDh.c0
            obtain ⟨-, hnm0, -⟩ := hDh.at hix2.out
            rw [← hbi.out, ← hnme.out] at hnm0
            have HH := show Calls Try.prog 50 #[ptrV ob, .agg (hashA nm)] wr fun e w' => ∃ g', e = .returned (.tuple #[.agg (headerA g'), .int .i64 0]) ∧ HdrAt wr.heap.size w' g' bi.h ∧ Below wr.heap.size wr w' from by
              rw [hnme.out, hbi.out]
              obtain ⟨sA, mb, G, hM⟩ := hBh.out.real
              obtain ⟨ab, -, -, hv⟩ := hM.view hokD.out.pos
              exact (chheader_some hv hokD.out (chAt_self hokD.out hix2.out) (List.getElem?_eq_getElem hix2.out) (by omega)).mono fun e w' ⟨g', a1, a2, a3, _⟩ => ⟨g', a1, a2, a3⟩
            clear hBk hc33 hty hDh hBh
            unfold ptrV at HH
            go_upto_region 29 with fail
            go_wp2_with fail
            (with_reducible refine HH.mono ?_)
            clear HH
            rintro e w16 ⟨g2, rfl, hA2, hb16⟩
            go_upto_region 30 with fail
            obtain ⟨wq, hwq, hr16, -, hb17, hz17⟩ := box_row w16 (headerA ⟨zeroHash, 0, ⟨none, 0, 0⟩⟩) (headerA g2) 49 34 (by omega) (by simp) (by simp)
            rw [← hwq]
            clear hwq
            have hz16 := hb16.size
            obtain ⟨b16, hb16e⟩ : ∃ b, b = w16.heap.size := ⟨_, rfl⟩
            rw [← hb16e] at hr16 ⊢
            have hbq := hb16.trans (hb17.mono hz16)
            have hq16 : b16 < wq.heap.size := by omega
            have hBq2 := Lib.hid (hBq.out.trans (hbq.mono hBq.out.size))
            have c0q := (hbq.cell (p := ⟨cv, 0, none⟩) hqcv).trans c0q
            have hnmq := (row?_below _ _ _ hbq hqrb).trans hnm0
            have hqcv : cv < wq.heap.size := Nat.lt_of_lt_of_le hqcv hbq.size
            have hqrb : rb9 < wq.heap.size := Nat.lt_of_lt_of_le hqrb hbq.size
            have hA3 := Lib.hid ((hA2.now).keep' hb17)
            have HNm := fun W (hb : Below wq.heap.size wq W) => show Calls Try.prog 51 #[.agg (headerA g2)] W fun e w' => e = .returned (.agg (hashA nm)) ∧ Below W.heap.size W w' from by
              have := rname_c g2 bi.h W (hA3.out.keep' hb) hdn.out.2
              rw [hnme.out, show bi.p.name = hdName bi.h from congrArg Pt.name hdn.out.1]
              exact this
            have hg := hash_guard_a
            clear hb17 hb16 hnm0 hbq hA2
            replace hz17 := Lib.hid hz17
            replace hb16e := Lib.hid hb16e
            refine wp_region_freeG_l (fun W W' => Below W.heap.size W W') (by kernel_rfl) [183, 184, 185, 186, 187, 188, 189, 190, 191, 192, 193, 194, 195, 196, 197, 198]
              [Is (.int .i64 0), Is (.bool false), Is (.bool false), Is (.agg (headerA g2)), Is (.agg (hashA nm)), Is (.pointer (some ⟨cv, 0, none⟩)), Is (.pointer (some ⟨cv, 0, none⟩)), Is (.pointer (some ⟨cv, 0, none⟩)), Is (.slice (some ⟨rb9, 0, none⟩) D.length cap9), Is (.int .i64 (i : Int)), Is (.pointer (some ⟨rb9, i * 68, none⟩)), Is (.pointer (some ⟨rb9, i * 68, none⟩)), Is (.pointer (some ⟨rb9, i * 68 + 1, none⟩)), Is (.agg (hashA nm)), Is (.bool false), Is (.bool false)]
              (by kernel_rfl) (fun W W' h hb => hb.trans (h.mono hb.size)) ?_ ?_ ?_
            · intro f hf
              simp only [List.mem_cons, List.not_mem_nil, or_false] at hf
              rcases hf with rfl | rfl | rfl | rfl | rfl | rfl | rfl | rfl | rfl | rfl | rfl | rfl | rfl | rfl | rfl | rfl <;> intro x W W' h hr <;> first | exact h
            · refine ⟨?_, ?_, ?_, ?_, ?_, ?_, ?_, ?_, ?_, ?_, ?_, ?_, ?_, ?_, ?_, ?_, trivial⟩
              · intro L ax W hf hd
                try simp [Region.binds] at hd
                have e17 : ax.tmps[17]?.getD undef = .int .i64 0 := hf.out 17 (by decide) rfl
                refine ⟨fun _ => ?_, fun h => absurd trivial h⟩
                refine free_run (v := .int .i64 0) (W' := W) rfl ?_ rfl (Below.refl _ _)
                go_simp
              · intro L ax W hf hd
                simp [Region.binds] at hd
                have e183 : ax.tmps[183]?.getD undef = .int .i64 0 := slv (hf.got 0 (by decide) (by simp [hd]))
                refine ⟨fun _ => ?_, fun h => absurd trivial h⟩
                refine free_run (v := .bool false) (W' := W) rfl ?_ rfl (Below.refl _ _)
                go_simp
              · intro L ax W hf hd
                simp [Region.binds] at hd
                have e184 : ax.tmps[184]?.getD undef = .bool false := slv (hf.got 1 (by decide) (by simp [hd]))
                refine ⟨fun _ => ?_, fun h => absurd trivial h⟩
                refine free_run (v := .bool false) (W' := W) rfl ?_ rfl (Below.refl _ _)
                go_simp
              · intro L ax W hf hd
                simp [Region.binds] at hd
                have e16 : ax.tmps[16]?.getD undef = .pointer (some ⟨b16, 0, none⟩) := hf.out 16 (by decide) rfl
                have g0 : sl ax 185 = .bool false := hf.got 2 (by decide) (by simp [hd])
                refine ⟨fun hh => ?_, fun hh => ?_⟩
                · first
                    | (exact absurd (g0.symm.trans hh) (undef_ne _))
                    | (exact absurd (g0.symm.trans hh) (bool_ne (by decide)))
                    | (exfalso; revert hh; simp [Held, g0, *]; done)
                    | ((have h1 := (row?_below _ _ _ hf.below hq16).trans hr16); refine free_run (v := .agg (headerA g2)) (W' := W) rfl ?_ rfl (Below.refl _ _); go_simp)
                · first
                    | (exact absurd g0 hh)
                    | (exfalso; revert hh; simp [Held, g0, *]; done)
                    | (show undef = _; first | rfl | (simp [*]; done))
              · intro L ax W hf hd
                simp [Region.binds] at hd
                have e186 : ax.tmps[186]?.getD undef = .agg (headerA g2) := slv (hf.got 3 (by decide) (by simp [hd]))
                have g0 : sl ax 185 = .bool false := hf.got 2 (by decide) (by simp [hd])
                refine ⟨fun hh => ?_, fun hh => ?_⟩
                · first
                    | (exact absurd (g0.symm.trans hh) (undef_ne _))
                    | (exact absurd (g0.symm.trans hh) (bool_ne (by decide)))
                    | (exfalso; revert hh; simp [Held, g0, *]; done)
                    | (refine free_call (f := 51) (args := #[.agg (headerA g2)]) rfl (by go_simp) ?_; refine (HNm W hf.below).mono ?_; rintro e w' ⟨rfl, hb⟩; exact ⟨_, rfl, rfl, hb⟩)
                · first
                    | (exact absurd g0 hh)
                    | (exfalso; revert hh; simp [Held, g0, *]; done)
                    | (show undef = _; first | rfl | (simp [*]; done))
              · intro L ax W hf hd
                simp [Region.binds] at hd
                have e10 : ax.tmps[10]?.getD undef = .pointer (some ⟨cv, 0, none⟩) := hf.out 10 (by decide) rfl
                have g0 : sl ax 185 = .bool false := hf.got 2 (by decide) (by simp [hd])
                refine ⟨fun hh => ?_, fun hh => ?_⟩
                · first
                    | (exact absurd (g0.symm.trans hh) (undef_ne _))
                    | (exact absurd (g0.symm.trans hh) (bool_ne (by decide)))
                    | (exfalso; revert hh; simp [Held, g0, *]; done)
                    | (refine free_run (v := .pointer (some ⟨cv, 0, none⟩)) (W' := W) rfl ?_ rfl (Below.refl _ _); go_simp)
                · first
                    | (exact absurd g0 hh)
                    | (exfalso; revert hh; simp [Held, g0, *]; done)
                    | (show undef = _; first | rfl | (simp [*]; done))
              · intro L ax W hf hd
                simp [Region.binds] at hd
                have e188 : ax.tmps[188]?.getD undef = .pointer (some ⟨cv, 0, none⟩) := slv (hf.got 5 (by decide) (by simp [hd]))
                have g0 : sl ax 185 = .bool false := hf.got 2 (by decide) (by simp [hd])
                refine ⟨fun hh => ?_, fun hh => ?_⟩
                · first
                    | (exact absurd (g0.symm.trans hh) (undef_ne _))
                    | (exact absurd (g0.symm.trans hh) (bool_ne (by decide)))
                    | (exfalso; revert hh; simp [Held, g0, *]; done)
                    | (refine free_run (v := .pointer (some ⟨cv, 0, none⟩)) (W' := W) rfl ?_ rfl (Below.refl _ _); go_simp)
                · first
                    | (exact absurd g0 hh)
                    | (exfalso; revert hh; simp [Held, g0, *]; done)
                    | (show undef = _; first | rfl | (simp [*]; done))
              · intro L ax W hf hd
                simp [Region.binds] at hd
                have e189 : ax.tmps[189]?.getD undef = .pointer (some ⟨cv, 0, none⟩) := slv (hf.got 6 (by decide) (by simp [hd]))
                have g0 : sl ax 185 = .bool false := hf.got 2 (by decide) (by simp [hd])
                refine ⟨fun hh => ?_, fun hh => ?_⟩
                · first
                    | (exact absurd (g0.symm.trans hh) (undef_ne _))
                    | (exact absurd (g0.symm.trans hh) (bool_ne (by decide)))
                    | (exfalso; revert hh; simp [Held, g0, *]; done)
                    | (refine free_run (v := .pointer (some ⟨cv, 0, none⟩)) (W' := W) rfl ?_ rfl (Below.refl _ _); go_simp)
                · first
                    | (exact absurd g0 hh)
                    | (exfalso; revert hh; simp [Held, g0, *]; done)
                    | (show undef = _; first | rfl | (simp [*]; done))
              · intro L ax W hf hd
                simp [Region.binds] at hd
                have e190 : ax.tmps[190]?.getD undef = .pointer (some ⟨cv, 0, none⟩) := slv (hf.got 7 (by decide) (by simp [hd]))
                have g0 : sl ax 185 = .bool false := hf.got 2 (by decide) (by simp [hd])
                refine ⟨fun hh => ?_, fun hh => ?_⟩
                · first
                    | (exact absurd (g0.symm.trans hh) (undef_ne _))
                    | (exact absurd (g0.symm.trans hh) (bool_ne (by decide)))
                    | (exfalso; revert hh; simp [Held, g0, *]; done)
                    | ((have h1 := (hf.below.cell (p := ⟨cv, 0, none⟩) hqcv).trans c0q); refine free_run (v := .slice (some ⟨rb9, 0, none⟩) D.length cap9) (W' := W) rfl ?_ rfl (Below.refl _ _); go_simp)
                · first
                    | (exact absurd g0 hh)
                    | (exfalso; revert hh; simp [Held, g0, *]; done)
                    | (show undef = _; first | rfl | (simp [*]; done))
              · intro L ax W hf hd
                simp [Region.binds] at hd
                have e11 : ax.tmps[11]?.getD undef = .int .i64 (i : Int) := hf.out 11 (by decide) rfl
                have g0 : sl ax 185 = .bool false := hf.got 2 (by decide) (by simp [hd])
                refine ⟨fun hh => ?_, fun hh => ?_⟩
                · first
                    | (exact absurd (g0.symm.trans hh) (undef_ne _))
                    | (exact absurd (g0.symm.trans hh) (bool_ne (by decide)))
                    | (exfalso; revert hh; simp [Held, g0, *]; done)
                    | (refine free_run (v := .int .i64 (i : Int)) (W' := W) rfl ?_ rfl (Below.refl _ _); go_simp)
                · first
                    | (exact absurd g0 hh)
                    | (exfalso; revert hh; simp [Held, g0, *]; done)
                    | (show undef = _; first | rfl | (simp [*]; done))
              · intro L ax W hf hd
                simp [Region.binds] at hd
                have e191 : ax.tmps[191]?.getD undef = .slice (some ⟨rb9, 0, none⟩) D.length cap9 := slv (hf.got 8 (by decide) (by simp [hd]))
                have e192 : ax.tmps[192]?.getD undef = .int .i64 (i : Int) := slv (hf.got 9 (by decide) (by simp [hd]))
                have g0 : sl ax 185 = .bool false := hf.got 2 (by decide) (by simp [hd])
                refine ⟨fun hh => ?_, fun hh => ?_⟩
                · first
                    | (exact absurd (g0.symm.trans hh) (undef_ne _))
                    | (exact absurd (g0.symm.trans hh) (bool_ne (by decide)))
                    | (exfalso; revert hh; simp [Held, g0, *]; done)
                    | (refine free_run (v := .pointer (some ⟨rb9, i * 68, none⟩)) (W' := W) rfl ?_ rfl (Below.refl _ _); go_simp)
                · first
                    | (exact absurd g0 hh)
                    | (exfalso; revert hh; simp [Held, g0, *]; done)
                    | (show undef = _; first | rfl | (simp [*]; done))
              · intro L ax W hf hd
                simp [Region.binds] at hd
                have e193 : ax.tmps[193]?.getD undef = .pointer (some ⟨rb9, i * 68, none⟩) := slv (hf.got 10 (by decide) (by simp [hd]))
                have g0 : sl ax 185 = .bool false := hf.got 2 (by decide) (by simp [hd])
                refine ⟨fun hh => ?_, fun hh => ?_⟩
                · first
                    | (exact absurd (g0.symm.trans hh) (undef_ne _))
                    | (exact absurd (g0.symm.trans hh) (bool_ne (by decide)))
                    | (exfalso; revert hh; simp [Held, g0, *]; done)
                    | (refine free_run (v := .pointer (some ⟨rb9, i * 68, none⟩)) (W' := W) rfl ?_ rfl (Below.refl _ _); go_simp)
                · first
                    | (exact absurd g0 hh)
                    | (exfalso; revert hh; simp [Held, g0, *]; done)
                    | (show undef = _; first | rfl | (simp [*]; done))
              · intro L ax W hf hd
                simp [Region.binds] at hd
                have e194 : ax.tmps[194]?.getD undef = .pointer (some ⟨rb9, i * 68, none⟩) := slv (hf.got 11 (by decide) (by simp [hd]))
                have g0 : sl ax 185 = .bool false := hf.got 2 (by decide) (by simp [hd])
                refine ⟨fun hh => ?_, fun hh => ?_⟩
                · first
                    | (exact absurd (g0.symm.trans hh) (undef_ne _))
                    | (exact absurd (g0.symm.trans hh) (bool_ne (by decide)))
                    | (exfalso; revert hh; simp [Held, g0, *]; done)
                    | (refine free_run (v := .pointer (some ⟨rb9, i * 68 + 1, none⟩)) (W' := W) rfl ?_ rfl (Below.refl _ _); go_simp)
                · first
                    | (exact absurd g0 hh)
                    | (exfalso; revert hh; simp [Held, g0, *]; done)
                    | (show undef = _; first | rfl | (simp [*]; done))
              · intro L ax W hf hd
                simp [Region.binds] at hd
                have e195 : ax.tmps[195]?.getD undef = .pointer (some ⟨rb9, i * 68 + 1, none⟩) := slv (hf.got 12 (by decide) (by simp [hd]))
                have g0 : sl ax 185 = .bool false := hf.got 2 (by decide) (by simp [hd])
                refine ⟨fun hh => ?_, fun hh => ?_⟩
                · first
                    | (exact absurd (g0.symm.trans hh) (undef_ne _))
                    | (exact absurd (g0.symm.trans hh) (bool_ne (by decide)))
                    | (exfalso; revert hh; simp [Held, g0, *]; done)
                    | ((have h1 := (row?_below _ _ _ hf.below hqrb).trans hnmq); refine free_run (v := .agg (hashA nm)) (W' := W) rfl ?_ rfl (Below.refl _ _); go_simp)
                · first
                    | (exact absurd g0 hh)
                    | (exfalso; revert hh; simp [Held, g0, *]; done)
                    | (show undef = _; first | rfl | (simp [*]; done))
              · intro L ax W hf hd
                simp [Region.binds] at hd
                have e187 : ax.tmps[187]?.getD undef = .agg (hashA nm) := slv (hf.got 4 (by decide) (by simp [hd]))
                have e196 : ax.tmps[196]?.getD undef = .agg (hashA nm) := slv (hf.got 13 (by decide) (by simp [hd]))
                have g0 : sl ax 185 = .bool false := hf.got 2 (by decide) (by simp [hd])
                refine ⟨fun hh => ?_, fun hh => ?_⟩
                · first
                    | (exact absurd (g0.symm.trans hh) (undef_ne _))
                    | (exact absurd (g0.symm.trans hh) (bool_ne (by decide)))
                    | (exfalso; revert hh; simp [Held, g0, *]; done)
                    | (refine free_run (v := .bool false) (W' := W) rfl ?_ rfl (Below.refl _ _); go_simp)
                · first
                    | (exact absurd g0 hh)
                    | (exfalso; revert hh; simp [Held, g0, *]; done)
                    | (show undef = _; first | rfl | (simp [*]; done))
              · intro L ax W hf hd
                simp [Region.binds] at hd
                have e185 : ax.tmps[185]?.getD undef = .bool false := slv (hf.got 2 (by decide) (by simp [hd]))
                have e197 : ax.tmps[197]?.getD undef = .bool false := slv (hf.got 14 (by decide) (by simp [hd]))
                refine ⟨fun _ => ?_, fun h => absurd trivial h⟩
                refine free_run (v := .bool false) (W' := W) rfl ?_ rfl (Below.refl _ _)
                go_simp
            · intro vs W' hl' hF hb
              obtain ⟨g', hg1, hg2⟩ := vs_lit vs hl' hF
              have e15 : g' 15 = .bool false := hg2 15 (by decide)
              rw [hg1]
              have hBn := Lib.hid (hBq2.out.trans (hb.mono hBq2.out.size))
              clear hF hg1 hg2 hl' hb HNm hr16 c0q hqcv hqrb hnmq hq16 hg
              simp only [List.length_cons, List.length_nil, Nat.reduceAdd, show List.range 16 = [0, 1, 2, 3, 4, 5, 6, 7, 8, 9, 10, 11, 12, 13, 14, 15] from rfl, List.map_cons, List.map_nil, putL, List.zip_cons_cons, List.zip_nil_right, List.setIfInBounds_toArray, List.set_cons_succ, List.set_cons_zero, e15]
              go_wp2_with fail
              go_roundw
              case rel => exact ⟨i + 1, by omega, by have := hix2.out; omega, by go_num, hBn⟩
              case measure => have := hix2.out; simp [intOf]; omega
      · have hix3 : ¬ (i : Int) < (D.length : Int) := by omega
        have hC2 := Lib.hid (hB6.out.keep (hbw.out.trans (hBi.out.mono hbw.out.size)))
        have hbB := Lib.hid (hB3.out.trans (hC2.out.bel.mono hB3.out.size))
        obtain ⟨rb2, cap2, hDv2⟩ := hC2.out.view
        have hDo2 := Lib.hid hDv2
        have hDo1 := Lib.hid hDv
        clear hcq hDv hDv2
        have hBo2 := Lib.hid hBo.out.real
        clear hBo hBi hDo
        have hBi := Lib.hid (Below.refl wr.heap.size wr)
        generalize wr = wL at *
        go_upto_region 33 with fail
        clear c0q
        go_loopw [18] (fun t W' => ∃ j : Nat, 1 ≤ j ∧ j ≤ C.length ∧ t = .int .i64 j ∧ Hid (Below wL.heap.size wL W')) (fun t _ => C.length - (intOf t).toNat)
        case atStart => exact ⟨1, Nat.le_refl _, hok.out.pos, rfl, hBi⟩
        case round =>
          clear hBi
          obtain ⟨j, hj1, hj2, rfl, hBj⟩ := hrel
          have hDj := hDo2.out.keep hBj.out
          have c0q := hDj.c0
          by_cases hjx : j < C.length
          · obtain ⟨-, hnm, -⟩ := hDj.at hjx
            have hEp := show Calls Try.prog 52 #[ptrV cb, .agg (hashA C[j].p.name)] wr fun e w' => e = .returned (.tuple #[.int .u64 (C[j].p.epoch.toNat : Int), .int .i64 0]) ∧ Below wr.heap.size wr w' from by
              obtain ⟨sA, mb, G, hM⟩ := (hC2.out.keep hBj.out).real
              obtain ⟨ab, -, -, hv⟩ := hM.view hok.out.pos
              exact chepoch_some hv (chAt_self hok.out hjx) (List.getElem?_eq_getElem hjx)
            have j0 : (0 : Int) ≤ (j : Int) := by omega
            have j1 : (j : Int) < (C.length : Int) := by omega
            generalize C[j].p.name = nm at *
            generalize C[j].p.epoch = ep at *
            have hjx2 := Lib.hid hjx
            unfold ptrV at hEp
            clear hDj hjx
            go_wp2_with fail
            (with_reducible refine hEp.mono ?_)
            clear hEp
            rintro e w12 ⟨rfl, hb12⟩
            have hB12 := Lib.hid (hBj.out.trans (hb12.mono hBj.out.size))
            clear hb12 hnm c0q
            go_wp2_with fail
            go_roundw
            case rel => exact ⟨j + 1, by omega, by have := hjx2.out; omega, by go_num, hB12⟩
            case measure => have := hjx2.out; simp [intOf]; omega
          · have hjx' : ¬ (j : Int) < (C.length : Int) := by omega
            have hDk := hDo1.out.keep hBj.out
            have c1q := hDk.c0
            clear hDj hDk
            go_upto_region 39 with fail
            go_loopw [21] (fun t W' => ∃ x : Nat, C.length ≤ x ∧ x ≤ 100 ∧ t = .int .i64 x ∧ Hid (Below wL.heap.size wL W')) (fun t _ => D.length - (intOf t).toNat)
            case atStart => exact ⟨C.length, Nat.le_refl _, by omega, rfl, hBj⟩
            case round =>
              clear hBj c0q c1q
              obtain ⟨x, hx1, hx2, rfl, hBx⟩ := hrel
              have hDx := hDo1.out.keep hBx.out
              have c0q := hDx.c0
              by_cases hxx : x < D.length
              · obtain ⟨-, hnm, -⟩ := hDx.at hxx
                have hno := hCD.out x D[x] (List.getElem?_eq_getElem hxx) hx1
                have hEp := show Calls Try.prog 52 #[ptrV cb, .agg (hashA D[x].p.name)] wr fun e w' => e = .returned (.tuple #[.int .u64 0, .int .i64 6]) ∧ Below wr.heap.size wr w' from by
                  obtain ⟨sA, mb, G, hM⟩ := (hC2.out.keep hBx.out).real
                  obtain ⟨ab, -, -, hv⟩ := hM.view hok.out.pos
                  exact chepoch_none hv hno hok.out.pos
                have x0 : (0 : Int) ≤ (x : Int) := by omega
                have x1 : (x : Int) < (D.length : Int) := by omega
                generalize D[x].p.name = nm at *
                have hxx2 := Lib.hid hxx
                unfold ptrV at hEp
                clear hDx hxx hno
                go_wp2_with fail
                (with_reducible refine hEp.mono ?_)
                clear hEp
                rintro e w12 ⟨rfl, hb12⟩
                have hB12 := Lib.hid (hBx.out.trans (hb12.mono hBx.out.size))
                clear hb12 hnm c0q
                go_wp2_with fail
                go_roundw
                case rel => exact ⟨x + 1, by omega, by have := hxx2.out; omega, by go_num, hB12⟩
                case measure => have := hxx2.out; simp [intOf]; omega
              · have hxx' : ¬ (x : Int) < (D.length : Int) := by omega
                have HE := hend.out wr (hbB.out.trans (hBx.out.mono hbB.out.size))
                clear hDx
                go_wp2_with fail
                (with_reducible refine HE.mono ?_)
                rintro e w13 ⟨rfl, hb13⟩
                go_wp2_with fail
                go_ret
                exact ⟨rfl, hb13⟩
end Go.Proofs.Ythdjhbiigmcecaa
