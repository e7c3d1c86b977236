/- Texts of this proof, one behind the other: TenD, ShaC. -/
import Derived.Test.YthdjhbiigmcecaaPAM
import Derived.Test.YthdjhbiigmcecaaPAI
import Derived.Test.YthdjhbiigmcecaaPAL
import Derived.Test.YthdjhbiigmcecaaPAA
set_option linter.unusedVariables false
set_option linter.unusedSimpArgs false
/- Contract: landmarkref10.Text. -/
namespace Go.Proofs.Ythdjhbiigmcecaa
open Go.RowKit

theorem opMay_three {o : Op} (h : opMay o = true) : o.kind = 1 ∨ (o.kind = 2 ∧ 1 ≤ o.validator ∧ o.validator ≤ 64 ∧ o.evidence = []) ∨ (o.kind = 3 ∧ 1 ≤ o.validator ∧ o.validator ≤ 64 ∧ ∃ a b, o.evidence = [a, b] ∧ voteMay a = true ∧ voteMay b = true) := by
 have h0 := h
 unfold opMay at h
 simp only [Bool.and_eq_true, decide_eq_true_eq] at h
 obtain ⟨hb, h⟩ := h
 rcases opMay_out h0 with h1 | ⟨h1, h2, h3, h4, h5⟩
 ·exact .inl h1
 ·rcases h1 with h1 | h1
  ·refine .inr (.inl ⟨h1, h2, h3, ?_⟩)
   have := congrArg Op.evidence hb
   rw [this]
   simp [bareO, h1]
  ·refine .inr (.inr ⟨h1, h2, h3, ?_⟩)
   rw [if_neg (by omega), if_neg (by omega), if_pos h1] at h
   simp only [Bool.and_eq_true, decide_eq_true_eq] at h
   obtain ⟨⟨-, hl⟩, -⟩ := h
   obtain ⟨a, b, he⟩ : ∃ a b, o.evidence = [a, b] := by
    match hx : o.evidence, hl with
    | [a, b], _ => exact ⟨a, b, rfl⟩
   rw [he] at h5
   simp only [List.all_cons, List.all_nil, Bool.and_true, Bool.and_eq_true] at h5
   exact ⟨a, b, he, h5.1, h5.2⟩
attribute [local go_sem ↓] fold_appB
set_option maxRecDepth 100000 in
set_option maxHeartbeats 1600000 in
theorem ttext_c (g : GHeader) (h : Hdr) (w : World) (hr : HdrR w g h) (hl : h.ops.length ≤ 16) (hm : h.ops.all opMay = true) :
  Calls Try.prog 125 #[.agg (headerA g)] w fun e w' => ∃ x, e = .returned x ∧ Own w' w.heap.size x (nmText h) ∧ Below w.heap.size w w' := by
 have n1 := hr.2.2.1
 have e1 := hr.1
 have e2 := hr.2.1
 obtain ⟨gp, ge, ⟨oa, on, oc⟩⟩ := g
 simp only at n1 e1 e2
 subst n1 e1 e2
 have hnb := Lib.hid (show byteV (UInt8.ofNat h.ops.length) = .int .u8 (h.ops.length : Int) by rw [byteV_of, Nat.mod_eq_of_lt (by omega)])
 have hn := h.epoch.toNat_lt
 have hkl := h.parent.2
 have HN := fun W => tnum_c 8 h.epoch.toNat W (by omega) (by omega) (by omega)
 clear hn
 have HS := fun (n : UInt64) W => tnum_c 8 n.toNat W (by omega) (by omega) (by have := n.toNat_lt; omega)
 have hrow : row? (w.alloc (.cells (headerA ⟨h.parent, h.epoch, ⟨oa, h.ops.length, oc⟩⟩) 49)) w.heap.size 0 34 = some (headerA ⟨h.parent, h.epoch, ⟨oa, h.ops.length, oc⟩⟩) := by
  rw [row?_new]
  simp
 have hB0 : Below w.heap.size w (w.alloc (.cells (headerA ⟨h.parent, h.epoch, ⟨oa, h.ops.length, oc⟩⟩) 49)) := bel_a _ _
 have hz0 : (w.alloc (.cells (headerA ⟨h.parent, h.epoch, ⟨oa, h.ops.length, oc⟩⟩) 49)).heap.size = w.heap.size + 1 := by simp
 have Hr := Lib.hid (OpsR.keep' hr.2.2 hB0)
 have Hm := Lib.hid hm
 obtain ⟨c32, c33⟩ := headerA_cells hrow
 have hpr := parent_reads hrow
 simp only at c32 hpr
 unfold Sl.v at c33
 simp only at c33
 clear hr hm hrow
 go_enter Try.func125, Try.ntmps125
 go_upto_region 1 with fail
 generalize w.alloc (.cells (headerA ⟨h.parent, h.epoch, ⟨oa, h.ops.length, oc⟩⟩) 49) = w0 at *
 obtain ⟨b1, hb1e⟩ : ∃ b, b = w.heap.size := ⟨_, rfl⟩
 have hw0 : w.heap.size ≤ w0.heap.size := by omega
 have hb1 : b1 < w0.heap.size := by omega
 rw [← hb1e] at c32 c33 hpr ⊢
 rw [← hb1e] at hw0 hB0
 replace hb1e := Lib.hid hb1e
 replace hz0 := Lib.hid hz0
 have hcv := run_convert_lit (P := Try.prog) (w0.alloc (.cells #[.int .u8 104, .int .u8 101, .int .u8 97, .int .u8 100, .int .u8 101, .int .u8 114] 5)) 32 5 #[.int .u8 104, .int .u8 101, .int .u8 97, .int .u8 100, .int .u8 101, .int .u8 114] (0, 0) w0.heap.size 6 6 Try.underlying32 Try.underlying5 (heap_alloc_new w0 _)
 have ho := own_freeze w0 w0.heap.size [104, 101, 97, 100, 101, 114] #[.int .u8 104, .int .u8 101, .int .u8 97, .int .u8 100, .int .u8 101, .int .u8 114] 5 6 rfl rfl (Nat.le_refl _) (by simp [maxLen])
 have hk := freeze_kept (w0.alloc (.cells #[.int .u8 104, .int .u8 101, .int .u8 97, .int .u8 100, .int .u8 101, .int .u8 114] 5)) w0.heap.size 6 w0.heap.size (Nat.le_refl _)
 have hbel : Below w0.heap.size w0 ((w0.alloc (.cells #[.int .u8 104, .int .u8 101, .int .u8 97, .int .u8 100, .int .u8 101, .int .u8 114] 5)).freeze ⟨w0.heap.size, 6, none⟩ 1) := hk.below (bel_a _ _)
 have hz2 := hbel.size
 obtain ⟨s2, W2, hrun', ho2, hg2, -⟩ := run_appB (s := ⟨some ⟨w0.heap.size, 0, none⟩, 6, 6⟩) ho hz2 (hpr.keep hbel) (by simp [hkl])
 have hrun : (appB #[.slice (some ⟨w0.heap.size, 0, none⟩) 6 6, .slice (some ⟨b1, 0, none⟩) 32 32]).run Try.prog ((w0.alloc (.cells #[.int .u8 104, .int .u8 101, .int .u8 97, .int .u8 100, .int .u8 101, .int .u8 114] 5)).freeze ⟨w0.heap.size, 6, none⟩ 1) = .ok s2.v W2 := hrun'
 have hB2 : Below w0.heap.size w0 W2 := hbel.grown hg2 hz2 fun k hk => Nat.le_of_eq (by injection hk)
 have ho2' := Lib.hid ho2
 have hB2' := Lib.hid hB2
 clear ho2 hB2 hg2 hrun' hbel hk ho hz2 hpr
 go_upto_region 2 with fail
 clear hrun hcv
 have hsz2 : w0.heap.size ≤ W2.heap.size := hB2'.out.size
 replace c32 := (hB2'.out.cell (p := ⟨b1, 32, none⟩) hb1).trans c32
 replace c33 := (hB2'.out.cell (p := ⟨b1, 33, none⟩) hb1).trans c33
 obtain ⟨m0, hm0⟩ : ∃ m0 : List UInt8, m0 = [104, 101, 97, 100, 101, 114] ++ h.parent.1 := ⟨_, rfl⟩
 have hml : m0.length = 38 := by rw [hm0]; simp [hkl]
 have ho2 := ho2'.out
 rw [← hm0] at ho2
 replace hm0 := Lib.hid hm0
 clear ho2'
 refine wp_region_freeI_l (by kernel_rfl) [11, 12, 13, 14, 15, 16, 17, 18, 19, 20, 21, 3]
  [(fun v => v = s2.v), (fun v => v = .pointer (some ⟨b1, 32, none⟩)), (fun v => v = .int .u64 (h.epoch.toNat : Int)), (fun v => ∃ s : Sl, v = s.v), (fun v => ∃ s : Sl, v = s.v), (fun v => v = .pointer (some ⟨b1, 33, none⟩)), (fun v => v = .slice oa (h.ops.length : Nat) oc), (fun v => v = .int .i64 (h.ops.length : Int)), (fun v => v = .int .u8 (h.ops.length : Int)), (fun v => ∃ s : Sl, v = s.v), (fun v => ∃ s : Sl, v = s.v), (fun v => ∃ s : Sl, v = s.v)]
  [3, 4, 9, 10, 11] (AppI w0.heap.size W2 s2.v m0 (be 8 h.epoch.toNat) [UInt8.ofNat h.ops.length]) [[4, 10, 11], [2, 3, 4, 10, 11], [3, 4, 10, 11], [4, 10, 11], [10, 11], [6, 7, 8, 9, 10, 11], [7, 8, 9, 10, 11], [8, 9, 10, 11], [9, 10, 11], [10, 11], [11], []] (by kernel_rfl) (by kernel_rfl) ?_ ?_ ?_
 ·show AppI w0.heap.size W2 s2.v m0 (be 8 h.epoch.toNat) [UInt8.ofNat h.ops.length] [false, false, false, false, false] [_, _, _, _, _] _
  exact AppI.zero hsz2 ho2 _
 ·refine ⟨?_, ?_, ?_, ?_, ?_, ?_, ?_, ?_, ?_, ?_, ?_, ?_, trivial⟩
  ·intro L ax W hf hLi hno hd
   try simp [Region.binds] at hd
   refine ⟨fun _ => ?_, fun h => absurd trivial h⟩
   have hG : AppI w0.heap.size W2 s2.v m0 (be 8 h.epoch.toNat) [UInt8.ofNat h.ops.length] [L 3, L 4, L 9, L 10, L 11] [sl ax 14, sl ax 15, sl ax 20, sl ax 21, sl ax 3] W := hf.glob
   have e3 : ax.tmps[3]?.getD undef = s2.v := slv ((hf.rest 3 fun i hi hLt he => (by
    have h11 : i = 11 := (show ∀ i, i < 12 → ([11, 12, 13, 14, 15, 16, 17, 18, 19, 20, 21, 3] : List Nat).getD i 0 = 3 → i = 11 from (by decide)) i hi he
    rw [h11, hno 11 (by decide)] at hLt
    cases hLt)).trans rfl)
   refine freeI_run (v := s2.v) rfl hf (by decide) ?_ rfl
   go_simp
  ·intro L ax W hf hLi hno hd
   try simp [Region.binds] at hd
   have e1 : ax.tmps[1]?.getD undef = .pointer (some ⟨b1, 0, none⟩) := hf.out 1 (by decide) rfl
   refine ⟨fun _ => ?_, fun h => absurd trivial h⟩
   refine freeI_run (v := .pointer (some ⟨b1, 32, none⟩)) rfl hf (by decide) ?_ rfl
   go_simp
  ·intro L ax W hf hLi hno hd
   simp [Region.binds] at hd
   have e12 : ax.tmps[12]?.getD undef = .pointer (some ⟨b1, 32, none⟩) := slv (hf.got 1 (by decide) (by simp [hd]))
   refine ⟨fun _ => ?_, fun h => absurd trivial h⟩
   have hG : AppI w0.heap.size W2 s2.v m0 (be 8 h.epoch.toNat) [UInt8.ofNat h.ops.length] [L 3, L 4, L 9, L 10, L 11] [sl ax 14, sl ax 15, sl ax 20, sl ax 21, sl ax 3] W := hf.glob
   have h1 := (hG.bel.cell (p := ⟨b1, 32, none⟩) hb1).trans c32
   refine freeI_run (v := .int .u64 (h.epoch.toNat : Int)) rfl hf (by decide) ?_ rfl
   go_simp
  ·intro L ax W hf hLi hno hd
   simp [Region.binds] at hd
   have e13 : ax.tmps[13]?.getD undef = .int .u64 (h.epoch.toNat : Int) := slv (hf.got 2 (by decide) (by simp [hd]))
   refine ⟨fun _ => ?_, fun h => absurd trivial h⟩
   have hG : AppI w0.heap.size W2 s2.v m0 (be 8 h.epoch.toNat) [UInt8.ofNat h.ops.length] [L 3, L 4, L 9, L 10, L 11] [sl ax 14, sl ax 15, sl ax 20, sl ax 21, sl ax 3] W := hf.glob
   refine freeI_call (f := 187) (args := #[.int .u64 (h.epoch.toNat : Int), .int .i64 8]) rfl (by go_simp) ?_
   refine (HN W).mono ?_
   rintro e w' ⟨x, rfl, ho, hb⟩
   obtain ⟨s, rfl⟩ := ho.slice
   exact ⟨_, rfl, ⟨s, rfl⟩, hG.o1 hb ho⟩
  ·intro L ax W hf hLi hno hd
   simp [Region.binds] at hd
   have e11 : ax.tmps[11]?.getD undef = s2.v := slv (hf.got 0 (by decide) (by simp [hd]))
   have f14 : (fun v => ∃ s : Sl, v = s.v) (sl ax 14) := hf.got 3 (by decide) (by simp [hd])
   refine ⟨fun _ => ?_, fun h => absurd trivial h⟩
   have hG : AppI w0.heap.size W2 s2.v m0 (be 8 h.epoch.toNat) [UInt8.ofNat h.ops.length] [L 3, L 4, L 9, L 10, L 11] [sl ax 14, sl ax 15, sl ax 20, sl ax 21, sl ax 3] W := hf.glob
   obtain ⟨s14, e14⟩ := f14
   obtain ⟨s', W', hrun, hH⟩ := hG.a1 (by simp [hd]) hLi (hno 10 (by decide)) (hno 11 (by decide)) (by simp [be_length]; omega)
   rw [e14] at hrun
   have e14' := slv e14
   refine freeI_val (v := s'.v) (W' := W') rfl ?_ ⟨s', rfl⟩ hH
   go_simp
  ·intro L ax W hf hLi hno hd
   try simp [Region.binds] at hd
   have e1 : ax.tmps[1]?.getD undef = .pointer (some ⟨b1, 0, none⟩) := hf.out 1 (by decide) rfl
   refine ⟨fun _ => ?_, fun h => absurd trivial h⟩
   refine freeI_run (v := .pointer (some ⟨b1, 33, none⟩)) rfl hf (by decide) ?_ rfl
   go_simp
  ·intro L ax W hf hLi hno hd
   simp [Region.binds] at hd
   have e16 : ax.tmps[16]?.getD undef = .pointer (some ⟨b1, 33, none⟩) := slv (hf.got 5 (by decide) (by simp [hd]))
   refine ⟨fun _ => ?_, fun h => absurd trivial h⟩
   have hG : AppI w0.heap.size W2 s2.v m0 (be 8 h.epoch.toNat) [UInt8.ofNat h.ops.length] [L 3, L 4, L 9, L 10, L 11] [sl ax 14, sl ax 15, sl ax 20, sl ax 21, sl ax 3] W := hf.glob
   have h1 := (hG.bel.cell (p := ⟨b1, 33, none⟩) hb1).trans c33
   refine freeI_run (v := .slice oa (h.ops.length : Nat) oc) rfl hf (by decide) ?_ rfl
   go_simp
  ·intro L ax W hf hLi hno hd
   simp [Region.binds] at hd
   have e17 : ax.tmps[17]?.getD undef = .slice oa (h.ops.length : Nat) oc := slv (hf.got 6 (by decide) (by simp [hd]))
   refine ⟨fun _ => ?_, fun h => absurd trivial h⟩
   refine freeI_run (v := .int .i64 (h.ops.length : Int)) rfl hf (by decide) ?_ rfl
   go_simp
  ·intro L ax W hf hLi hno hd
   simp [Region.binds] at hd
   have e18 : ax.tmps[18]?.getD undef = .int .i64 (h.ops.length : Int) := slv (hf.got 7 (by decide) (by simp [hd]))
   refine ⟨fun _ => ?_, fun h => absurd trivial h⟩
   have hG : AppI w0.heap.size W2 s2.v m0 (be 8 h.epoch.toNat) [UInt8.ofNat h.ops.length] [L 3, L 4, L 9, L 10, L 11] [sl ax 14, sl ax 15, sl ax 20, sl ax 21, sl ax 3] W := hf.glob
   have hq : IntKind.u8.wrap (h.ops.length : Int) = h.ops.length := by rw [IntKind.wrap_u8]; omega
   refine freeI_run (v := .int .u8 (h.ops.length : Int)) rfl hf (by decide) ?_ rfl
   go_simp
  ·intro L ax W hf hLi hno hd
   simp [Region.binds] at hd
   have e19 : ax.tmps[19]?.getD undef = .int .u8 (h.ops.length : Int) := slv (hf.got 8 (by decide) (by simp [hd]))
   refine ⟨fun _ => ?_, fun h => absurd trivial h⟩
   have hG : AppI w0.heap.size W2 s2.v m0 (be 8 h.epoch.toNat) [UInt8.ofNat h.ops.length] [L 3, L 4, L 9, L 10, L 11] [sl ax 14, sl ax 15, sl ax 20, sl ax 21, sl ax 3] W := hf.glob
   have ho := Own.lit W W.heap.size [UInt8.ofNat h.ops.length] #[.int .u8 (h.ops.length : Int)] 5 1 (by rw [← hnb.out]; rfl) rfl (Nat.le_refl _) (by simp [maxLen])
   refine freeI_val (v := .slice (some ⟨W.heap.size, 0, none⟩) 1 1) (W' := W.alloc (.cells #[.int .u8 (h.ops.length : Int)] 5)) rfl ?_ ⟨⟨some ⟨W.heap.size, 0, none⟩, 1, 1⟩, rfl⟩ (hG.o2 (bel_a W _) (s := ⟨some ⟨W.heap.size, 0, none⟩, 1, 1⟩) ho)
   go_simp
  ·intro L ax W hf hLi hno hd
   simp [Region.binds] at hd
   have f15 : (fun v => ∃ s : Sl, v = s.v) (sl ax 15) := hf.got 4 (by decide) (by simp [hd])
   have f20 : (fun v => ∃ s : Sl, v = s.v) (sl ax 20) := hf.got 9 (by decide) (by simp [hd])
   refine ⟨fun _ => ?_, fun h => absurd trivial h⟩
   have hG : AppI w0.heap.size W2 s2.v m0 (be 8 h.epoch.toNat) [UInt8.ofNat h.ops.length] [L 3, L 4, L 9, L 10, L 11] [sl ax 14, sl ax 15, sl ax 20, sl ax 21, sl ax 3] W := hf.glob
   obtain ⟨s15, e15⟩ := f15
   obtain ⟨s20, e20⟩ := f20
   obtain ⟨s', W', hrun, hH⟩ := hG.a2 (by simp [hd]) (by simp [hd]) hLi (hno 11 (by decide)) (by simp [be_length]; omega)
   rw [e15, e20] at hrun
   have e15' := slv e15
   have e20' := slv e20
   refine freeI_val (v := s'.v) (W' := W') rfl ?_ ⟨s', rfl⟩ hH
   go_simp
  ·intro L ax W hf hLi hno hd
   simp [Region.binds] at hd
   have f21 : (fun v => ∃ s : Sl, v = s.v) (sl ax 21) := hf.got 10 (by decide) (by simp [hd])
   refine ⟨fun _ => ?_, fun h => absurd trivial h⟩
   have hG : AppI w0.heap.size W2 s2.v m0 (be 8 h.epoch.toNat) [UInt8.ofNat h.ops.length] [L 3, L 4, L 9, L 10, L 11] [sl ax 14, sl ax 15, sl ax 20, sl ax 21, sl ax 3] W := hf.glob
   obtain ⟨s21, e21⟩ := f21
   have e21' := slv e21
   have hH := hG.fin
   refine freeI_val (v := s21.v) (W' := W) rfl ?_ ⟨s21, rfl⟩ ?_
   ·go_simp
   ·rw [e21] at hH
    show AppI _ _ _ _ _ _ [L 3, L 4, L 9, L 10, true] [sl ax 14, sl ax 15, sl ax 20, sl ax 21, s21.v] W
    rw [e21]
    exact hH
 ·intro vs W hl' hF hG
  obtain ⟨g', hg1, hg2⟩ := vs_litI vs hl' hF
  obtain ⟨q3, sx, q1, q2⟩ := hG.out
  rw [hg1] at q1 q3
  simp only [List.length_cons, List.length_nil, Nat.reduceAdd, List.map_cons, List.map_nil, show List.range 12 = [0, 1, 2, 3, 4, 5, 6, 7, 8, 9, 10, 11] from rfl, List.getD_cons_zero, List.getD_cons_succ] at q1 q3
  have e11 : g' 11 = sx.v := q3.trans q1
  obtain ⟨hp, hhp⟩ : ∃ hp, hp = m0 ++ be 8 h.epoch.toNat ++ [UInt8.ofNat h.ops.length] := ⟨_, rfl⟩
  have hpl : hp.length ≤ 60 := by rw [hhp]; simp [be_length]; omega
  have ho := q2
  rw [← hhp] at ho
  have hfin := Lib.hid (show nmText h = hp ++ (h.ops.map opBytes).flatten by
   rw [hhp, hm0.out]
   simp [nmText, hdBytes, List.append_assoc])
  have hB3 : Below w0.heap.size w0 W := hB2'.out.trans hG.bel
  have hBw : Below w.heap.size w W := by
   have h1 : Below b1 w W := hB0.trans (hB3.mono hw0)
   rwa [hb1e.out] at h1
  replace c33 := (hG.bel.cell (p := ⟨b1, 33, none⟩) hb1).trans c33
  have hsW : w0.heap.size ≤ W.heap.size := hB3.size
  rw [hg1]
  simp only [List.length_cons, List.length_nil, Nat.reduceAdd, show List.range 12 = [0, 1, 2, 3, 4, 5, 6, 7, 8, 9, 10, 11] from rfl, List.map_cons, List.map_nil, slotsIn, putL, List.setIfInBounds_toArray, List.set_cons_succ, List.set_cons_zero, e11, List.size_toArray, Nat.reduceLT, if_true, if_false]
  clear hhp e11 q1 q2 q3 hg1 hg2 hG hF hl' hm0 hml hkl hnb HN c32 hB2' hsz2 ho2
  have Ho := Lib.hid ho
  replace hB3 := Lib.hid hB3
  replace hBw := Lib.hid hBw
  clear ho hB0
  go_wp2_with fail
  go_loopw [3, 4] (fun u i w' => ∃ k : Nat, k ≤ h.ops.length ∧ Own w' w0.heap.size u (hp ++ ((h.ops.take k).map opBytes).flatten) ∧ i = .int .i64 k ∧ Below w0.heap.size W w') (fun _ i _ => h.ops.length - (intOf i).toNat)
  case atStart => exact ⟨0, Nat.zero_le _, by simpa using Ho.out, rfl, Below.refl _ _⟩
  case round =>
   obtain ⟨k, hk, hown, rfl, hB⟩ := hrel
   have hz := hB.size
   have c33 : wr.cell? ⟨b1, 33, none⟩ = some (.slice oa h.ops.length oc) := (hB.cell (p := ⟨b1, 33, none⟩) hb1).trans c33
   by_cases hkx : k < h.ops.length
   ·obtain ⟨b, off, e, hbs, hc⟩ := Hr.out.at (by omega)
    have e1 := congrArg Sl.a e
    simp only at e1
    subst e1
    clear e
    obtain ⟨cs, hcx, g1, rfl, hv1⟩ := hc k hkx
    clear hc
    replace hcx := (row?_below _ _ _ (hB3.out.trans hB) hbs).trans hcx
    have hvm := List.all_eq_true.1 Hm.out h.ops[k] (List.getElem_mem _)
    have hfl : ((h.ops.take (k + 1)).map opBytes).flatten = ((h.ops.take k).map opBytes).flatten ++ opBytes h.ops[k] := by
     rw [List.take_succ_eq_append_getElem hkx, List.map_append, List.flatten_append, List.map_cons, List.map_nil, List.flatten_cons, List.flatten_nil, List.append_nil]
    have hlen := ops_len h.ops k Hm.out
    have hvl := opBytes_length hvm
    generalize h.ops[k] = ok at *
    have i0' : (0 : Int) ≤ (k : Int) := by omega
    have i1 : (k : Int) < (h.ops.length : Int) := by omega
    obtain ⟨pre, hpre⟩ : ∃ pre, pre = hp ++ ((h.ops.take k).map opBytes).flatten := ⟨_, rfl⟩
    have hfit : pre.length ≤ 200000 := by
     rw [hpre]
     simp only [List.length_append]
     omega
    have Hfl := Lib.hid (show hp ++ ((h.ops.take (k + 1)).map opBytes).flatten = pre ++ opBytes ok by rw [hpre, hfl, List.append_assoc])
    rw [← hpre] at hown
    obtain ⟨su, rfl⟩ := hown.slice
    have Hv1 := Lib.hid hv1
    have Hown := Lib.hid hown
    have hth := Lib.hid (opMay_three hvm)
    have HBo := Lib.hid hB
    have hgk : 1 ≤ g1.kind ∧ g1.kind ≤ 3 := by
     rw [hv1.1]
     rcases opMay_three hvm with q | q | q <;> omega
    obtain ⟨hgk1, hgk3⟩ := hgk
    clear hpre hfl hv1 hlen hvm hvl hown hB
    go_upto_region 7 with fail
    obtain ⟨w4, hw4, hrow4, -, hB4, hz4⟩ := box_row wr (opA ⟨0, zeroHash, 0, 0, ⟨none, 0, 0⟩⟩) (opA g1) 97 36 (by omega) (by simp) (by simp)
    rw [← hw4]
    clear hw4
    have hlit := Own.lit w4 w4.heap.size [UInt8.ofNat (g1.kind % 256).toNat] #[.int .u8 g1.kind] 5 1 (by rw [List.map_cons, byteV_int g1.kind (by omega) (by omega)]; rfl) rfl (Nat.le_refl _) (by simp [maxLen])
    have hz4' : (w4.alloc (.cells #[.int .u8 g1.kind] 5)).heap.size = wr.heap.size + 2 := by simp; omega
    have hB4' : Below wr.heap.size wr (w4.alloc (.cells #[.int .u8 g1.kind] 5)) := hB4.trans ((bel_a w4 _).mono (by omega))
    have hsr : w0.heap.size ≤ wr.heap.size := by omega
    obtain ⟨s3, w5, hrun', ho5, hg5, hor⟩ := run_appB (Hown.out.keep hB4') (by omega) (Own.reads (s := ⟨some ⟨w4.heap.size, 0, none⟩, 1, 1⟩) hlit) (by simp; omega)
    have hrun : (appB #[su.v, .slice (some ⟨w4.heap.size, 0, none⟩) 1 1]).run Try.prog (w4.alloc (.cells #[.int .u8 g1.kind] 5)) = .ok s3.v w5 := hrun'
    have hsu : ∀ g, su.v.ownBlock = some g → g < wr.heap.size := fun g hg => (OwnC.lt Hown.out g hg).2
    obtain ⟨b4, hb4⟩ : ∃ b, b = wr.heap.size := ⟨_, rfl⟩
    rw [← hb4] at hrow4 hz4 hz4' hsu ⊢
    have hb5 : b4 < w5.heap.size := by have := hg5.size; omega
    have row5 : row? w5 b4 0 36 = some (opA g1) := by
     refine (row?_of_block (hg5.block b4 (by omega) fun e => ?_)).trans ((row?_old _ _ _ _ _ (by omega)).trans hrow4)
     have := hsu b4 e.symm
     omega
    have hne5 : some b4 ≠ s3.v.ownBlock := fun e => by
     rcases hor with q | q
     ·have := hsu b4 (q.symm.trans e.symm)
      omega
     ·have := q.symm.trans e.symm
      injection this with this
      omega
    have hBw5 := Lib.hid (show Below w0.heap.size w0 w5 from (hB3.out.trans (HBo.out.trans (hB4'.mono hsr))).grown hg5 (by omega) fun g hg => (OwnC.lt Hown.out g hg).1)
    have hBr5 := Lib.hid (show Below w0.heap.size W w5 from (HBo.out.trans (hB4'.mono hsr)).grown hg5 (by omega) fun g hg => (OwnC.lt Hown.out g hg).1)
    have hsz5 : w0.heap.size ≤ w5.heap.size := by have := hg5.size; omega
    have hw := IntWalk.u8_in g1.kind (by omega)
    obtain ⟨d0, -, d34, -⟩ := opA_cells row5
    obtain ⟨d0', -, -, -⟩ := opA_cells hrow4
    replace hb4 := Lib.hid hb4
    obtain ⟨p1, hp1⟩ : ∃ p, p = pre ++ [UInt8.ofNat (g1.kind % 256).toNat] := ⟨_, rfl⟩
    have hpl1 : p1.length ≤ 200001 := by rw [hp1]; simp; omega
    rw [← hp1] at ho5
    have Ho5 := Lib.hid ho5
    replace hp1 := Lib.hid hp1
    clear ho5 hg5 hor hrun' hsu hlit hz4' hB4' hB4 hcx
    replace hz4 := Lib.hid hz4
    go_upto_region 8 with fail
    have Ho5' := Ho5
    rcases hth.out with q | ⟨q, qv0, qv1, qe⟩ | ⟨q, qv0, qv1, va, vb, qe, qm1, qm2⟩
    ·have hk1 : g1.kind = 1 := Hv1.out.1.trans q
     have hop := Lib.hid (show opBytes ok = [1] ++ g1.key.1 ++ be 8 g1.stake.toNat by
      unfold opBytes
      rw [if_pos q, q, Hv1.out.2.1, Hv1.out.2.2.1]
      rfl)
     have hkb := Lib.hid (show [UInt8.ofNat (g1.kind % 256).toNat] = [1] by rw [hk1]; rfl)
     rw [hk1] at d0
     replace hk1 := Lib.hid hk1
     clear hw d34 hrun d0' hrow4 q
     go_upto_region 10 with fail
     have ho5 := Ho5.out
     refine wp_region_freeI_l (by kernel_rfl) [44, 45, 46, 47, 48, 49, 50, 51, 3]
      [(fun v => v = s3.v), (fun v => v = .pointer (some ⟨b4, 1, none⟩)), (fun v => ∃ s : Sl, v = s.v), (fun v => ∃ s : Sl, v = s.v), (fun v => v = .pointer (some ⟨b4, 33, none⟩)), (fun v => v = .int .u64 (g1.stake.toNat : Int)), (fun v => ∃ s : Sl, v = s.v), (fun v => ∃ s : Sl, v = s.v), (fun v => ∃ s : Sl, v = s.v)]
      [2, 3, 6, 7, 8] (AppI w0.heap.size w5 s3.v p1 g1.key.1 (be 8 g1.stake.toNat)) [[3, 7, 8], [2, 3, 7, 8], [3, 7, 8], [7, 8], [5, 6, 7, 8], [6, 7, 8], [7, 8], [8], []] (by kernel_rfl) (by kernel_rfl) ?_ ?_ ?_
     ·show AppI w0.heap.size w5 s3.v p1 g1.key.1 (be 8 g1.stake.toNat) [false, false, false, false, false] [_, _, _, _, _] _
      exact AppI.zero hsz5 ho5 _
     ·refine ⟨?_, ?_, ?_, ?_, ?_, ?_, ?_, ?_, ?_, trivial⟩
      ·intro L ax W hf hLi hno hd
       try simp [Region.binds] at hd
       refine ⟨fun _ => ?_, fun h => absurd trivial h⟩
       have hG : AppI w0.heap.size w5 s3.v p1 g1.key.1 (be 8 g1.stake.toNat) [L 2, L 3, L 6, L 7, L 8] [sl ax 46, sl ax 47, sl ax 50, sl ax 51, sl ax 3] W := hf.glob
       have e3 : ax.tmps[3]?.getD undef = s3.v := slv ((hf.rest 3 fun i hi hLt he => (by
        have h11 : i = 8 := (show ∀ i, i < 9 → ([44, 45, 46, 47, 48, 49, 50, 51, 3] : List Nat).getD i 0 = 3 → i = 8 from (by decide)) i hi he
        rw [h11, hno 8 (by decide)] at hLt
        cases hLt)).trans rfl)
       refine freeI_run (v := s3.v) rfl hf (by decide) ?_ rfl
       go_simp
      ·intro L ax W hf hLi hno hd
       try simp [Region.binds] at hd
       have e5 : ax.tmps[5]?.getD undef = .pointer (some ⟨b4, 0, none⟩) := hf.out 5 (by decide) rfl
       refine ⟨fun _ => ?_, fun h => absurd trivial h⟩
       refine freeI_run (v := .pointer (some ⟨b4, 1, none⟩)) rfl hf (by decide) ?_ rfl
       go_simp
      ·intro L ax W hf hLi hno hd
       simp [Region.binds] at hd
       have e45 : ax.tmps[45]?.getD undef = .pointer (some ⟨b4, 1, none⟩) := slv (hf.got 1 (by decide) (by simp [hd]))
       refine ⟨fun _ => ?_, fun h => absurd trivial h⟩
       have hG : AppI w0.heap.size w5 s3.v p1 g1.key.1 (be 8 g1.stake.toNat) [L 2, L 3, L 6, L 7, L 8] [sl ax 46, sl ax 47, sl ax 50, sl ax 51, sl ax 3] W := hf.glob
       have hrw := (row?_of_block (off := 0) (n := 36) (hG.far.block b4 hb5 hne5)).trans row5
       refine freeI_val (v := (⟨some ⟨b4, 1, none⟩, 32, 32⟩ : Sl).v) (W' := W) rfl ?_ ⟨_, rfl⟩ (hG.r1 (s := ⟨some ⟨b4, 1, none⟩, 32, 32⟩) (key_reads hrw) fun _ g off e => by
        injection e with e
        injection e with e
        subst e
        exact ⟨hb5, fun q => hne5 q.symm⟩)
       unfold Sl.v
       go_simp
      ·intro L ax W hf hLi hno hd
       simp [Region.binds] at hd
       have e44 : ax.tmps[44]?.getD undef = s3.v := slv (hf.got 0 (by decide) (by simp [hd]))
       have f46 : (fun v => ∃ s : Sl, v = s.v) (sl ax 46) := hf.got 2 (by decide) (by simp [hd])
       refine ⟨fun _ => ?_, fun h => absurd trivial h⟩
       have hG : AppI w0.heap.size w5 s3.v p1 g1.key.1 (be 8 g1.stake.toNat) [L 2, L 3, L 6, L 7, L 8] [sl ax 46, sl ax 47, sl ax 50, sl ax 51, sl ax 3] W := hf.glob
       obtain ⟨s46, e46⟩ := f46
       obtain ⟨s', W', hrun, hH⟩ := hG.a1 (by simp [hd]) hLi (hno 7 (by decide)) (hno 8 (by decide)) (by have := g1.key.2; omega)
       rw [e46] at hrun
       have e46' := slv e46
       refine freeI_val (v := s'.v) (W' := W') rfl ?_ ⟨s', rfl⟩ hH
       go_simp
      ·intro L ax W hf hLi hno hd
       try simp [Region.binds] at hd
       have e5 : ax.tmps[5]?.getD undef = .pointer (some ⟨b4, 0, none⟩) := hf.out 5 (by decide) rfl
       refine ⟨fun _ => ?_, fun h => absurd trivial h⟩
       refine freeI_run (v := .pointer (some ⟨b4, 33, none⟩)) rfl hf (by decide) ?_ rfl
       go_simp
      ·intro L ax W hf hLi hno hd
       simp [Region.binds] at hd
       have e48 : ax.tmps[48]?.getD undef = .pointer (some ⟨b4, 33, none⟩) := slv (hf.got 4 (by decide) (by simp [hd]))
       refine ⟨fun _ => ?_, fun h => absurd trivial h⟩
       have hG : AppI w0.heap.size w5 s3.v p1 g1.key.1 (be 8 g1.stake.toNat) [L 2, L 3, L 6, L 7, L 8] [sl ax 46, sl ax 47, sl ax 50, sl ax 51, sl ax 3] W := hf.glob
       have hrw := (row?_of_block (off := 0) (n := 36) (hG.far.block b4 hb5 hne5)).trans row5
       obtain ⟨-, hst, -, -⟩ := opA_cells hrw
       refine freeI_run (v := .int .u64 (g1.stake.toNat : Int)) rfl hf (by decide) ?_ rfl
       go_simp
      ·intro L ax W hf hLi hno hd
       simp [Region.binds] at hd
       have e49 : ax.tmps[49]?.getD undef = .int .u64 (g1.stake.toNat : Int) := slv (hf.got 5 (by decide) (by simp [hd]))
       refine ⟨fun _ => ?_, fun h => absurd trivial h⟩
       have hG : AppI w0.heap.size w5 s3.v p1 g1.key.1 (be 8 g1.stake.toNat) [L 2, L 3, L 6, L 7, L 8] [sl ax 46, sl ax 47, sl ax 50, sl ax 51, sl ax 3] W := hf.glob
       refine freeI_call (f := 187) (args := #[.int .u64 (g1.stake.toNat : Int), .int .i64 8]) rfl (by go_simp) ?_
       refine (HS g1.stake W).mono ?_
       rintro e w' ⟨x, rfl, ho, hb⟩
       obtain ⟨s, rfl⟩ := ho.slice
       exact ⟨_, rfl, ⟨s, rfl⟩, hG.o2 hb ho⟩
      ·intro L ax W hf hLi hno hd
       simp [Region.binds] at hd
       have f47 : (fun v => ∃ s : Sl, v = s.v) (sl ax 47) := hf.got 3 (by decide) (by simp [hd])
       have f50 : (fun v => ∃ s : Sl, v = s.v) (sl ax 50) := hf.got 6 (by decide) (by simp [hd])
       refine ⟨fun _ => ?_, fun h => absurd trivial h⟩
       have hG : AppI w0.heap.size w5 s3.v p1 g1.key.1 (be 8 g1.stake.toNat) [L 2, L 3, L 6, L 7, L 8] [sl ax 46, sl ax 47, sl ax 50, sl ax 51, sl ax 3] W := hf.glob
       obtain ⟨s47, e47⟩ := f47
       obtain ⟨s50, e50⟩ := f50
       obtain ⟨s', W', hrun, hH⟩ := hG.a2 (by simp [hd]) (by simp [hd]) hLi (hno 8 (by decide)) (by have := g1.key.2; simp [be_length]; omega)
       rw [e47, e50] at hrun
       have e47' := slv e47
       have e50' := slv e50
       refine freeI_val (v := s'.v) (W' := W') rfl ?_ ⟨s', rfl⟩ hH
       go_simp
      ·intro L ax W hf hLi hno hd
       simp [Region.binds] at hd
       have f51 : (fun v => ∃ s : Sl, v = s.v) (sl ax 51) := hf.got 7 (by decide) (by simp [hd])
       refine ⟨fun _ => ?_, fun h => absurd trivial h⟩
       have hG : AppI w0.heap.size w5 s3.v p1 g1.key.1 (be 8 g1.stake.toNat) [L 2, L 3, L 6, L 7, L 8] [sl ax 46, sl ax 47, sl ax 50, sl ax 51, sl ax 3] W := hf.glob
       obtain ⟨s51, e51⟩ := f51
       have e51' := slv e51
       have hH := hG.fin
       refine freeI_val (v := s51.v) (W' := W) rfl ?_ ⟨s51, rfl⟩ ?_
       ·go_simp
       ·rw [e51] at hH
        show AppI _ _ _ _ _ _ [L 2, L 3, L 6, L 7, true] [sl ax 46, sl ax 47, sl ax 50, sl ax 51, s51.v] W
        rw [e51]
        exact hH
     ·intro vs W6 hl' hF hG
      obtain ⟨g', hg1, hg2⟩ := vs_litI vs hl' hF
      obtain ⟨q3, sy, q1, q2⟩ := hG.out
      have hB6 : Below w0.heap.size W W6 := hBr5.out.trans hG.bel
      rw [hg1] at q1 q3
      simp only [List.length_cons, List.length_nil, Nat.reduceAdd, List.map_cons, List.map_nil, show List.range 9 = [0, 1, 2, 3, 4, 5, 6, 7, 8] from rfl, List.getD_cons_zero, List.getD_cons_succ] at q1 q3
      have e8 : g' 8 = sy.v := q3.trans q1
      have hres : Own W6 w0.heap.size sy.v (hp ++ ((h.ops.take (k + 1)).map opBytes).flatten) := by
       rw [Hfl.out, hop.out]
       rw [hp1.out, hkb.out] at q2
       simpa [List.append_assoc] using q2
      rw [hg1]
      simp only [List.length_cons, List.length_nil, Nat.reduceAdd, show List.range 9 = [0, 1, 2, 3, 4, 5, 6, 7, 8] from rfl, List.map_cons, List.map_nil, slotsIn, putL, List.setIfInBounds_toArray, List.set_cons_succ, List.set_cons_zero, e8, List.size_toArray, Nat.reduceLT, if_true, if_false]
      clear hg1 hg2 hG hF hl' q1 q2 q3 e8
      replace hres := Lib.hid hres
      replace hB6 := Lib.hid hB6
      go_wp2_with fail
      go_roundw
      case rel => exact ⟨k + 1, by omega, hres.out, by go_num, hB6.out⟩
      case measure => (first | omega | (simp [intOf]; done) | (simp [intOf]; omega))
    ·have hk2 : g1.kind = 2 := Hv1.out.1.trans q
     have hgv := Hv1.out.2.2.2.1
     have hop := Lib.hid (show opBytes ok = [2] ++ [UInt8.ofNat (g1.validator % 256).toNat] by
      unfold opBytes
      rw [if_neg (by omega), q, qe, hgv]
      rfl)
     have hkb := Lib.hid (show [UInt8.ofNat (g1.kind % 256).toNat] = [2] by rw [hk2]; rfl)
     rw [hk2] at d0
     replace hk2 := Lib.hid hk2
     have hw2 := IntWalk.u8_in g1.validator (by omega)
     have hlit2 := Own.lit w5 w5.heap.size [UInt8.ofNat (g1.validator % 256).toNat] #[.int .u8 g1.validator] 5 1 (by rw [List.map_cons, byteV_int g1.validator (by omega) (by omega)]; rfl) rfl (Nat.le_refl _) (by simp [maxLen])
     have hz5 : (w5.alloc (.cells #[.int .u8 g1.validator] 5)).heap.size = w5.heap.size + 1 := by simp
     obtain ⟨s4, w6, hrun2', ho6, hg6, -⟩ := run_appB (Ho5.out.keep (bel_a w5 _)) (by omega) (Own.reads (s := ⟨some ⟨w5.heap.size, 0, none⟩, 1, 1⟩) hlit2) (by simp; omega)
     have hrun2 : (appB #[s3.v, .slice (some ⟨w5.heap.size, 0, none⟩) 1 1]).run Try.prog (w5.alloc (.cells #[.int .u8 g1.validator] 5)) = .ok s4.v w6 := hrun2'
     have hB6 := Lib.hid (show Below w0.heap.size W w6 from (hBr5.out.trans ((bel_a w5 _).mono hsz5)).grown hg6 (by omega) fun g hg => (OwnC.lt Ho5.out g hg).1)
     have hres := Lib.hid (show Own w6 w0.heap.size s4.v (hp ++ ((h.ops.take (k + 1)).map opBytes).flatten) by
      rw [Hfl.out, hop.out]
      rw [hp1.out, hkb.out] at ho6
      simpa [List.append_assoc] using ho6)
     clear hw hrun d0' hrow4 q ho6 hg6 hrun2' hlit2 hz5 qe hgv qv0 qv1
     go_wp2_with fail
     go_roundw
     case rel => exact ⟨k + 1, by omega, hres.out, by go_num, hB6.out⟩
     case measure => (first | omega | (simp [intOf]; done) | (simp [intOf]; omega))
    ·have hk3 : g1.kind = 3 := Hv1.out.1.trans q
     have hgv := Hv1.out.2.2.2.1
     have hop := Lib.hid (show opBytes ok = [3] ++ [UInt8.ofNat (g1.validator % 256).toNat] ++ vtBytes va ++ vtBytes vb by
      unfold opBytes
      rw [if_neg (by omega), q, qe, hgv]
      simp)
     have hkb := Lib.hid (show [UInt8.ofNat (g1.kind % 256).toNat] = [3] by rw [hk3]; rfl)
     rw [hk3] at d0
     replace hk3 := Lib.hid hk3
     have hvr := Hv1.out.2.2.2.2
     rw [qe] at hvr
     obtain ⟨eb, eo, hgev0, heb, hc⟩ := hvr.at (by simp)
     obtain ⟨csa, ra0, ga, rfl, Hva⟩ := hc 0 (by simp)
     obtain ⟨csb, rb0, gb, rfl, Hvb⟩ := hc 1 (by simp)
     have ra : row? w5 eb eo 68 = some (voteA ga) := (row?_below _ _ _ hBw5.out heb).trans (by simpa using ra0)
     have rb : row? w5 eb (eo + 68) 68 = some (voteA gb) := (row?_below _ _ _ hBw5.out heb).trans (by simpa using rb0)
     obtain ⟨ec, hec⟩ : ∃ ec, ec = g1.evidence.c := ⟨_, rfl⟩
     have hgev : g1.evidence = ⟨some ⟨eb, eo, none⟩, 2, ec⟩ := by rw [hec]; exact hgev0
     have Hva' : VoteR w0 ga va := Hva
     have Hvb' : VoteR w0 gb vb := Hvb
     have Hvam := voteMay_out qm1
     have Hvbm := voteMay_out qm2
     have hvla := vtBytes_length va
     have hvlb := vtBytes_length vb
     have hgv1 : 1 ≤ g1.validator := by omega
     have hgv2 : g1.validator ≤ 64 := by omega
     have hvbyte := Lib.hid (show byteV (UInt8.ofNat (g1.validator % 256).toNat) = .int .u8 g1.validator from byteV_int g1.validator (by omega) (by omega))
     replace hgev := hgev
     clear hw d34 hrun d0' hrow4 q qe hgv ra0 rb0 hc hvr hgev0 hec qm1 qm2 qv0 qv1
     go_upto_region 14 with fail
     have ho5 := Ho5.out
     refine wp_region_freeI_l (by kernel_rfl) [62, 63, 64, 65, 66, 67, 68, 69, 70, 71, 72, 73, 74, 75, 76, 77, 78, 79, 3]
      [(fun v => v = s3.v), (fun v => v = .pointer (some ⟨b4, 34, none⟩)), (fun v => v = .int .i64 g1.validator), (fun v => v = .int .u8 g1.validator), (fun v => ∃ s : Sl, v = s.v), (fun v => ∃ s : Sl, v = s.v), (fun v => v = .pointer (some ⟨b4, 35, none⟩)), (fun v => v = .slice (some ⟨eb, eo, none⟩) 2 ec), (fun v => v = .pointer (some ⟨eb, eo, none⟩)), (fun v => v = .agg (voteA ga)), (fun v => ∃ s : Sl, v = s.v), (fun v => ∃ s : Sl, v = s.v), (fun v => v = .pointer (some ⟨b4, 35, none⟩)), (fun v => v = .slice (some ⟨eb, eo, none⟩) 2 ec), (fun v => v = .pointer (some ⟨eb, eo + 68, none⟩)), (fun v => v = .agg (voteA gb)), (fun v => ∃ s : Sl, v = s.v), (fun v => ∃ s : Sl, v = s.v), (fun v => ∃ s : Sl, v = s.v)]
      [4, 5, 10, 11, 16, 17, 18] (AppJ w0.heap.size w5 s3.v p1 [UInt8.ofNat (g1.validator % 256).toNat] (vtBytes va) (vtBytes vb)) [[5, 11, 17, 18], [2, 3, 4, 5, 11, 17, 18], [3, 4, 5, 11, 17, 18], [4, 5, 11, 17, 18], [5, 11, 17, 18], [11, 17, 18], [7, 8, 9, 10, 11, 17, 18], [8, 9, 10, 11, 17, 18], [9, 10, 11, 17, 18], [10, 11, 17, 18], [11, 17, 18], [17, 18], [13, 14, 15, 16, 17, 18], [14, 15, 16, 17, 18], [15, 16, 17, 18], [16, 17, 18], [17, 18], [18], []] (by kernel_rfl) (by kernel_rfl) ?_ ?_ ?_
     ·show AppJ w0.heap.size w5 s3.v p1 [UInt8.ofNat (g1.validator % 256).toNat] (vtBytes va) (vtBytes vb) [false, false, false, false, false, false, false] [_, _, _, _, _, _, _] _
      exact AppJ.zero hsz5 ho5 _
     ·refine ⟨?_, ?_, ?_, ?_, ?_, ?_, ?_, ?_, ?_, ?_, ?_, ?_, ?_, ?_, ?_, ?_, ?_, ?_, ?_, trivial⟩
      ·intro L ax W hf hLi hno hd
       try simp [Region.binds] at hd
       refine ⟨fun _ => ?_, fun h => absurd trivial h⟩
       have hG : AppJ w0.heap.size w5 s3.v p1 [UInt8.ofNat (g1.validator % 256).toNat] (vtBytes va) (vtBytes vb) [L 4, L 5, L 10, L 11, L 16, L 17, L 18] [sl ax 66, sl ax 67, sl ax 72, sl ax 73, sl ax 78, sl ax 79, sl ax 3] W := hf.glob
       have e3 : ax.tmps[3]?.getD undef = s3.v := slv ((hf.rest 3 fun i hi hLt he => (by
        have h11 : i = 18 := (show ∀ i, i < 19 → ([62, 63, 64, 65, 66, 67, 68, 69, 70, 71, 72, 73, 74, 75, 76, 77, 78, 79, 3] : List Nat).getD i 0 = 3 → i = 18 from (by decide)) i hi he
        rw [h11, hno 18 (by decide)] at hLt
        cases hLt)).trans rfl)
       refine freeI_run (v := s3.v) rfl hf (by decide) ?_ rfl
       go_simp
      ·intro L ax W hf hLi hno hd
       try simp [Region.binds] at hd
       have e5 : ax.tmps[5]?.getD undef = .pointer (some ⟨b4, 0, none⟩) := hf.out 5 (by decide) rfl
       refine ⟨fun _ => ?_, fun h => absurd trivial h⟩
       refine freeI_run (v := .pointer (some ⟨b4, 34, none⟩)) rfl hf (by decide) ?_ rfl
       go_simp
      ·intro L ax W hf hLi hno hd
       simp [Region.binds] at hd
       have e63 : ax.tmps[63]?.getD undef = .pointer (some ⟨b4, 34, none⟩) := slv (hf.got 1 (by decide) (by simp [hd]))
       refine ⟨fun _ => ?_, fun h => absurd trivial h⟩
       have hG : AppJ w0.heap.size w5 s3.v p1 [UInt8.ofNat (g1.validator % 256).toNat] (vtBytes va) (vtBytes vb) [L 4, L 5, L 10, L 11, L 16, L 17, L 18] [sl ax 66, sl ax 67, sl ax 72, sl ax 73, sl ax 78, sl ax 79, sl ax 3] W := hf.glob
       have hrw := (row?_of_block (off := 0) (n := 36) (hG.far.block b4 hb5 hne5)).trans row5
       obtain ⟨-, -, hvl, -⟩ := opA_cells hrw
       refine freeI_run (v := .int .i64 g1.validator) rfl hf (by decide) ?_ rfl
       go_simp
      ·intro L ax W hf hLi hno hd
       simp [Region.binds] at hd
       have e64 : ax.tmps[64]?.getD undef = .int .i64 g1.validator := slv (hf.got 2 (by decide) (by simp [hd]))
       refine ⟨fun _ => ?_, fun h => absurd trivial h⟩
       have hG : AppJ w0.heap.size w5 s3.v p1 [UInt8.ofNat (g1.validator % 256).toNat] (vtBytes va) (vtBytes vb) [L 4, L 5, L 10, L 11, L 16, L 17, L 18] [sl ax 66, sl ax 67, sl ax 72, sl ax 73, sl ax 78, sl ax 79, sl ax 3] W := hf.glob
       have hq : IntKind.u8.wrap g1.validator = g1.validator := by rw [IntKind.wrap_u8]; omega
       refine freeI_run (v := .int .u8 g1.validator) rfl hf (by decide) ?_ rfl
       go_simp
      ·intro L ax W hf hLi hno hd
       simp [Region.binds] at hd
       have e65 : ax.tmps[65]?.getD undef = .int .u8 g1.validator := slv (hf.got 3 (by decide) (by simp [hd]))
       refine ⟨fun _ => ?_, fun h => absurd trivial h⟩
       have hG : AppJ w0.heap.size w5 s3.v p1 [UInt8.ofNat (g1.validator % 256).toNat] (vtBytes va) (vtBytes vb) [L 4, L 5, L 10, L 11, L 16, L 17, L 18] [sl ax 66, sl ax 67, sl ax 72, sl ax 73, sl ax 78, sl ax 79, sl ax 3] W := hf.glob
       have ho := Own.lit W W.heap.size [UInt8.ofNat (g1.validator % 256).toNat] #[.int .u8 g1.validator] 5 1 (by rw [← hvbyte.out]; rfl) rfl (Nat.le_refl _) (by simp [maxLen])
       refine freeI_val (v := .slice (some ⟨W.heap.size, 0, none⟩) 1 1) (W' := W.alloc (.cells #[.int .u8 g1.validator] 5)) rfl ?_ ⟨⟨some ⟨W.heap.size, 0, none⟩, 1, 1⟩, rfl⟩ (hG.o1 (bel_a W _) (s := ⟨some ⟨W.heap.size, 0, none⟩, 1, 1⟩) ho)
       go_simp
      ·intro L ax W hf hLi hno hd
       simp [Region.binds] at hd
       have e62 : ax.tmps[62]?.getD undef = s3.v := slv (hf.got 0 (by decide) (by simp [hd]))
       have f66 : (fun v => ∃ s : Sl, v = s.v) (sl ax 66) := hf.got 4 (by decide) (by simp [hd])
       refine ⟨fun _ => ?_, fun h => absurd trivial h⟩
       have hG : AppJ w0.heap.size w5 s3.v p1 [UInt8.ofNat (g1.validator % 256).toNat] (vtBytes va) (vtBytes vb) [L 4, L 5, L 10, L 11, L 16, L 17, L 18] [sl ax 66, sl ax 67, sl ax 72, sl ax 73, sl ax 78, sl ax 79, sl ax 3] W := hf.glob
       obtain ⟨s66, e66⟩ := f66
       obtain ⟨s', W', hrun, hH⟩ := hG.a1 (by simp [hd]) hLi (hno 11 (by decide)) (hno 17 (by decide)) (hno 18 (by decide)) (by simp; omega)
       rw [e66] at hrun
       have e66' := slv e66
       refine freeI_val (v := s'.v) (W' := W') rfl ?_ ⟨s', rfl⟩ hH
       go_simp
      ·intro L ax W hf hLi hno hd
       try simp [Region.binds] at hd
       have e5 : ax.tmps[5]?.getD undef = .pointer (some ⟨b4, 0, none⟩) := hf.out 5 (by decide) rfl
       refine ⟨fun _ => ?_, fun h => absurd trivial h⟩
       refine freeI_run (v := .pointer (some ⟨b4, 35, none⟩)) rfl hf (by decide) ?_ rfl
       go_simp
      ·intro L ax W hf hLi hno hd
       simp [Region.binds] at hd
       have e68 : ax.tmps[68]?.getD undef = .pointer (some ⟨b4, 35, none⟩) := slv (hf.got 6 (by decide) (by simp [hd]))
       refine ⟨fun _ => ?_, fun h => absurd trivial h⟩
       have hG : AppJ w0.heap.size w5 s3.v p1 [UInt8.ofNat (g1.validator % 256).toNat] (vtBytes va) (vtBytes vb) [L 4, L 5, L 10, L 11, L 16, L 17, L 18] [sl ax 66, sl ax 67, sl ax 72, sl ax 73, sl ax 78, sl ax 79, sl ax 3] W := hf.glob
       have hrw := (row?_of_block (off := 0) (n := 36) (hG.far.block b4 hb5 hne5)).trans row5
       obtain ⟨-, -, -, hev⟩ := opA_cells hrw
       rw [hgev] at hev
       unfold Sl.v at hev
       simp only at hev
       refine freeI_run (v := .slice (some ⟨eb, eo, none⟩) 2 ec) rfl hf (by decide) ?_ rfl
       go_simp
      ·intro L ax W hf hLi hno hd
       simp [Region.binds] at hd
       have e69 : ax.tmps[69]?.getD undef = .slice (some ⟨eb, eo, none⟩) 2 ec := slv (hf.got 7 (by decide) (by simp [hd]))
       refine ⟨fun _ => ?_, fun h => absurd trivial h⟩
       refine freeI_run (v := .pointer (some ⟨eb, eo, none⟩)) rfl hf (by decide) ?_ rfl
       go_simp
      ·intro L ax W hf hLi hno hd
       simp [Region.binds] at hd
       have e70 : ax.tmps[70]?.getD undef = .pointer (some ⟨eb, eo, none⟩) := slv (hf.got 8 (by decide) (by simp [hd]))
       refine ⟨fun _ => ?_, fun h => absurd trivial h⟩
       have hG : AppJ w0.heap.size w5 s3.v p1 [UInt8.ofNat (g1.validator % 256).toNat] (vtBytes va) (vtBytes vb) [L 4, L 5, L 10, L 11, L 16, L 17, L 18] [sl ax 66, sl ax 67, sl ax 72, sl ax 73, sl ax 78, sl ax 79, sl ax 3] W := hf.glob
       have hra := (row?_below _ _ _ hG.bel heb).trans ra
       refine freeI_run (v := .agg (voteA ga)) rfl hf (by decide) ?_ rfl
       go_simp
      ·intro L ax W hf hLi hno hd
       simp [Region.binds] at hd
       have e71 : ax.tmps[71]?.getD undef = .agg (voteA ga) := slv (hf.got 9 (by decide) (by simp [hd]))
       refine ⟨fun _ => ?_, fun h => absurd trivial h⟩
       have hG : AppJ w0.heap.size w5 s3.v p1 [UInt8.ofNat (g1.validator % 256).toNat] (vtBytes va) (vtBytes vb) [L 4, L 5, L 10, L 11, L 16, L 17, L 18] [sl ax 66, sl ax 67, sl ax 72, sl ax 73, sl ax 78, sl ax 79, sl ax 3] W := hf.glob
       refine freeI_call (f := 188) (args := #[.agg (voteA ga)]) rfl (by go_simp) ?_
       refine (tvote_c ga va W (Hva.keep' (hBw5.out.trans hG.bel)) Hvam.1 Hvam.2.1 Hvam.2.2.1).mono ?_
       rintro e w' ⟨x, rfl, ho, hb⟩
       obtain ⟨s, rfl⟩ := ho.slice
       exact ⟨_, rfl, ⟨s, rfl⟩, hG.o2 hb ho⟩
      ·intro L ax W hf hLi hno hd
       simp [Region.binds] at hd
       have f67 : (fun v => ∃ s : Sl, v = s.v) (sl ax 67) := hf.got 5 (by decide) (by simp [hd])
       have f72 : (fun v => ∃ s : Sl, v = s.v) (sl ax 72) := hf.got 10 (by decide) (by simp [hd])
       refine ⟨fun _ => ?_, fun h => absurd trivial h⟩
       have hG : AppJ w0.heap.size w5 s3.v p1 [UInt8.ofNat (g1.validator % 256).toNat] (vtBytes va) (vtBytes vb) [L 4, L 5, L 10, L 11, L 16, L 17, L 18] [sl ax 66, sl ax 67, sl ax 72, sl ax 73, sl ax 78, sl ax 79, sl ax 3] W := hf.glob
       obtain ⟨s67, e67⟩ := f67
       obtain ⟨s72, e72⟩ := f72
       obtain ⟨s', W', hrun, hH⟩ := hG.a2 (by simp [hd]) (by simp [hd]) hLi (hno 17 (by decide)) (hno 18 (by decide)) (by simp; omega)
       rw [e67, e72] at hrun
       have e67' := slv e67
       have e72' := slv e72
       refine freeI_val (v := s'.v) (W' := W') rfl ?_ ⟨s', rfl⟩ hH
       go_simp
      ·intro L ax W hf hLi hno hd
       try simp [Region.binds] at hd
       have e5 : ax.tmps[5]?.getD undef = .pointer (some ⟨b4, 0, none⟩) := hf.out 5 (by decide) rfl
       refine ⟨fun _ => ?_, fun h => absurd trivial h⟩
       refine freeI_run (v := .pointer (some ⟨b4, 35, none⟩)) rfl hf (by decide) ?_ rfl
       go_simp
      ·intro L ax W hf hLi hno hd
       simp [Region.binds] at hd
       have e74 : ax.tmps[74]?.getD undef = .pointer (some ⟨b4, 35, none⟩) := slv (hf.got 12 (by decide) (by simp [hd]))
       refine ⟨fun _ => ?_, fun h => absurd trivial h⟩
       have hG : AppJ w0.heap.size w5 s3.v p1 [UInt8.ofNat (g1.validator % 256).toNat] (vtBytes va) (vtBytes vb) [L 4, L 5, L 10, L 11, L 16, L 17, L 18] [sl ax 66, sl ax 67, sl ax 72, sl ax 73, sl ax 78, sl ax 79, sl ax 3] W := hf.glob
       have hrw := (row?_of_block (off := 0) (n := 36) (hG.far.block b4 hb5 hne5)).trans row5
       obtain ⟨-, -, -, hev⟩ := opA_cells hrw
       rw [hgev] at hev
       unfold Sl.v at hev
       simp only at hev
       refine freeI_run (v := .slice (some ⟨eb, eo, none⟩) 2 ec) rfl hf (by decide) ?_ rfl
       go_simp
      ·intro L ax W hf hLi hno hd
       simp [Region.binds] at hd
       have e75 : ax.tmps[75]?.getD undef = .slice (some ⟨eb, eo, none⟩) 2 ec := slv (hf.got 13 (by decide) (by simp [hd]))
       refine ⟨fun _ => ?_, fun h => absurd trivial h⟩
       refine freeI_run (v := .pointer (some ⟨eb, eo + 68, none⟩)) rfl hf (by decide) ?_ rfl
       go_simp
      ·intro L ax W hf hLi hno hd
       simp [Region.binds] at hd
       have e76 : ax.tmps[76]?.getD undef = .pointer (some ⟨eb, eo + 68, none⟩) := slv (hf.got 14 (by decide) (by simp [hd]))
       refine ⟨fun _ => ?_, fun h => absurd trivial h⟩
       have hG : AppJ w0.heap.size w5 s3.v p1 [UInt8.ofNat (g1.validator % 256).toNat] (vtBytes va) (vtBytes vb) [L 4, L 5, L 10, L 11, L 16, L 17, L 18] [sl ax 66, sl ax 67, sl ax 72, sl ax 73, sl ax 78, sl ax 79, sl ax 3] W := hf.glob
       have hrb := (row?_below _ _ _ hG.bel heb).trans rb
       refine freeI_run (v := .agg (voteA gb)) rfl hf (by decide) ?_ rfl
       go_simp
      ·intro L ax W hf hLi hno hd
       simp [Region.binds] at hd
       have e77 : ax.tmps[77]?.getD undef = .agg (voteA gb) := slv (hf.got 15 (by decide) (by simp [hd]))
       refine ⟨fun _ => ?_, fun h => absurd trivial h⟩
       have hG : AppJ w0.heap.size w5 s3.v p1 [UInt8.ofNat (g1.validator % 256).toNat] (vtBytes va) (vtBytes vb) [L 4, L 5, L 10, L 11, L 16, L 17, L 18] [sl ax 66, sl ax 67, sl ax 72, sl ax 73, sl ax 78, sl ax 79, sl ax 3] W := hf.glob
       refine freeI_call (f := 188) (args := #[.agg (voteA gb)]) rfl (by go_simp) ?_
       refine (tvote_c gb vb W (Hvb.keep' (hBw5.out.trans hG.bel)) Hvbm.1 Hvbm.2.1 Hvbm.2.2.1).mono ?_
       rintro e w' ⟨x, rfl, ho, hb⟩
       obtain ⟨s, rfl⟩ := ho.slice
       exact ⟨_, rfl, ⟨s, rfl⟩, hG.o3 hb ho⟩
      ·intro L ax W hf hLi hno hd
       simp [Region.binds] at hd
       have f73 : (fun v => ∃ s : Sl, v = s.v) (sl ax 73) := hf.got 11 (by decide) (by simp [hd])
       have f78 : (fun v => ∃ s : Sl, v = s.v) (sl ax 78) := hf.got 16 (by decide) (by simp [hd])
       refine ⟨fun _ => ?_, fun h => absurd trivial h⟩
       have hG : AppJ w0.heap.size w5 s3.v p1 [UInt8.ofNat (g1.validator % 256).toNat] (vtBytes va) (vtBytes vb) [L 4, L 5, L 10, L 11, L 16, L 17, L 18] [sl ax 66, sl ax 67, sl ax 72, sl ax 73, sl ax 78, sl ax 79, sl ax 3] W := hf.glob
       obtain ⟨s73, e73⟩ := f73
       obtain ⟨s78, e78⟩ := f78
       obtain ⟨s', W', hrun, hH⟩ := hG.a3 (by simp [hd]) (by simp [hd]) hLi (hno 18 (by decide)) (by simp; omega)
       rw [e73, e78] at hrun
       have e73' := slv e73
       have e78' := slv e78
       refine freeI_val (v := s'.v) (W' := W') rfl ?_ ⟨s', rfl⟩ hH
       go_simp
      ·intro L ax W hf hLi hno hd
       simp [Region.binds] at hd
       have f79 : (fun v => ∃ s : Sl, v = s.v) (sl ax 79) := hf.got 17 (by decide) (by simp [hd])
       refine ⟨fun _ => ?_, fun h => absurd trivial h⟩
       have hG : AppJ w0.heap.size w5 s3.v p1 [UInt8.ofNat (g1.validator % 256).toNat] (vtBytes va) (vtBytes vb) [L 4, L 5, L 10, L 11, L 16, L 17, L 18] [sl ax 66, sl ax 67, sl ax 72, sl ax 73, sl ax 78, sl ax 79, sl ax 3] W := hf.glob
       obtain ⟨s79, e79⟩ := f79
       have e79' := slv e79
       have hH := hG.fin
       refine freeI_val (v := s79.v) (W' := W) rfl ?_ ⟨s79, rfl⟩ ?_
       ·go_simp
       ·rw [e79] at hH
        show AppJ _ _ _ _ _ _ _ [L 4, L 5, L 10, L 11, L 16, L 17, true] [sl ax 66, sl ax 67, sl ax 72, sl ax 73, sl ax 78, sl ax 79, s79.v] W
        rw [e79]
        exact hH
     ·intro vs W6 hl' hF hG
      obtain ⟨g', hg1, hg2⟩ := vs_litI vs hl' hF
      obtain ⟨q3, sy, q1, q2⟩ := hG.out
      have hB6 : Below w0.heap.size W W6 := hBr5.out.trans hG.bel
      rw [hg1] at q1 q3
      simp only [List.length_cons, List.length_nil, Nat.reduceAdd, List.map_cons, List.map_nil, show List.range 19 = [0, 1, 2, 3, 4, 5, 6, 7, 8, 9, 10, 11, 12, 13, 14, 15, 16, 17, 18] from rfl, List.getD_cons_zero, List.getD_cons_succ] at q1 q3
      have e8 : g' 18 = sy.v := q3.trans q1
      have hres : Own W6 w0.heap.size sy.v (hp ++ ((h.ops.take (k + 1)).map opBytes).flatten) := by
       rw [Hfl.out, hop.out]
       rw [hp1.out, hkb.out] at q2
       simpa [List.append_assoc] using q2
      rw [hg1]
      simp only [List.length_cons, List.length_nil, Nat.reduceAdd, show List.range 19 = [0, 1, 2, 3, 4, 5, 6, 7, 8, 9, 10, 11, 12, 13, 14, 15, 16, 17, 18] from rfl, List.map_cons, List.map_nil, slotsIn, putL, List.setIfInBounds_toArray, List.set_cons_succ, List.set_cons_zero, e8, List.size_toArray, Nat.reduceLT, if_true, if_false]
      clear hg1 hg2 hG hF hl' q1 q2 q3 e8
      replace hres := Lib.hid hres
      replace hB6 := Lib.hid hB6
      go_wp2_with fail
      go_roundw
      case rel => exact ⟨k + 1, by omega, hres.out, by go_num, hB6.out⟩
      case measure => (first | omega | (simp [intOf]; done) | (simp [intOf]; omega))
   ·have hfl : (h.ops.take k) = h.ops := List.take_of_length_le (by omega)
    rw [hfl, ← hfin.out] at hown
    have Hown := Lib.hid hown
    have hres : Below w.heap.size w wr := hBw.out.trans (hB.mono (by have := hb1e.out; omega))
    clear hfl hown
    go_wp2_with fail
    go_ret
    exact ⟨_, rfl, Hown.out.more (by have := hb1e.out; omega), hres⟩
end Go.Proofs.Ythdjhbiigmcecaa

/- The document's constants of SHA-256, plainly: primes, and roots by digits of 16 bits. -/
namespace Go.Proofs.Ythdjhbiigmcecaa

/-! primes -/
def prStep (l : List Nat) (n : Nat) : List Nat := if l.all (fun p => n % p != 0) then l ++ [n] else l
/-- the primes below k + 2 -/
def prTo : Nat → List Nat
 | 0 => []
 | k + 1 => prStep (prTo k) (k + 2)
theorem prStep_len (l : List Nat) (n : Nat) : l.length ≤ (prStep l n).length ∧ (prStep l n).length ≤ l.length + 1 := by
 unfold prStep
 split <;> simp
theorem prTo_mono (k : Nat) : ∀ j, k ≤ j → (prTo k).length ≤ (prTo j).length := by
 intro j hj
 induction j with
 | zero =>
      obtain rfl : k = 0 := by omega
      exact Nat.le_refl _
 | succ j ih =>
  by_cases h : k = j + 1
  ·subst h
   exact Nat.le_refl _
  ·exact Nat.le_trans (ih (by omega)) (prStep_len _ _).1
def p64 : List Nat := [2, 3, 5, 7, 11, 13, 17, 19, 23, 29, 31, 37, 41, 43, 47, 53, 59, 61, 67, 71, 73, 79, 83, 89, 97, 101, 103, 107, 109, 113, 127, 131, 137, 139, 149, 151, 157, 163, 167, 173, 179, 181, 191, 193, 197, 199, 211, 223, 227, 229, 233, 239, 241, 251, 257, 263, 269, 271, 277, 281, 283, 293, 307, 311]
set_option maxRecDepth 100000 in
theorem prTo_310 : prTo 310 = p64 := by decide +kernel
set_option maxRecDepth 100000 in
theorem prTo_309 : (prTo 309).length = 63 := by decide +kernel
theorem prTo_low (k : Nat) (h : k < 310) : (prTo k).length < 64 := by
 have := prTo_mono k 309 (by omega)
 rw [prTo_309] at this
 omega
theorem prTo_ge (k : Nat) : ∀ p ∈ prTo k, 2 ≤ p ∧ p ≤ k + 1 := by
 induction k with
 | zero => intro p hp; cases hp
 | succ k ih =>
  intro p hp
  simp only [prTo, prStep] at hp
  split at hp
  ·rcases List.mem_append.1 hp with hp | hp
   ·have := ih p hp
    omega
   ·have := List.mem_singleton.1 hp
    omega
  ·have := ih p hp
   omega

/-! numbers by digits of 16 bits, the lowest first -/
def wval (d : List Nat) : Nat := d.foldr (fun x a => x + 65536 * a) 0
def Wide (d : List Nat) : Prop := d.length = 12 ∧ ∀ x ∈ d, x < 65536
theorem wval_cons (x : Nat) (d : List Nat) : wval (x :: d) = x + 65536 * wval d := rfl
theorem wval_append (a b : List Nat) : wval (a ++ b) = wval a + 65536 ^ a.length * wval b := by
 induction a with
 | nil => simp [wval]
 | cons x a ih =>
  rw [List.cons_append, wval_cons, wval_cons, ih, List.length_cons, Nat.pow_succ, Nat.mul_add, ← Nat.mul_assoc, Nat.mul_comm 65536 (65536 ^ a.length), Nat.add_assoc]
theorem wval_lt (d : List Nat) (h : ∀ x ∈ d, x < 65536) : wval d < 65536 ^ d.length := by
 induction d with
 | nil => simp [wval]
 | cons x d ih =>
  have h1 := ih fun y hy => h y (List.mem_cons_of_mem _ hy)
  have h2 := h x (List.mem_cons_self ..)
  rw [wval_cons, List.length_cons, Nat.pow_succ]
  omega
theorem wval_set (d : List Nat) (j x : Nat) (h : j < d.length) : wval (d.set j x) + d[j] * 65536 ^ j = wval d + x * 65536 ^ j := by
 induction d generalizing j with
 | nil => simp at h
 | cons y d ih =>
  cases j with
  | zero => simp only [List.set_cons_zero, wval_cons, List.getElem_cons_zero, Nat.pow_zero, Nat.mul_one]; omega
  | succ j =>
   simp only [List.set_cons_succ, wval_cons, List.getElem_cons_succ]
   have := ih j (by simpa using h)
   rw [Nat.pow_succ]
   have e1 : d[j]'(by simpa using h) * (65536 ^ j * 65536) = 65536 * (d[j]'(by simpa using h) * 65536 ^ j) := by rw [← Nat.mul_assoc, Nat.mul_comm]
   have e2 : x * (65536 ^ j * 65536) = 65536 * (x * 65536 ^ j) := by rw [← Nat.mul_assoc, Nat.mul_comm]
   rw [e1, e2]
   omega
theorem wval_take_succ (d : List Nat) (k : Nat) (h : k < d.length) : wval (d.take (k + 1)) = wval (d.take k) + d[k] * 65536 ^ k := by
 rw [List.take_succ_eq_append_getElem h, wval_append]
 simp only [wval, List.foldr_cons, List.foldr_nil, Nat.mul_zero, Nat.add_zero, List.length_take]
 rw [Nat.min_eq_left (Nat.le_of_lt h), Nat.mul_comm]
/-- one step of the inner loop -/
theorem times_step {p : List Nat} {i k c x y V0 T s : Nat} (hj : i + k < p.length) (hs : s = p[i + k] + x * y + c)
  (hinv : wval p + c * 65536 ^ (i + k) = V0 + x * 65536 ^ i * T) :
  wval (p.set (i + k) (s % 65536)) + s / 65536 * 65536 ^ (i + (k + 1)) = V0 + x * 65536 ^ i * (T + y * 65536 ^ k) := by
 have h1 := wval_set p (i + k) (s % 65536) hj
 have h2 : s = 65536 * (s / 65536) + s % 65536 := (Nat.div_add_mod s 65536).symm
 have h3 : s * 65536 ^ (i + k) = s / 65536 * 65536 ^ (i + (k + 1)) + s % 65536 * 65536 ^ (i + k) := by
  have : s * 65536 ^ (i + k) = (65536 * (s / 65536) + s % 65536) * 65536 ^ (i + k) := by rw [← h2]
  rw [this, Nat.add_mul, ← Nat.add_assoc i k 1, Nat.pow_succ, Nat.mul_comm 65536 (s / 65536), Nat.mul_assoc, Nat.mul_comm 65536 (65536 ^ (i + k))]
 have h4 : s * 65536 ^ (i + k) = p[i + k] * 65536 ^ (i + k) + x * y * 65536 ^ (i + k) + c * 65536 ^ (i + k) := by rw [hs, Nat.add_mul, Nat.add_mul]
 have h5 : x * 65536 ^ i * (T + y * 65536 ^ k) = x * 65536 ^ i * T + x * y * 65536 ^ (i + k) := by
  rw [Nat.mul_add, Nat.pow_add]
  congr 1
  rw [Nat.mul_assoc x, Nat.mul_assoc x, ← Nat.mul_assoc (65536 ^ i), Nat.mul_comm (65536 ^ i) y, Nat.mul_assoc y]
 rw [h5]
 omega
theorem times_bound {a b c d : Nat} (ha : a < 65536) (hb : b < 65536) (hc : c < 65536) (hd : d < 65536) : d + a * b + c < 4294967296 ∧ (d + a * b + c) / 65536 < 65536 := by
 have h : a * b ≤ 65535 * 65535 := Nat.mul_le_mul (by omega) (by omega)
 omega
/-- the end of the inner loop -/
theorem times_row {p b : List Nat} {i c x V0 : Nat} (hb : b.length = 12) (hi : i ≤ 12) (hinv : wval p + c * 65536 ^ (i + (12 - i)) = V0 + x * 65536 ^ i * wval (b.take (12 - i))) :
  wval p % 65536 ^ 12 = (V0 + x * 65536 ^ i * wval b) % 65536 ^ 12 := by
 have e : wval b = wval (b.take (12 - i)) + 65536 ^ (12 - i) * wval (b.drop (12 - i)) := by
  have := wval_append (b.take (12 - i)) (b.drop (12 - i))
  rw [List.take_append_drop] at this
  rw [this, List.length_take, hb, Nat.min_eq_left (by omega)]
 have h12 : 65536 ^ i * 65536 ^ (12 - i) = 65536 ^ 12 := by rw [← Nat.pow_add, show i + (12 - i) = 12 by omega]
 rw [show i + (12 - i) = 12 by omega] at hinv
 have e2 : V0 + x * 65536 ^ i * wval b = wval p + c * 65536 ^ 12 + 65536 ^ 12 * (x * wval (b.drop (12 - i))) := by
  rw [e, Nat.mul_add, ← Nat.add_assoc, ← hinv, ← h12]
  congr 1
  rw [Nat.mul_assoc x, ← Nat.mul_assoc (65536 ^ i), h12, ← Nat.mul_assoc x, ← Nat.mul_assoc, Nat.mul_comm x]
 rw [e2, Nat.add_mul_mod_self_left, Nat.add_mul_mod_self_right]
theorem times_next {a b : List Nat} {i V : Nat} (hi : i < a.length) (h : V % 65536 ^ 12 = (wval (a.take i) * wval b) % 65536 ^ 12) :
  (V + a[i] * 65536 ^ i * wval b) % 65536 ^ 12 = (wval (a.take (i + 1)) * wval b) % 65536 ^ 12 := by
 rw [wval_take_succ a i hi, Nat.add_mul, Nat.add_mod, h, ← Nat.add_mod]
/-- which number is above -/
theorem above_at {a b : List Nat} (ha : Wide a) (hb : Wide b) (i : Nat) (hi : i < 12) (hhi : ∀ j (h1 : j < a.length) (h2 : j < b.length), i < j → a[j] = b[j]) (hne : a[i]'(by rw [ha.1]; exact hi) ≠ b[i]'(by rw [hb.1]; exact hi)) :
  (b[i]'(by rw [hb.1]; exact hi) < a[i]'(by rw [ha.1]; exact hi)) ↔ wval b < wval a := by
 have hla := ha.1
 have hlb := hb.1
 have split : ∀ d : List Nat, (hd : d.length = 12) → wval d = wval (d.take i) + 65536 ^ i * (d[i]'(by omega) + 65536 * wval (d.drop (i + 1))) := fun d hd => by
  have := wval_append (d.take i) (d.drop i)
  rw [List.take_append_drop, List.length_take, hd, Nat.min_eq_left (by omega)] at this
  rw [this, List.drop_eq_getElem_cons (by omega), wval_cons]
 have htop : a.drop (i + 1) = b.drop (i + 1) := by
  apply List.ext_getElem (by simp [hla, hlb])
  intro j h1 h2
  simp only [List.length_drop] at h1
  rw [List.getElem_drop, List.getElem_drop]
  exact hhi _ _ _ (by omega)
 have lt : ∀ d : List Nat, Wide d → wval (d.take i) < 65536 ^ i := fun d hd => by
  have := wval_lt (d.take i) fun x hx => hd.2 x (List.mem_of_mem_take hx)
  rw [List.length_take, hd.1, Nat.min_eq_left (by omega)] at this
  exact this
 have la := lt a ha
 have lb := lt b hb
 rw [split a hla, split b hlb, htop]
 generalize a[i]'(by omega) = x at *
 generalize b[i]'(by omega) = y at *
 generalize wval (b.drop (i + 1)) = t at *
 generalize wval (a.take i) = u at *
 generalize wval (b.take i) = v at *
 generalize 65536 ^ i = B at *
 constructor
 ·intro h
  have : B * (y + 65536 * t) + B ≤ B * (x + 65536 * t) := by rw [← Nat.mul_succ]; exact Nat.mul_le_mul_left _ (by omega)
  omega
 ·intro h
  rcases Nat.lt_or_ge y x with h' | h'
  ·exact h'
  ·have h3 : x < y := by omega
   have : B * (x + 65536 * t) + B ≤ B * (y + 65536 * t) := by rw [← Nat.mul_succ]; exact Nat.mul_le_mul_left _ (by omega)
   omega
theorem wide_ext {a b : List Nat} (ha : Wide a) (hb : Wide b) (h : ∀ j (h1 : j < a.length) (h2 : j < b.length), a[j] = b[j]) : a = b :=
 List.ext_getElem (by rw [ha.1, hb.1]) fun j h1 h2 => h j h1 h2
/-- a number's digits -/
def digitsL (n : Nat) : List Nat := [n % 65536, n / 65536 % 65536, n / 4294967296 % 65536, n / 281474976710656 % 65536, 0, 0, 0, 0, 0, 0, 0, 0]
theorem digitsL_wide (n : Nat) : Wide (digitsL n) := by
 refine ⟨rfl, fun x hx => ?_⟩
 simp only [digitsL, List.mem_cons, List.not_mem_nil, or_false] at hx
 rcases hx with rfl | rfl | rfl | rfl | rfl | rfl | rfl | rfl | rfl | rfl | rfl | rfl <;> omega
theorem digitsL_val (n : Nat) (h : n < 18446744073709551616) : wval (digitsL n) = n := by
 simp only [digitsL, wval, List.foldr_cons, List.foldr_nil]
 omega
/-- the search of a root -/
def frLoop (P power : Nat) : Nat → Nat → Nat
 | 0, root => root
 | b + 1, root => frLoop P power b (if (root + 2 ^ b) ^ power ≤ P then root + 2 ^ b else root)
def frac (p power : Nat) : Nat := frLoop (p * 2 ^ (32 * power)) power 38 0 % 4294967296
set_option maxRecDepth 100000 in
theorem frac_k : p64.map (fun p => frac p 3) = shaK.map UInt32.toNat := by decide +kernel
set_option maxRecDepth 100000 in
theorem frac_h : (p64.take 8).map (fun p => frac p 2) = shaH.list.map UInt32.toNat := by decide +kernel
end Go.Proofs.Ythdjhbiigmcecaa
