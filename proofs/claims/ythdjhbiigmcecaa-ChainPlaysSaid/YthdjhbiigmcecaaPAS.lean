/- Texts of this proof, one behind the other: ChnJ, Both, DoP, Do, ChnN, ChnL, ShaF, ShaN, KnP10. -/
import Derived.Test.YthdjhbiigmcecaaPAR
import Derived.Test.YthdjhbiigmcecaaPAL
import Derived.Test.YthdjhbiigmcecaaPAK
import Derived.Test.YthdjhbiigmcecaaShelf
import Derived.Deep.CutRange
import Derived.Test.YthdjhbiigmcecaaPAA
import Derived.Test.YthdjhbiigmcecaaPAI
set_option linter.unusedVariables false
set_option linter.unusedSimpArgs false
/- chain.Add. -/
namespace Go.Proofs.Ythdjhbiigmcecaa
open Go.RowKit

def HBx (W0 : World) (p : Pt) (h : Hdr) (L : List Bool) (V : List Value) (w : World) : Prop :=
 Below W0.heap.size W0 w ∧
 (L.getD 0 false = true → ∃ (g' : GHeader) (wc : World), V.getD 0 undef = .agg (headerA g') ∧ Safe (fun k => k < W0.heap.size) wc (fun W => HdrR W g' h) ∧ Below W0.heap.size W0 wc ∧ Below wc.heap.size wc w) ∧
 (L.getD 1 false = true → ∃ (g' : GHeader) (wc : World), V.getD 1 undef = .agg (blkA p { nx with g := g' }) ∧ Safe (fun k => k < W0.heap.size) wc (fun W => HdrR W g' h) ∧ Below W0.heap.size W0 wc ∧ Below wc.heap.size wc w) ∧
 (L.getD 2 false = true → ∃ (b : Nat) (g' : GHeader) (wc : World), V.getD 2 undef = ptrV b ∧ Safe (fun k => k < W0.heap.size) wc (fun W => HdrR W g' h) ∧ Below W0.heap.size W0 wc ∧ wc.heap.size ≤ b ∧ Below wc.heap.size wc w ∧ w.heap[b]? = some (.cells (blkA p { nx with g := g' }) 168 (0, 0))) ∧
 (L.getD 3 false = true → V.getD 3 undef = V.getD 2 undef)
/-- a new block's box, and a cell of the call's own, told apart -/
def tagA (T : Nat → Nat) (z bx b4 n : Nat) : Nat → Nat := fun k => if k < z then T k else if k = bx then 4 + 2 * n else if k = b4 then 4 + 2 * (n + 1) else 0
section
variable {T : Nat → Nat} {z bx b4 n k : Nat}
theorem tagA_old (h : k < z) : tagA T z bx b4 n k = T k := if_pos h
theorem tagA_bx (h : z ≤ bx) : tagA T z bx b4 n bx = 4 + 2 * n := by unfold tagA; rw [if_neg (by omega), if_pos rfl]
theorem tagA_b4 (h : z ≤ b4) (hne : b4 ≠ bx) : tagA T z bx b4 n b4 = 4 + 2 * (n + 1) := by unfold tagA; rw [if_neg (by omega), if_neg hne, if_pos rfl]
theorem tagA_no (h : z ≤ k) (h1 : k ≠ bx) (h2 : k ≠ b4) : tagA T z bx b4 n k = 0 := by unfold tagA; rw [if_neg (by omega), if_neg h1, if_neg h2]
end
/-- a list's array that is new from block M on takes tag t -/
def tagB (T : Nat → Nat) (z : Nat) (o : Option Nat) (t : Nat) : Nat → Nat := fun k => if k < z then T k else if o = some k then t else 0
section
variable {T : Nat → Nat} {z t k : Nat} {o : Option Nat}
theorem tagB_old (h : k < z) : tagB T z o t k = T k := if_pos h
theorem tagB_new (h : z ≤ k) (ho : o = some k) : tagB T z o t k = t := by unfold tagB; rw [if_neg (by omega), if_pos ho]
theorem tagB_ne (h : z ≤ k) (ho : tagB T z o t k ≠ 0) : o = some k := by
 unfold tagB at ho
 rw [if_neg (by omega)] at ho
 by_cases h1 : o = some k
 ·exact h1
 ·rw [if_neg h1] at ho
  exact absurd rfl ho
end
/-- the new block's ancestors, while they are gathered -/
structure UpI (C : List Blk) (p : Pt) (gx : GHeader) (W4 W : World) (bx i0 i k : Nat) (acc : List Nat) (su : Sl) : Prop where
 row : row? W bx 0 69 = some (blkA p { nx with g := gx, u := su })
 thr : there W bx 0 69
 ob : ∃ cs t, W.heap[bx]? = some (.cells cs t (0, 0))
 own : OwnC W (bx + 1) 1 su.v acc.length (flatC natA acc)
 bel : Below bx W4 W
 clm : climb (ups C) i0 0 = acc ++ climb (ups C) i k
 len : acc.length = k
 lt : i < C.length
theorem chadd_res : Try.f35.results = #[.cell 4 26, .tmp 5] := by kernel_rfl
theorem check_bad {C : List Blk} {h : Hdr} (hc : (chCheck C h).2 ≠ 0) : (chCheck C h).1 = zeroPt := by
 unfold chCheck at hc ⊢
 split
 ·rename_i hm
  rw [if_pos hm] at hc
  split
  ·rfl
  ·rename_i h1
   rw [h1] at hc
   split
   ·rfl
   ·rename_i h2
    rw [h2] at hc
    simp only at hc
    split
    ·rfl
    ·rename_i h3
     rw [if_neg h3] at hc
     split
     ·rfl
     ·rename_i h4
      rw [if_neg h4] at hc
      exact absurd rfl hc
 ·rfl
attribute [local go_sem ↓] fold_bldB fold_bsN fold_appN fold_bsP fold_appP
/-- blocks with a small tag: those of the chain itself -/
def MutS (T : Nat → Nat) : Nat → Prop := fun k => T k ≠ 0 ∧ T k < 1000000
set_option maxRecDepth 100000 in
set_option maxHeartbeats 6400000 in
theorem chadd_c {B : Nat} {T : Nat → Nat} {W : World} {cb : Nat} {C : List Blk} (hC : ChR B T W cb C) (hok : ChnOk C) {g : GHeader} {h : Hdr} (hr : HdrR W g h) (hl : HdrFits h) :
  Calls Try.prog 35 #[ptrV cb, .agg (headerA g)] W fun r w' => r = .returned (.tuple #[.agg (pointA (chCheck C h).1), .int .i64 (chCheck C h).2]) ∧ (∃ T', ChR B T' w' cb (chAdd C h) ∧ ∀ k, k < W.heap.size → T' k = T k) ∧ Asd (MutS T) W w' := by
 obtain ⟨sA, mb, G, hM⟩ := hC
 have hp := hok.pos
 have hB0 : Below W.heap.size W ((W.alloc (.cells (headerA g) 49)).alloc (.cells (pointA zeroPt) 26)) := by (repeat' (first | (with_reducible first | exact Below.refl _ _ | assumption | refine bel_trans (by assumption) ?_ ?_ | refine bel_grown (by assumption) ?_ ?_ ?_ | refine Below.alloc ?_ ?_ _ | refine Below.drew ?_ | refine below_drewN ?_ _ | refine Below.setCell ?_ ?_ _ | refine below_put ?_ ?_ _ _ | exact Nat.le_refl _) | omega | (with_reducible first | refine Nat.le_trans ?_ (Below.size (by assumption)) | refine Nat.le_trans ?_ (World.grownBy.size (by assumption))) | (simp only [World.size_alloc, World.size_setCell, World.size_drew, size_drewN]; omega) | (simp only [World.size_alloc, World.size_setCell, World.size_drew, size_drewN, size_put]; omega) | (intro k hk; simp [Value.ownBlock] at hk; first | done | omega) | (simp [size_drewN] at *; omega)))
 have hz0 : ((W.alloc (.cells (headerA g) 49)).alloc (.cells (pointA zeroPt) 26)).heap.size = W.heap.size + 2 := by simp
 have hrow0 : row? ((W.alloc (.cells (headerA g) 49)).alloc (.cells (pointA zeroPt) 26)) W.heap.size 0 34 = some (headerA g) := by rw [row?_old _ _ _ _ _ (by simp), row?_new]; simp
 have hrow1 : row? ((W.alloc (.cells (headerA g) 49)).alloc (.cells (pointA zeroPt) 26)) (W.heap.size + 1) 0 33 = some (pointA zeroPt) := by rw [row?_new_at _ _ _ _ _ _ (by simp)]; simp
 have hth : there ((W.alloc (.cells (headerA g) 49)).alloc (.cells (pointA zeroPt) 26)) (W.heap.size + 1) 0 33 := there_new_at _ _ _ _ _ _ (by simp) (by simp)
 obtain ⟨ab, hab, hsn, hV⟩ := hM.view hp
 have hHM := Lib.hid hM
 have hVI := Lib.hid hV
 have hr0 := Lib.hid (hr.keep' hB0)
 have g1 := hr.1
 clear hr hM
 obtain ⟨p, k, hpk⟩ : ∃ p k, (p, k) = chCheck C h := ⟨_, _, rfl⟩
 obtain ⟨D, hD⟩ : ∃ D, D = chAdd C h := ⟨_, rfl⟩
 have HCk := chcheck_c (hV.keep hB0) hok hr0.out hl
 rw [← hpk] at HCk ⊢
 rw [← hD]
 replace hpk := Lib.hid hpk
 replace hD := Lib.hid hD
 clear hV
 unfold ptrV at HCk ⊢
 go_enter Try.func35, Try.ntmps35
 go_upto_region 1 with fail
 generalize (W.alloc (.cells (headerA g) 49)).alloc (.cells (pointA zeroPt) 26) = w0 at *
 go_wp2_with fail
 refine HCk.mono ?_
 clear HCk
 rintro r w1 ⟨rfl, hb1⟩
 have hz1 := hb1.size
 go_upto_region 2 with fail
 obtain ⟨w2, hw2, hrow6, -, hb2, hz2⟩ := box_row w1 (pointA zeroPt) (pointA p) 26 33 (by omega) (by simp) (by simp)
 rw [← hw2]
 clear hw2
 have hb02 := hb1.trans (hb2.mono hz1)
 have hB2 := hB0.trans (hb02.mono (by omega))
 have hrow3 := (row?_below _ _ _ hb02 (show W.heap.size < w0.heap.size by omega)).trans hrow0
 have hrow4 := (row?_below _ _ _ hb02 (show W.heap.size + 1 < w0.heap.size by omega)).trans hrow1
 have hth4 := there_below hb02 (show W.heap.size + 1 < w0.heap.size by omega) hth
 obtain ⟨b3, hb3e⟩ : ∃ b, b = W.heap.size := ⟨_, rfl⟩
 obtain ⟨b4, hb4e⟩ : ∃ b, b = W.heap.size + 1 := ⟨_, rfl⟩
 obtain ⟨b6, hb6e⟩ : ∃ b, b = w1.heap.size := ⟨_, rfl⟩
 rw [← hb4e] at hrow4 hth4 ⊢
 rw [← hb3e] at hrow3 ⊢
 rw [← hb6e] at hrow6 ⊢
 have hb3 : b3 < w2.heap.size := by omega
 have hb4 : b4 < w2.heap.size := by omega
 have hb6 : b6 < w2.heap.size := by omega
 have q34 : b3 < b4 := by omega
 have q46 : b4 < b6 := by omega
 have q3W : W.heap.size ≤ b3 := by omega
 have hV2 := Lib.hid (hVI.out.keep hB2)
 have hr2 := Lib.hid (hr0.out.keep' (hb02.mono (Nat.le_refl _)))
 clear hB0 hrow0 hrow1 hth hb1 hb2 hb02 hr0
 replace hb3e := Lib.hid hb3e
 replace hb4e := Lib.hid hb4e
 replace hb6e := Lib.hid hb6e
 replace hz2 := Lib.hid hz2
 replace hz0 := Lib.hid hz0
 by_cases hk : k = 0
 rotate_left
 ·have hk2 : (k != 0) = true := by simpa using hk
  have hDC : D = C := by
   rw [hD.out]
   unfold chAdd
   rw [if_neg (by rw [← hpk.out]; exact hk)]
  have hpz : p = zeroPt := by
   have := check_bad (C := C) (h := h) (by rw [← hpk.out]; exact hk)
   rw [← hpk.out] at this
   exact this
  subst hDC hpz
  have hfin : Hid (∀ W', Below W.heap.size W W' → (∃ T', ChR B T' W' cb D ∧ ∀ k, k < W.heap.size → T' k = T k) ∧ Asd (MutS T) W W') := Lib.hid fun W' hb => ⟨⟨T, ⟨sA, mb, G, hHM.out.keep hb⟩, fun _ _ => rfl⟩, below_fresh hb _⟩
  have hBp := Lib.hid (below_put hB2 (show W.heap.size ≤ b4 by omega) 0 (pointA zeroPt))
  clear hk hpk hD hV2 hr2 hVI hHM
  go_wp2_with (with_reducible refine ret_row2 Try.isAgg26 Try.sizeOf26 chadd_res (x := .pointer (some ⟨b4, 0, none⟩)) (y := .int .i64 k) (b4) 0 ?rrhx (Eq.refl _) ?rrhy ?rrh ?rrhd ?rrhR; (case rrhx => simp only [Array.getD_eq_getD_getElem?, List.getElem?_toArray, List.getElem?_cons_succ, List.getElem?_cons_zero, Option.getD_some]); (case rrhy => simp only [Array.getD_eq_getD_getElem?, List.getElem?_toArray, List.getElem?_cons_succ, List.getElem?_cons_zero, Option.getD_some]); (case rrhd => exact rfl); (case rrh => go_simp); (case rrhR => ((refine ⟨?_, hfin.out _ hBp.out⟩; go_simp; done))))
 ·subst hk
  obtain ⟨hm, hnone, ⟨i0, hi0, hep⟩, hlen, hp1⟩ := check_ok (C := C) (h := h) (by rw [← hpk.out])
  have hpp : p = ⟨h.epoch, hdName h⟩ := by rw [← hp1, ← hpk.out]
  have hDD : D = C ++ [⟨p, h, some i0⟩] := by
   rw [hD.out]
   unfold chAdd
   rw [if_pos (by rw [← hpk.out]), ← hpk.out, hi0]
  replace hDD := Lib.hid hDD
  replace hpp := Lib.hid hpp
  have hHCl := clnFits_may hm
  have HCl := fun Wx (hb : Below w2.heap.size w2 Wx) => hclone_c (hr2.out.keep' hb) hHCl
  have c0 := hV2.out.c0
  clear hpk hD hep hp1 hHCl
  have hm' := Lib.hid hm
  clear hm
  go_upto_region 5 with fail
  refine wp_region_freeI_l (by kernel_rfl) [28, 29, 30, 31, 32, 9]
   [(fun v => v = .agg (pointA p)), (fun v => v = .agg (headerA g)), (fun v => ∃ g', v = .agg (headerA g')), (fun v => ∃ g', v = .agg (blkA p { nx with g := g' })), (fun v => ∃ b, v = ptrV b), (fun v => ∃ b, v = ptrV b)]
   [2, 3, 4, 5] (HBx w2 p h) [[3, 4, 5], [2, 3, 4, 5], [3, 4, 5], [4, 5], [5], []] (by kernel_rfl) (by kernel_rfl) ?_ ?_ ?_
  ·show HBx w2 p h [false, false, false, false] [_, _, _, _] _
   refine ⟨(Below.refl _ _).drew, ?_, ?_, ?_, ?_⟩ <;> (intro h; cases h)
  ·refine ⟨?_, ?_, ?_, ?_, ?_, ?_, trivial⟩
   ·intro L ax W hf hLi hno hd
    try simp [Region.binds] at hd
    have e6 : ax.tmps[6]?.getD undef = .pointer (some ⟨b6, 0, none⟩) := hf.out 6 (by decide) rfl
    refine ⟨fun _ => ?_, fun h => absurd trivial h⟩
    have hG : HBx w2 p h [L 2, L 3, L 4, L 5] [sl ax 30, sl ax 31, sl ax 32, sl ax 9] W := hf.glob
    have h1 := (row?_below _ _ _ hG.1 hb6).trans hrow6
    refine freeI_run (v := .agg (pointA p)) rfl hf (by decide) ?_ rfl
    go_simp
   ·intro L ax W hf hLi hno hd
    try simp [Region.binds] at hd
    have e3 : ax.tmps[3]?.getD undef = .pointer (some ⟨b3, 0, none⟩) := hf.out 3 (by decide) rfl
    refine ⟨fun _ => ?_, fun h => absurd trivial h⟩
    have hG : HBx w2 p h [L 2, L 3, L 4, L 5] [sl ax 30, sl ax 31, sl ax 32, sl ax 9] W := hf.glob
    have h1 := (row?_below _ _ _ hG.1 hb3).trans hrow3
    refine freeI_run (v := .agg (headerA g)) rfl hf (by decide) ?_ rfl
    go_simp
   ·intro L ax W hf hLi hno hd
    simp [Region.binds] at hd
    have e29 : ax.tmps[29]?.getD undef = .agg (headerA g) := slv (hf.got 1 (by decide) (by simp [hd]))
    refine ⟨fun _ => ?_, fun h => absurd trivial h⟩
    have hG : HBx w2 p h [L 2, L 3, L 4, L 5] [sl ax 30, sl ax 31, sl ax 32, sl ax 9] W := hf.glob
    refine freeI_call (f := 103) (args := #[.agg (headerA g)]) rfl (by go_simp) ?_
    refine (HCl W hG.1).mono ?_
    rintro e w' ⟨g', rfl, hat, hb⟩
    refine ⟨_, rfl, ⟨g', rfl⟩, ?_⟩
    show HBx w2 p h [true, L 3, L 4, L 5] [.agg (headerA g'), sl ax 31, sl ax 32, sl ax 9] w'
    exact ⟨hG.1.trans (hb.mono hG.1.size), fun _ => ⟨g', w', rfl, hat.step (Asd.refl _ _) fun k _ hk => Nat.lt_of_lt_of_le hk hG.1.size, hG.1.trans (hb.mono hG.1.size), Below.refl _ _⟩, fun h => by (have h' : L 3 = true := h; rw [hno 3 (by decide)] at h'; cases h'), fun h => by (have h' : L 4 = true := h; rw [hno 4 (by decide)] at h'; cases h'), fun h => by (have h' : L 5 = true := h; rw [hno 5 (by decide)] at h'; cases h')⟩
   ·intro L ax W hf hLi hno hd
    simp [Region.binds] at hd
    have e28 : ax.tmps[28]?.getD undef = .agg (pointA p) := slv (hf.got 0 (by decide) (by simp [hd]))
    have f30 : (fun v => ∃ g', v = .agg (headerA g')) (sl ax 30) := hf.got 2 (by decide) (by simp [hd])
    refine ⟨fun _ => ?_, fun h => absurd trivial h⟩
    have hG : HBx w2 p h [L 2, L 3, L 4, L 5] [sl ax 30, sl ax 31, sl ax 32, sl ax 9] W := hf.glob
    have hl2 : L 2 = true := by simp [hd]
    obtain ⟨hB, h0, h1, h2, h3⟩ := hG
    obtain ⟨g', wc, q1, q2, q3, q4⟩ := h0 hl2
    have e30' := slv q1
    have hbd := bld_blk p g' W
    refine freeI_val (v := .agg (blkA p { nx with g := g' })) (W' := W) rfl ?_ ⟨g', rfl⟩ ?_
    ·go_simp
    ·exact ⟨hB, h0, fun _ => ⟨g', wc, rfl, q2, q3, q4⟩, fun h => by (have h' : L 4 = true := h; rw [hno 4 (by decide)] at h'; cases h'), fun h => by (have h' : L 5 = true := h; rw [hno 5 (by decide)] at h'; cases h')⟩
   ·intro L ax W hf hLi hno hd
    simp [Region.binds] at hd
    have f31 : (fun v => ∃ g', v = .agg (blkA p { nx with g := g' })) (sl ax 31) := hf.got 3 (by decide) (by simp [hd])
    refine ⟨fun _ => ?_, fun h => absurd trivial h⟩
    have hG : HBx w2 p h [L 2, L 3, L 4, L 5] [sl ax 30, sl ax 31, sl ax 32, sl ax 9] W := hf.glob
    have hl3 : L 3 = true := by simp [hd]
    obtain ⟨hB, h0, h1, h2, h3⟩ := hG
    obtain ⟨g', wc, q1, q2, q3, q4⟩ := h1 hl3
    have e31' := slv q1
    refine freeI_val (v := ptrV W.heap.size) (W' := W.alloc (.cells (blkA p { nx with g := g' }) 168)) rfl ?_ ⟨_, rfl⟩ ?_
    ·unfold ptrV
     go_simp
    ·have hb := bel_a W (.cells (blkA p { nx with g := g' }) 168)
     refine ⟨hB.trans (hb.mono hB.size), fun hx => ?_, fun hx => ⟨g', wc, q1, q2, q3, q4.trans (hb.mono q4.size)⟩, fun _ => ⟨W.heap.size, g', wc, rfl, q2, q3, q4.size, q4.trans (hb.mono q4.size), heap_alloc_new W _⟩, fun h => by (have h' : L 5 = true := h; rw [hno 5 (by decide)] at h'; cases h')⟩
     obtain ⟨g2, wc2, r1, r2, r3, r4⟩ := h0 hx
     exact ⟨g2, wc2, r1, r2, r3, r4.trans (hb.mono r4.size)⟩
   ·intro L ax W hf hLi hno hd
    simp [Region.binds] at hd
    have f32 : (fun v => ∃ b, v = ptrV b) (sl ax 32) := hf.got 4 (by decide) (by simp [hd])
    refine ⟨fun _ => ?_, fun h => absurd trivial h⟩
    have hG : HBx w2 p h [L 2, L 3, L 4, L 5] [sl ax 30, sl ax 31, sl ax 32, sl ax 9] W := hf.glob
    obtain ⟨b, e32⟩ := f32
    have e32' := slv e32
    obtain ⟨hB, h0, h1, h2, h3⟩ := hG
    refine freeI_val (v := ptrV b) (W' := W) rfl ?_ ⟨b, rfl⟩ ?_
    ·unfold ptrV at e32' ⊢
     go_simp
    ·exact ⟨hB, h0, h1, h2, fun _ => e32.symm⟩
  ·intro vs w3 hl' hF hG
   obtain ⟨g', hg1, hg2⟩ := vs_litI vs hl' hF
   obtain ⟨hB3, -, -, h2, h3⟩ := hG
   obtain ⟨bx, gx, wc, vb, hsafe, hBc, hbx, hBcw, obx⟩ := h2 rfl
   have v3 := h3 rfl
   rw [hg1] at vb v3
   simp only [List.length_cons, List.length_nil, Nat.reduceAdd, List.map_cons, List.map_nil, show List.range 6 = [0, 1, 2, 3, 4, 5] from rfl, List.getD_cons_zero, List.getD_cons_succ] at vb v3
   have e5 : g' 5 = ptrV bx := v3.trans vb
   rw [hg1]
   simp only [List.length_cons, List.length_nil, Nat.reduceAdd, show List.range 6 = [0, 1, 2, 3, 4, 5] from rfl, List.map_cons, List.map_nil, slotsIn, putL, List.setIfInBounds_toArray, List.set_cons_succ, List.set_cons_zero, e5, List.size_toArray, Nat.reduceLT, if_true, if_false]
   have hbx3 := (Array.getElem?_eq_some_iff.1 obx).1
   have hz3 := hB3.size
   have hzc := hBc.size
   have hB03 := hB2.trans (hB3.mono (by have := hb3e.out; omega))
   have hrow33 := (row?_below _ _ _ hB3 hb3).trans hrow3
   have hrow43 := (row?_below _ _ _ hB3 hb4).trans hrow4
   have hrow63 := (row?_below _ _ _ hB3 hb6).trans hrow6
   have hth43 := there_below hB3 hb4 hth4
   have hV3 := Lib.hid (hVI.out.keep hB03)
   have hxb6 : b6 < bx := by omega
   have hWx : W.heap.size ≤ bx := by omega
   have hp0 := row_part hrow33 0 32 (by omega)
   rw [headerA_parent, g1] at hp0
   have c1 := fun m => show (w3.drewN m).cell? ⟨cb, 1, none⟩ = _ from hV3.out.c1
   have f0 := fun m => show row? (w3.drewN m) b3 0 32 = _ from hp0
   have l1 := fun m => (show ChV (w3.drewN m) cb ab sA.c mb G C from hV3.out.keep (below_drewN (Below.refl _ _) m)).look1 h.parent
   rw [hi0] at l1
   simp only [Option.getD_some] at l1
   clear hg1 hg2 h2 h3 vb v3 e5 hF hl' hrow3 hrow4 hrow6 hth4 hV2 hr2 HCl c0 hp0 hB2
   unfold ptrV
   go_upto_region 6 with fail
   go_quiet (fail)
   have hB04 := below_drewN hB03 nq
   have hrow34 : row? (w3.drewN nq) b3 0 34 = _ := hrow33
   have hrow44 : row? (w3.drewN nq) b4 0 33 = _ := hrow43
   have hrow64 : row? (w3.drewN nq) b6 0 33 = _ := hrow63
   have hth44 : there (w3.drewN nq) b4 0 33 := hth43
   have obx4 : (w3.drewN nq).heap[bx]? = _ := obx
   have hBcw4 := below_drewN hBcw nq
   have hbx4 : bx < (w3.drewN nq).heap.size := hbx3
   clear c1 f0 l1 hB03 hrow33 hrow43 hrow63 hth43 obx hBcw hbx3 hV3 hz3 hB3
   generalize w3.drewN nq = w4 at *
   have hup0 : UpI C p gx w4 w4 bx i0 i0 0 [] ⟨none, 0, 0⟩ := by
    refine ⟨?_, there_block obx4 (by simp), ⟨_, _, obx4⟩, OwnC.nil _ _ _, Below.refl _ _, by simp, rfl, chAt_lt hi0⟩
    exact rowHeap obx4 (by simp)
   replace hup0 := Lib.hid hup0
   go_upto_region 8 with fail
   go_loopw [10, 11] (fun iv kv W' => ∃ (i k : Nat) (acc : List Nat) (su : Sl), iv = .int .i64 i ∧ kv = .int .i64 k ∧ Hid (UpI C p gx w4 W' bx i0 i k acc su)) (fun iv _ _ => (intOf iv).toNat)
   case atStart => exact ⟨i0, 0, [], ⟨none, 0, 0⟩, rfl, rfl, hup0⟩
   case round =>
    clear hup0
    obtain ⟨i, k, acc, ⟨ua, un, uc⟩, rfl, rfl, hU⟩ := hrel
    have hbw := hU.out.bel.size
    have hlr : bx < wr.heap.size := by omega
    have hbelW := hB04.trans (hU.out.bel.mono hWx)
    have hVr := hVI.out.keep hbelW
    obtain ⟨b, hb⟩ : ∃ b, C[i]? = some b := ⟨_, List.getElem?_eq_getElem hU.out.lt⟩
    obtain ⟨x, hx⟩ := hVr.box hb
    obtain ⟨-, xu, -, -, -, -⟩ := hVr.cells hx hb
    have c0 := hVr.c0
    have ca := hVr.arr i x hx
    unfold ptrV at ca
    have hUl := hVr.up i x b hx hb
    obtain ⟨ui, hui⟩ : ∃ u, u = (ups C).getD i [] := ⟨_, rfl⟩
    rw [← hui] at hUl
    have huis : (ups C)[i]? = some ui := by
     rw [hui, List.getD_eq_getElem?_getD]
     have : i < (ups C).length := by rw [ups_length]; exact hU.out.lt
     rw [List.getElem?_eq_getElem this]
     rfl
    have hacc : acc.length ≤ 1000000 := by
     have h1 := congrArg List.length hU.out.clm
     rw [List.length_append] at h1
     have h2 := climb_length (U := ups C) i0 0
     have h3 := chAt_lt hi0
     omega
    have hcl : k = acc.length := hU.out.len.symm
    have hil := hU.out.lt
    have hx67 : wr.cell? ⟨bx, 67, none⟩ = some (.slice ua un uc) := by
     have := cell_of_row? hU.out.row 67 (by omega)
     rw [blkA_tail _ _ 0, Nat.zero_add] at this
     exact this
    have hbN := bsN_one i wr
    obtain ⟨⟨sa', sn', sc'⟩, wa, hrun, hown', hgr, hob⟩ := app_nat (B := bx + 1) hU.out.own (show bx + 1 ≤ wr.heap.size by omega) hacc i
    dsimp only [Sl.v] at hrun
    have hza := hgr.size
    have hfar : ∀ q : Nat, q ≤ bx → wa.heap[q]? = wr.heap[q]? := fun q hq => (hgr.block q (by simp; omega) (fun e => by
     have := (OwnC.lt hU.out.own q e.symm).1
     omega)).trans (Below.heap_alloc wr _ q (by omega))
    have hx67a : wa.cell? ⟨bx, 67, none⟩ = some (.slice ua un uc) := (World.cell?_of_block (a := ⟨bx, 67, none⟩) (hfar bx (Nat.le_refl _))).trans hx67
    have hfz : wa.frozen? ⟨bx, 67, none⟩ = false := (World.frozen?_of_block (a := ⟨bx, 67, none⟩) (hfar bx (Nat.le_refl _))).trans (hU.out.thr 67 (by omega)).2
    go_upto_region 9 with fail
    obtain ⟨w5, hw5⟩ : ∃ w5, w5 = wa.setCell ⟨bx, 67, none⟩ (.slice sa' sn' sc') := ⟨_, rfl⟩
    have hbel5 : Below bx wr w5 := by
     rw [hw5]
     exact (((Below.refl bx wr).alloc (by omega) _).grown hgr (by simp; omega) fun q hq => by
      have := (OwnC.lt hU.out.own q hq).1
      omega).setCell (Nat.le_refl _) _
    have hrow5 : row? w5 bx 0 69 = some (blkA p { nx with g := gx, u := ⟨sa', sn', sc'⟩ }) := by
     have h1 : row? wa bx 0 69 = some (blkA p { nx with g := gx, u := ⟨ua, un, uc⟩ }) := by
      have := hU.out.row
      unfold row? at this ⊢
      rw [hfar bx (Nat.le_refl _)]
      exact this
     rw [hw5, row?_set_in _ _ _ _ _ (by omega) (by rw [h1]; rfl), h1, Option.map_some]
     refine congrArg some ?_
     simp only [splice, blkA]
     apply Array.ext'
     simp
    have hthr5 : there w5 bx 0 69 := by
     rw [hw5]
     refine there_set _ _ _ _ _ _ fun j hj => ?_
     have := hU.out.thr j hj
     rw [World.cell?_of_block (a := ⟨bx, 0 + j, none⟩) (hfar bx (Nat.le_refl _)), World.frozen?_of_block (a := ⟨bx, 0 + j, none⟩) (hfar bx (Nat.le_refl _))]
     exact this
    have hob5 : ∃ cs t, w5.heap[bx]? = some (.cells cs t (0, 0)) := by
     obtain ⟨cs, t, h1⟩ := hU.out.ob
     rw [hw5]
     exact set_ob ((hfar bx (Nat.le_refl _)).trans h1) _ _
    have hown5 : OwnC w5 (bx + 1) 1 (.slice sa' sn' sc') (acc ++ [i]).length (flatC natA (acc ++ [i])) := by
     rw [hw5]
     exact OwnC.off hown' (asd_set wa ⟨bx, 67, none⟩ _) fun q hq e => by
      have := (OwnC.lt hown' q hq).1
      have e' : q = bx := e
      omega
    rw [← hw5]
    have hz5 := hbel5.size
    have hbelW5 := hB04.trans ((hU.out.bel.trans hbel5).mono hWx)
    have hV5 := Lib.hid (hVI.out.keep hbelW5)
    have hbel45 := Lib.hid (hU.out.bel.trans hbel5)
    have hclm := Lib.hid hU.out.clm
    clear hw5 hfar hfz hx67a hx67 hbN hrun hown' hgr hob hza hVr c0 ca xu hU hbel5 hbelW
    obtain ⟨-, xu, -, -, -, -⟩ := hV5.out.cells hx hb
    have c0 := hV5.out.c0
    have ca := hV5.out.arr i x hx
    unfold ptrV at ca
    have hUl5 := hV5.out.up i x b hx hb
    rw [← hui] at hUl5
    clear hUl
    have hn5 := hUl5.1
    obtain ⟨xb, xg, ⟨xua, xun, xuc⟩, xc⟩ := x
    simp only at hn5 xu ca
    subst hn5
    dsimp only [Sl.v] at xu
    subst hcl
    have i1 : (i : Int) < (C.length : Int) := by omega
    replace hui := Lib.hid hui
    by_cases hku : acc.length < ui.length
    ·have hk1 : ¬ ((ui.length : Int) ≤ (acc.length : Int)) := by omega
     obtain ⟨bu, ou, e1, hbu, hcu⟩ := ints_at hUl5 (by omega)
     have e2 := congrArg Sl.a e1
     simp only at e2
     subst e2
     clear e1
     have hcq := hcu acc.length hku
     clear hcu
     have hq := List.getElem?_eq_getElem hku
     generalize ui[acc.length] = q at *
     obtain ⟨-, hqi⟩ := ups_mem hok huis hq
     have hnew : Hid (UpI C p gx w4 w5 bx i0 q (acc.length + 1) (acc ++ [i]) ⟨sa', sn', sc'⟩) := Lib.hid (by
      refine ⟨hrow5, hthr5, hob5, hown5, hbel45.out, ?_, by simp, by omega⟩
      rw [hclm.out, climb, huis]
      simp only [Option.bind_some, hq, hqi, dite_true]
      rw [List.append_assoc]
      rfl)
     have k1 : (acc.length : Int) < (ui.length : Int) := by omega
     have hqi' := Lib.hid hqi
     clear hrow5 hthr5 hob5 hown5 hbelW5 hclm huis hq hqi
     go_wp2_with fail
     go_roundw
     case rel => exact ⟨q, acc.length + 1, acc ++ [i], ⟨sa', sn', sc'⟩, rfl, by go_num, hnew⟩
     case measure =>
      have := hqi'.out
      simp [intOf]
      omega
    ·have hk1 : (ui.length : Int) ≤ (acc.length : Int) := by omega
     have hcl2 : climb (ups C) i0 0 = acc ++ [i] := by
      rw [hclm.out, climb, huis]
      simp only [Option.bind_some, List.getElem?_eq_none (Nat.le_of_not_lt hku)]
     go_upto_region 11 with fail
     clear xu c0 ca hUl5 hclm huis hku hk1 hx hb
     have hp0 : row? w5 b3 0 32 = some (hashA h.parent) := by
      have h1 := (row?_below _ _ _ hbel45.out (show b3 < bx by omega)).trans (row_part hrow34 0 32 (by omega))
      rw [headerA_parent, g1] at h1
      exact h1
     obtain ⟨bp, hbp⟩ : ∃ b, C[i0]? = some b := ⟨_, List.getElem?_eq_getElem (chAt_lt hi0)⟩
     obtain ⟨xp, hxp⟩ := hV5.out.box hbp
     have ca := hV5.out.arr i0 xp hxp
     unfold ptrV at ca
     have c0 := fun m => show (w5.drewN m).cell? ⟨cb, 0, none⟩ = _ from hV5.out.c0
     have c1 := fun m => show (w5.drewN m).cell? ⟨cb, 1, none⟩ = _ from hV5.out.c1
     have f0 := fun m => show row? (w5.drewN m) b3 0 32 = _ from hp0
     have f1 := fun m => show (w5.drewN m).cell? ⟨ab, i0, none⟩ = _ from ca
     have l1 := fun m => (show ChV (w5.drewN m) cb ab sA.c mb G C from hV5.out.keep (below_drewN (Below.refl _ _) m)).look1 h.parent
     rw [hi0] at l1
     simp only [Option.getD_some] at l1
     have j1 : (i0 : Int) < (C.length : Int) := by have := chAt_lt hi0; omega
     have j2 : (0 : Int) ≤ (i0 : Int) := by omega
     go_quiet (fail)
     have hV6 := Lib.hid (show ChV (w5.drewN nq) cb ab sA.c mb G C from hV5.out.keep (below_drewN (Below.refl _ _) nq))
     have hbel46 : Below bx w4 (w5.drewN nq) := below_drewN hbel45.out nq
     have hbelW6 : Below W.heap.size W (w5.drewN nq) := below_drewN hbelW5 nq
     have hrow6x : row? (w5.drewN nq) bx 0 69 = _ := hrow5
     have hthr6x : there (w5.drewN nq) bx 0 69 := hthr5
     have hob6x : ∃ cs t, (w5.drewN nq).heap[bx]? = some (.cells cs t (0, 0)) := hob5
     have hown6x : OwnC (w5.drewN nq) (bx + 1) 1 (.slice sa' sn' sc') (acc ++ [i]).length (flatC natA (acc ++ [i])) := OwnC.keep hown5 (below_drewN (Below.refl _ _) nq)
     have hbx6 : bx < (w5.drewN nq).heap.size := by show bx < w5.heap.size; omega
     clear c0 c1 f0 f1 l1 hp0 ca hV5 hbel45 hbelW5 hrow5 hthr5 hob5 hown5 hz5
     generalize w5.drewN nq = w6 at *
     clear hlr hacc hil i1 hbw hlen
     have hMk : Hid (∃ T1 : Nat → Nat, (∀ k, k < W.heap.size → T1 k = T k) ∧ T1 b4 = 4 + 2 * (C.length + 1) ∧ (∀ k, W.heap.size ≤ k → k ≠ bx → k ≠ b4 → T1 k = 0) ∧ ChM B T1 w6 cb sA mb G C (ups C) (chs C) (C.map (·.p.name)) ∧ BlkM B T1 w6 C.length ⟨bx, gx, ⟨sa', sn', sc'⟩, ⟨none, 0, 0⟩⟩ ⟨p, h, some i0⟩ (climb (ups C) i0 0) []) := Lib.hid (by
      refine ⟨tagA T W.heap.size bx b4 C.length, fun k hk => tagA_old hk, tagA_b4 (by omega) (by omega), fun k h1 h2 h3 => tagA_no h1 h2 h3, (hHM.out.retag fun k hk => tagA_old hk).keep hbelW6, ?_⟩
      refine ⟨hrow6x, hthr6x, hob6x, tagA_bx (by omega), hsafe.step (below_fresh (hBcw4.trans (hbel46.mono hbx)) _) fun k hk hm => ?_, fun W2 h2 => ?_, OwnC.nil _ _ _, fun q hq => by simp [Value.ownBlock] at hq⟩
      ·show k < w2.heap.size
       unfold Mut at hm
       by_cases hkb : k = b4
       ·omega
       ·have : ¬ W.heap.size ≤ k := fun hge => hm (tagA_no hge (by omega) hkb)
        omega
      ·rw [hcl2]
       refine rows_of_own natA natA_size (by omega) (OwnC.off hown6x h2 fun q hq => ?_)
       have := (OwnC.lt hown6x q hq).1
       unfold Mut
       intro hn
       exact hn (tagA_no (by omega) (by omega) (by omega)))
     clear hrow6x hthr6x hob6x hown6x hsafe hBcw4
     obtain ⟨T1, hT1a, hT1b, hT1c, hM6, hX6⟩ := hMk.out
     clear hMk
     have hkp := hM6.blk i0 xp bp hxp hbp
     have hcp := cell_of_row? hkp.row 68 (by omega)
     rw [blkA_tail _ _ 1, Nat.zero_add] at hcp
     have hbN := bsN_one C.length w6
     obtain ⟨⟨pa, pn, pc⟩, wa, hrun, hown', hgr, hob⟩ := app_nat (B := B) hkp.ch hM6.hB (by have := chs_length C i0; have := hok.len; omega) C.length
     obtain ⟨xpb, xpg, xpu, ⟨qa, qn, qc⟩⟩ := xp
     simp only at hcp hrun hgr hob
     dsimp only [Sl.v] at hcp hrun
     have hxpl : xpb < w6.heap.size := hkp.lt
     have hxpne : (Sl.v ⟨qa, qn, qc⟩).ownBlock ≠ some xpb := fun e => by
      have h1 := hkp.tc xpb e
      have h2 := hkp.tb
      simp only at h2
      omega
     have hfar : wa.heap[xpb]? = w6.heap[xpb]? := (hgr.block xpb (by simp; omega) (fun e => hxpne e.symm)).trans (Below.heap_alloc w6 _ xpb hxpl)
     have hcpa : wa.cell? ⟨xpb, 68, none⟩ = some (.slice qa qn qc) := (World.cell?_of_block (a := ⟨xpb, 68, none⟩) hfar).trans hcp
     have hfz : wa.frozen? ⟨xpb, 68, none⟩ = false := (World.frozen?_of_block (a := ⟨xpb, 68, none⟩) hfar).trans (hkp.thr 68 (by omega)).2
     go_upto_region 13 with fail
     obtain ⟨T2, hT2⟩ : ∃ T2, T2 = tagB T1 (w6.alloc (.cells (natA C.length) 3)).heap.size (Sl.v ⟨pa, pn, pc⟩).ownBlock (5 + 2 * i0) := ⟨_, rfl⟩
     have hsz6 : (w6.alloc (.cells (natA C.length) 3)).heap.size = w6.heap.size + 1 := by simp
     have hM6a := hM6.keep (bel_a w6 (.cells (natA C.length) 3))
     have hX6a := hX6.off (M := fun _ => False) (below_fresh (bel_a w6 (.cells (natA C.length) 3)) _) id (fun _ _ => id) (fun _ _ h => h.elim)
     have hob2 : (Sl.v ⟨pa, pn, pc⟩).ownBlock = (Sl.v ⟨qa, qn, qc⟩).ownBlock ∨ ∃ k, (Sl.v ⟨pa, pn, pc⟩).ownBlock = some k ∧ (w6.alloc (.cells (natA C.length) 3)).heap.size ≤ k := hob.imp id fun e => ⟨_, e, by omega⟩
     obtain ⟨hM7, hA7⟩ := hM6a.child hxp hgr hown' hob2 (W' := wa.setCell ⟨xpb, 68, none⟩ (Sl.v ⟨pa, pn, pc⟩)) rfl (T' := T2) (fun k hk => by rw [hT2]; exact tagB_old hk) (fun k hk ho => by rw [hT2]; exact tagB_new hk ho) (fun k hk ho => by
      rw [hT2] at ho
      have h1 := tagB_ne hk ho
      have h2 := (OwnC.lt hown' k h1).1
      exact h2)
     have hX7 : BlkM B T2 (wa.setCell ⟨xpb, 68, none⟩ (Sl.v ⟨pa, pn, pc⟩)) C.length ⟨bx, gx, ⟨sa', sn', sc'⟩, ⟨none, 0, 0⟩⟩ ⟨p, h, some i0⟩ (climb (ups C) i0 0) [] := by
      have hA : Asd (fun k => k = xpb ∨ (Sl.v ⟨qa, qn, qc⟩).ownBlock = some k) (w6.alloc (.cells (natA C.length) 3)) (wa.setCell ⟨xpb, 68, none⟩ (Sl.v ⟨pa, pn, pc⟩)) :=
       ((asd_grown hgr).mono fun k _ e => .inr e).trans ((asd_set wa ⟨xpb, 68, none⟩ _).mono fun k _ e => .inl e)
      have hkp' := hkp
      refine (hX6a.retag fun k hk => (by rw [hT2]; exact tagB_old hk : T2 k = T1 k)).off hA ?_ (fun q hq => by simp [Value.ownBlock] at hq) fun k hk hm => ?_
      ·intro e
       have h1 := hX6.tb
       have h2 := hkp.tb
       have h3 := hkp.tc bx
       simp only at h1 h2 h3
       have := chAt_lt hi0
       rcases e with e | e
       ·have e' : bx = xpb := e
        rw [← e'] at h2
        omega
       ·have := h3 e
        omega
      ·rw [hT2, tagB_old hk]
       have h2 := hkp.tb
       simp only at h2
       rcases hm with e | e
       ·rw [e]
        omega
       ·have := hkp.tc k e
        omega
     have hc00 := hM6.row
     have hbel6a : Below W.heap.size W (w6.alloc (.cells (natA C.length) 3)) := hbelW6.alloc (by omega) _
     have hAc : Asd (fun k => k = xpb ∨ (Sl.v ⟨qa, qn, qc⟩).ownBlock = some k) (w6.alloc (.cells (natA C.length) 3)) (wa.setCell ⟨xpb, 68, none⟩ (Sl.v ⟨pa, pn, pc⟩)) :=
       ((asd_grown hgr).mono fun k _ e => .inr e).trans ((asd_set wa ⟨xpb, 68, none⟩ _).mono fun k _ e => .inl e)
     have hAW7 : Hid (Asd (MutS T) W (wa.setCell ⟨xpb, 68, none⟩ (Sl.v ⟨pa, pn, pc⟩))) := Lib.hid ((below_fresh hbel6a (MutS T)).trans' hAc fun k hk hm => by
      have h0 := chAt_lt hi0
      have h1 := hok.len
      have h2 := hkp.tb
      simp only at h2
      unfold MutS
      rw [← hT1a k hk]
      rcases hm with e | e
      ·rw [e]
       omega
      ·have h3 := hkp.tc k e
       omega)
     have hT2a : ∀ k, k < W.heap.size → T2 k = T k := fun k hk => by
      rw [hT2, tagB_old (by omega)]
      exact hT1a k hk
     have hT2b : T2 b4 = 4 + 2 * (C.length + 1) := by
      rw [hT2, tagB_old (by omega)]
      exact hT1b
     have hm7 : ∀ q : Nat, q < w6.heap.size → W.heap.size ≤ q → q ≠ bx → q ≠ b4 → (wa.setCell ⟨xpb, 68, none⟩ (Sl.v ⟨pa, pn, pc⟩)).heap[q]? = w6.heap[q]? := fun q hq hqW hqx hq4 => by
      have h1 := hT1c q hqW hqx hq4
      refine (hA7.block q (by omega) fun e => e h1).trans (Below.heap_alloc w6 _ q hq)
     have hx67 : row? (wa.setCell ⟨xpb, 68, none⟩ (Sl.v ⟨pa, pn, pc⟩)) b6 0 33 = some (pointA p) := by
      have h1 := (row?_below _ _ _ hbel46 (show b6 < bx by omega)).trans hrow64
      have h2 := hm7 b6 (by omega) (by omega) (by omega) (by omega)
      unfold row? at h1 ⊢
      rw [h2]
      exact h1
     have hpn := Lib.hid (show p.name = hdName h by rw [hpp.out])
     have hnn : p.name ∉ C.map (·.p.name) := fun hin => by
      obtain ⟨bb, h1, h2⟩ := List.mem_map.1 hin
      exact chAt_none hnone bb h1 (h2.trans hpn.out)
     obtain ⟨G7, hG7⟩ : ∃ G7, G7 = G.set i0 ⟨xpb, xpg, xpu, ⟨pa, pn, pc⟩⟩ := ⟨_, rfl⟩
     have hM7' : ChM B T2 (wa.setCell ⟨xpb, 68, none⟩ (Sl.v ⟨pa, pn, pc⟩)) cb sA mb G7 C (ups C) (fun j => if j = i0 then chs C i0 ++ [C.length] else chs C j) (C.map (·.p.name)) := by
      rw [hG7]
      exact hM7
     have hrow47 : row? (wa.setCell ⟨xpb, 68, none⟩ (Sl.v ⟨pa, pn, pc⟩)) b4 0 33 = some (pointA zeroPt) ∧ there (wa.setCell ⟨xpb, 68, none⟩ (Sl.v ⟨pa, pn, pc⟩)) b4 0 33 := by
      have h1 := (row?_below _ _ _ hbel46 (show b4 < bx by omega)).trans hrow44
      have h1t := there_below hbel46 (show b4 < bx by omega) hth44
      have h2 : wa.heap[b4]? = w6.heap[b4]? := (hgr.block b4 (by simp; omega) fun e => by
       have h3 := hkp.tc b4 e.symm
       have := chAt_lt hi0
       omega).trans (Below.heap_alloc w6 _ b4 (by omega))
      have hne4 : b4 ≠ xpb := fun e => by
       have h3 := hkp.tb
       simp only at h3
       rw [← e] at h3
       have := chAt_lt hi0
       omega
      refine ⟨?_, there_set _ _ _ _ _ _ fun j hj => ?_⟩
      ·rw [row?_far _ _ _ _ _ _ hne4]
       unfold row? at h1 ⊢
       rw [h2]
       exact h1
      ·have := h1t j hj
       rw [World.cell?_of_block (a := ⟨b4, 0 + j, none⟩) h2, World.frozen?_of_block (a := ⟨b4, 0 + j, none⟩) h2]
       exact this
     obtain ⟨hr47, ht47⟩ := hrow47
     obtain ⟨w7, hw7⟩ : ∃ w7, w7 = wa.setCell ⟨xpb, 68, none⟩ (Sl.v ⟨pa, pn, pc⟩) := ⟨_, rfl⟩
     rw [← hw7] at hM7' hX7 hAW7 hx67 hr47 ht47
     have hw7' : wa.setCell ⟨xpb, 68, none⟩ (.slice pa pn pc) = w7 := hw7.symm
     rw [hw7']
     have hcbW := hVI.out.lt
     have hmbW := hVI.out.map.lt
     have habW := hVI.out.abl
     have hsA : sA.v = .slice (some ⟨ab, 0, none⟩) C.length sA.c := by
      show Value.slice sA.a sA.n sA.c = _
      rw [hab, hsn]
     have howA : ∀ q, sA.v.ownBlock = some q → q = ab := fun q hq => by
      rw [hsA] at hq
      simp [Value.ownBlock] at hq
      exact hq.symm
     have hFin0 : ∀ V : List Value, HFin B w7 cb mb bx C.length sA G7 ⟨bx, gx, ⟨sa', sn', sc'⟩, ⟨none, 0, 0⟩⟩ (C.map (·.p.name)) p.name [false, false, false, false, false, false] V w7.drew := fun V =>
      ⟨(Asd.refl _ _).drew, ⟨hM7'.hB, hM7'.lt, hM7'.map.lt, fun e => by
       have h1 := hM7'.tcb
       have h2 := hM7'.tmap
       rw [e] at h1
       omega, fun e => by
       have h1 := hM7'.tall cb e
       have h2 := hM7'.tcb
       omega, fun e => by
       have h1 := hM7'.tall mb e
       have h2 := hM7'.tmap
       omega, fun q hq => (OwnC.lt hM7'.all q hq).2, rfl, by simp⟩, fun hl => (by cases hl), fun _ => hM7'.all.keep ((Below.refl _ w7).drew), fun hl => (by cases hl), hM7'.row, hM7'.thr, fun hl => (by cases hl), fun _ => hM7'.map.keep ((Below.refl _ w7).drew) hM7'.map.lt, fun hl => (by cases hl), fun hl => (by cases hl), fun hl => (by cases hl)⟩
     have hG7l : G7.length ≤ 1000000 := by
      rw [hM7'.glen]
      have := hok.len
      omega
     have hrow67 := row_part hx67 1 32 (by omega)
     rw [pointA_name] at hrow67
     have hb6n : ¬ (b6 = cb ∨ b6 = mb ∨ sA.v.ownBlock = some b6) := fun e => by
      rcases e with e | e | e
      ·omega
      ·omega
      ·have := howA b6 e
       omega
     have hb4n : ¬ (b4 = cb ∨ b4 = mb ∨ sA.v.ownBlock = some b4) := fun e => by
      rcases e with e | e | e
      ·omega
      ·omega
      ·have := howA b4 e
       omega
     have hb47 : b4 < w7.heap.size := lt_of_row hr47
     clear hw7 hw7' hM7 hA7 hX6a hM6a hM6 hX6 hkp hcp hbN hrun hgr hob hob2 hfar hcpa hfz hV6 hc00 hcl2 hown' hm7 hbel46 hbelW6 hbel6a hxp hbp hxpne hxpl hG7
     refine wp_region_freeI_l (by kernel_rfl) [101, 102, 103, 104, 105, 106, 107, 108, 109, 110, 111, 112, 113, 114, 115, 116, 117, 138, 118, 119, 141]
      [(fun v => v = .pointer (some ⟨cb, 0, none⟩)), (fun v => v = .pointer (some ⟨cb, 0, none⟩)), (fun v => v = .pointer (some ⟨cb, 0, none⟩)), (fun v => v = .pointer (some ⟨cb, 1, none⟩)), (fun v => v = .map (some mb)), (fun v => v = .pointer (some ⟨b6, 1, none⟩)), (fun v => v = .agg (hashA p.name)), (fun v => v = .pointer (some ⟨cb, 0, none⟩)), (fun v => v = .pointer (some ⟨cb, 0, none⟩)), (fun v => v = .pointer (some ⟨cb, 0, none⟩)), (fun v => v = .slice (some ⟨ab, 0, none⟩) C.length sA.c), (fun v => v = .pointer (some ⟨bx, 0, none⟩)), (fun v => ∃ a, v = .slice (some ⟨a, 0, none⟩) 1 1), (fun v => ∃ s : Sl, v = s.v), (fun v => v = .int .i64 (C.length : Int)), (fun v => v = .pointer (some ⟨cb, 0, none⟩)), (fun v => v = .pointer (some ⟨cb, 0, none⟩)), (fun _ => True), (fun v => ∃ st : Nat, v = .tuple #[.int .i64 0, .int .i64 (st : Int)]), (fun v => ∃ st : Nat, v = .int .i64 (st : Int)), (fun _ => True)]
      [12, 13, 17, 18, 19, 20] (HFin B w7 cb mb bx C.length sA G7 ⟨bx, gx, ⟨sa', sn', sc'⟩, ⟨none, 0, 0⟩⟩ (C.map (·.p.name)) p.name) [[15, 16, 17], [2, 3, 4, 18, 19, 20], [3, 4, 18, 19, 20], [4, 18, 19, 20], [18, 19, 20], [6, 18, 19, 20], [18, 19, 20], [8, 9, 10, 13, 17], [9, 10, 13, 17], [10, 13, 17], [13, 17], [12, 13, 17], [13, 17], [17], [20], [16, 17], [17], [], [19, 20], [20], []] (by kernel_rfl) (by kernel_rfl) ?_ ?_ ?_
     ·show HFin B w7 cb mb bx C.length sA G7 ⟨bx, gx, ⟨sa', sn', sc'⟩, ⟨none, 0, 0⟩⟩ (C.map (·.p.name)) p.name [false, false, false, false, false, false] [_, _, _, _, _, _] _
      exact hFin0 _
     ·refine ⟨?_, ?_, ?_, ?_, ?_, ?_, ?_, ?_, ?_, ?_, ?_, ?_, ?_, ?_, ?_, ?_, ?_, ?_, ?_, ?_, ?_, trivial⟩
      ·intro L ax W hf hLi hno hd
       try simp [Region.binds] at hd
       have e0 : ax.tmps[0]?.getD undef = .pointer (some ⟨cb, 0, none⟩) := hf.out 0 (by decide) rfl
       refine ⟨fun _ => ?_, fun h => absurd trivial h⟩
       refine freeI_run (v := .pointer (some ⟨cb, 0, none⟩)) rfl hf (by decide) ?_ rfl
       go_simp
      ·intro L ax W hf hLi hno hd
       try simp [Region.binds] at hd
       have e0 : ax.tmps[0]?.getD undef = .pointer (some ⟨cb, 0, none⟩) := hf.out 0 (by decide) rfl
       refine ⟨fun _ => ?_, fun h => absurd trivial h⟩
       refine freeI_run (v := .pointer (some ⟨cb, 0, none⟩)) rfl hf (by decide) ?_ rfl
       go_simp
      ·intro L ax W hf hLi hno hd
       simp [Region.binds] at hd
       have e102 : ax.tmps[102]?.getD undef = .pointer (some ⟨cb, 0, none⟩) := slv (hf.got 1 (by decide) (by simp [hd]))
       refine ⟨fun _ => ?_, fun h => absurd trivial h⟩
       refine freeI_run (v := .pointer (some ⟨cb, 0, none⟩)) rfl hf (by decide) ?_ rfl
       go_simp
      ·intro L ax W hf hLi hno hd
       simp [Region.binds] at hd
       have e103 : ax.tmps[103]?.getD undef = .pointer (some ⟨cb, 0, none⟩) := slv (hf.got 2 (by decide) (by simp [hd]))
       refine ⟨fun _ => ?_, fun h => absurd trivial h⟩
       refine freeI_run (v := .pointer (some ⟨cb, 1, none⟩)) rfl hf (by decide) ?_ rfl
       go_simp
      ·intro L ax W hf hLi hno hd
       simp [Region.binds] at hd
       have e104 : ax.tmps[104]?.getD undef = .pointer (some ⟨cb, 1, none⟩) := slv (hf.got 3 (by decide) (by simp [hd]))
       refine ⟨fun _ => ?_, fun h => absurd trivial h⟩
       have hG : HFin B w7 cb mb bx C.length sA G7 ⟨bx, gx, ⟨sa', sn', sc'⟩, ⟨none, 0, 0⟩⟩ (C.map (·.p.name)) p.name [L 12, L 13, L 17, L 18, L 19, L 20] [sl ax 113, sl ax 114, sl ax 138, sl ax 118, sl ax 119, sl ax 141] W := hf.glob
       have hc1 := hG.c1
       refine freeI_run (v := .map (some mb)) rfl hf (by decide) ?_ rfl
       go_simp
      ·intro L ax W hf hLi hno hd
       try simp [Region.binds] at hd
       have e6 : ax.tmps[6]?.getD undef = .pointer (some ⟨b6, 0, none⟩) := hf.out 6 (by decide) rfl
       refine ⟨fun _ => ?_, fun h => absurd trivial h⟩
       refine freeI_run (v := .pointer (some ⟨b6, 1, none⟩)) rfl hf (by decide) ?_ rfl
       go_simp
      ·intro L ax W hf hLi hno hd
       simp [Region.binds] at hd
       have e106 : ax.tmps[106]?.getD undef = .pointer (some ⟨b6, 1, none⟩) := slv (hf.got 5 (by decide) (by simp [hd]))
       refine ⟨fun _ => ?_, fun h => absurd trivial h⟩
       have hG : HFin B w7 cb mb bx C.length sA G7 ⟨bx, gx, ⟨sa', sn', sc'⟩, ⟨none, 0, 0⟩⟩ (C.map (·.p.name)) p.name [L 12, L 13, L 17, L 18, L 19, L 20] [sl ax 113, sl ax 114, sl ax 138, sl ax 118, sl ax 119, sl ax 141] W := hf.glob
       have hc6 := hG.asd.row hb6n hrow67
       refine freeI_run (v := .agg (hashA p.name)) rfl hf (by decide) ?_ rfl
       go_simp
      ·intro L ax W hf hLi hno hd
       try simp [Region.binds] at hd
       have e0 : ax.tmps[0]?.getD undef = .pointer (some ⟨cb, 0, none⟩) := hf.out 0 (by decide) rfl
       refine ⟨fun _ => ?_, fun h => absurd trivial h⟩
       refine freeI_run (v := .pointer (some ⟨cb, 0, none⟩)) rfl hf (by decide) ?_ rfl
       go_simp
      ·intro L ax W hf hLi hno hd
       simp [Region.binds] at hd
       have e108 : ax.tmps[108]?.getD undef = .pointer (some ⟨cb, 0, none⟩) := slv (hf.got 7 (by decide) (by simp [hd]))
       refine ⟨fun _ => ?_, fun h => absurd trivial h⟩
       refine freeI_run (v := .pointer (some ⟨cb, 0, none⟩)) rfl hf (by decide) ?_ rfl
       go_simp
      ·intro L ax W hf hLi hno hd
       simp [Region.binds] at hd
       have e109 : ax.tmps[109]?.getD undef = .pointer (some ⟨cb, 0, none⟩) := slv (hf.got 8 (by decide) (by simp [hd]))
       refine ⟨fun _ => ?_, fun h => absurd trivial h⟩
       refine freeI_run (v := .pointer (some ⟨cb, 0, none⟩)) rfl hf (by decide) ?_ rfl
       go_simp
      ·intro L ax W hf hLi hno hd
       simp [Region.binds] at hd
       have e110 : ax.tmps[110]?.getD undef = .pointer (some ⟨cb, 0, none⟩) := slv (hf.got 9 (by decide) (by simp [hd]))
       refine ⟨fun _ => ?_, fun h => absurd trivial h⟩
       have hG : HFin B w7 cb mb bx C.length sA G7 ⟨bx, gx, ⟨sa', sn', sc'⟩, ⟨none, 0, 0⟩⟩ (C.map (·.p.name)) p.name [L 12, L 13, L 17, L 18, L 19, L 20] [sl ax 113, sl ax 114, sl ax 138, sl ax 118, sl ax 119, sl ax 141] W := hf.glob
       have hc0 := hG.c0 (hno 17 (by decide))
       rw [hsA] at hc0
       refine freeI_run (v := .slice (some ⟨ab, 0, none⟩) C.length sA.c) rfl hf (by decide) ?_ rfl
       go_simp
      ·intro L ax W hf hLi hno hd
       try simp [Region.binds] at hd
       have e9 : ax.tmps[9]?.getD undef = .pointer (some ⟨bx, 0, none⟩) := hf.out 9 (by decide) rfl
       refine ⟨fun _ => ?_, fun h => absurd trivial h⟩
       refine freeI_run (v := .pointer (some ⟨bx, 0, none⟩)) rfl hf (by decide) ?_ rfl
       go_simp
      ·intro L ax W hf hLi hno hd
       simp [Region.binds] at hd
       have e112 : ax.tmps[112]?.getD undef = .pointer (some ⟨bx, 0, none⟩) := slv (hf.got 11 (by decide) (by simp [hd]))
       refine ⟨fun _ => ?_, fun h => absurd trivial h⟩
       have hG : HFin B w7 cb mb bx C.length sA G7 ⟨bx, gx, ⟨sa', sn', sc'⟩, ⟨none, 0, 0⟩⟩ (C.map (·.p.name)) p.name [L 12, L 13, L 17, L 18, L 19, L 20] [sl ax 113, sl ax 114, sl ax 138, sl ax 118, sl ax 119, sl ax 141] W := hf.glob
       have hbs := show (bsP #[(0, ptrV bx)]).run Try.prog W = _ from bsP_one bx W
       unfold ptrV at hbs
       refine freeI_val (v := .slice (some ⟨W.heap.size, 0, none⟩) 1 1) (W' := W.alloc (.cells #[ptrV bx] 166)) rfl ?_ ⟨_, rfl⟩ ?_
       ·unfold ptrV
        go_simp
       ·exact hG.lit
      ·intro L ax W hf hLi hno hd
       simp [Region.binds] at hd
       have e111 : ax.tmps[111]?.getD undef = .slice (some ⟨ab, 0, none⟩) C.length sA.c := slv (hf.got 10 (by decide) (by simp [hd]))
       have f113 : (fun v => ∃ a, v = .slice (some ⟨a, 0, none⟩) 1 1) (sl ax 113) := hf.got 12 (by decide) (by simp [hd])
       refine ⟨fun _ => ?_, fun h => absurd trivial h⟩
       have hG : HFin B w7 cb mb bx C.length sA G7 ⟨bx, gx, ⟨sa', sn', sc'⟩, ⟨none, 0, 0⟩⟩ (C.map (·.p.name)) p.name [L 12, L 13, L 17, L 18, L 19, L 20] [sl ax 113, sl ax 114, sl ax 138, sl ax 118, sl ax 119, sl ax 141] W := hf.glob
       have hl12 : L 12 = true := by simp [hd]
       obtain ⟨a, e113⟩ := f113
       obtain ⟨s', W', hrun, hH⟩ := hG.app hl12 hLi (hno 17 (by decide)) hG7l e113
       have e113' := slv e113
       rw [hsA] at hrun
       dsimp only [Sl.v] at hrun
       refine freeI_val (v := s'.v) (W' := W') rfl ?_ ⟨s', rfl⟩ hH
       go_simp
      ·intro L ax W hf hLi hno hd
       try simp [Region.binds] at hd
       have e8 : ax.tmps[8]?.getD undef = .int .i64 (C.length : Int) := hf.out 8 (by decide) rfl
       refine ⟨fun _ => ?_, fun h => absurd trivial h⟩
       refine freeI_run (v := .int .i64 (C.length : Int)) rfl hf (by decide) ?_ rfl
       go_simp
      ·intro L ax W hf hLi hno hd
       simp [Region.binds] at hd
       have e101 : ax.tmps[101]?.getD undef = .pointer (some ⟨cb, 0, none⟩) := slv (hf.got 0 (by decide) (by simp [hd]))
       refine ⟨fun _ => ?_, fun h => absurd trivial h⟩
       refine freeI_run (v := .pointer (some ⟨cb, 0, none⟩)) rfl hf (by decide) ?_ rfl
       go_simp
      ·intro L ax W hf hLi hno hd
       simp [Region.binds] at hd
       have e116 : ax.tmps[116]?.getD undef = .pointer (some ⟨cb, 0, none⟩) := slv (hf.got 15 (by decide) (by simp [hd]))
       refine ⟨fun _ => ?_, fun h => absurd trivial h⟩
       refine freeI_run (v := .pointer (some ⟨cb, 0, none⟩)) rfl hf (by decide) ?_ rfl
       go_simp
      ·intro L ax W hf hLi hno hd
       simp [Region.binds] at hd
       have e117 : ax.tmps[117]?.getD undef = .pointer (some ⟨cb, 0, none⟩) := slv (hf.got 16 (by decide) (by simp [hd]))
       have f114 : (fun v => ∃ s : Sl, v = s.v) (sl ax 114) := hf.got 13 (by decide) (by simp [hd])
       refine ⟨fun _ => ?_, fun h => absurd trivial h⟩
       have hG : HFin B w7 cb mb bx C.length sA G7 ⟨bx, gx, ⟨sa', sn', sc'⟩, ⟨none, 0, 0⟩⟩ (C.map (·.p.name)) p.name [L 12, L 13, L 17, L 18, L 19, L 20] [sl ax 113, sl ax 114, sl ax 138, sl ax 118, sl ax 119, sl ax 141] W := hf.glob
       have hl13 : L 13 = true := by simp [hd]
       obtain ⟨s', e114⟩ := f114
       have e114' := slv e114
       have hc0 := hG.c0 hLi
       rw [hsA] at hc0
       have hfz := hG.fz
       refine freeI_store (W' := W.setCell ⟨cb, 0, none⟩ s'.v) rfl ?_ trivial ?_
       ·go_simp
       ·exact hG.put hl13 hLi e114
      ·intro L ax W hf hLi hno hd
       simp [Region.binds] at hd
       have e105 : ax.tmps[105]?.getD undef = .map (some mb) := slv (hf.got 4 (by decide) (by simp [hd]))
       have e107 : ax.tmps[107]?.getD undef = .agg (hashA p.name) := slv (hf.got 6 (by decide) (by simp [hd]))
       refine ⟨fun _ => ?_, fun h => absurd trivial h⟩
       have hG : HFin B w7 cb mb bx C.length sA G7 ⟨bx, gx, ⟨sa', sn', sc'⟩, ⟨none, 0, 0⟩⟩ (C.map (·.p.name)) p.name [L 12, L 13, L 17, L 18, L 19, L 20] [sl ax 113, sl ax 114, sl ax 138, sl ax 118, sl ax 119, sl ax 141] W := hf.glob
       obtain ⟨st, W', hrun, hH⟩ := hG.ent hLi (hno 20 (by decide)) hnn
       unfold hsV at hrun
       refine freeI_val (v := .tuple #[.int .i64 0, .int .i64 (st : Int)]) (W' := W') rfl ?_ ⟨st, rfl⟩ hH
       go_simp
      ·intro L ax W hf hLi hno hd
       simp [Region.binds] at hd
       have f118 : (fun v => ∃ st : Nat, v = .tuple #[.int .i64 0, .int .i64 (st : Int)]) (sl ax 118) := hf.got 18 (by decide) (by simp [hd])
       refine ⟨fun _ => ?_, fun h => absurd trivial h⟩
       have hG : HFin B w7 cb mb bx C.length sA G7 ⟨bx, gx, ⟨sa', sn', sc'⟩, ⟨none, 0, 0⟩⟩ (C.map (·.p.name)) p.name [L 12, L 13, L 17, L 18, L 19, L 20] [sl ax 113, sl ax 114, sl ax 138, sl ax 118, sl ax 119, sl ax 141] W := hf.glob
       have hl18 : L 18 = true := by simp [hd]
       obtain ⟨st, e118⟩ := f118
       have e118' := slv e118
       refine freeI_val (v := .int .i64 (st : Int)) (W' := W) rfl ?_ ⟨st, rfl⟩ (hG.ext hl18 e118 (hno 20 (by decide)))
       go_simp
      ·intro L ax W hf hLi hno hd
       simp [Region.binds] at hd
       have e105 : ax.tmps[105]?.getD undef = .map (some mb) := slv (hf.got 4 (by decide) (by simp [hd]))
       have f119 : (fun v => ∃ st : Nat, v = .int .i64 (st : Int)) (sl ax 119) := hf.got 19 (by decide) (by simp [hd])
       have e115 : ax.tmps[115]?.getD undef = .int .i64 (C.length : Int) := slv (hf.got 14 (by decide) (by simp [hd]))
       refine ⟨fun _ => ?_, fun h => absurd trivial h⟩
       have hG : HFin B w7 cb mb bx C.length sA G7 ⟨bx, gx, ⟨sa', sn', sc'⟩, ⟨none, 0, 0⟩⟩ (C.map (·.p.name)) p.name [L 12, L 13, L 17, L 18, L 19, L 20] [sl ax 113, sl ax 114, sl ax 138, sl ax 118, sl ax 119, sl ax 141] W := hf.glob
       have hl19 : L 19 = true := by simp [hd]
       obtain ⟨st, e119⟩ := f119
       obtain ⟨W', hrun, hH⟩ := hG.sto hl19 hLi e119
       have e119' := slv e119
       refine freeI_store (W' := W') rfl ?_ trivial hH
       go_simp
     ·intro vs2 wf hl2' hF2 hG2
      obtain ⟨g2, hg21, hg22⟩ := vs_litI vs2 hl2' hF2
      obtain ⟨s', hs', hos, hcs⟩ := hG2.lst1 rfl
      obtain ⟨-, hmf⟩ := hG2.map2 rfl
      have hrf : row? wf cb 0 2 = some #[s'.v, .map (some mb)] := by
       have := hG2.row
       rw [← hs']
       exact this
      have hcc := chAt_lt hi0
      have hpar : ∀ i j, parAt C i = some j → j < i := fun i j hj => (parAt_some hok hj).1
      have hch0 : chs C C.length = [] := List.eq_nil_iff_forall_not_mem.2 fun q hq => by
       have h1 := parAt_some hok (chs_mem.1 hq)
       omega
      obtain ⟨T3, hT3⟩ : ∃ T3, T3 = tagB T2 w7.heap.size s'.v.ownBlock 2 := ⟨_, rfl⟩
      obtain ⟨hM8, hA8⟩ := hM7'.grow (b := ⟨p, h, some i0⟩) (n := p.name) hX7 (by show (if C.length = i0 then _ else chs C C.length) = []; rw [if_neg (by omega)]; exact hch0) hG2.asd hrf hG2.thr hos hcs (by rw [idxs_snoc, List.length_map]; exact hmf) (T' := T3) (fun q hq => by rw [hT3]; exact tagB_old hq) (fun q hq ho => by rw [hT3]; exact tagB_new hq ho) (fun q hq ho => by
       rw [hT3] at ho
       exact (OwnC.lt hos q (tagB_ne hq ho)).1)
      have hr4f := hG2.asd.row hb4n hr47
      have ht4f := hG2.asd.there hb4n hb47 ht47
      have hr6f := hG2.asd.row hb6n hx67
      have hT3b : T3 b4 = 4 + 2 * (C ++ [(⟨p, h, some i0⟩ : Blk)]).length := by
       rw [hT3, tagB_old hb47, hT2b, List.length_append]
       rfl
      have hfin : ∃ wz, wz = putRow wf b4 0 (pointA p) ∧ Hid ((∃ T', ChR B T' wz cb D ∧ ∀ k, k < W.heap.size → T' k = T k) ∧ Asd (MutS T) W wz) := by
       refine ⟨_, rfl, Lib.hid ?_⟩
       obtain ⟨hM9, hA9⟩ := hM8.scratch hT3b (asd_put wf b4 0 (pointA p))
       have hlt7 : ∀ k, k < W.heap.size → k < w7.heap.size := fun k hk => Nat.lt_of_lt_of_le hk hAW7.out.size
       refine ⟨⟨T3, ⟨s', mb, G7 ++ [⟨bx, gx, ⟨sa', sn', sc'⟩, ⟨none, 0, 0⟩⟩], ?_⟩, fun k hk => by rw [hT3, tagB_old (hlt7 k hk)]; exact hT2a k hk⟩, ?_⟩
       ·have e1 : ups D = ups C ++ [climb (ups C) i0 0] := by rw [hDD.out, ups_snoc]
        have e2 : chs D = fun j => if j = i0 then chs C i0 ++ [C.length] else chs C j := by
         funext j
         rw [hDD.out, chs_old (fun q hq => by injection hq with hq; omega) hpar]
         by_cases hj : j = i0
         ·subst hj
          simp
         ·rw [if_neg hj, if_neg (fun e => hj (by injection e with e; exact e.symm)), List.append_nil]
        have e3 : D.map (·.p.name) = C.map (·.p.name) ++ [p.name] := by rw [hDD.out, List.map_append]; rfl
        rw [e1, e2, e3, hDD.out]
        exact hM9
       ·refine (hAW7.out.trans' hG2.asd fun k hk hm => ?_).trans' (asd_put wf b4 0 (pointA p)) fun k hk e => ?_
        ·unfold MutS
         rw [← hT2a k hk]
         rcases hm with e | e | e
         ·rw [e, hM7'.tcb]
          omega
         ·rw [e, hM7'.tmap]
          omega
         ·rw [hM7'.tall k e]
          omega
        ·have e' : k = b4 := e
         omega
      obtain ⟨wz, hwz, hfin⟩ := hfin
      rw [hg21]
      simp only [List.length_cons, List.length_nil, Nat.reduceAdd, show List.range 21 = [0, 1, 2, 3, 4, 5, 6, 7, 8, 9, 10, 11, 12, 13, 14, 15, 16, 17, 18, 19, 20] from rfl, List.map_cons, List.map_nil, slotsIn, putL, List.setIfInBounds_toArray, List.set_cons_succ, List.set_cons_zero, List.size_toArray, Nat.reduceLT, if_true, if_false]
      replace hwz := hwz.symm
      have hrz : row? wz b4 0 33 = some (pointA p) := by
       rw [← hwz]
       exact row?_put_same _ _ _ _ _ (by simp) (by omega) ht4f
      clear hg21 hg22 hs' hos hcs hmf hrf hM8 hA8 hG2 hF2 hl2' hT3b hT3 hch0 hpar
      go_wp2_with (with_reducible refine ret_row2 Try.isAgg26 Try.sizeOf26 chadd_res (x := .pointer (some ⟨b4, 0, none⟩)) (y := .int .i64 0) (b4) 0 ?rrhx (Eq.refl _) ?rrhy ?rrh ?rrhd ?rrhR; (case rrhx => simp only [Array.getD_eq_getD_getElem?, List.getElem?_toArray, List.getElem?_cons_succ, List.getElem?_cons_zero, Option.getD_some]); (case rrhy => simp only [Array.getD_eq_getD_getElem?, List.getElem?_toArray, List.getElem?_cons_succ, List.getElem?_cons_zero, Option.getD_some]); (case rrhd => exact rfl); (case rrh => go_simp); (case rrhR => ((first | (rw [hwz, hrz]; exact ⟨rfl, hfin.out⟩) | (rw [hrz]; exact ⟨rfl, hfin.out⟩)))))
end Go.Proofs.Ythdjhbiigmcecaa

/- The chain and the document's chain, side by side in memory. -/
namespace Go.Proofs.Ythdjhbiigmcecaa
open Go.RowKit

section
variable {B : Nat} {T : Nat → Nat} {W W' : World} {cb : Nat} {C : List Blk}
theorem ChR.keep (h : ChR B T W cb C) (hb : Below W.heap.size W W') : ChR B T W' cb C := by
 obtain ⟨sA, mb, G, h⟩ := h
 exact ⟨sA, mb, G, h.keep hb⟩
theorem ChR.retag (h : ChR B T W cb C) {T' : Nat → Nat} (hT : ∀ k, k < W.heap.size → T' k = T k) : ChR B T' W cb C := by
 obtain ⟨sA, mb, G, h⟩ := h
 exact ⟨sA, mb, G, h.retag hT⟩
theorem ChR.tB (h : ChR B T W cb C) : ∀ k, k < W.heap.size → T k ≠ 0 → B ≤ k := by
 obtain ⟨sA, mb, G, h⟩ := h
 exact h.tB
/-- blocks of great tags are changed: none of the chain's own -/
theorem ChR.offBig (h : ChR B T W cb C) (hl : C.length ≤ 100000) {M : Nat → Prop} (hb : Asd M W W') (hM : ∀ k, k < W.heap.size → M k → 1000000 ≤ T k) (hT : ∀ k, W.heap.size ≤ k → T k = 0) : ChR B T W' cb C := by
 obtain ⟨sA, mb, G, h⟩ := h
 have hn : ∀ k, k < W.heap.size → T k < 1000000 → ¬ M k := fun k hk ht hm => by
  have := hM k hk hm
  omega
 have hO : Asd (Mut T) W W' := hb.mono fun k hk hm => by
  have := hM k hk hm
  unfold Mut
  omega
 have hM' : ∀ P : World → Prop, Safe (Mut T) W P → Safe (Mut T) W' P := fun P hs => hs.step hO fun _ _ h => h
 refine ⟨sA, mb, G, hb.row (hn _ h.lt (by rw [h.tcb]; omega)) h.row, hb.there (hn _ h.lt (by rw [h.tcb]; omega)) h.lt h.thr, h.tcb, h.all.off hb fun g hg => hn g (OwnC.lt h.all g hg).2 (by rw [h.tall g hg]; omega), h.tall,
  h.map.of_block (hb.block _ h.map.lt (hn _ h.map.lt (by rw [h.tmap]; omega))), h.tmap, fun k hk ht => ?_, Nat.le_trans h.hB hb.size, h.glen, h.ulen, fun i x b hx hbk => ?_⟩
 ·rcases Nat.lt_or_ge k W.heap.size with hlt | hge
  ·exact h.tB k hlt ht
  ·exact absurd (hT k hge) ht
 ·have hk := h.blk i x b hx hbk
  have hi : i < C.length := (List.getElem?_eq_some_iff.1 hbk).1
  have n1 := hn _ hk.lt (by rw [hk.tb]; omega)
  exact ⟨hb.row n1 hk.row, hb.there n1 hk.lt hk.thr, hk.ob.imp fun _ h => h.imp fun _ h => (hb.block _ hk.lt n1).trans h, hk.tb, hM' _ hk.hdr, hM' _ hk.up, hk.ch.off hb fun g hg => hn g (OwnC.lt hk.ch g hg).2 (by rw [hk.tc g hg]; omega), hk.tc⟩
end
/-- both: the document's box has a great tag, its rows have none -/
structure Both (w0 : World) (B : Nat) (T : Nat → Nat) (W : World) (cb cr : Nat) (C D : List Blk) : Prop where
 real : ChR B T W cb C
 tag : T cr = 2000000
 doc : ∃ rb cap G, RefC w0 W cr rb cap G D ∧ T rb = 0
 le : w0.heap.size ≤ B
section
variable {w0 W W' : World} {B : Nat} {T : Nat → Nat} {cb cr : Nat} {C D : List Blk}
theorem Both.keep (h : Both w0 B T W cb cr C D) (hb : Below W.heap.size W W') : Both w0 B T W' cb cr C D := by
 obtain ⟨rb, cap, G, hR, h0⟩ := h.doc
 exact ⟨h.real.keep hb, h.tag, ⟨rb, cap, G, hR.keep hb, h0⟩, h.le⟩
/-- a block more, by the chain -/
theorem Both.addReal (h : Both w0 B T W cb cr C D) {C' : List Blk} {T' : Nat → Nat} (hC : ChR B T' W' cb C') (hT : ∀ k, k < W.heap.size → T' k = T k) (hA : Asd (MutS T) W W') : Both w0 B T' W' cb cr C' D := by
 obtain ⟨rb, cap, G, hR, h0⟩ := h.doc
 refine ⟨hC, (hT _ hR.cbW).trans h.tag, ⟨rb, cap, G, hR.off hA (fun k hk => ?_) (fun hk => ?_) (fun hk => ?_), (hT _ hR.lt).trans h0⟩, h.le⟩
 ·rcases Nat.lt_or_ge k W.heap.size with hlt | hge
  ·exact Nat.le_trans h.le (h.real.tB k hlt hk.1)
  ·exact Nat.le_trans hR.bel.size hge
 ·have := hk.2
  rw [h.tag] at this
  omega
 ·exact hk.1 h0
/-- a block more, by the document (rb: where its rows lay) -/
theorem Both.addDoc (h : Both w0 B T W cb cr C D) (hl : C.length ≤ 100000) {D' : List Blk} {rb : Nat} (hrb : T rb = 0) (hD : ∃ rb' cap G, (rb' = rb ∨ W.heap.size ≤ rb') ∧ RefC w0 W' cr rb' cap G D') (hA : Asd (fun k => k = cr) W W') : ∃ T', Both w0 B T' W' cb cr C D' ∧ ∀ k, k < W.heap.size → T' k = T k := by
 obtain ⟨_, _, _, hR, -⟩ := h.doc
 obtain ⟨rb', cap', G', hn, hR'⟩ := hD
 have hT : ∀ k, k < W.heap.size → (if k < W.heap.size then T k else 0) = T k := fun k hk => if_pos hk
 refine ⟨fun k => if k < W.heap.size then T k else 0, ⟨(h.real.retag (T' := fun k => if k < W.heap.size then T k else 0) hT).offBig hl hA (fun k hk e => ?_) (fun k hk => if_neg (by omega)), ?_, ⟨rb', cap', G', hR', ?_⟩, h.le⟩, hT⟩
 ·have e' : k = cr := e
  show 1000000 ≤ (if k < W.heap.size then T k else 0)
  rw [if_pos hk, e', h.tag]
  omega
 ·show (if cr < W.heap.size then T cr else 0) = 2000000
  rw [if_pos hR.cbW]
  exact h.tag
 ·show (if rb' < W.heap.size then T rb' else 0) = 0
  rcases hn with q | q
  ·rw [q, hrb]
   simp
  ·rw [if_neg (by omega)]
/-- a header more, by the document: a contract -/
theorem Both.docAdd (h : Both w0 B T W cb cr C D) (hl : C.length ≤ 100000) (hok : ChnOk D) {g : GHeader} {hd : Hdr} (hr : HdrR w0 g hd) (hops : hd.ops.length ≤ 1000000) :
  Calls Try.prog 102 #[ptrV cr, .agg (headerA g)] W fun r w' => r = .returned (.tuple #[.agg (pointA (chCheck D hd).1), .int .i64 (chCheck D hd).2]) ∧ (∃ T', Both w0 B T' w' cb cr C (chAdd D hd) ∧ ∀ k, k < W.heap.size → T' k = T k) ∧ Asd (fun k => k = cr) W w' := by
 obtain ⟨rb, cap, G, hR, h0⟩ := h.doc
 refine (radd_c hR hok hr hops).mono ?_
 rintro r w' ⟨e, hD, hA⟩
 exact ⟨e, h.addDoc hl h0 hD hA, hA⟩
/-- a header more, by the chain: a contract -/
theorem Both.realAdd (h : Both w0 B T W cb cr C D) (hok : ChnOk C) {g : GHeader} {hd : Hdr} (hr : HdrR W g hd) (hf : HdrFits hd) :
  Calls Try.prog 35 #[ptrV cb, .agg (headerA g)] W fun r w' => r = .returned (.tuple #[.agg (pointA (chCheck C hd).1), .int .i64 (chCheck C hd).2]) ∧ (∃ T', Both w0 B T' w' cb cr (chAdd C hd) D ∧ ∀ k, k < W.heap.size → T' k = T k) ∧ Asd (MutS T) W w' := by
 refine (chadd_c h.real hok hr hf).mono ?_
 rintro r w' ⟨e, ⟨T', hC, hT⟩, hA⟩
 exact ⟨e, ⟨T', h.addReal hC hT hA, hT⟩, hA⟩
end
end Go.Proofs.Ythdjhbiigmcecaa

/- Acts, plainly: what chain they make. -/
namespace Go.Proofs.Ythdjhbiigmcecaa
open Go.RowKit

/-- the place that a number names, of n places -/
def pickI (x : Int) (n : Nat) : Int := (x.tmod n + n).tmod n
theorem pickI_lt (x : Int) {n : Nat} (hn : 0 < n) : 0 ≤ pickI x n ∧ pickI x n < n := by
 have hp : (0 : Int) < n := by omega
 have h1 : -(n : Int) < x.tmod n := by
  have := Int.lt_tmod_of_pos x hp
  omega
 have h2 : x.tmod n < n := Int.tmod_lt_of_pos x hp
 unfold pickI
 have h3 : 0 ≤ x.tmod n + n := by omega
 exact ⟨Int.tmod_nonneg _ h3, Int.tmod_lt_of_pos _ hp⟩
def pickN (x : Int) (n : Nat) : Nat := (pickI x n).toNat
theorem pickN_lt (x : Int) {n : Nat} (hn : 0 < n) : pickN x n < n := by
 have := pickI_lt x hn
 unfold pickN
 omega
/-- the header that an act adds -/
def actH (C : List Blk) (a : Act) : Hdr := if a.under then { a.h with parent := ((C[pickN a.n C.length]?).map (·.p.name)).getD zeroHash } else a.h
theorem actH_ops (C : List Blk) (a : Act) : (actH C a).ops = a.h.ops := by
 unfold actH
 split <;> rfl
def doA (C : List Blk) : List Act → List Blk
 | [] => C
 | a :: l => doA (chAdd C (actH C a)) l
theorem doA_snoc (C : List Blk) (l : List Act) (a : Act) : doA C (l ++ [a]) = chAdd (doA C l) (actH (doA C l) a) := by
 induction l generalizing C with
 | nil => rfl
 | cons b l ih => exact ih _
theorem doA_ok {C : List Blk} (h : ChnOk C) (l : List Act) : ChnOk (doA C l) := by
 induction l generalizing C with
 | nil => exact h
 | cons b l ih => exact ih (chAdd_ok h _)
theorem doA_take (C : List Blk) (l : List Act) (k : Nat) (hk : k < l.length) : doA C (l.take (k + 1)) = chAdd (doA C (l.take k)) (actH (doA C (l.take k)) l[k]) := by
 rw [List.take_succ_eq_append_getElem hk, doA_snoc]
theorem chAdd_len (C : List Blk) (h : Hdr) : (chAdd C h).length ≤ C.length + 1 := by
 unfold chAdd
 split <;> simp
theorem doA_len (C : List Blk) (l : List Act) : (doA C l).length ≤ C.length + l.length := by
 induction l generalizing C with
 | nil => simp [doA]
 | cons b l ih =>
  have h1 := ih (chAdd C (actH C b))
  have h2 := chAdd_len C (actH C b)
  simp only [doA, List.length_cons]
  omega
end Go.Proofs.Ythdjhbiigmcecaa

/- landmarklaw10.do: what it calls, over both chains. -/
namespace Go.Proofs.Ythdjhbiigmcecaa
open Go.RowKit

theorem ChR.len_c {B : Nat} {T : Nat → Nat} {W : World} {cb : Nat} {C : List Blk} (h : ChR B T W cb C) (hok : ChnOk C) :
  Calls Try.prog 36 #[ptrV cb] W fun e w' => e = .returned (.int .i64 ((C.length : Int) - 1)) ∧ Below W.heap.size W w' := by
 obtain ⟨sA, mb, G, hM⟩ := h
 obtain ⟨ab, -, -, hv⟩ := hM.view hok.pos
 exact chlen_c hv hok.pos hok.len
theorem ChR.check_c {B : Nat} {T : Nat → Nat} {W : World} {cb : Nat} {C : List Blk} (h : ChR B T W cb C) (hok : ChnOk C) {g : GHeader} {hd : Hdr} (hr : HdrR W g hd) (hl : HdrFits hd) :
  Calls Try.prog 60 #[ptrV cb, .agg (headerA g)] W fun r w' => r = .returned (.tuple #[.agg (pointA (chCheck C hd).1), .int .i64 (chCheck C hd).2]) ∧ Below W.heap.size W w' := by
 obtain ⟨sA, mb, G, hM⟩ := h
 obtain ⟨ab, -, -, hv⟩ := hM.view hok.pos
 exact chcheck_c hv hok hr hl
section
variable {w0 W : World} {B : Nat} {T : Nat → Nat} {cb cr : Nat} {C D : List Blk}
theorem Both.docCheck (h : Both w0 B T W cb cr C D) (hok : ChnOk D) {g : GHeader} {hd : Hdr} (hr : HdrR W g hd) (hops : hd.ops.length ≤ 1000000) :
  Calls Try.prog 101 #[ptrV cr, .agg (headerA g)] W fun r w' => r = .returned (.tuple #[.agg (pointA (chCheck D hd).1), .int .i64 (chCheck D hd).2]) ∧ Below W.heap.size W w' := by
 obtain ⟨rb, cap, G, hR, -⟩ := h.doc
 exact rcheck_c hR hok hr hops
end
theorem splice_header_parent (o : GHeader) (n : Hash) : splice (headerA o) 0 (hashA n) = headerA { o with parent := n } := by
 have h := splice_mid #[] (hashA o.parent) (hashA n) #[.int .u64 (o.epoch.toNat : Int), o.ops.v] 0 rfl (by simp)
 rw [Array.empty_append, Array.empty_append] at h
 exact h
/-- a place's name leads to the place -/
theorem chAt_self {C : List Blk} (hok : ChnOk C) {i : Nat} (hi : i < C.length) : chAt C C[i].p.name = some i := by
 refine chAt_hit hi (fun j b hj hb e => ?_) rfl
 have hjl : j < C.length := by omega
 have hb' : C[j] = b := by
  rw [List.getElem?_eq_getElem hjl] at hb
  injection hb
 have hnd := hok.names
 have h1 := List.pairwise_iff_getElem.1 hnd j i (by simpa using hjl) (by simpa using hi) hj
 simp only [List.getElem_map] at h1
 exact h1 (by rw [hb', e])
end Go.Proofs.Ythdjhbiigmcecaa

/- A chain, asked for a name that it has not: Path, Parent, Header, Children. -/
namespace Go.Proofs.Ythdjhbiigmcecaa
open Go.RowKit

section
variable {W : World} {cb ab ac mb : Nat} {G : List GB} {C : List Blk}
theorem parent_res : Try.f55.results = #[.cell 4 24, .tmp 5] := by kernel_rfl
theorem header_res : Try.f50.results = #[.cell 4 49, .tmp 5] := by kernel_rfl
end
section
variable {B : Nat} {T : Nat → Nat} {W : World} {cb : Nat} {C : List Blk} (h : ChR B T W cb C) (hok : ChnOk C)
include h hok
theorem ChR.knows_c (p : Pt) : Calls Try.prog 57 #[ptrV cb, .agg (pointA p)] W fun e w' => e = .returned (.bool (chKnows C p)) ∧ Below W.heap.size W w' := by
 obtain ⟨sA, mb, G, hM⟩ := h
 obtain ⟨ab, -, -, hv⟩ := hM.view hok.pos
 exact chknows_c hv hok.pos p
end
end Go.Proofs.Ythdjhbiigmcecaa

/- (*Chain).Path: the checkpoints from the anchor on. -/
namespace Go.Proofs.Ythdjhbiigmcecaa
open Go.RowKit

abbrev PtsR (w : World) (s : Sl) (l : List Pt) : Prop := SlR 33 (fun cs p => cs = pointA p) w s l
theorem PtsR.keep' {w w' : World} {s : Sl} {l : List Pt} (h : PtsR w s l) (hb : Below w.heap.size w w') : PtsR w' s l := SlR.keep h hb fun _ _ h => h
abbrev OwnPt (w : World) (E : Nat) (v : Value) (l : List Pt) : Prop := OwnC w E 33 v l.length (flatC pointA l)
theorem ptA_size (p : Pt) : (pointA p).size = 33 := by simp
theorem ptA_one (x : Pt) : ∀ u ∈ (pointA x).toList, u.oneCell' = true := by
 have h := onePoint x
 intro u hu
 rw [Array.all_eq_true_iff_forall_mem] at h
 exact h u (Array.mem_toList_iff.1 hu)
theorem info_ptl : (Try.prog.info? 26).map (fun i => (i.zero, i.size, i.bytes)) = some (some (.agg (pointA zeroPt)), 33, 40) := by kernel_rfl
def bsPt (parts : Array (Nat × Value)) : Sem Value := Instr.buildSlice 89 1 parts
theorem fold_bsPt (parts : Array (Nat × Value)) : Instr.buildSlice 89 1 parts = bsPt parts := rfl
theorem bsPt_one (p : Pt) (w : World) : (bsPt #[(0, .agg (pointA p))]).run Try.prog w = .ok (.slice (some ⟨w.heap.size, 0, none⟩) 1 1) (w.alloc (.cells (pointA p) 26)) := by
 obtain ⟨i0, hi, hy0, hy1, hy2⟩ := info_parts info_ptl
 exact run_buildSlice_one (P := Try.prog) w (t := 89) (e := 26) (xs := pointA p) Try.underlying89 hi hy0 hy1 (by simp [Value.cells]) (by omega) (by omega) (by simp)
def appPt (args : Array Value) : Sem Value := Builtin.append_ #[89, 89] 89 args
theorem fold_appPt (args : Array Value) : Builtin.append_ #[89, 89] 89 args = appPt args := rfl
/-- one more, made on the spot -/
theorem run_appPt {W : World} {B : Nat} {s : Sl} {l : List Pt} (h : OwnPt W B s.v l) (hB : B ≤ W.heap.size) (hl : l.length ≤ 1000000) (x : Pt) : ∃ (s' : Sl) (W' : World), (appPt #[s.v, .slice (some ⟨W.heap.size, 0, none⟩) 1 1]).run Try.prog (W.alloc (.cells (pointA x) 26)) = .ok s'.v W' ∧ OwnPt W' B s'.v (l ++ [x]) ∧
  Below B W W' := by
 obtain ⟨i0, hi, hy0, hy1, hy2⟩ := info_parts info_ptl
 obtain ⟨s', W', h1, h2, h3, -⟩ := run_append_one pointA ptA_size (P := Try.prog) (W.alloc (.cells (pointA x) 26)) 89 ptA_one B 26 i0 _ 40 Try.underlying89 hi hy0 hy1 hy2 (by simp [Value.cells]) s.v l (h.keep (bel_a _ _)) W.heap.size 1 x (heap_alloc_new W _) hl (by omega) (by simp; omega)
 exact ⟨s', W', h1, h2, bel_grown h3 ((bel_a W _).mono hB) (by simp; omega) fun k hk => (OwnC.lt h k hk).1⟩
theorem OwnPt.one (W : World) {B : Nat} (hB : B ≤ W.heap.size) (x : Pt) : OwnPt (W.alloc (.cells (pointA x) 26)) B (⟨some ⟨W.heap.size, 0, none⟩, 1, 1⟩ : Sl).v [x] := by
 refine ⟨by simp [flatC], .inr ⟨W.heap.size, 1, rfl, hB, by simp, Nat.le_refl _, by simp [maxLen], fun k hk => ?_, fun k _ => frozen_of_row _ _ _ _ _ (heap_alloc_new W _), fun k u hu => ?_⟩⟩
 ·have hk' : k < (pointA x).size := by simp; omega
  rw [cell_of_row _ _ _ _ _ _ (heap_alloc_new W _), Array.getElem?_eq_getElem hk']
  rfl
 ·rw [cell_of_row _ _ _ _ _ _ (heap_alloc_new W _)]
  rw [flatC_one] at hu
  simpa using hu
/-! slices.Reverse -/
def encPt (p : Pt) : List Value := (pointA p).toList
instance : Inhabited Pt := ⟨zeroPt⟩
theorem encPt_length (p : Pt) : (encPt p).length = 33 := by simp [encPt]
theorem flatPt_get (d : List Pt) (t : Nat) (h : t < d.length * 33) : (Go.Sort.flatK encPt 33 d.toArray)[t]? = (flatC pointA d)[t]? := by
 have h1 : t / 33 < d.length := by omega
 have h2 := flatC_get pointA ptA_size d (t / 33) (t % 33) h1 (by omega)
 rw [show t / 33 * 33 + t % 33 = t by omega] at h2
 rw [h2]
 have hs : t < (Go.Sort.flatK encPt 33 d.toArray).size := by simpa using h
 have h3 := Go.Sort.get_flatK encPt 33 d.toArray t (by simpa using h)
 have h5 : t % 33 < (pointA d[t / 33]).size := by simp; omega
 rw [Array.getElem!_eq_getD, Array.getD_eq_getD_getElem?, Array.getElem?_eq_getElem hs, Option.getD_some] at h3
 rw [Array.getElem?_eq_getElem hs, h3, Array.getElem?_eq_getElem h5]
 simp [encPt, h1]
 rw [Array.getElem?_eq_getElem h5, Option.getD_some]
theorem holds_pts {w : World} {B g n c : Nat} {d : List Pt} (h : OwnC w B 33 (.slice (some ⟨g, 0, none⟩) n c) d.length (flatC pointA d)) : Go.Sort.HoldsK encPt 33 w g 0 d.toArray := by
 rcases h.2 with ⟨e, _⟩ | ⟨g', cap, e, h1, h2, h3, h4, h5, h6, h7⟩
 ·cases e
 ·cases e
  intro t ht
  have ht' : t < d.length * 33 := by simpa using ht
  have hc : t < c * 33 := by omega
  rw [Nat.zero_add]
  refine ⟨h7 t _ ?_, h6 t hc⟩
  rw [← flatPt_get d t ht', Array.getElem!_eq_getD, Array.getD_eq_getD_getElem?, Array.getElem?_eq_getElem ht]
  rfl
theorem pts_of_holds {w : World} {g n c : Nat} {d : List Pt} (hn : n = d.length) (hc : n ≤ c) (h : Go.Sort.HoldsK encPt 33 w g 0 d.toArray) : PtsR w ⟨some ⟨g, 0, none⟩, n, c⟩ d := by
 refine ⟨hn, hc, fun _ => ⟨g, 0, rfl, fun i hi => ⟨_, row?_of_cells (by simp) (by decide) fun j hj => ?_, rfl⟩⟩⟩
 simp at hj
 have := (h.cell (i := i) (c := j) (by simpa using hi) hj).1
 rw [show 0 + i * 33 + j = 0 + i * 33 + j from rfl] at this
 rw [this]
 have hj' : j < (pointA d[i]).size := by simp; omega
 simp [encPt, hi]
 rw [Array.getElem?_eq_getElem hj', Option.getD_some]
theorem grownBy_putK {w : World} {g n : Nat} (d : Array Pt) : w.grownBy (Go.Sort.putRowK encPt 33 (Go.Sort.ahead w n) g 0 d) (some g) := by
 unfold Go.Sort.putRowK
 refine ⟨rfl, rfl, rfl, by simp [Go.Sort.putRow, Go.Sort.mapBlock, Go.Sort.ahead], fun k hk hne => ?_⟩
 have : g ≠ k := fun e => hne (by rw [e])
 simp [Go.Sort.putRow, Go.Sort.mapBlock, Go.Sort.ahead, Array.getElem?_modify, this]
theorem reverse_c {w : World} {B g n c : Nat} {d : List Pt} (h : OwnC w B 33 (.slice (some ⟨g, 0, none⟩) n c) d.length (flatC pointA d)) (hl : d.length ≤ 100000) :
  Calls Try.prog 126 #[.slice (some ⟨g, 0, none⟩) n c] w fun e w' => e = .returned (.tuple #[]) ∧ PtsR w' ⟨some ⟨g, 0, none⟩, n, c⟩ d.reverse ∧ w.grownBy w' (some g) := by
 have hH := holds_pts h
 obtain ⟨rfl, hcap, hg⟩ : n = d.length ∧ n ≤ c ∧ g < w.heap.size := by
  rcases h.2 with ⟨e, _⟩ | ⟨g', cap, e, h1, h2, h3, _⟩
  ·cases e
  ·cases e; exact ⟨rfl, h3, h2⟩
 have hc := Try.slices_Reverse 33 Try.isAgg26 Try.sizeOf26 encPt encPt_length ptA_one g 0 c d.toArray w hH (by simp; omega)
 rw [List.size_toArray] at hc
 refine hc.mono ?_
 rintro e w' ⟨rfl, n, rfl⟩
 refine ⟨rfl, ?_, grownBy_putK _⟩
 have h2 : Go.Sort.HoldsK encPt 33 (Go.Sort.putRowK encPt 33 (Go.Sort.ahead w n) g 0 d.toArray.reverse) g 0 d.toArray.reverse := by
  exact Go.Sort.holdsK_putRowK encPt 33 _ g 0 d.toArray d.toArray.reverse (Go.Sort.holdsK_ahead encPt 33 w n g 0 _ hH) (by simp)
 rw [List.reverse_toArray] at h2 ⊢
 exact pts_of_holds (by simp) hcap h2
def ptAt (C : List Blk) (j : Nat) : Pt := ((C[j]?).map (·.p)).getD zeroPt
theorem ptAt_of {C : List Blk} {j : Nat} {b : Blk} (h : C[j]? = some b) : ptAt C j = b.p := by simp [ptAt, h]
theorem ups_pos {C : List Blk} (hok : ChnOk C) {j : Nat} (hj : j < C.length) : ((ups C).getD j [])[0]? = parAt C j := by
 have h : j < (ups C).length := by rw [ups_length]; exact hj
 have h2 : (ups C)[j]? = some ((ups C).getD j []) := by
  rw [List.getD_eq_getElem?_getD, List.getElem?_eq_getElem h]
  rfl
 exact ups_zero hok h2
theorem ups_nil {C : List Blk} (hok : ChnOk C) {j : Nat} (hj : j < C.length) : ((ups C).getD j []).length = 0 ↔ parAt C j = none := by
 have h := ups_pos hok hj
 rw [← h]
 cases (ups C).getD j [] <;> simp
theorem OwnPt.block {w : World} {B : Nat} {s : Sl} {l : List Pt} (h : OwnPt w B s.v l) (hl : l ≠ []) : ∃ g, s.a = some ⟨g, 0, none⟩ ∧ B ≤ g := by
 rcases h.2 with ⟨_, hn⟩ | ⟨g, cap, e, h1, _⟩
 ·exact absurd (List.eq_nil_of_length_eq_zero hn) hl
 ·have := congrArg (fun v => match v with | .slice a _ _ => a | _ => none) e
  exact ⟨g, this, h1⟩
attribute [local go_sem ↓] fold_bsPt fold_appPt
set_option maxRecDepth 100000 in
set_option maxHeartbeats 1600000 in
theorem chpath_some {W : World} {cb ab ac mb : Nat} {G : List GB} {C : List Blk} (h : ChV W cb ab ac mb G C) (hok : ChnOk C) {n : Hash} {i : Nat} (hi : chAt C n = some i) :
  Calls Try.prog 54 #[ptrV cb, .agg (hashA n)] W fun e w' => ∃ s : Sl, e = .returned (.tuple #[s.v, .int .i64 0]) ∧ PtsR w' s ((pth C i).reverse.map (ptAt C)) ∧ Below W.heap.size W w' := by
 have hil := chAt_lt hi
 have hclen := hok.len
 have hO := Lib.hid hok
 obtain ⟨b, hb⟩ : ∃ b, C[i]? = some b := ⟨_, List.getElem?_eq_getElem hil⟩
 have hB0 : Below W.heap.size W (W.alloc (.cells (hashA n) 24)) := bel_a _ _
 have hz0 : (W.alloc (.cells (hashA n) 24)).heap.size = W.heap.size + 1 := by simp
 have hrow0 : row? (W.alloc (.cells (hashA n) 24)) W.heap.size 0 32 = some (hashA n) := by rw [row?_new]; simp
 have h0 := h.keep hB0
 obtain ⟨x, hx⟩ := h.box hb
 have HT := chfind_some h0 hi hx
 have hI := Lib.hid h
 clear h hok
 unfold ptrV at HT ⊢
 go_enter Try.func54, Try.ntmps54
 go_upto_region 1 with fail
 generalize W.alloc (.cells (hashA n) 24) = w0 at *
 go_wp2_with fail
 refine HT.mono ?_
 clear HT
 rintro e w1 ⟨rfl, hb1⟩
 have hz1 := hb1.size
 have hB1 := hB0.trans (hb1.mono (by omega))
 have h1 := Lib.hid (h0.keep hb1)
 obtain ⟨-, -, -, rp, -, -⟩ := h1.out.cells hx hb
 have hbs := bsPt_one b.p w1
 have hone := Lib.hid (OwnPt.one w1 hB1.size b.p)
 have h2 := Lib.hid (h1.out.keep (bel_a w1 (.cells (pointA b.p) 26)))
 have hB2 := Lib.hid (hB1.trans ((bel_a w1 (.cells (pointA b.p) 26)).mono hB1.size))
 have hpb := ptAt_of hb
 have hx0 := Lib.hid hx
 clear h0 h1 hb1 hB0 hB1 hrow0
 go_wp2_with fail
 generalize w1.alloc (.cells (pointA b.p) 26) = w2 at *
 go_loopw [6, 8] (fun q u w' => ∃ (j : Nat) (y : GB) (s : Sl) (l : List Nat), q = .pointer (some ⟨y.b, 0, none⟩) ∧ u = s.v ∧ Hid (G[j]? = some y) ∧ Hid (j < C.length) ∧ Hid (pth C i = l ++ pthO C (parAt C j)) ∧ Hid (OwnPt w' W.heap.size s.v (l.map (ptAt C))) ∧ Hid (l.length + j ≤ i + 1 ∧ 0 < l.length) ∧ Hid (ChV w' cb ab ac mb G C) ∧ Hid (Below W.heap.size W w')) (fun _ u _ => 5000 - slLen u)
 case atStart =>
  refine ⟨i, x, ⟨some ⟨w1.heap.size, 0, none⟩, 1, 1⟩, [i], rfl, rfl, hx0, Lib.hid hil, Lib.hid (pth_step hO.out i), Lib.hid ?_, Lib.hid (by simp; omega), h2, hB2⟩
  simpa [hpb] using hone.out
 case round =>
  obtain ⟨j, y, s, l, rfl, rfl, hy, hjl, hp, ho, hl, hV, hB⟩ := hrel
  obtain ⟨bj, hbj⟩ : ∃ b, C[j]? = some b := ⟨_, List.getElem?_eq_getElem hjl.out⟩
  obtain ⟨-, xu, -, -, -, -⟩ := hV.out.cells hy.out hbj
  have hU := hV.out.up j y bj hy.out hbj
  have hu0 := ups_pos hO.out hjl.out
  have hun := ups_nil hO.out hjl.out
  obtain ⟨u, hu⟩ : ∃ u, u = (ups C).getD j [] := ⟨_, rfl⟩
  rw [← hu] at hU hu0 hun
  have hsn : s.n = l.length := by
   have := (rows_of_own pointA ptA_size (by omega) ho.out).1
   rw [List.length_map] at this
   exact this
  have hn := hU.1
  obtain ⟨yb, yg, ⟨ua, un, uc⟩, yc⟩ := y
  simp only at hn xu
  subst hn
  dsimp only [Sl.v] at xu
  clear hu
  cases hpar : parAt C j with
  | none =>
   have hul : u.length = 0 := hun.2 hpar
   rw [hul] at xu
   have hp2 : pth C i = l := by rw [hp.out, hpar]; simp [pthO]
   have hne : l.map (ptAt C) ≠ [] := by
    have hl2 := hl.out.2
    intro e
    have hl3 := congrArg List.length e
    rw [List.length_map, List.length_nil] at hl3
    omega
   obtain ⟨g, hsa, hgW⟩ := OwnPt.block ho.out hne
   obtain ⟨sa, sn, sc⟩ := s
   simp only at hsa hsn
   subst hsa hsn
   have HR := reverse_c (show OwnC wr W.heap.size 33 (.slice (some ⟨g, 0, none⟩) l.length sc) (l.map (ptAt C)).length (flatC pointA (l.map (ptAt C))) from ho.out) (by rw [List.length_map]; have := hl.out.1; omega)
   have hBr := Lib.hid hB
   have hpl := Lib.hid hp2
   clear hp ho hV hU hu0 hun hbj hp2 hpar hul
   dsimp only [Sl.v]
   go_wp2_with fail
   (with_reducible refine HR.mono ?_)
   clear HR
   rintro e w3 ⟨rfl, hr3, hg3⟩
   have hB3 := Lib.hid (hBr.out.grown hg3 hBr.out.size fun k hk => by cases hk; exact hgW)
   rw [← List.map_reverse] at hr3
   replace hr3 := Lib.hid hr3
   clear hg3
   go_wp2_with fail
   go_ret2
   exact ⟨⟨some ⟨g, 0, none⟩, l.length, sc⟩, rfl, by rw [hpl.out]; exact hr3.out, hB3.out⟩
  | some q =>
   have hqj := (parAt_some hO.out hpar).1
   rw [hpar] at hu0
   have hul : u.length ≠ 0 := fun e => by rw [hun.1 e] at hpar; cases hpar
   obtain ⟨bu, ou, e1, hbu, hcu⟩ := ints_at hU (by omega)
   have e2 := congrArg Sl.a e1
   simp only at e2
   subst e2
   clear e1
   have hcq := hcu 0 (by omega)
   clear hcu
   have hq0 : u[0]'(by omega) = q := by
    have := hu0
    rw [List.getElem?_eq_getElem (by omega)] at this
    injection this
   rw [hq0] at hcq
   have hql : q < C.length := by have := hjl.out; omega
   obtain ⟨bq, hbq⟩ : ∃ b, C[q]? = some b := ⟨_, List.getElem?_eq_getElem hql⟩
   obtain ⟨yq, hyq⟩ := hV.out.box hbq
   obtain ⟨-, -, -, rpq, -, -⟩ := hV.out.cells hyq hbq
   have c0 := hV.out.c0
   have ca := hV.out.arr q yq hyq
   unfold ptrV at ca
   have hpq := ptAt_of hbq
   have hstep := Lib.hid (show pth C i = (l ++ [q]) ++ pthO C (parAt C q) by
    rw [hp.out, hpar]
    simp only [pthO]
    rw [pth_step hO.out q, List.append_assoc]
    rfl)
   have hyq' := Lib.hid hyq
   have hql' := Lib.hid hql
   have hl2 := Lib.hid (show (l ++ [q]).length + q ≤ i + 1 ∧ 0 < (l ++ [q]).length by
    have := hl.out
    simp
    omega)
   have hbs := fun k => bsPt_one bq.p (wr.drewN k)
   have hap := fun k => run_appPt (W := wr.drewN k) (s := s) (l := l.map (ptAt C)) (B := W.heap.size) (OwnC.keep ho.out (below_drewN (Below.refl _ _) k)) hB.out.size (by rw [List.length_map]; have := hl.out.1; omega) bq.p
   have r0 := fun k => (show (wr.drewN k).cell? ⟨cb, 0, none⟩ = _ from c0)
   have r1 := fun k => (show (wr.drewN k).cell? ⟨ab, q, none⟩ = _ from ca)
   have r2 := fun k => (show (wr.drewN k).cell? ⟨yb, 67, none⟩ = _ from xu)
   have r3 := fun k => (show (wr.drewN k).cell? ⟨bu, ou, none⟩ = _ from hcq)
   have r4 := fun k => (show row? (wr.drewN k) yq.b 0 33 = _ from rpq)
   have u0 : (0 : Int) < (u.length : Int) := by omega
   have q0 : (0 : Int) ≤ (q : Int) := by omega
   have q1 : (q : Int) < (C.length : Int) := by omega
   have hlm := Lib.hid (show l.length ≤ 4097 by have := hl.out; omega)
   have hsn' := Lib.hid hsn
   clear hp hU hu0 hun hbj hpar hq0 hbu hyq hql hbq hsn
   go_upto_region 6 with fail
   go_quiet (fail)
   obtain ⟨s2, w5, hrun, ho2, hB5⟩ := hap nq
   have hbs1 := hbs nq
   have r41 := r4 nq
   have hB6 := Lib.hid (show Below W.heap.size W w5 from (below_drewN hB.out nq).trans hB5)
   have hV5 := Lib.hid (hI.out.keep hB6.out)
   have hs2n := Lib.hid (show s2.n = l.length + 1 by
    have := (rows_of_own pointA ptA_size (by omega) ho2).1
    simpa using this)
   clear hap hbs r0 r1 r2 r3 r4
   generalize wr.drewN nq = w4 at *
   go_wp2_with fail
   go_roundw
   case rel => exact ⟨q, yq, s2, l ++ [q], rfl, rfl, hyq', hql', hstep, Lib.hid (by rw [List.map_append]; simpa [hpq] using ho2), hl2, hV5, hB6⟩
   case measure =>
    have h1 := hsn'.out
    have h2 := hlm.out
    have h3 := hs2n.out
    simp only [slLen, Sl.v]
    omega
end Go.Proofs.Ythdjhbiigmcecaa

/- SHA-256 in lanes: names of headers without operations, many at once, by great numbers that the kernel reckons with. -/
namespace Go.Proofs.Ythdjhbiigmcecaa

/-- n lanes of 64 bits -/
def lan : Nat → (Nat → Nat) → Nat
 | 0, _ => 0
 | n + 1, f => f 0 + 2 ^ 64 * lan n fun i => f (i + 1)
theorem lan_congr {n : Nat} {f g : Nat → Nat} (h : ∀ i, i < n → f i = g i) : lan n f = lan n g := by
 induction n generalizing f g with
 | zero => rfl
 | succ n ih =>
  unfold lan
  rw [h 0 (by omega), ih fun i hi => h (i + 1) (by omega)]
theorem lan_add (n : Nat) (f g : Nat → Nat) : Nat.add (lan n f) (lan n g) = lan n fun i => f i + g i := by
 show lan n f + lan n g = _
 induction n generalizing f g with
 | zero => rfl
 | succ n ih =>
  unfold lan
  rw [← ih]
  dsimp only
  omega
theorem lan_mul (n c : Nat) (f : Nat → Nat) : Nat.mul (lan n f) c = lan n fun i => f i * c := by
 show lan n f * c = _
 induction n generalizing f with
 | zero => simp [lan]
 | succ n ih =>
  unfold lan
  rw [← ih, Nat.add_mul, Nat.mul_assoc]
theorem two_bit (op : Nat → Nat → Nat) (b : Bool → Bool → Bool) (hb : ∀ x y i, (op x y).testBit i = b (x.testBit i) (y.testBit i)) (hlt : ∀ x y n, x < 2 ^ n → y < 2 ^ n → op x y < 2 ^ n) {a c : Nat} (ha : a < 2 ^ 64) (hc : c < 2 ^ 64) (A C : Nat) :
  op (a + 2 ^ 64 * A) (c + 2 ^ 64 * C) = op a c + 2 ^ 64 * op A C := by
 apply Nat.eq_of_testBit_eq
 intro i
 rw [hb, Nat.add_comm a, Nat.add_comm c, Nat.add_comm (op a c), Nat.testBit_two_pow_mul_add _ ha, Nat.testBit_two_pow_mul_add _ hc, Nat.testBit_two_pow_mul_add _ (hlt _ _ _ ha hc)]
 split
 ·rw [hb]
 ·rw [hb]
theorem lan_bit (op : Nat → Nat → Nat) (b : Bool → Bool → Bool) (hb : ∀ x y i, (op x y).testBit i = b (x.testBit i) (y.testBit i)) (hlt : ∀ x y n, x < 2 ^ n → y < 2 ^ n → op x y < 2 ^ n) (h0 : op 0 0 = 0) {n : Nat} {f g : Nat → Nat} (hf : ∀ i, i < n → f i < 2 ^ 64) (hg : ∀ i, i < n → g i < 2 ^ 64) :
  op (lan n f) (lan n g) = lan n fun i => op (f i) (g i) := by
 induction n generalizing f g with
 | zero => exact h0
 | succ n ih =>
  unfold lan
  rw [two_bit op b hb hlt (hf 0 (by omega)) (hg 0 (by omega)), ih (fun i hi => hf _ (by omega)) (fun i hi => hg _ (by omega))]
theorem lan_and {n : Nat} {f g : Nat → Nat} (hf : ∀ i, i < n → f i < 2 ^ 64) (hg : ∀ i, i < n → g i < 2 ^ 64) : Nat.land (lan n f) (lan n g) = lan n fun i => Nat.land (f i) (g i) :=
 lan_bit Nat.land and (fun x y i => Nat.testBit_and x y i) (fun x y n hx _ => Nat.and_lt_two_pow _ (by assumption)) rfl hf hg
theorem lan_xor {n : Nat} {f g : Nat → Nat} (hf : ∀ i, i < n → f i < 2 ^ 64) (hg : ∀ i, i < n → g i < 2 ^ 64) : Nat.xor (lan n f) (lan n g) = lan n fun i => Nat.xor (f i) (g i) :=
 lan_bit Nat.xor xor (fun x y i => Nat.testBit_xor x y i) (fun x y n hx hy => Nat.xor_lt_two_pow hx hy) rfl hf hg
/-- shifted, and cut to 32 bits -/
theorem two_shift {a m k : Nat} (ha : a < 2 ^ 64) (hm : m < 2 ^ 32) (hk : k ≤ 32) (A M : Nat) :
  Nat.land (Nat.shiftRight (a + 2 ^ 64 * A) k) (m + 2 ^ 64 * M) = Nat.land (Nat.shiftRight a k) m + 2 ^ 64 * Nat.land (Nat.shiftRight A k) M := by
 apply Nat.eq_of_testBit_eq
 intro i
 have hm64 : m < 2 ^ 64 := Nat.lt_trans hm (by decide)
 have hl : Nat.land (Nat.shiftRight a k) m < 2 ^ 64 := Nat.and_lt_two_pow _ hm64
 show ((a + 2 ^ 64 * A) >>> k &&& (m + 2 ^ 64 * M)).testBit i = _
 rw [Nat.testBit_and, Nat.testBit_shiftRight, Nat.add_comm a, Nat.add_comm m, Nat.add_comm (Nat.land _ _), Nat.testBit_two_pow_mul_add _ ha, Nat.testBit_two_pow_mul_add _ hm64, Nat.testBit_two_pow_mul_add _ hl]
 by_cases hi : i < 64
 ·rw [if_pos hi, if_pos hi]
  show _ = (a >>> k &&& m).testBit i
  rw [Nat.testBit_and, Nat.testBit_shiftRight]
  by_cases h2 : i < 32
  ·rw [if_pos (by omega)]
  ·have : m.testBit i = false := Nat.testBit_lt_two_pow (Nat.lt_of_lt_of_le hm (Nat.pow_le_pow_right (by decide) (by omega)))
   rw [this, Bool.and_false, Bool.and_false]
 ·rw [if_neg hi, if_neg hi, if_neg (by omega)]
  show _ = (A >>> k &&& M).testBit (i - 64)
  rw [Nat.testBit_and, Nat.testBit_shiftRight, show k + i - 64 = k + (i - 64) by omega]
theorem lan_shift {n k : Nat} {f g : Nat → Nat} (hf : ∀ i, i < n → f i < 2 ^ 64) (hg : ∀ i, i < n → g i < 2 ^ 32) (hk : k ≤ 32) : Nat.land (Nat.shiftRight (lan n f) k) (lan n g) = lan n fun i => Nat.land (Nat.shiftRight (f i) k) (g i) := by
 induction n generalizing f g with
 | zero => simp [lan]
 | succ n ih =>
  unfold lan
  rw [two_shift (hf 0 (by omega)) (hg 0 (by omega)) hk, ih (fun i hi => hf _ (by omega)) (fun i hi => hg _ (by omega))]
/-! what the kernel reckons -/
/-- a number, reckoned now -/
@[reducible] def sq {α : Type} (x : Nat) (k : Nat → α) : α := bif Nat.beq x 0 then k 0 else k x
theorem sq_eq {α : Type} (x : Nat) (k : Nat → α) : sq x k = k x := by
 unfold sq
 cases h : Nat.beq x 0 with
 | true => rw [Nat.eq_of_beq_eq_true h]; rfl
 | false => rfl
def rotF (M D k : Nat) : Nat := Nat.land (Nat.shiftRight D k) M
def twiceF (x : Nat) : Nat := Nat.mul x 4294967297
def big1F (M D : Nat) : Nat := Nat.xor (Nat.xor (rotF M D 6) (rotF M D 11)) (rotF M D 25)
def big0F (M D : Nat) : Nat := Nat.xor (Nat.xor (rotF M D 2) (rotF M D 13)) (rotF M D 22)
def sm0F (M D x : Nat) : Nat := Nat.xor (Nat.xor (rotF M D 7) (rotF M D 18)) (rotF M x 3)
def sm1F (M D x : Nat) : Nat := Nat.xor (Nat.xor (rotF M D 17) (rotF M D 19)) (rotF M x 10)
def chF (M e f g : Nat) : Nat := Nat.xor (Nat.land e f) (Nat.land g (Nat.xor e M))
def majF (a b c : Nat) : Nat := Nat.xor (Nat.xor (Nat.land a b) (Nat.land a c)) (Nat.land b c)
def t1F (M kk w e f g h : Nat) : Nat := Nat.add (Nat.add (Nat.add (Nat.add h (big1F M (twiceF e))) (chF M e f g)) kk) w
def t2F (M a b c : Nat) : Nat := Nat.add (big0F M (twiceF a)) (majF a b c)
structure N8 where
 a : Nat
 b : Nat
 c : Nat
 d : Nat
 e : Nat
 f : Nat
 g : Nat
 h : Nat
def rndsF (U M : Nat) : List Nat → List Nat → Nat → Nat → Nat → Nat → Nat → Nat → Nat → Nat → N8
 | k :: ks, w :: ws, a, b, c, d, e, f, g, h =>
  sq (t1F M (Nat.mul U k) w e f g h) fun t1 => sq (Nat.land (Nat.add t1 (t2F M a b c)) M) fun na => sq (Nat.land (Nat.add d t1) M) fun ne => rndsF U M ks ws na a b c ne e f g
 | _, _, a, b, c, d, e, f, g, h => ⟨a, b, c, d, e, f, g, h⟩
def nextF (M : Nat) : List Nat → Nat
 | _ :: x1 :: _ :: _ :: _ :: _ :: x6 :: _ :: _ :: _ :: _ :: _ :: _ :: _ :: x14 :: x15 :: _ => Nat.land (Nat.add (Nat.add (Nat.add (sm1F M (twiceF x1) x1) x6) (sm0F M (twiceF x14) x14)) x15) M
 | _ => 0
def schF (M : Nat) : Nat → List Nat → List Nat
 | 0, l => l
 | n + 1, l => sq (nextF M l) fun w => schF M n (w :: l)
/-- one block: words from the last on -/
def blkF (U M : Nat) (ks hs ws : List Nat) : N8 :=
 match hs with
 | [h0, h1, h2, h3, h4, h5, h6, h7] =>
  match rndsF U M ks (schF M 48 ws).reverse (Nat.mul U h0) (Nat.mul U h1) (Nat.mul U h2) (Nat.mul U h3) (Nat.mul U h4) (Nat.mul U h5) (Nat.mul U h6) (Nat.mul U h7) with
  | ⟨a, b, c, d, e, f, g, h⟩ => ⟨Nat.land (Nat.add (Nat.mul U h0) a) M, Nat.land (Nat.add (Nat.mul U h1) b) M, Nat.land (Nat.add (Nat.mul U h2) c) M, Nat.land (Nat.add (Nat.mul U h3) d) M, Nat.land (Nat.add (Nat.mul U h4) e) M, Nat.land (Nat.add (Nat.mul U h5) f) M, Nat.land (Nat.add (Nat.mul U h6) g) M, Nat.land (Nat.add (Nat.mul U h7) h) M⟩
 | _ => ⟨0, 0, 0, 0, 0, 0, 0, 0⟩
def ksF : List Nat := [
 0x428a2f98, 0x71374491, 0xb5c0fbcf, 0xe9b5dba5, 0x3956c25b, 0x59f111f1, 0x923f82a4, 0xab1c5ed5,
 0xd807aa98, 0x12835b01, 0x243185be, 0x550c7dc3, 0x72be5d74, 0x80deb1fe, 0x9bdc06a7, 0xc19bf174,
 0xe49b69c1, 0xefbe4786, 0x0fc19dc6, 0x240ca1cc, 0x2de92c6f, 0x4a7484aa, 0x5cb0a9dc, 0x76f988da,
 0x983e5152, 0xa831c66d, 0xb00327c8, 0xbf597fc7, 0xc6e00bf3, 0xd5a79147, 0x06ca6351, 0x14292967,
 0x27b70a85, 0x2e1b2138, 0x4d2c6dfc, 0x53380d13, 0x650a7354, 0x766a0abb, 0x81c2c92e, 0x92722c85,
 0xa2bfe8a1, 0xa81a664b, 0xc24b8b70, 0xc76c51a3, 0xd192e819, 0xd6990624, 0xf40e3585, 0x106aa070,
 0x19a4c116, 0x1e376c08, 0x2748774c, 0x34b0bcb5, 0x391c0cb3, 0x4ed8aa4a, 0x5b9cca4f, 0x682e6ff3,
 0x748f82ee, 0x78a5636f, 0x84c87814, 0x8cc70208, 0x90befffa, 0xa4506ceb, 0xbef9a3f7, 0xc67178f2]
def hsF : List Nat := [0x6a09e667, 0xbb67ae85, 0x3c6ef372, 0xa54ff53a, 0x510e527f, 0x9b05688c, 0x1f83d9ab, 0x5be0cd19]
/-- the words of a header without operations: of its parent and its epoch (below 65536) -/
def hdwF (U : Nat) (p : N8) (e : Nat) : List Nat :=
 match p with
 | ⟨a, b, c, d, x, f, g, h⟩ =>
  let lo := Nat.mul U 65535
  let j := fun u v => Nat.add (Nat.mul (Nat.land u lo) 65536) (Nat.land (Nat.shiftRight v 16) lo)
  [Nat.mul U 376, 0, 0, 0, Nat.add (Nat.mul e 65536) (Nat.mul U 128), 0, Nat.mul (Nat.land h lo) 65536, j g h, j f g, j x f, j d x, j c d, j b c, j a b, Nat.add (Nat.mul U 0x65720000) (Nat.land (Nat.shiftRight a 16) lo), Nat.mul U 0x68656164]
theorem u32_lt64 (x : UInt32) : x.toNat < 2 ^ 64 := Nat.lt_trans x.toNat_lt (by decide)
/-- n words in lanes -/
def wl (n : Nat) (x : Nat → UInt32) : Nat := lan n fun i => (x i).toNat
theorem wl_congr {n : Nat} {x y : Nat → UInt32} (h : ∀ i, i < n → x i = y i) : wl n x = wl n y := lan_congr fun i hi => by rw [h i hi]
def mkM (n : Nat) : Nat := wl n fun _ => 4294967295
def mkU (n : Nat) : Nat := wl n fun _ => 1
theorem wl_const (n : Nat) (k : UInt32) : Nat.mul (mkU n) k.toNat = wl n fun _ => k := by
 unfold mkU wl
 rw [lan_mul]
 exact lan_congr fun i _ => by simp
theorem wl_mask (n : Nat) (f : Nat → Nat) (hf : ∀ i, i < n → f i < 2 ^ 64) : Nat.land (lan n f) (mkM n) = wl n fun i => UInt32.ofNat (f i) := by
 unfold mkM wl
 rw [lan_and hf (fun _ _ => by show (4294967295 : UInt32).toNat < 2 ^ 64; decide)]
 refine lan_congr fun i _ => ?_
 show f i &&& (4294967295 : UInt32).toNat = _
 rw [show (4294967295 : UInt32).toNat = 2 ^ 32 - 1 from rfl, Nat.and_two_pow_sub_one_eq_mod, UInt32.toNat_ofNat']
theorem wl_xor (n : Nat) (x y : Nat → UInt32) : Nat.xor (wl n x) (wl n y) = wl n fun i => x i ^^^ y i := by
 unfold wl
 rw [lan_xor (fun _ _ => u32_lt64 _) (fun _ _ => u32_lt64 _)]
 exact lan_congr fun i _ => (UInt32.toNat_xor _ _).symm
theorem wl_and (n : Nat) (x y : Nat → UInt32) : Nat.land (wl n x) (wl n y) = wl n fun i => x i &&& y i := by
 unfold wl
 rw [lan_and (fun _ _ => u32_lt64 _) (fun _ _ => u32_lt64 _)]
 exact lan_congr fun i _ => (UInt32.toNat_and _ _).symm
theorem wl_shift (n k : Nat) (x : Nat → UInt32) (hk : k < 32) : rotF (mkM n) (wl n x) k = wl n fun i => x i >>> UInt32.ofNat k := by
 unfold rotF mkM wl
 rw [lan_shift (fun _ _ => u32_lt64 _) (fun _ _ => by show (4294967295 : UInt32).toNat < 2 ^ 32; decide) (by omega)]
 refine lan_congr fun i _ => ?_
 show (x i).toNat >>> k &&& (4294967295 : UInt32).toNat = _
 rw [show (4294967295 : UInt32).toNat = 2 ^ 32 - 1 from rfl, Nat.and_two_pow_sub_one_eq_mod, UInt32.toNat_shiftRight, UInt32.toNat_ofNat', Nat.mod_eq_of_lt (show k < 2 ^ 32 by omega), Nat.mod_eq_of_lt hk]
 refine Nat.mod_eq_of_lt (Nat.lt_of_le_of_lt (Nat.shiftRight_le _ _) (x i).toNat_lt)
theorem rot_nat {x k : Nat} (hx : x < 2 ^ 32) (hk : k < 32) : (x * 4294967297) >>> k &&& 4294967295 = x >>> k ||| x <<< (32 - k) % 2 ^ 32 := by
 apply Nat.eq_of_testBit_eq
 intro i
 rw [show (4294967295 : Nat) = 2 ^ 32 - 1 from rfl, Nat.and_two_pow_sub_one_eq_mod, Nat.testBit_mod_two_pow, Nat.testBit_shiftRight, Nat.testBit_or, Nat.testBit_mod_two_pow, Nat.testBit_shiftRight, Nat.testBit_shiftLeft, show x * 4294967297 = 2 ^ 32 * x + x by omega, Nat.testBit_two_pow_mul_add _ hx]
 by_cases hi : i < 32
 ·by_cases h2 : k + i < 32
  ·simp [hi, h2, show ¬ (32 - k ≤ i) by omega]
  ·have : x.testBit (k + i) = false := Nat.testBit_lt_two_pow (Nat.lt_of_lt_of_le hx (Nat.pow_le_pow_right (by decide) (by omega)))
   simp [hi, h2, this, show 32 - k ≤ i by omega, show k + i - 32 = i - (32 - k) by omega]
 ·have : x.testBit (k + i) = false := Nat.testBit_lt_two_pow (Nat.lt_of_lt_of_le hx (Nat.pow_le_pow_right (by decide) (by omega)))
  simp [hi, this]
theorem wl_rot (n k : Nat) (x : Nat → UInt32) (h0 : 0 < k) (hk : k < 32) : rotF (mkM n) (twiceF (wl n x)) k = wl n fun i => rotr (x i) (UInt32.ofNat k) := by
 unfold rotF mkM twiceF wl
 rw [lan_mul, lan_shift (fun i _ => ?_) (fun _ _ => by show (4294967295 : UInt32).toNat < 2 ^ 32; decide) (by omega)]
 ·refine lan_congr fun i _ => ?_
  show ((x i).toNat * 4294967297) >>> k &&& 4294967295 = (rotr (x i) (UInt32.ofNat k)).toNat
  unfold rotr
  rw [rot_nat (x i).toNat_lt hk, UInt32.toNat_or, UInt32.toNat_shiftRight, UInt32.toNat_shiftLeft, UInt32.toNat_sub, UInt32.toNat_ofNat', Nat.mod_eq_of_lt (show k < 2 ^ 32 by omega), Nat.mod_eq_of_lt hk,
   show (32 : UInt32).toNat = 32 from rfl, show (2 ^ 32 - k + 32) % 2 ^ 32 % 32 = 32 - k by omega]
 ·have := (x i).toNat_lt
  omega
theorem u32_not (x : UInt32) : x ^^^ 4294967295 = ~~~x := by
 apply UInt32.toNat_inj.1
 apply Nat.eq_of_testBit_eq
 intro i
 rw [UInt32.toNat_xor, Nat.testBit_xor, show (4294967295 : UInt32).toNat = 2 ^ 32 - 1 from rfl, Nat.testBit_two_pow_sub_one, UInt32.toNat_not, show UInt32.size - 1 - x.toNat = 2 ^ 32 - (x.toNat + 1) by have := x.toNat_lt; show 4294967296 - 1 - x.toNat = _; omega, Nat.testBit_two_pow_sub_succ x.toNat_lt]
 by_cases h : i < 32
 ·simp [h]
 ·have : x.toNat.testBit i = false := Nat.testBit_lt_two_pow (Nat.lt_of_lt_of_le x.toNat_lt (Nat.pow_le_pow_right (by decide) (by omega)))
  simp [h, this]
theorem big1_l (n : Nat) (x : Nat → UInt32) : big1F (mkM n) (twiceF (wl n x)) = wl n fun i => rotr (x i) 6 ^^^ rotr (x i) 11 ^^^ rotr (x i) 25 := by
 unfold big1F
 rw [wl_rot n 6 x (by decide) (by decide), wl_rot n 11 x (by decide) (by decide), wl_rot n 25 x (by decide) (by decide), wl_xor, wl_xor]
 rfl
theorem big0_l (n : Nat) (x : Nat → UInt32) : big0F (mkM n) (twiceF (wl n x)) = wl n fun i => rotr (x i) 2 ^^^ rotr (x i) 13 ^^^ rotr (x i) 22 := by
 unfold big0F
 rw [wl_rot n 2 x (by decide) (by decide), wl_rot n 13 x (by decide) (by decide), wl_rot n 22 x (by decide) (by decide), wl_xor, wl_xor]
 rfl
theorem sm0_l (n : Nat) (x : Nat → UInt32) : sm0F (mkM n) (twiceF (wl n x)) (wl n x) = wl n fun i => sig0 (x i) := by
 unfold sm0F
 rw [wl_rot n 7 x (by decide) (by decide), wl_rot n 18 x (by decide) (by decide), wl_shift n 3 x (by decide), wl_xor, wl_xor]
 rfl
theorem sm1_l (n : Nat) (x : Nat → UInt32) : sm1F (mkM n) (twiceF (wl n x)) (wl n x) = wl n fun i => sig1 (x i) := by
 unfold sm1F
 rw [wl_rot n 17 x (by decide) (by decide), wl_rot n 19 x (by decide) (by decide), wl_shift n 10 x (by decide), wl_xor, wl_xor]
 rfl
theorem ch_l (n : Nat) (e f g : Nat → UInt32) : chF (mkM n) (wl n e) (wl n f) (wl n g) = wl n fun i => (e i &&& f i) ^^^ (g i &&& ~~~ e i) := by
 unfold chF mkM
 rw [wl_xor, wl_and, wl_and, wl_xor]
 refine wl_congr fun i _ => ?_
 rw [u32_not]
theorem maj_l (n : Nat) (a b c : Nat → UInt32) : majF (wl n a) (wl n b) (wl n c) = wl n fun i => (a i &&& b i) ^^^ (a i &&& c i) ^^^ (b i &&& c i) := by
 unfold majF
 rw [wl_and, wl_and, wl_and, wl_xor, wl_xor]
/-- the state in lanes -/
structure SL (n : Nat) (s : Nat → S8) (a b c d e f g h : Nat) : Prop where
 a : a = wl n fun i => (s i).a
 b : b = wl n fun i => (s i).b
 c : c = wl n fun i => (s i).c
 d : d = wl n fun i => (s i).d
 e : e = wl n fun i => (s i).e
 f : f = wl n fun i => (s i).f
 g : g = wl n fun i => (s i).g
 h : h = wl n fun i => (s i).h
theorem wl_sum (n : Nat) (x y : Nat → UInt32) : Nat.add (wl n x) (wl n y) = lan n fun i => (x i).toNat + (y i).toNat := by
 unfold wl
 exact lan_add _ _ _
theorem one_l {n : Nat} {s : Nat → S8} {a b c d e f g h : Nat} (hs : SL n s a b c d e f g h) (k : UInt32) (w : Nat → UInt32) :
  t1F (mkM n) (Nat.mul (mkU n) k.toNat) (wl n w) e f g h = lan n fun i => (s i).h.toNat + (rotr (s i).e 6 ^^^ rotr (s i).e 11 ^^^ rotr (s i).e 25).toNat + (((s i).e &&& (s i).f) ^^^ ((s i).g &&& ~~~ (s i).e)).toNat + k.toNat + (w i).toNat := by
 unfold t1F
 rw [hs.e, hs.f, hs.g, hs.h, big1_l, ch_l, wl_const, wl_sum]
 unfold wl
 rw [lan_add, lan_add, lan_add]
theorem two_l {n : Nat} {s : Nat → S8} {a b c d e f g h : Nat} (hs : SL n s a b c d e f g h) :
  t2F (mkM n) a b c = lan n fun i => (rotr (s i).a 2 ^^^ rotr (s i).a 13 ^^^ rotr (s i).a 22).toNat + (((s i).a &&& (s i).b) ^^^ ((s i).a &&& (s i).c) ^^^ ((s i).b &&& (s i).c)).toNat := by
 unfold t2F
 rw [hs.a, hs.b, hs.c, big0_l, maj_l, wl_sum]
theorem rnd_l {n : Nat} {s : Nat → S8} {a b c d e f g h : Nat} (hs : SL n s a b c d e f g h) (k : UInt32) (w : Nat → UInt32) :
  SL n (fun i => shaRnd k (w i) (s i)) (Nat.land (Nat.add (t1F (mkM n) (Nat.mul (mkU n) k.toNat) (wl n w) e f g h) (t2F (mkM n) a b c)) (mkM n)) a b c (Nat.land (Nat.add d (t1F (mkM n) (Nat.mul (mkU n) k.toNat) (wl n w) e f g h)) (mkM n)) e f g := by
 refine ⟨?_, hs.a, hs.b, hs.c, ?_, hs.e, hs.f, hs.g⟩
 ·rw [one_l hs, two_l hs, lan_add, wl_mask]
  ·refine wl_congr fun i _ => ?_
   show _ = shaOne k (w i) (s i) + shaTwo (s i)
   unfold shaOne shaTwo
   rw [← UInt32.toNat_inj]
   simp only [UInt32.toNat_ofNat', UInt32.toNat_add]
   omega
  ·intro i _
   have h1 := (s i).h.toNat_lt
   have h2 := (rotr (s i).e 6 ^^^ rotr (s i).e 11 ^^^ rotr (s i).e 25).toNat_lt
   have h3 := (((s i).e &&& (s i).f) ^^^ ((s i).g &&& ~~~ (s i).e)).toNat_lt
   have h4 := k.toNat_lt
   have h5 := (w i).toNat_lt
   have h6 := (rotr (s i).a 2 ^^^ rotr (s i).a 13 ^^^ rotr (s i).a 22).toNat_lt
   have h7 := (((s i).a &&& (s i).b) ^^^ ((s i).a &&& (s i).c) ^^^ ((s i).b &&& (s i).c)).toNat_lt
   omega
 ·rw [one_l hs, hs.d]
  unfold wl
  rw [lan_add, wl_mask]
  ·refine wl_congr fun i _ => ?_
   show _ = (s i).d + shaOne k (w i) (s i)
   unfold shaOne
   rw [← UInt32.toNat_inj]
   simp only [UInt32.toNat_ofNat', UInt32.toNat_add]
   omega
  ·intro i _
   have h1 := (s i).h.toNat_lt
   have h2 := (rotr (s i).e 6 ^^^ rotr (s i).e 11 ^^^ rotr (s i).e 25).toNat_lt
   have h3 := (((s i).e &&& (s i).f) ^^^ ((s i).g &&& ~~~ (s i).e)).toNat_lt
   have h4 := k.toNat_lt
   have h5 := (w i).toNat_lt
   have h6 := (s i).d.toNat_lt
   show (s i).d.toNat + _ < _
   omega
/-- rounds from t on -/
def rndsS (ks : List UInt32) (ws : List UInt32) (s : S8) : S8 := (ks.zip ws).foldl (fun s kw => shaRnd kw.1 kw.2 s) s
theorem rnds_l {n : Nat} : ∀ (ks : List UInt32) (ws : List (Nat → UInt32)) (s : Nat → S8) (a b c d e f g h : Nat), SL n s a b c d e f g h →
  ∃ r, rndsF (mkU n) (mkM n) (ks.map (·.toNat)) (ws.map (wl n)) a b c d e f g h = r ∧ SL n (fun i => rndsS ks (ws.map fun w => w i) (s i)) r.a r.b r.c r.d r.e r.f r.g r.h
 | [], ws, s, a, b, c, d, e, f, g, h, hs => ⟨_, rfl, by simpa [rndsF, rndsS] using hs⟩
 | k :: ks, [], s, a, b, c, d, e, f, g, h, hs => ⟨_, rfl, by simpa [rndsF, rndsS] using hs⟩
 | k :: ks, w :: ws, s, a, b, c, d, e, f, g, h, hs => by
  obtain ⟨r, h1, h2⟩ := rnds_l ks ws _ _ _ _ _ _ _ _ _ (rnd_l hs k w)
  refine ⟨r, ?_, h2⟩
  rw [← h1]
  simp only [List.map_cons, rndsF, sq_eq]
theorem shaK_range : shaK = (List.range 64).map kOf := by decide +kernel
theorem shaComp_fold (m : List UInt8) (s : S8) : ∀ t, ((List.range t).map fun j => (kOf j, sch m j)).foldl (fun s kw => shaRnd kw.1 kw.2 s) s = shaComp m s t
 | 0 => rfl
 | t + 1 => by
  rw [List.range_succ, List.map_append, List.foldl_append, shaComp_fold m s t]
  rfl
theorem rndsS_comp (m : List UInt8) (s : S8) : rndsS shaK ((List.range 64).map (sch m)) s = shaComp m s 64 := by
 unfold rndsS
 rw [shaK_range, List.zip_map', shaComp_fold]
def ksN : List Nat := shaK.map (·.toNat)
theorem ksF_eq : ksF = ksN := by decide +kernel
theorem range_rev (r : Nat) : (List.range (r + 16)).reverse = (r + 15) :: (r + 14) :: (r + 13) :: (r + 12) :: (r + 11) :: (r + 10) :: (r + 9) :: (r + 8) :: (r + 7) :: (r + 6) :: (r + 5) :: (r + 4) :: (r + 3) :: (r + 2) :: (r + 1) :: r :: (List.range r).reverse := by
 simp [List.range_succ]
theorem next_l {n r : Nat} (m : Nat → List UInt8) (hr : 16 ≤ r) : nextF (mkM n) ((List.range r).reverse.map fun t => wl n fun i => sch (m i) t) = wl n fun i => sch (m i) r := by
 obtain ⟨q, rfl⟩ : ∃ q, r = q + 16 := ⟨r - 16, by omega⟩
 rw [range_rev]
 simp only [List.map_cons, nextF]
 rw [sm1_l, sm0_l, wl_sum]
 unfold wl
 rw [lan_add, lan_add, wl_mask]
 ·refine wl_congr fun i _ => ?_
  rw [sch_high (m i) (q + 16) (by omega), show q + 16 - 2 = q + 14 by omega, show q + 16 - 7 = q + 9 by omega, show q + 16 - 15 = q + 1 by omega, show q + 16 - 16 = q by omega, ← UInt32.toNat_inj]
  simp only [UInt32.toNat_ofNat', UInt32.toNat_add]
  omega
 ·intro i _
  have h1 := (sig1 (sch (m i) (q + 14))).toNat_lt
  have h2 := (sch (m i) (q + 9)).toNat_lt
  have h3 := (sig0 (sch (m i) (q + 1))).toNat_lt
  have h4 := (sch (m i) q).toNat_lt
  dsimp only
  omega
theorem sch_l {n : Nat} (m : Nat → List UInt8) : ∀ (k r : Nat), 16 ≤ r → schF (mkM n) k ((List.range r).reverse.map fun t => wl n fun i => sch (m i) t) = (List.range (r + k)).reverse.map fun t => wl n fun i => sch (m i) t
 | 0, _, _ => rfl
 | k + 1, r, hr => by
  have ih := sch_l (n := n) m k (r + 1) (by omega)
  rw [List.range_succ, List.reverse_append, List.reverse_singleton, List.singleton_append, List.map_cons] at ih
  unfold schF
  rw [sq_eq, next_l m hr, ih, show r + 1 + k = r + (k + 1) by omega]
theorem add_mask (n : Nat) (x y : Nat → UInt32) : Nat.land (Nat.add (wl n x) (wl n y)) (mkM n) = wl n fun i => x i + y i := by
 rw [wl_sum, wl_mask]
 ·refine wl_congr fun i _ => ?_
  rw [← UInt32.toNat_inj]
  simp only [UInt32.toNat_ofNat', UInt32.toNat_add]
 ·intro i _
  have h1 := (x i).toNat_lt
  have h2 := (y i).toNat_lt
  omega
theorem wl_lit (n k : Nat) (x : UInt32) (h : x.toNat = k) : Nat.mul (mkU n) k = wl n fun _ => x := h ▸ wl_const n x
theorem blk_gen {n : Nat} (m : Nat → List UInt8) (ws ks : List Nat) (hk : ks = shaK.map (·.toNat)) (hw : ws = (List.range 16).reverse.map fun t => wl n fun i => sch (m i) t) (s : S8) {h0 h1 h2 h3 h4 h5 h6 h7 : Nat} (e0 : s.a.toNat = h0) (e1 : s.b.toNat = h1) (e2 : s.c.toNat = h2) (e3 : s.d.toNat = h3) (e4 : s.e.toNat = h4) (e5 : s.f.toNat = h5) (e6 : s.g.toNat = h6) (e7 : s.h.toNat = h7) :
  ∃ r, blkF (mkU n) (mkM n) ks [h0, h1, h2, h3, h4, h5, h6, h7] ws = r ∧ SL n (fun i => shaBlk s (m i)) r.a r.b r.c r.d r.e r.f r.g r.h := by
 have hsch : (schF (mkM n) 48 ws).reverse = ((List.range 64).map fun t => fun i => sch (m i) t).map (wl n) := by
  rw [hw, sch_l m 48 16 (Nat.le_refl _), ← List.map_reverse, List.reverse_reverse, List.map_map]
  rfl
 have q : SL n (fun _ => s) (Nat.mul (mkU n) h0) (Nat.mul (mkU n) h1) (Nat.mul (mkU n) h2) (Nat.mul (mkU n) h3) (Nat.mul (mkU n) h4) (Nat.mul (mkU n) h5) (Nat.mul (mkU n) h6) (Nat.mul (mkU n) h7) :=
  ⟨wl_lit n _ _ e0, wl_lit n _ _ e1, wl_lit n _ _ e2, wl_lit n _ _ e3, wl_lit n _ _ e4, wl_lit n _ _ e5, wl_lit n _ _ e6, wl_lit n _ _ e7⟩
 obtain ⟨⟨a, b, c, d, e, f, g, h⟩, hr, hs⟩ := rnds_l shaK ((List.range 64).map fun t => fun i => sch (m i) t) _ _ _ _ _ _ _ _ _ q
 have hcomp : ∀ i, rndsS shaK (((List.range 64).map fun t => fun i => sch (m i) t).map fun w => w i) s = shaComp (m i) s 64 := fun i => by
  rw [List.map_map]
  exact rndsS_comp (m i) s
 simp only [hcomp] at hs
 unfold blkF
 simp only
 rw [hsch, hk, hr]
 refine ⟨_, rfl, ?_, ?_, ?_, ?_, ?_, ?_, ?_, ?_⟩
 ·show Nat.land (Nat.add (Nat.mul (mkU n) h0) a) (mkM n) = _
  rw [hs.a, q.a, add_mask]
  rfl
 ·show Nat.land (Nat.add (Nat.mul (mkU n) h1) b) (mkM n) = _
  rw [hs.b, q.b, add_mask]
  rfl
 ·show Nat.land (Nat.add (Nat.mul (mkU n) h2) c) (mkM n) = _
  rw [hs.c, q.c, add_mask]
  rfl
 ·show Nat.land (Nat.add (Nat.mul (mkU n) h3) d) (mkM n) = _
  rw [hs.d, q.d, add_mask]
  rfl
 ·show Nat.land (Nat.add (Nat.mul (mkU n) h4) e) (mkM n) = _
  rw [hs.e, q.e, add_mask]
  rfl
 ·show Nat.land (Nat.add (Nat.mul (mkU n) h5) f) (mkM n) = _
  rw [hs.f, q.f, add_mask]
  rfl
 ·show Nat.land (Nat.add (Nat.mul (mkU n) h6) g) (mkM n) = _
  rw [hs.g, q.g, add_mask]
  rfl
 ·show Nat.land (Nat.add (Nat.mul (mkU n) h7) h) (mkM n) = _
  rw [hs.h, q.h, add_mask]
  rfl
theorem blk_l {n : Nat} (m : Nat → List UInt8) (ws : List Nat) (hw : ws = (List.range 16).reverse.map fun t => wl n fun i => sch (m i) t) :
  ∃ r, blkF (mkU n) (mkM n) ksF hsF ws = r ∧ SL n (fun i => shaBlk shaH (m i)) r.a r.b r.c r.d r.e r.f r.g r.h :=
 blk_gen m ws ksF ksF_eq hw shaH rfl rfl rfl rfl rfl rfl rfl rfl
/-! a header without operations -/
def hdwT (p : S8) (e : Nat) : List UInt8 := [104, 101, 97, 100, 101, 114] ++ shaOut p ++ be 8 e ++ [0]
theorem be4_eq (x : UInt32) : be4 x = [UInt8.ofNat (x.toNat / 16777216), UInt8.ofNat (x.toNat / 65536), UInt8.ofNat (x.toNat / 256), UInt8.ofNat x.toNat] := by
 simp [be4, be, Nat.div_div_eq_div_mul]
theorem be8_eq (e : Nat) (he : e < 65536) : be 8 e = [0, 0, 0, 0, 0, 0, UInt8.ofNat (e / 256), UInt8.ofNat e] := by
 simp only [be, List.nil_append, List.cons_append, Nat.div_div_eq_div_mul, Nat.reduceMul]
 rw [show e / 72057594037927936 = 0 by omega, show e / 281474976710656 = 0 by omega, show e / 1099511627776 = 0 by omega, show e / 4294967296 = 0 by omega, show e / 16777216 = 0 by omega, show e / 65536 = 0 by omega]
 rfl
theorem hdw_pad (p : S8) (e : Nat) (he : e < 65536) : shaPad (hdwT p e) = [104, 101, 97, 100, 101, 114] ++ shaOut p ++ [0, 0, 0, 0, 0, 0, UInt8.ofNat (e / 256), UInt8.ofNat e, 0, 128, 0, 0, 0, 0, 0, 0, 0, 0, 0, 0, 0, 0, 0, 0, 1, 120] := by
 have hl : (hdwT p e).length = 47 := by simp [hdwT, shaOut_length, be_length]
 unfold shaPad
 rw [hl, show shaZeros 47 = 8 from rfl]
 unfold hdwT
 rw [be8_eq e he, show be 8 (47 * 8) = [0, 0, 0, 0, 0, 0, 1, 120] by decide]
 simp [List.append_assoc, List.replicate]
theorem four (a b c d : UInt8) : numOf [a, b, c, d] = a.toNat * 16777216 + b.toNat * 65536 + c.toNat * 256 + d.toNat := by
 simp only [numOf, List.foldl_cons, List.foldl_nil]
 omega
/-- the words, from the last on -/
def hdwS (p : S8) (e : Nat) : List UInt32 :=
 let j := fun (u v : UInt32) => UInt32.ofNat (u.toNat % 65536 * 65536 + v.toNat / 65536)
 [376, 0, 0, 0, UInt32.ofNat (e * 65536 + 128), 0, UInt32.ofNat (p.h.toNat % 65536 * 65536), j p.g p.h, j p.f p.g, j p.e p.f, j p.d p.e, j p.c p.d, j p.b p.c, j p.a p.b, UInt32.ofNat (0x65720000 + p.a.toNat / 65536), 0x68656164]
theorem byte_nat (n : Nat) : (UInt8.ofNat n).toNat = n % 256 := UInt8.toNat_ofNat'
theorem cons_eq {α : Type} {a b : α} {l m : List α} (h : a = b) (k : l = m) : a :: l = b :: m := by rw [h, k]
theorem hdwS_eq (p : S8) (e : Nat) (he : e < 65536) : hdwS p e = (List.range 16).reverse.map fun t => sch (shaPad (hdwT p e)) t := by
 rw [hdw_pad p e he, show (List.range 16).reverse = [15, 14, 13, 12, 11, 10, 9, 8, 7, 6, 5, 4, 3, 2, 1, 0] from rfl]
 simp only [List.map_cons, List.map_nil]
 repeat rw [sch_low _ _ (by decide)]
 unfold wd shaOut S8.list hdwS
 have ha := p.a.toNat_lt
 have hb := p.b.toNat_lt
 have hc := p.c.toNat_lt
 have hd := p.d.toNat_lt
 have he' := p.e.toNat_lt
 have hf := p.f.toNat_lt
 have hg := p.g.toNat_lt
 have hh := p.h.toNat_lt
 simp only [List.flatMap_cons, List.flatMap_nil, be4_eq, List.cons_append, List.nil_append, Nat.reduceMul, List.drop_succ_cons, List.drop_zero, List.take_succ_cons, List.take_zero, four, byte_nat]
 generalize p.a.toNat = a at *
 generalize p.b.toNat = b at *
 generalize p.c.toNat = c at *
 generalize p.d.toNat = d at *
 generalize p.e.toNat = x at *
 generalize p.f.toNat = f at *
 generalize p.g.toNat = g at *
 generalize p.h.toNat = h at *
 refine cons_eq rfl (cons_eq rfl (cons_eq rfl (cons_eq rfl (cons_eq ?_ (cons_eq rfl (cons_eq ?_ (cons_eq ?_ (cons_eq ?_ (cons_eq ?_ (cons_eq ?_ (cons_eq ?_ (cons_eq ?_ (cons_eq ?_ (cons_eq ?_ (cons_eq rfl rfl)))))))))))))))
 all_goals refine congrArg UInt32.ofNat ?_
 all_goals try simp only [show (104 : UInt8).toNat = 104 from rfl, show (101 : UInt8).toNat = 101 from rfl, show (97 : UInt8).toNat = 97 from rfl, show (100 : UInt8).toNat = 100 from rfl, show (114 : UInt8).toNat = 114 from rfl, show (0 : UInt8).toNat = 0 from rfl, show (128 : UInt8).toNat = 128 from rfl]
 all_goals omega
theorem sch_words (p : S8) (e : Nat) (he : e < 65536) : ∀ m, m = shaPad (hdwT p e) → sch m 15 = 376 ∧ sch m 14 = 0 ∧ sch m 13 = 0 ∧ sch m 12 = 0 ∧ sch m 11 = UInt32.ofNat (e * 65536 + 128) ∧ sch m 10 = 0 ∧ sch m 9 = UInt32.ofNat (p.h.toNat % 65536 * 65536) ∧
  sch m 8 = UInt32.ofNat (p.g.toNat % 65536 * 65536 + p.h.toNat / 65536) ∧ sch m 7 = UInt32.ofNat (p.f.toNat % 65536 * 65536 + p.g.toNat / 65536) ∧ sch m 6 = UInt32.ofNat (p.e.toNat % 65536 * 65536 + p.f.toNat / 65536) ∧ sch m 5 = UInt32.ofNat (p.d.toNat % 65536 * 65536 + p.e.toNat / 65536) ∧
  sch m 4 = UInt32.ofNat (p.c.toNat % 65536 * 65536 + p.d.toNat / 65536) ∧ sch m 3 = UInt32.ofNat (p.b.toNat % 65536 * 65536 + p.c.toNat / 65536) ∧ sch m 2 = UInt32.ofNat (p.a.toNat % 65536 * 65536 + p.b.toNat / 65536) ∧ sch m 1 = UInt32.ofNat (0x65720000 + p.a.toNat / 65536) ∧ sch m 0 = 0x68656164 := by
 rintro m rfl
 have h := hdwS_eq p e he
 rw [show (List.range 16).reverse = [15, 14, 13, 12, 11, 10, 9, 8, 7, 6, 5, 4, 3, 2, 1, 0] from rfl] at h
 unfold hdwS at h
 simp only [List.map_cons, List.map_nil, List.cons.injEq, and_true] at h
 obtain ⟨q1, q2, q3, q4, q5, q6, q7, q8, q9, q10, q11, q12, q13, q14, q15, q16⟩ := h
 exact ⟨q1.symm, q2.symm, q3.symm, q4.symm, q5.symm, q6.symm, q7.symm, q8.symm, q9.symm, q10.symm, q11.symm, q12.symm, q13.symm, q14.symm, q15.symm, q16.symm⟩
theorem wl_zero (n : Nat) : 0 = wl n fun _ => 0 := by
 have := wl_const n 0
 rw [← this]
 rfl
theorem wl_of (n : Nat) (f : Nat → Nat) (hf : ∀ i, i < n → f i < 2 ^ 32) : lan n f = wl n fun i => UInt32.ofNat (f i) := lan_congr fun i hi => by
 rw [UInt32.toNat_ofNat', Nat.mod_eq_of_lt (hf i hi)]
theorem lanU (n k : Nat) : Nat.mul (mkU n) k = lan n fun _ => k := by
 unfold mkU wl
 rw [lan_mul]
 exact lan_congr fun i _ => by show 1 * k = k; omega
theorem low_l (n : Nat) (x : Nat → UInt32) : Nat.land (wl n x) (Nat.mul (mkU n) 65535) = lan n fun i => (x i).toNat % 65536 := by
 rw [lanU]
 unfold wl
 rw [lan_and (fun _ _ => u32_lt64 _) (fun _ _ => by decide)]
 refine lan_congr fun i _ => ?_
 show (x i).toNat &&& (2 ^ 16 - 1) = _
 rw [Nat.and_two_pow_sub_one_eq_mod]
theorem high_l (n : Nat) (x : Nat → UInt32) : Nat.land (Nat.shiftRight (wl n x) 16) (Nat.mul (mkU n) 65535) = lan n fun i => (x i).toNat / 65536 := by
 rw [lanU]
 unfold wl
 rw [lan_shift (fun _ _ => u32_lt64 _) (fun _ _ => by decide) (by decide)]
 refine lan_congr fun i _ => ?_
 show (x i).toNat >>> 16 &&& (2 ^ 16 - 1) = _
 rw [Nat.and_two_pow_sub_one_eq_mod, Nat.shiftRight_eq_div_pow]
 have := (x i).toNat_lt
 omega
theorem join_l (n : Nat) (x y : Nat → UInt32) : Nat.add (Nat.mul (Nat.land (wl n x) (Nat.mul (mkU n) 65535)) 65536) (Nat.land (Nat.shiftRight (wl n y) 16) (Nat.mul (mkU n) 65535)) = wl n fun i => UInt32.ofNat ((x i).toNat % 65536 * 65536 + (y i).toNat / 65536) := by
 rw [low_l, high_l, lan_mul, lan_add, wl_of]
 intro i _
 have := (y i).toNat_lt
 omega
theorem hdw_l {n : Nat} (s : Nat → S8) (e : Nat → Nat) (he : ∀ i, i < n → e i < 65536) {a b c d x f g h : Nat} (hs : SL n s a b c d x f g h) :
  hdwF (mkU n) ⟨a, b, c, d, x, f, g, h⟩ (lan n e) = (List.range 16).reverse.map fun t => wl n fun i => sch (shaPad (hdwT (s i) (e i))) t := by
 rw [show (List.range 16).reverse = [15, 14, 13, 12, 11, 10, 9, 8, 7, 6, 5, 4, 3, 2, 1, 0] from rfl]
 simp only [List.map_cons, List.map_nil]
 have hw := fun i hi => sch_words (s i) (e i) (he i hi) _ rfl
 unfold hdwF
 simp only
 rw [hs.a, hs.b, hs.c, hs.d, hs.e, hs.f, hs.g, hs.h, join_l, join_l, join_l, join_l, join_l, join_l, join_l]
 refine cons_eq ?_ (cons_eq ?_ (cons_eq ?_ (cons_eq ?_ (cons_eq ?_ (cons_eq ?_ (cons_eq ?_ (cons_eq ?_ (cons_eq ?_ (cons_eq ?_ (cons_eq ?_ (cons_eq ?_ (cons_eq ?_ (cons_eq ?_ (cons_eq ?_ (cons_eq ?_ rfl)))))))))))))))
 ·rw [wl_lit n 376 376 rfl]; exact wl_congr fun i hi => (hw i hi).1.symm
 ·rw [wl_zero n]; exact wl_congr fun i hi => (hw i hi).2.1.symm
 ·rw [wl_zero n]; exact wl_congr fun i hi => (hw i hi).2.2.1.symm
 ·rw [wl_zero n]; exact wl_congr fun i hi => (hw i hi).2.2.2.1.symm
 ·rw [lanU, lan_mul, lan_add, wl_of]
  ·exact wl_congr fun i hi => (hw i hi).2.2.2.2.1.symm
  ·intro i hi
   have := he i hi
   omega
 ·rw [wl_zero n]; exact wl_congr fun i hi => (hw i hi).2.2.2.2.2.1.symm
 ·rw [low_l, lan_mul, wl_of]
  ·exact wl_congr fun i hi => (hw i hi).2.2.2.2.2.2.1.symm
  ·intro i _
   omega
 ·exact wl_congr fun i hi => (hw i hi).2.2.2.2.2.2.2.1.symm
 ·exact wl_congr fun i hi => (hw i hi).2.2.2.2.2.2.2.2.1.symm
 ·exact wl_congr fun i hi => (hw i hi).2.2.2.2.2.2.2.2.2.1.symm
 ·exact wl_congr fun i hi => (hw i hi).2.2.2.2.2.2.2.2.2.2.1.symm
 ·exact wl_congr fun i hi => (hw i hi).2.2.2.2.2.2.2.2.2.2.2.1.symm
 ·exact wl_congr fun i hi => (hw i hi).2.2.2.2.2.2.2.2.2.2.2.2.1.symm
 ·exact wl_congr fun i hi => (hw i hi).2.2.2.2.2.2.2.2.2.2.2.2.2.1.symm
 ·rw [high_l, lanU, lan_add, wl_of]
  ·exact wl_congr fun i hi => (hw i hi).2.2.2.2.2.2.2.2.2.2.2.2.2.2.1.symm
  ·intro i _
   have := (s i).a.toNat_lt
   omega
 ·rw [wl_lit n 0x68656164 0x68656164 rfl]; exact wl_congr fun i hi => (hw i hi).2.2.2.2.2.2.2.2.2.2.2.2.2.2.2.symm
/-- a name's words -/
def hname (p : S8) (e : Nat) : S8 := shaBlk shaH (shaPad (hdwT p e))
theorem hname_l {n : Nat} (s : Nat → S8) (e : Nat → Nat) (he : ∀ i, i < n → e i < 65536) {a b c d x f g h : Nat} (hs : SL n s a b c d x f g h) :
  ∃ r, blkF (mkU n) (mkM n) ksF hsF (hdwF (mkU n) ⟨a, b, c, d, x, f, g, h⟩ (lan n e)) = r ∧ SL n (fun i => hname (s i) (e i)) r.a r.b r.c r.d r.e r.f r.g r.h :=
 blk_l (fun i => shaPad (hdwT (s i) (e i))) _ (hdw_l s e he hs)
end Go.Proofs.Ythdjhbiigmcecaa

/- Names of headers without operations: by words, and in lanes. -/
namespace Go.Proofs.Ythdjhbiigmcecaa

theorem hdrMay_bare {h : Hdr} (h0 : h.ops = []) (h1 : 1 ≤ h.epoch.toNat) (h2 : h.epoch.toNat < 65536) : hdrMay h = true := by
 unfold hdrMay
 rw [h0]
 simp
 omega
theorem hdName_bare {h : Hdr} {p : S8} {e : Nat} (h0 : h.ops = []) (hp : h.parent.1 = shaOut p) (he : h.epoch.toNat = e) (h1 : 1 ≤ e) (h2 : e < 65536) : (hdName h).1 = shaOut (hname p e) := by
 have hm : hdrMay h = true := hdrMay_bare h0 (by omega) (by omega)
 have ht : nmText h = hdwT p e := by
  unfold nmText hdBytes hdwT
  rw [h0, hp, he]
  simp
 have hl : (shaPad (hdwT p e)).length = 64 := by
  rw [hdw_pad p e h2]
  simp [shaOut_length]
 unfold hdName
 rw [if_pos hm, ht]
 unfold shaSum hname
 simp only
 rw [shaRun_long _ _ (by omega), List.take_of_length_le (by omega), List.drop_of_length_le (by omega), shaRun_short _ _ (by simp)]
theorem u8_nat {a b : Nat} (h : UInt8.ofNat a = UInt8.ofNat b) : a % 256 = b % 256 := by
 have := congrArg UInt8.toNat h
 rwa [byte_nat, byte_nat] at this
/-- names of unlike first words are unlike -/
theorem shaOut_a {s t : S8} (h : shaOut s = shaOut t) : s.a = t.a := by
 unfold shaOut S8.list at h
 simp only [List.flatMap_cons, be4_eq, List.cons_append, List.nil_append, List.cons.injEq] at h
 obtain ⟨q1, q2, q3, q4, -⟩ := h
 have h1 := u8_nat q1
 have h2 := u8_nat q2
 have h3 := u8_nat q3
 have h4 := u8_nat q4
 have hs := s.a.toNat_lt
 have ht := t.a.toNat_lt
 exact UInt32.toNat_inj.1 (by omega)
/-- one alone, reckoned -/
theorem wl_one (x : Nat → UInt32) : wl 1 x = (x 0).toNat := by
 unfold wl lan lan
 simp
theorem hname_one (p : S8) (e : Nat) (he : e < 65536) : ∃ r, blkF 1 4294967295 ksF hsF (hdwF 1 ⟨p.a.toNat, p.b.toNat, p.c.toNat, p.d.toNat, p.e.toNat, p.f.toNat, p.g.toNat, p.h.toNat⟩ e) = r ∧
  (hname p e).a.toNat = r.a ∧ (hname p e).b.toNat = r.b ∧ (hname p e).c.toNat = r.c ∧ (hname p e).d.toNat = r.d ∧ (hname p e).e.toNat = r.e ∧ (hname p e).f.toNat = r.f ∧ (hname p e).g.toNat = r.g ∧ (hname p e).h.toNat = r.h := by
 obtain ⟨r, h1, h2⟩ := hname_l (n := 1) (fun _ => p) (fun _ => e) (fun _ _ => he) (a := p.a.toNat) (b := p.b.toNat) (c := p.c.toNat) (d := p.d.toNat) (x := p.e.toNat) (f := p.f.toNat) (g := p.g.toNat) (h := p.h.toNat)
  ⟨(wl_one fun _ => p.a).symm, (wl_one fun _ => p.b).symm, (wl_one fun _ => p.c).symm, (wl_one fun _ => p.d).symm, (wl_one fun _ => p.e).symm, (wl_one fun _ => p.f).symm, (wl_one fun _ => p.g).symm, (wl_one fun _ => p.h).symm⟩
 have hU : mkU 1 = 1 := wl_one _
 have hM : mkM 1 = 4294967295 := wl_one _
 have hE : lan 1 (fun _ => e) = e := by unfold lan lan; simp
 rw [hU, hM, hE] at h1
 refine ⟨r, h1, ?_⟩
 have q := h2
 rw [q.a, q.b, q.c, q.d, q.e, q.f, q.g, q.h, wl_one, wl_one, wl_one, wl_one, wl_one, wl_one, wl_one, wl_one]
 exact ⟨rfl, rfl, rfl, rfl, rfl, rfl, rfl, rfl⟩
end Go.Proofs.Ythdjhbiigmcecaa

/- The names of landmarklaw10.known, reckoned. -/
namespace Go.Proofs.Ythdjhbiigmcecaa

def nm1 : S8 := ⟨16777216, 0, 0, 0, 0, 0, 0, 0⟩
def nm1H : Hash := ⟨1 :: List.replicate 31 0, by simp⟩
theorem nm1_out : nm1H.1 = shaOut nm1 := by decide +kernel
def n8L (r : N8) : List Nat := [r.a, r.b, r.c, r.d, r.e, r.f, r.g, r.h]
theorem kn1 : n8L (blkF 1 4294967295 ksF hsF (hdwF 1 ⟨16777216, 0, 0, 0, 0, 0, 0, 0⟩ 7)) = [64128975, 736020416, 3726047156, 4150195627, 4141587366, 1544206514, 1518640299, 2593121992] := by decide +kernel
theorem kn2 : n8L (blkF 1 4294967295 ksF hsF (hdwF 1 ⟨64128975, 736020416, 3726047156, 4150195627, 4141587366, 1544206514, 1518640299, 2593121992⟩ 9)) = [1676725952, 2259209839, 3860034329, 200100354, 404195973, 4020226498, 4184840341, 3783425187] := by decide +kernel
def nm2 : S8 := ⟨64128975, 736020416, 3726047156, 4150195627, 4141587366, 1544206514, 1518640299, 2593121992⟩
theorem nm2_eq : hname nm1 7 = nm2 := by
 obtain ⟨r, h0, ha, hb, hc, hd, he, hf, hg, hh⟩ := hname_one nm1 7 (by decide)
 have hk := kn1
 rw [show blkF 1 4294967295 ksF hsF (hdwF 1 ⟨16777216, 0, 0, 0, 0, 0, 0, 0⟩ 7) = r from h0] at hk
 simp only [n8L, List.cons.injEq, and_true] at hk
 obtain ⟨a1, a2, a3, a4, a5, a6, a7, a8⟩ := hk
 rw [a1] at ha
 rw [a2] at hb
 rw [a3] at hc
 rw [a4] at hd
 rw [a5] at he
 rw [a6] at hf
 rw [a7] at hg
 rw [a8] at hh
 generalize hname nm1 7 = s at *
 cases s
 simp only at ha hb hc hd he hf hg hh
 unfold nm2
 rw [S8.mk.injEq]
 exact ⟨UInt32.toNat_inj.1 ha, UInt32.toNat_inj.1 hb, UInt32.toNat_inj.1 hc, UInt32.toNat_inj.1 hd, UInt32.toNat_inj.1 he, UInt32.toNat_inj.1 hf, UInt32.toNat_inj.1 hg, UInt32.toNat_inj.1 hh⟩
theorem nm3_a : (hname nm2 9).a.toNat = 1676725952 := by
 obtain ⟨r, h0, ha, -⟩ := hname_one nm2 9 (by decide)
 have hk := kn2
 rw [show blkF 1 4294967295 ksF hsF (hdwF 1 ⟨64128975, 736020416, 3726047156, 4150195627, 4141587366, 1544206514, 1518640299, 2593121992⟩ 9) = r from h0] at hk
 simp only [n8L, List.cons.injEq, and_true] at hk
 rw [ha, hk.1]
/-- the two headers -/
def hd1 : Hdr := ⟨nm1H, 7, []⟩
def hd2 : Hdr := ⟨hdName hd1, 9, []⟩
theorem hd1_name : (hdName hd1).1 = shaOut nm2 := by
 rw [hdName_bare (h := hd1) (p := nm1) (e := 7) rfl nm1_out rfl (by decide) (by decide), nm2_eq]
theorem hd2_name : (hdName hd2).1 = shaOut (hname nm2 9) :=
 hdName_bare (h := hd2) (p := nm2) (e := 9) rfl hd1_name rfl (by decide) (by decide)
theorem nm_ne12 : nm1H ≠ hdName hd1 := fun e => by
 have := congrArg Subtype.val e
 rw [nm1_out, hd1_name] at this
 have := shaOut_a this
 revert this
 decide
theorem nm_ne13 : nm1H ≠ hdName hd2 := fun e => by
 have := congrArg Subtype.val e
 rw [nm1_out, hd2_name] at this
 have := congrArg UInt32.toNat (shaOut_a this)
 rw [nm3_a] at this
 revert this
 decide
theorem nm_ne23 : hdName hd1 ≠ hdName hd2 := fun e => by
 have := congrArg Subtype.val e
 rw [hd1_name, hd2_name] at this
 have := congrArg UInt32.toNat (shaOut_a this)
 rw [nm3_a] at this
 revert this
 decide
/-! the chain of both -/
def kC0 : List Blk := chNew ⟨5, nm1H⟩
def kC1 : List Blk := kC0 ++ [⟨⟨7, hdName hd1⟩, hd1, some 0⟩]
def kC2 : List Blk := kC1 ++ [⟨⟨9, hdName hd2⟩, hd2, some 1⟩]
theorem kchk1 : chCheck kC0 hd1 = (⟨7, hdName hd1⟩, 0) := by
 have h1 : hdrMay hd1 = true := hdrMay_bare rfl (by decide) (by decide)
 have h2 : chAt kC0 (hdName hd1) = none := by simp [chAt, kC0, chNew, nm_ne12]
 have h3 : chAt kC0 hd1.parent = some 0 := by simp [chAt, kC0, chNew, hd1]
 unfold chCheck
 rw [if_pos h1, h2, h3]
 rfl
theorem kadd1 : chAdd kC0 hd1 = kC1 := by
 have h3 : chAt kC0 hd1.parent = some 0 := by simp [chAt, kC0, chNew, hd1]
 unfold chAdd
 rw [kchk1, if_pos rfl, h3]
 rfl
theorem kchk2 : chCheck kC1 hd2 = (⟨9, hdName hd2⟩, 0) := by
 have h1 : hdrMay hd2 = true := hdrMay_bare rfl (by decide) (by decide)
 have h2 : chAt kC1 (hdName hd2) = none := by simp [chAt, kC1, kC0, chNew, nm_ne13, nm_ne23]
 have h3 : chAt kC1 hd2.parent = some 1 := by
  have := nm_ne12
  simp [chAt, kC1, kC0, chNew, hd2, List.findIdx?_cons, this]
 unfold chCheck
 rw [if_pos h1, h2, h3]
 rfl
theorem kadd2 : chAdd kC1 hd2 = kC2 := by
 have h3 : chAt kC1 hd2.parent = some 1 := by
  have := nm_ne12
  simp [chAt, kC1, kC0, chNew, hd2, List.findIdx?_cons, this]
 unfold chAdd
 rw [kchk2, if_pos rfl, h3]
 rfl
theorem kat2 : chAt kC2 (hdName hd2) = some 2 := by
 have h1 := nm_ne13
 have h2 := nm_ne23
 simp [chAt, kC2, kC1, kC0, chNew, List.findIdx?_cons, h1, h2]
theorem kok0 : ChnOk kC0 := chNew_ok _
theorem kok1 : ChnOk kC1 := kadd1 ▸ chAdd_ok kok0 hd1
theorem kok2 : ChnOk kC2 := kadd2 ▸ chAdd_ok kok1 hd2
theorem kpth : pth kC2 2 = [2, 1, 0] := by
 have e1 : parAt kC2 2 = some 1 := rfl
 have e2 : parAt kC2 1 = some 0 := rfl
 have e3 : parAt kC2 0 = none := rfl
 rw [pth_par kok2 e1, pth_par kok2 e2, pth_root e3]
theorem kbk : bk kC2 8 2 = 1 := by
 have e1 : parAt kC2 2 = some 1 := rfl
 rw [bk_par kok2 e1 (by decide), bk_le (by decide)]
end Go.Proofs.Ythdjhbiigmcecaa
