/- The walk of landmarklaw09.CodecOps. -/
import Derived.Test.YtbpbnnonialelaaOpsApp
import Derived.Test.YtbpbnnonialelaaOpsPlain
import Derived.Test.YtbpbnnonialelaaFreeE
import Derived.Test.YtbpbnnonialelaaRefHdr
import Derived.Test.YtbpbnnonialelaaRefMuch
import Derived.Test.YtbpbnnonialelaaReadPoint
import Derived.Test.YtbpbnnonialelaaKnown09
import Derived.Deep.CutRange
namespace Go.Proofs.Ytbpbnnonialelaa
open Go.RowKit

theorem BytesR.take {w : World} {a : Option Addr} {n c : Nat} {l : List UInt8} (h : BytesR w ⟨a, n, c⟩ l) (k : Nat) (hk : k ≤ l.length) : BytesR w ⟨a, k, c⟩ (l.take k) := by
  obtain ⟨h1, h2, h3⟩ := h
  simp only at h1 h2 h3
  refine ⟨by simp; omega, by simp only; omega, fun hne => ?_⟩
  obtain ⟨b, off, ha, hc⟩ := h3 (by intro e; subst e; simp at hne)
  refine ⟨b, off, ha, fun i hi => ?_⟩
  have hi' : i < l.length := by simp at hi; omega
  rw [hc i hi']
  simp
theorem BytesR.drop {w : World} {b off n c : Nat} {l : List UInt8} (h : BytesR w ⟨some ⟨b, off, none⟩, n, c⟩ l) (k : Nat) (hk : k ≤ l.length) : BytesR w ⟨some ⟨b, off + k, none⟩, n - k, c - k⟩ (l.drop k) := by
  obtain ⟨h1, h2, h3⟩ := h
  simp only at h1 h2 h3
  refine ⟨by simp; omega, by simp only; omega, fun hne => ?_⟩
  obtain ⟨b', off', ha, hc⟩ := h3 (by intro e; subst e; simp at hne)
  injection ha with ha
  injection ha with e1 e2
  subst e1 e2
  refine ⟨b, off + k, rfl, fun i hi => ?_⟩
  have hi' : k + i < l.length := by simp at hi; omega
  rw [Nat.add_assoc, hc (k + i) hi']
  simp
theorem BytesR.empty {w : World} {a : Option Addr} {n c : Nat} {l : List UInt8} (hl : l = []) (hn : n = 0) : BytesR w ⟨a, n, c⟩ l := by
  subst hl hn
  exact BytesR.nil _ _ _
theorem byte_at {w : World} {b off n c : Nat} {l : List UInt8} (h : BytesR w ⟨some ⟨b, off, none⟩, n, c⟩ l) {i : Nat} {v : Value} (hv : (l[i]?).map byteV = some v) : w.cell? ⟨b, off + i, none⟩ = some v ∧ b < w.heap.size := by
  cases hi : l[i]? with
  | none => rw [hi] at hv; cases hv
  | some x =>
    rw [hi, Option.map_some] at hv
    obtain ⟨hlt, hx⟩ := List.getElem?_eq_some_iff.1 hi
    obtain ⟨b', off', ha, hc⟩ := h.2.2 (by intro e; rw [e] at hlt; simp at hlt)
    injection ha with ha
    injection ha with e1 e2
    subst e1 e2
    have h1 := hc i hlt
    rw [hx] at h1
    exact ⟨h1.trans hv, lt_of_cell h1⟩
theorem grs_snoc {w : World} {gs : List GOp} {l : List Op} {go : GOp} {o : Op} (h : ∀ (i : Nat) (h1 : i < gs.length) (h2 : i < l.length), OpR w gs[i] l[i]) (ho : OpR w go o) (hl : gs.length = l.length) :
    ∀ (i : Nat) (h1 : i < (gs ++ [go]).length) (h2 : i < (l ++ [o]).length), OpR w (gs ++ [go])[i] (l ++ [o])[i] := by
  intro i h1 h2
  by_cases hi : i < gs.length
  · rw [List.getElem_append_left hi, List.getElem_append_left (by omega)]
    exact h i hi (by omega)
  · obtain rfl : i = gs.length := by simp at h1; omega
    rw [List.getElem_append_right (Nat.le_refl _), List.getElem_append_right (by omega)]
    simp only [Nat.sub_self, List.getElem_cons_zero, hl]
    exact ho
theorem loneR {w : World} {g : GOp} {o : Op} {b : Nat} (h : OpR w g o) (hr : row? w b 0 36 = some (opA g)) : HdrR w ⟨zeroHash, 0, ⟨some ⟨b, 0, none⟩, 1, 1⟩⟩ (loneH o) :=
  ⟨rfl, rfl, rfl, Nat.le_refl _, fun _ => ⟨b, 0, rfl, fun i hi => by
    obtain rfl : i = 0 := by simp [loneH] at hi; omega
    exact ⟨opA g, by simpa using hr, g, rfl, h⟩⟩⟩

set_option maxRecDepth 100000 in
set_option maxHeartbeats 1600000 in
theorem ops_walk (g : GHeader) (h : Hdr) (go : GOp) (o : Op) (w : World) (hh : HdrR w g h) (ho : OpR w go o) :
    Calls Try.prog 5 #[.agg (headerA g), .agg (opA go)] w fun e w' => e = .returned (.bool true) ∧ Below w.heap.size w w' := by
  have HCh := fun W hW => fmuch_c g h W hW
  have HCo := fun W b hW => fmuch_c ⟨zeroHash, 0, ⟨some ⟨b, 0, none⟩, 1, 1⟩⟩ (loneH o) W hW
  have hb1 := Lib.hid (show hdMuch h = false → _ from fun e => hdMuch_out e)
  have hb2 := Lib.hid (show hdMuch (loneH o) = false → _ from fun e => hdMuch_out e)
  generalize hdMuch h = m1 at *
  generalize hdMuch (loneH o) = m2 at *
  have hrow1 : row? ((w.alloc (.cells (headerA g) 51)).alloc (.cells (opA go) 54)) w.heap.size 0 34 = some (headerA g) := by rw [row?_old _ _ _ _ _ (by simp), row?_new]; simp
  have hrow2 : row? ((w.alloc (.cells (headerA g) 51)).alloc (.cells (opA go) 54)) (w.heap.size + 1) 0 36 = some (opA go) := by rw [row?_new_at _ _ _ _ _ _ (by simp)]; simp
  have hB0 : Below w.heap.size w ((w.alloc (.cells (headerA g) 51)).alloc (.cells (opA go) 54)) := by (repeat' (first | (with_reducible exact Below.refl _ _) | (with_reducible assumption) | (with_reducible refine bel_trans (by assumption) ?_ ?_) | (with_reducible refine bel_grown (by assumption) ?_ ?_ ?_) | (with_reducible refine Below.alloc ?_ ?_ _) | (with_reducible refine Below.drew ?_) | (with_reducible refine below_drewN ?_ _) | (with_reducible refine Below.setCell ?_ ?_ _) | (with_reducible refine below_put ?_ ?_ _ _) | (with_reducible exact Nat.le_refl _) | omega | (with_reducible refine Nat.le_trans ?_ (Below.size (by assumption))) | (with_reducible refine Nat.le_trans ?_ (World.grownBy.size (by assumption))) | (simp only [World.size_alloc, World.size_setCell, World.size_drew, size_drewN]; omega) | (simp only [World.size_alloc, World.size_setCell, World.size_drew, size_drewN, size_put]; omega) | (intro k hk; simp [Value.ownBlock] at hk; done) | (intro k hk; simp [Value.ownBlock] at hk; omega) | (simp [size_drewN] at *; omega)))
  have hz0 : w.heap.size + 2 ≤ ((w.alloc (.cells (headerA g) 51)).alloc (.cells (opA go) 54)).heap.size := by simp
  go_enter Try.func5, Try.ntmps5
  go_upto_region 1 with fail
  generalize (w.alloc (.cells (headerA g) 51)).alloc (.cells (opA go) 54) = w1 at *
  have hh1 := hh.keep' hB0
  have ho1 := ho.keep' hB0
  have Hh := Lib.hid hh1
  have Ho := Lib.hid ho1
  have HB0 := Lib.hid hB0
  clear hh ho hh1 ho1 hB0
  go_wp2_with fail
  refine (HCh _ Hh.out).mono ?_
  clear HCh
  rintro e w2 ⟨rfl, hb⟩
  have hz2 := hb.size
  have r1 := (row?_below _ _ _ hb (by omega)).trans hrow1
  have r2 := (row?_below _ _ _ hb (by omega)).trans hrow2
  have Hh2 := Lib.hid (Hh.out.keep' hb)
  have Ho2 := Lib.hid (Ho.out.keep' hb)
  have HB2 := Lib.hid (HB0.out.trans (hb.mono (by omega)))
  clear hb Hh Ho HB0 hrow1 hrow2
  cases m1
  rotate_left
  · go_wp2_with (go_at_call 24; (with_reducible refine (known09_c _).mono ?_); rintro e W4 ⟨rfl, hb4⟩)
    go_ret
    exact ⟨rfl, HB2.out.trans (hb4.mono (by omega))⟩
  obtain ⟨hl1, hl2⟩ := hb1.out rfl
  clear hb1
  go_wp2_with fail
  have hbl := bel_a w2 (.cells (opA go) 54)
  have hrl : row? (w2.alloc (.cells (opA go) 54)) w2.heap.size 0 36 = some (opA go) := by rw [row?_new]; simp
  have hzl : w2.heap.size < (w2.alloc (.cells (opA go) 54)).heap.size := by simp
  generalize w2.alloc (.cells (opA go) 54) = wl at *
  refine (HCo _ _ (loneR (Ho2.out.keep' hbl) hrl)).mono ?_
  clear HCo
  rintro e w3 ⟨rfl, hb⟩
  have hz3 := hb.size
  have hb3 := hbl.trans (hb.mono (by omega))
  have r1 := (row?_below _ _ _ hb3 (by omega)).trans r1
  have r2 := (row?_below _ _ _ hb3 (by omega)).trans r2
  have Hh3 := Lib.hid (Hh2.out.keep' hb3)
  have Ho3 := Lib.hid (Ho2.out.keep' hb3)
  have HB3 := Lib.hid (HB2.out.trans (hb3.mono (by omega)))
  clear hb hb3 hbl hrl Hh2 Ho2 HB2
  cases m2
  rotate_left
  · go_wp2_with (go_at_call 24; (with_reducible refine (known09_c _).mono ?_); rintro e W4 ⟨rfl, hb4⟩)
    go_ret
    exact ⟨rfl, HB3.out.trans (hb4.mono (by omega))⟩
  obtain ⟨_, hl3⟩ := hb2.out rfl
  clear hb2
  have hn := Hh3.out.2.2.1
  have hlo := hl3 o (by simp [loneH])
  obtain ⟨gp, ge, ⟨oa, on, oc⟩⟩ := g
  simp only at hn
  subst hn
  go_upto_region 4 with fail
  have rm : row? (putRow (w3.alloc (.cells (headerA ⟨zeroHash, 0, ⟨none, 0, 0⟩⟩) 51)) w3.heap.size 0 (headerA ⟨gp, ge, ⟨oa, h.ops.length, oc⟩⟩)) w3.heap.size 0 34 = some (headerA ⟨gp, ge, ⟨oa, h.ops.length, oc⟩⟩) := by go_simp
  have tm : there (putRow (w3.alloc (.cells (headerA ⟨zeroHash, 0, ⟨none, 0, 0⟩⟩) 51)) w3.heap.size 0 (headerA ⟨gp, ge, ⟨oa, h.ops.length, oc⟩⟩)) w3.heap.size 0 34 := there_put _ _ _ _ _ _ _ (there_new _ _ _ _ _ (by simp))
  have hb34 : Below w3.heap.size w3 (putRow (w3.alloc (.cells (headerA ⟨zeroHash, 0, ⟨none, 0, 0⟩⟩) 51)) w3.heap.size 0 (headerA ⟨gp, ge, ⟨oa, h.ops.length, oc⟩⟩)) := by (repeat' (first | (with_reducible exact Below.refl _ _) | (with_reducible assumption) | (with_reducible refine bel_trans (by assumption) ?_ ?_) | (with_reducible refine bel_grown (by assumption) ?_ ?_ ?_) | (with_reducible refine Below.alloc ?_ ?_ _) | (with_reducible refine Below.drew ?_) | (with_reducible refine below_drewN ?_ _) | (with_reducible refine Below.setCell ?_ ?_ _) | (with_reducible refine below_put ?_ ?_ _ _) | (with_reducible exact Nat.le_refl _) | omega | (with_reducible refine Nat.le_trans ?_ (Below.size (by assumption))) | (with_reducible refine Nat.le_trans ?_ (World.grownBy.size (by assumption))) | (simp only [World.size_alloc, World.size_setCell, World.size_drew, size_drewN]; omega) | (simp only [World.size_alloc, World.size_setCell, World.size_drew, size_drewN, size_put]; omega) | (intro k hk; simp [Value.ownBlock] at hk; done) | (intro k hk; simp [Value.ownBlock] at hk; omega) | (simp [size_drewN] at *; omega)))
  have hz4 : w3.heap.size < (putRow (w3.alloc (.cells (headerA ⟨zeroHash, 0, ⟨none, 0, 0⟩⟩) 51)) w3.heap.size 0 (headerA ⟨gp, ge, ⟨oa, h.ops.length, oc⟩⟩)).heap.size := by simp [size_put]
  generalize putRow (w3.alloc (.cells (headerA ⟨zeroHash, 0, ⟨none, 0, 0⟩⟩) 51)) w3.heap.size 0 (headerA ⟨gp, ge, ⟨oa, h.ops.length, oc⟩⟩) = w4 at *
  have r1 := (row?_below _ _ _ hb34 (by omega)).trans r1
  have r2 := (row?_below _ _ _ hb34 (by omega)).trans r2
  obtain ⟨_, c33⟩ := headerA_cells r1
  dsimp only [Sl.v] at c33
  have Hh4 := Lib.hid (Hh3.out.keep' hb34)
  have Ho4 := Lib.hid (Ho3.out.keep' hb34)
  have HB4 := Lib.hid (HB3.out.trans (hb34.mono (by omega)))
  have Rm := Lib.hid rm
  have Tm := Lib.hid tm
  have Rh := Lib.hid r1
  have Ro := Lib.hid r2
  have hza : w.heap.size < w4.heap.size := by omega
  have hzb : w.heap.size + 1 < w4.heap.size := by omega
  obtain ⟨gs, hgl, hgr, hgc⟩ := ops_rows Hh3.out.2.2
  have Src4 := Lib.hid (show ∀ W, Below w4.heap.size w4 W → Src Try.prog 36 49 (.slice oa h.ops.length oc) gs.length (opCells gs) W from fun W hW => ops_src (s := ⟨oa, h.ops.length, oc⟩) Try.underlying49 rfl hgl (fun hne => by
    obtain ⟨b, off, ha, hc⟩ := hgc hne
    exact ⟨b, off, ha, fun i hi => (row?_below _ _ _ (hb34.trans (hW.mono (Nat.le_of_lt hz4))) (lt_of_row (hc i hi))).trans (hc i hi)⟩))
  have Hgr := Lib.hid hgr
  obtain ⟨i0, hi, hy0, hy1, hy2⟩ := info_parts info_op
  have Hb34 := Lib.hid hb34
  clear hgr hgc rm tm hb34 r1 r2 Hh4 Ho4 HB4
  refine wp_region_freeE_l (fun i j => !(j == 5 && (i == 2 || i == 4))) (fun i W W' => if i = 5 then Below w4.heap.size W W' else Below W.heap.size W W') (by kernel_rfl) [20, 21, 22, 23, 24, 25, 26]
    [Is (.pointer (some ⟨w.heap.size, 33, none⟩)), Is (.slice oa h.ops.length oc), OwnO w4.heap.size gs, Is (.agg (opA go)), LitO w4.heap.size go, OwnO w4.heap.size (gs ++ [go]), Is (.pointer (some ⟨w3.heap.size, 33, none⟩))]
    (by kernel_rfl) (fun i W W' h hb => by (split at h <;> first | exact hb.trans h | exact hb.trans (h.mono hb.size))) ?_ ?_
  · intro i j hi hij hlv x W W' h hr
    have hi : i < 7 := hi
    try dsimp only at hlv hr
    have hi : i = 0 ∨ i = 1 ∨ i = 2 ∨ i = 3 ∨ i = 4 ∨ i = 5 ∨ i = 6 := by omega
    rcases hi with rfl | rfl | rfl | rfl | rfl | rfl | rfl <;> first | exact h | (have hj : j ≠ 5 := by first | (intro e; subst e; simp at hlv; done) | (exact fun e => hij e.symm)) <;> (rw [if_neg hj] at hr; first | exact OwnO.keep h hr | exact LitO.keep h hr)
  · refine ⟨?_, ?_, ?_, ?_, ?_, ?_, ?_, ?_⟩
    · intro L ax W hf hL hd
      try simp [Region.binds] at hd
      have e2 : ax.tmps[2]?.getD undef = .pointer (some ⟨w.heap.size, 0, none⟩) := hf.out 2 (by decide) rfl
      refine ⟨fun _ => ?_, fun h => absurd trivial h⟩
      refine free_run (v := .pointer (some ⟨w.heap.size, 33, none⟩)) (W' := W) rfl ?_ rfl (Below.refl _ _)
      go_simp
    · intro L ax W hf hL hd
      simp [Region.binds] at hd
      have e20 : ax.tmps[20]?.getD undef = .pointer (some ⟨w.heap.size, 33, none⟩) := slv (hf.got 0 (by decide) (by simp [hd]) (fun j _ => by simp))
      refine ⟨fun _ => ?_, fun h => absurd trivial h⟩
      have h1 : W.cell? ⟨w.heap.size, 33, none⟩ = some (.slice oa h.ops.length oc) := (hf.below.cell (p := ⟨w.heap.size, 33, none⟩) hza).trans c33
      refine free_run (v := .slice oa h.ops.length oc) (W' := W) rfl ?_ rfl (Below.refl _ _)
      go_simp
    · intro L ax W hf hL hd
      simp [Region.binds] at hd
      have e21 : ax.tmps[21]?.getD undef = .slice oa h.ops.length oc := slv (hf.got 1 (by decide) (by simp [hd]) (fun j _ => by simp))
      refine ⟨fun _ => ?_, fun h => absurd trivial h⟩
      refine wp_append_ownC W (.const _) (.tmp 21) _ _ (by rfl) w4.heap.size 54 i0 _ 36 80 Try.underlying49 hi hy0 hy1 hy2 (by simp [Value.cells]) _ 0 [] rfl (OwnC.nil _ _ _) (.slice oa h.ops.length oc) gs.length (opCells gs) (by simp [Act.eval, e21]) (Src4.out _ hf.below) (by simp only [maxLen]; omega) (by omega) hf.below.size ?_
      intro v' W' ho hg _
      refine ⟨v', rfl, ?_, ?_⟩
      · unfold OwnO
        simpa using ho
      · show Below W.heap.size W W'
        exact bel_grown hg (Below.refl _ _) (Nat.le_refl _) (fun k hk => by cases hk)
    · intro L ax W hf hL hd
      try simp [Region.binds] at hd
      have e3 : ax.tmps[3]?.getD undef = .pointer (some ⟨w.heap.size + 1, 0, none⟩) := hf.out 3 (by decide) rfl
      refine ⟨fun _ => ?_, fun h => absurd trivial h⟩
      have h1 : row? W (w.heap.size + 1) 0 36 = some (opA go) := (row?_below _ _ _ hf.below hzb).trans Ro.out
      refine free_run (v := .agg (opA go)) (W' := W) rfl ?_ rfl (Below.refl _ _)
      go_simp
    · intro L ax W hf hL hd
      simp [Region.binds] at hd
      have e23 : ax.tmps[23]?.getD undef = .agg (opA go) := slv (hf.got 3 (by decide) (by simp [hd]) (fun j _ => by simp))
      refine ⟨fun _ => ?_, fun h => absurd trivial h⟩
      refine free_run (v := .slice (some ⟨W.heap.size, 0, none⟩) 1 1) (W' := W.alloc (.cells (opA go) 54)) rfl ?_ ⟨W.heap.size, rfl, hf.below.size, by rw [row?_new]; simp⟩ (bel_a _ _)
      go_simp
    · intro L ax W hf hL hd
      simp [Region.binds] at hd
      have f22 : OwnO w4.heap.size gs (sl ax 22) W := hf.got 2 (by decide) (by simp [hd]) (fun j hj => by by_cases e : j = 5 <;> first | (subst e; rw [hL] at hj; cases hj; done) | (simp [e]; done))
      have f24 : LitO w4.heap.size go (sl ax 24) W := hf.got 4 (by decide) (by simp [hd]) (fun j hj => by by_cases e : j = 5 <;> first | (subst e; rw [hL] at hj; cases hj; done) | (simp [e]; done))
      refine ⟨fun _ => ?_, fun h => absurd trivial h⟩
      obtain ⟨bl, e24, hbl, hrl⟩ := f24
      have e24 := slv e24
      have hs := f22.slice
      obtain ⟨s2, e22⟩ := hs
      rw [e22] at f22
      have e22 := slv e22
      refine wp_append_ownC W (.tmp 22) (.tmp 24) _ _ (by rfl) w4.heap.size 54 i0 _ 36 80 Try.underlying49 hi hy0 hy1 hy2 (by simp [Value.cells]) _ gs.length (opCells gs) (by simp [Act.eval, e22]) f22 (.slice (some ⟨bl, 0, none⟩) 1 1) 1 (opCells [go]) (by simp [Act.eval, e24]) (LitO.src Try.underlying49 hrl) (by simp only [maxLen]; omega) (by omega) hf.below.size ?_
      intro v' W' ho hg _
      refine ⟨v', rfl, ?_, ?_⟩
      · unfold OwnO
        rw [opCells_append, List.length_append]
        exact ho
      · show Below w4.heap.size W W'
        exact bel_grown hg (Below.refl _ _) hf.below.size (fun k hk => (OwnC.lt f22 k hk).1)
    · intro L ax W hf hL hd
      try simp [Region.binds] at hd
      have e5 : ax.tmps[5]?.getD undef = .pointer (some ⟨w3.heap.size, 0, none⟩) := hf.out 5 (by decide) rfl
      refine ⟨fun _ => ?_, fun h => absurd trivial h⟩
      refine free_run (v := .pointer (some ⟨w3.heap.size, 33, none⟩)) (W' := W) rfl ?_ rfl (Below.refl _ _)
      go_simp
    · intro vs W hl' hF hb
      match vs, hl' with
      | [v0, v1, v2, v3, v4, v5, v6], _ =>
        have ho5 : OwnO w4.heap.size (gs ++ [go]) v5 W := hF 5 (by simp) (fun j => by simp)
        obtain rfl : v6 = .pointer (some ⟨w3.heap.size, 33, none⟩) := hF 6 (by simp) (fun j => by simp)
        obtain ⟨s5, rfl⟩ := ho5.slice
        have hb3W := Hb34.out.trans (hb.mono (Nat.le_of_lt hz4))
        have hsn := (own_ops_at (l := h.ops ++ [o]) ho5 (by simp [hgl]) (grs_snoc (fun i h1 h2 => (Hgr.out i h1 h2).keep' hb3W) (Ho3.out.keep' hb3W) hgl)).1
        have hrm := (row?_below _ _ _ hb hz4).trans Rm.out
        have htm := there_below hb hz4 Tm.out
        have hzW := hb.size
        have r1 := (row?_below _ _ _ hb hza).trans Rh.out
        have r2 := (row?_below _ _ _ hb hzb).trans Ro.out
        obtain ⟨_, hcm⟩ := headerA_cells hrm
        have hfm := (htm 33 (by omega)).2
        simp only [Nat.zero_add] at hfm
        have Ho5 := Lib.hid ho5
        have HB3W := Lib.hid hb3W
        clear hF hb ho5 hb3W htm
        obtain ⟨sa5, sn5, sc5⟩ := s5
        simp only [List.length_append, List.length_cons, List.length_nil, Nat.zero_add] at hsn
        subst hsn
        dsimp only [Sl.v] at hcm ⊢
        simp only [List.length_cons, List.length_nil, putL, List.zip_cons_cons, List.zip_nil_right, List.setIfInBounds_toArray, List.set_cons_succ, List.set_cons_zero]
        go_upto_region 5 with fail
        have hw5 : ∀ k, k ≠ w3.heap.size → (W.setCell ⟨w3.heap.size, 33, none⟩ (.slice sa5 (h.ops.length + 1) sc5)).heap[k]? = W.heap[k]? := fun k hk => Below.heap_setCell _ _ _ k hk
        have hb35 : Below w3.heap.size w3 (W.setCell ⟨w3.heap.size, 33, none⟩ (.slice sa5 (h.ops.length + 1) sc5)) := HB3W.out.setCell (Nat.le_refl _) _
        have q1 : row? (W.setCell ⟨w3.heap.size, 33, none⟩ (.slice sa5 (h.ops.length + 1) sc5)) w.heap.size 0 34 = some (headerA ⟨gp, ge, ⟨oa, h.ops.length, oc⟩⟩) := (row?_far _ _ _ _ _ _ (by simp only; omega)).trans r1
        have q2 : row? (W.setCell ⟨w3.heap.size, 33, none⟩ (.slice sa5 (h.ops.length + 1) sc5)) (w.heap.size + 1) 0 36 = some (opA go) := (row?_far _ _ _ _ _ _ (by simp only; omega)).trans r2
        have q3 : row? (W.setCell ⟨w3.heap.size, 33, none⟩ (.slice sa5 (h.ops.length + 1) sc5)) w3.heap.size 0 34 = some (headerA ⟨gp, ge, ⟨sa5, h.ops.length + 1, sc5⟩⟩) := by go_simp
        have hown5 : OwnO w4.heap.size (gs ++ [go]) (.slice sa5 (h.ops.length + 1) sc5) (W.setCell ⟨w3.heap.size, 33, none⟩ (.slice sa5 (h.ops.length + 1) sc5)) := OwnC.keepG Ho5.out (grown_set _ _ _ _) (.inr (fun e => by have := (OwnC.lt Ho5.out _ e).1; omega))
        have hz5 : (W.setCell ⟨w3.heap.size, 33, none⟩ (.slice sa5 (h.ops.length + 1) sc5)).heap.size = W.heap.size := by simp
        generalize W.setCell ⟨w3.heap.size, 33, none⟩ (.slice sa5 (h.ops.length + 1) sc5) = w5 at *
        have Hh5 := Lib.hid (Hh3.out.keep' hb35)
        have Ho5' := Lib.hid (Ho3.out.keep' hb35)
        have hos5 := (own_ops_at (s := ⟨sa5, h.ops.length + 1, sc5⟩) (l := h.ops ++ [o]) hown5 (by simp [hgl]) (grs_snoc (fun i h1 h2 => (Hgr.out i h1 h2).keep' hb35) Ho5'.out hgl)).2
        have Hm5 := Lib.hid (show HdrR w5 ⟨gp, ge, ⟨sa5, h.ops.length + 1, sc5⟩⟩ (moreH h o) from ⟨Hh5.out.1, Hh5.out.2.1, hos5⟩)
        have HB5 := Lib.hid (HB3.out.trans (hb35.mono (by omega)))
        have hzw5 : w3.heap.size < w5.heap.size := by omega
        clear hw5 hb35 hown5 hos5 r1 r2 hrm hcm hfm Ho5 HB3W Hgr Src4 Rm Tm Rh Ro Hh3 Ho3 HB3 Hb34 c33 hi hy0 hy1 hy2
        have hfh : HdrFits h := ⟨by omega, fun x hx => ⟨by have := (hl2 x hx).1; omega, fun v hv => by have := (hl2 x hx).2 v hv; omega⟩⟩
        have hfm : HdrFits (moreH h o) := ⟨by simp [moreH]; omega, fun x hx => by
          rcases List.mem_append.1 (show x ∈ h.ops ++ [o] from hx) with hx | hx
          · exact hfh.2 x hx
          · obtain rfl : x = o := by simpa using hx
            exact ⟨by have := hlo.1; omega, fun v hv => by have := hlo.2 v hv; omega⟩⟩
        have HCa := fun W hW => headerBytes_c ⟨gp, ge, ⟨oa, h.ops.length, oc⟩⟩ h W hW hfh
        have HCb := fun W hW => headerBytes_c ⟨gp, ge, ⟨sa5, h.ops.length + 1, sc5⟩⟩ (moreH h o) W hW hfm
        have hno : hdrMay h = true → hdrMay (moreH h o) = false → opMay o = true → h.ops.length = 16 := more_no
        have hyes : hdrMay (moreH h o) = true → h.ops.length ≤ 15 ∧ opMay o = true := more_may
        generalize hdrMay h = m1 at *
        generalize hdrMay (moreH h o) = m2 at *
        clear hfh hfm hl2 hlo hl3
        go_wp2_with fail
        refine (HCa _ Hh5.out).mono ?_
        clear HCa
        rintro e w6 ⟨s1, rfl, h1, hb6⟩
        have hz6 := hb6.size
        have q1 := (row?_below _ _ _ hb6 (by omega)).trans q1
        have q2 := (row?_below _ _ _ hb6 (by omega)).trans q2
        have q3 := (row?_below _ _ _ hb6 (by omega)).trans q3
        have Hm6 := Lib.hid (Hm5.out.keep' hb6)
        have Hh6 := Lib.hid (Hh5.out.keep' hb6)
        have Ho6 := Lib.hid (Ho5'.out.keep' hb6)
        have HB6 := Lib.hid (HB5.out.trans (hb6.mono (by omega)))
        have H1 := Lib.hid h1
        clear hb6 Hm5 Hh5 Ho5' HB5 h1
        go_wp2_with fail
        refine (HCb _ Hm6.out).mono ?_
        clear HCb
        rintro e w7 ⟨s2, rfl, h2, hb7⟩
        have hz7 := hb7.size
        have q1 := (row?_below _ _ _ hb7 (by omega)).trans q1
        have q2 := (row?_below _ _ _ hb7 (by omega)).trans q2
        have Ho7 := Lib.hid (Ho6.out.keep' hb7)
        have HB7 := Lib.hid (HB6.out.trans (hb7.mono (by omega)))
        have H1 := Lib.hid (H1.out.keep hb7)
        have H2 := Lib.hid h2
        clear hb7 Hm6 Hh6 Ho6 HB6 h2 q3
        cases m1
        · simp only [show noErr false = 2 from rfl]
          go_wp2_with (first
            | (go_at_call 26; (with_reducible refine (num09_c _ _).mono ?_); rintro e w11 ⟨rfl, rfl⟩)
            | (go_at_call 24; (with_reducible refine (known09_c _).mono ?_); rintro e W4 ⟨rfl, hb4⟩))
          go_ret
          exact ⟨rfl, HB7.out.trans (hb4.mono (by omega))⟩
        cases m2
        · simp only [show noErr false = 2 from rfl, show noErr true = 0 from rfl]
          have hno' := hno rfl rfl
          have HM := fun W hW => fmayOp_c go o W hW
          obtain ⟨_, c33⟩ := headerA_cells q1
          dsimp only [Sl.v] at c33
          have hc16 : opMay o = true → decide ((h.ops.length : Int) = 16) = true := fun e => decide_eq_true (by have := hno' e; omega)
          generalize opMay o = mo at *
          clear hno hyes hno'
          cases mo
          · go_wp2_with (first
              | (go_at_call 26; (with_reducible refine (num09_c _ _).mono ?_); rintro e w11 ⟨rfl, rfl⟩)
              | (go_at_call 27; (with_reducible refine (HM _ Ho7.out).mono ?_); rintro e W3 ⟨rfl, hb3⟩)
              | (go_at_call 24; (with_reducible refine (known09_c _).mono ?_); rintro e W4 ⟨rfl, hb4⟩))
            go_ret
            exact ⟨rfl, HB7.out.trans ((hb3.trans (hb4.mono hb3.size)).mono (by omega))⟩
          · have hc16 := hc16 rfl
            have hc16' : ((h.ops.length : Int) == 16) = true := hc16
            go_wp2_with (first
              | (go_at_call 26; (with_reducible refine (num09_c _ _).mono ?_); rintro e w11 ⟨rfl, rfl⟩)
              | (go_at_call 27; (with_reducible refine (HM _ Ho7.out).mono ?_); rintro e W3 ⟨rfl, hb3⟩; obtain ⟨k1, k2, k3⟩ := kept hb3; have c33 := (k1 _ _ (by omega)).trans c33)
              | (go_at_call 24; (with_reducible refine (known09_c _).mono ?_); rintro e W4 ⟨rfl, hb4⟩))
            go_ret
            exact ⟨rfl, HB7.out.trans ((hb3.trans (hb4.mono hb3.size)).mono (by omega))⟩
        obtain ⟨h15, hmo⟩ := hyes rfl
        clear hno hyes
        obtain ⟨k, hk, h41, hlt, ha40, hb40, ht40, hmid, hx⟩ := more_bytes h o h15
        simp only [show noErr true = 0 from rfl, show ∀ l, orNo true l = l from fun _ => rfl] at *
        generalize hdBytes h = A at *
        generalize hdBytes (moreH h o) = B at *
        obtain ⟨ba, oa2, e1, hal, hcl1⟩ := H1.out.at (by omega)
        obtain ⟨bb, ob, e2, hbl, hcl2⟩ := H2.out.at (by omega)
        obtain ⟨x1, x2, ca⟩ := s1
        obtain ⟨y1, y2, cb⟩ := s2
        injection e1 with e1 e1n _
        injection e2 with e2 e2n _
        subst e1 e1n e2 e2n
        have hca := H1.out.2.1
        have hcb := H2.out.2.1
        simp only at hca hcb
        obtain ⟨cA, _⟩ := byte_at H1.out ha40
        obtain ⟨cB, _⟩ := byte_at H2.out hb40
        have hq1 : (B.take 40 == A.take 40) = true := beq_iff_eq.2 ht40
        have HA := H1
        have HB := H2
        clear H1 H2 ha40 hb40 ht40 hcl1 hcl2
        generalize hla : A.length = la at *
        generalize hlb : B.length = lb at *
        have hq2 : ((B.drop 41).take (la - 41) == A.drop 41) = true := beq_iff_eq.2 hmid
        have d1 : decide ((lb : Int) ≤ (la : Int)) = false := decide_eq_false (by omega)
        have d2 : decide ((la : Int) < 41) = false := decide_eq_false (by omega)
        have i1 : (40 : Int) < (lb : Int) := by omega
        have i2 : (40 : Int) < (la : Int) := by omega
        have i3 : (40 : Int) ≤ (cb : Int) := by omega
        have i4 : (40 : Int) ≤ (ca : Int) := by omega
        have i5 : (41 : Int) ≤ (la : Int) := by omega
        have i6 : (la : Int) ≤ (cb : Int) := by omega
        have i7 : (41 : Int) ≤ (lb : Int) := by omega
        have i8 : (la : Int) ≤ (lb : Int) := by omega
        have n1 : ¬ cb = 41 := by omega
        have n2 : ¬ cb = la := by omega
        have kk : ((k : Int) + 1 != (k : Int) + 1) = false := by simp
        have hw1 : IntKind.i64.wrap ((k : Int) + 1) = (k : Int) + 1 := IntWalk.i64_in _ (by omega)
        have hw0 : IntKind.i64.wrap (k : Int) = (k : Int) := IntWalk.i64_in _ (by omega)
        have hd0 : ca = 41 → A.drop 41 = [] := fun e => by rw [List.drop_eq_nil_iff]; omega
        have hn0 : ca = 41 → la - 41 = 0 := fun e => by omega
        have hA41 : 41 ≤ A.length := by omega
        have Ro := Lib.hid q2
        have hzo : w.heap.size + 1 < w7.heap.size := by omega
        have Ho := Ho7
        dsimp only [Sl.v]
        clear hmid Ho7 q1 q2
        go_upto_region 11 with (go_at_call 26; (with_reducible refine (num09_c _ _).mono ?_); rintro e w11 ⟨rfl, rfl⟩)
        refine wp_region_freeG_l (fun W W' => Below W.heap.size W W') (by kernel_rfl) [56, 57, 58, 59, 60, 61, 62, 63, 64, 65, 66, 67, 68, 69, 70, 71, 72, 73, 74, 75, 76, 77, 78, 79, 80, 81, 82, 83, 84, 85, 86, 87, 88, 89, 90, 91, 92, 93, 94, 95, 96, 97]
          [Is (.slice (some ⟨bb, ob, none⟩) lb cb), Is (.int .i64 (lb : Int)), Is (.slice (some ⟨ba, oa2, none⟩) la ca), Is (.int .i64 (la : Int)), Is (.bool false), Is (.bool false), Is (.slice (some ⟨ba, oa2, none⟩) la ca), Is (.int .i64 (la : Int)), Is (.bool false), Is (.bool false), Is (.bool false), Is (.slice (some ⟨bb, ob, none⟩) lb cb), Is (.pointer (some ⟨bb, ob + 40, none⟩)), Is (.int .u8 ((k : Int) + 1)), Is (.int .i64 ((k : Int) + 1)), Is (.slice (some ⟨ba, oa2, none⟩) la ca), Is (.pointer (some ⟨ba, oa2 + 40, none⟩)), Is (.int .u8 (k : Int)), Is (.int .i64 (k : Int)), Is (.int .i64 ((k : Int) + 1)), Is (.bool false), Is (.bool false), Is (.bool false), Is (.slice (some ⟨bb, ob, none⟩) lb cb), Is (.slice (some ⟨bb, ob, none⟩) 40 cb), Is (.string ⟨(B.take 40).toArray⟩), Is (.slice (some ⟨ba, oa2, none⟩) la ca), Is (.slice (some ⟨ba, oa2, none⟩) 40 ca), Is (.string ⟨(A.take 40).toArray⟩), Is (.bool false), Is (.bool false), Is (.bool false), Is (.slice (some ⟨bb, ob, none⟩) lb cb), Is (.slice (some ⟨ba, oa2, none⟩) la ca), Is (.int .i64 (la : Int)), IsB ((B.drop 41).take (la - 41)), Is (.string ⟨((B.drop 41).take (la - 41)).toArray⟩), Is (.slice (some ⟨ba, oa2, none⟩) la ca), IsB (A.drop 41), Is (.string ⟨(A.drop 41).toArray⟩), Is (.bool false), Is (.bool false)]
          (by kernel_rfl) (fun W W' h hb => hb.trans (h.mono hb.size)) ?_ ?_ ?_
        · intro f hf
          simp only [List.mem_cons, List.not_mem_nil, or_false] at hf
          rcases hf with rfl | rfl | rfl | rfl | rfl | rfl | rfl | rfl | rfl | rfl | rfl | rfl | rfl | rfl | rfl | rfl | rfl | rfl | rfl | rfl | rfl | rfl | rfl | rfl | rfl | rfl | rfl | rfl | rfl | rfl | rfl | rfl | rfl | rfl | rfl | rfl | rfl | rfl | rfl | rfl | rfl | rfl <;> intro x W W' h hr <;> first | exact h | exact IsB.keepB h hr
        · refine ⟨?_, ?_, ?_, ?_, ?_, ?_, ?_, ?_, ?_, ?_, ?_, ?_, ?_, ?_, ?_, ?_, ?_, ?_, ?_, ?_, ?_, ?_, ?_, ?_, ?_, ?_, ?_, ?_, ?_, ?_, ?_, ?_, ?_, ?_, ?_, ?_, ?_, ?_, ?_, ?_, ?_, ?_, trivial⟩
          · intro L ax W hf hd
            try simp [Region.binds] at hd
            have e8 : ax.tmps[8]?.getD undef = .slice (some ⟨bb, ob, none⟩) lb cb := hf.out 8 (by decide) rfl
            refine ⟨fun _ => ?_, fun h => absurd trivial h⟩
            refine free_run (v := .slice (some ⟨bb, ob, none⟩) lb cb) (W' := W) rfl ?_ rfl (Below.refl _ _)
            go_simp
          · intro L ax W hf hd
            simp [Region.binds] at hd
            have e56 : ax.tmps[56]?.getD undef = .slice (some ⟨bb, ob, none⟩) lb cb := slv (hf.got 0 (by decide) (by simp [hd]))
            refine ⟨fun _ => ?_, fun h => absurd trivial h⟩
            refine free_run (v := .int .i64 (lb : Int)) (W' := W) rfl ?_ rfl (Below.refl _ _)
            go_simp
          · intro L ax W hf hd
            try simp [Region.binds] at hd
            have e6 : ax.tmps[6]?.getD undef = .slice (some ⟨ba, oa2, none⟩) la ca := hf.out 6 (by decide) rfl
            refine ⟨fun _ => ?_, fun h => absurd trivial h⟩
            refine free_run (v := .slice (some ⟨ba, oa2, none⟩) la ca) (W' := W) rfl ?_ rfl (Below.refl _ _)
            go_simp
          · intro L ax W hf hd
            simp [Region.binds] at hd
            have e58 : ax.tmps[58]?.getD undef = .slice (some ⟨ba, oa2, none⟩) la ca := slv (hf.got 2 (by decide) (by simp [hd]))
            refine ⟨fun _ => ?_, fun h => absurd trivial h⟩
            refine free_run (v := .int .i64 (la : Int)) (W' := W) rfl ?_ rfl (Below.refl _ _)
            go_simp
          · intro L ax W hf hd
            simp [Region.binds] at hd
            have e57 : ax.tmps[57]?.getD undef = .int .i64 (lb : Int) := slv (hf.got 1 (by decide) (by simp [hd]))
            have e59 : ax.tmps[59]?.getD undef = .int .i64 (la : Int) := slv (hf.got 3 (by decide) (by simp [hd]))
            refine ⟨fun _ => ?_, fun h => absurd trivial h⟩
            refine free_run (v := .bool false) (W' := W) rfl ?_ rfl (Below.refl _ _)
            go_simp
          · intro L ax W hf hd
            simp [Region.binds] at hd
            have e60 : ax.tmps[60]?.getD undef = .bool false := slv (hf.got 4 (by decide) (by simp [hd]))
            refine ⟨fun _ => ?_, fun h => absurd trivial h⟩
            refine free_run (v := .bool false) (W' := W) rfl ?_ rfl (Below.refl _ _)
            go_simp
          · intro L ax W hf hd
            simp [Region.binds] at hd
            have e6 : ax.tmps[6]?.getD undef = .slice (some ⟨ba, oa2, none⟩) la ca := hf.out 6 (by decide) rfl
            have g0 : sl ax 61 = .bool false := hf.got 5 (by decide) (by simp [hd])
            refine ⟨fun hh => ?_, fun hh => ?_⟩
            · first
                | (exfalso; revert hh; simp [Held, g0, *]; done)
                | (refine free_run (v := .slice (some ⟨ba, oa2, none⟩) la ca) (W' := W) rfl ?_ rfl (Below.refl _ _); go_simp)
            · first
                | (exfalso; revert hh; simp [Held, g0, *]; done)
                | (show undef = _; first | rfl | (simp [*]; done))
          · intro L ax W hf hd
            simp [Region.binds] at hd
            have e62 : ax.tmps[62]?.getD undef = .slice (some ⟨ba, oa2, none⟩) la ca := slv (hf.got 6 (by decide) (by simp [hd]))
            have g0 : sl ax 61 = .bool false := hf.got 5 (by decide) (by simp [hd])
            refine ⟨fun hh => ?_, fun hh => ?_⟩
            · first
                | (exfalso; revert hh; simp [Held, g0, *]; done)
                | (refine free_run (v := .int .i64 (la : Int)) (W' := W) rfl ?_ rfl (Below.refl _ _); go_simp)
            · first
                | (exfalso; revert hh; simp [Held, g0, *]; done)
                | (show undef = _; first | rfl | (simp [*]; done))
          · intro L ax W hf hd
            simp [Region.binds] at hd
            have e63 : ax.tmps[63]?.getD undef = .int .i64 (la : Int) := slv (hf.got 7 (by decide) (by simp [hd]))
            have g0 : sl ax 61 = .bool false := hf.got 5 (by decide) (by simp [hd])
            refine ⟨fun hh => ?_, fun hh => ?_⟩
            · first
                | (exfalso; revert hh; simp [Held, g0, *]; done)
                | (refine free_run (v := .bool false) (W' := W) rfl ?_ rfl (Below.refl _ _); go_simp)
            · first
                | (exfalso; revert hh; simp [Held, g0, *]; done)
                | (show undef = _; first | rfl | (simp [*]; done))
          · intro L ax W hf hd
            simp [Region.binds] at hd
            have e61 : ax.tmps[61]?.getD undef = .bool false := slv (hf.got 5 (by decide) (by simp [hd]))
            have e64 : ax.tmps[64]?.getD undef = .bool false := slv (hf.got 8 (by decide) (by simp [hd]))
            refine ⟨fun _ => ?_, fun h => absurd trivial h⟩
            refine free_run (v := .bool false) (W' := W) rfl ?_ rfl (Below.refl _ _)
            go_simp
          · intro L ax W hf hd
            simp [Region.binds] at hd
            have e65 : ax.tmps[65]?.getD undef = .bool false := slv (hf.got 9 (by decide) (by simp [hd]))
            refine ⟨fun _ => ?_, fun h => absurd trivial h⟩
            refine free_run (v := .bool false) (W' := W) rfl ?_ rfl (Below.refl _ _)
            go_simp
          · intro L ax W hf hd
            simp [Region.binds] at hd
            have e8 : ax.tmps[8]?.getD undef = .slice (some ⟨bb, ob, none⟩) lb cb := hf.out 8 (by decide) rfl
            have g0 : sl ax 66 = .bool false := hf.got 10 (by decide) (by simp [hd])
            refine ⟨fun hh => ?_, fun hh => ?_⟩
            · first
                | (exfalso; revert hh; simp [Held, g0, *]; done)
                | (refine free_run (v := .slice (some ⟨bb, ob, none⟩) lb cb) (W' := W) rfl ?_ rfl (Below.refl _ _); go_simp)
            · first
                | (exfalso; revert hh; simp [Held, g0, *]; done)
                | (show undef = _; first | rfl | (simp [*]; done))
          · intro L ax W hf hd
            simp [Region.binds] at hd
            have e67 : ax.tmps[67]?.getD undef = .slice (some ⟨bb, ob, none⟩) lb cb := slv (hf.got 11 (by decide) (by simp [hd]))
            have g0 : sl ax 66 = .bool false := hf.got 10 (by decide) (by simp [hd])
            refine ⟨fun hh => ?_, fun hh => ?_⟩
            · first
                | (exfalso; revert hh; simp [Held, g0, *]; done)
                | (refine free_run (v := .pointer (some ⟨bb, ob + 40, none⟩)) (W' := W) rfl ?_ rfl (Below.refl _ _); go_simp)
            · first
                | (exfalso; revert hh; simp [Held, g0, *]; done)
                | (show undef = _; first | rfl | (simp [*]; done))
          · intro L ax W hf hd
            simp [Region.binds] at hd
            have e68 : ax.tmps[68]?.getD undef = .pointer (some ⟨bb, ob + 40, none⟩) := slv (hf.got 12 (by decide) (by simp [hd]))
            have g0 : sl ax 66 = .bool false := hf.got 10 (by decide) (by simp [hd])
            refine ⟨fun hh => ?_, fun hh => ?_⟩
            · first
                | (exfalso; revert hh; simp [Held, g0, *]; done)
                | ((have h1 := (hf.below.cell (p := ⟨bb, ob + 40, none⟩) hbl).trans cB); refine free_run (v := .int .u8 ((k : Int) + 1)) (W' := W) rfl ?_ rfl (Below.refl _ _); go_simp)
            · first
                | (exfalso; revert hh; simp [Held, g0, *]; done)
                | (show undef = _; first | rfl | (simp [*]; done))
          · intro L ax W hf hd
            simp [Region.binds] at hd
            have e69 : ax.tmps[69]?.getD undef = .int .u8 ((k : Int) + 1) := slv (hf.got 13 (by decide) (by simp [hd]))
            have g0 : sl ax 66 = .bool false := hf.got 10 (by decide) (by simp [hd])
            refine ⟨fun hh => ?_, fun hh => ?_⟩
            · first
                | (exfalso; revert hh; simp [Held, g0, *]; done)
                | (refine free_run (v := .int .i64 ((k : Int) + 1)) (W' := W) rfl ?_ rfl (Below.refl _ _); go_simp)
            · first
                | (exfalso; revert hh; simp [Held, g0, *]; done)
                | (show undef = _; first | rfl | (simp [*]; done))
          · intro L ax W hf hd
            simp [Region.binds] at hd
            have e6 : ax.tmps[6]?.getD undef = .slice (some ⟨ba, oa2, none⟩) la ca := hf.out 6 (by decide) rfl
            have g0 : sl ax 66 = .bool false := hf.got 10 (by decide) (by simp [hd])
            refine ⟨fun hh => ?_, fun hh => ?_⟩
            · first
                | (exfalso; revert hh; simp [Held, g0, *]; done)
                | (refine free_run (v := .slice (some ⟨ba, oa2, none⟩) la ca) (W' := W) rfl ?_ rfl (Below.refl _ _); go_simp)
            · first
                | (exfalso; revert hh; simp [Held, g0, *]; done)
                | (show undef = _; first | rfl | (simp [*]; done))
          · intro L ax W hf hd
            simp [Region.binds] at hd
            have e71 : ax.tmps[71]?.getD undef = .slice (some ⟨ba, oa2, none⟩) la ca := slv (hf.got 15 (by decide) (by simp [hd]))
            have g0 : sl ax 66 = .bool false := hf.got 10 (by decide) (by simp [hd])
            refine ⟨fun hh => ?_, fun hh => ?_⟩
            · first
                | (exfalso; revert hh; simp [Held, g0, *]; done)
                | (refine free_run (v := .pointer (some ⟨ba, oa2 + 40, none⟩)) (W' := W) rfl ?_ rfl (Below.refl _ _); go_simp)
            · first
                | (exfalso; revert hh; simp [Held, g0, *]; done)
                | (show undef = _; first | rfl | (simp [*]; done))
          · intro L ax W hf hd
            simp [Region.binds] at hd
            have e72 : ax.tmps[72]?.getD undef = .pointer (some ⟨ba, oa2 + 40, none⟩) := slv (hf.got 16 (by decide) (by simp [hd]))
            have g0 : sl ax 66 = .bool false := hf.got 10 (by decide) (by simp [hd])
            refine ⟨fun hh => ?_, fun hh => ?_⟩
            · first
                | (exfalso; revert hh; simp [Held, g0, *]; done)
                | ((have h1 := (hf.below.cell (p := ⟨ba, oa2 + 40, none⟩) hal).trans cA); refine free_run (v := .int .u8 (k : Int)) (W' := W) rfl ?_ rfl (Below.refl _ _); go_simp)
            · first
                | (exfalso; revert hh; simp [Held, g0, *]; done)
                | (show undef = _; first | rfl | (simp [*]; done))
          · intro L ax W hf hd
            simp [Region.binds] at hd
            have e73 : ax.tmps[73]?.getD undef = .int .u8 (k : Int) := slv (hf.got 17 (by decide) (by simp [hd]))
            have g0 : sl ax 66 = .bool false := hf.got 10 (by decide) (by simp [hd])
            refine ⟨fun hh => ?_, fun hh => ?_⟩
            · first
                | (exfalso; revert hh; simp [Held, g0, *]; done)
                | (refine free_run (v := .int .i64 (k : Int)) (W' := W) rfl ?_ rfl (Below.refl _ _); go_simp)
            · first
                | (exfalso; revert hh; simp [Held, g0, *]; done)
                | (show undef = _; first | rfl | (simp [*]; done))
          · intro L ax W hf hd
            simp [Region.binds] at hd
            have e74 : ax.tmps[74]?.getD undef = .int .i64 (k : Int) := slv (hf.got 18 (by decide) (by simp [hd]))
            have g0 : sl ax 66 = .bool false := hf.got 10 (by decide) (by simp [hd])
            refine ⟨fun hh => ?_, fun hh => ?_⟩
            · first
                | (exfalso; revert hh; simp [Held, g0, *]; done)
                | (refine free_run (v := .int .i64 ((k : Int) + 1)) (W' := W) rfl ?_ rfl (Below.refl _ _); go_simp)
            · first
                | (exfalso; revert hh; simp [Held, g0, *]; done)
                | (show undef = _; first | rfl | (simp [*]; done))
          · intro L ax W hf hd
            simp [Region.binds] at hd
            have e70 : ax.tmps[70]?.getD undef = .int .i64 ((k : Int) + 1) := slv (hf.got 14 (by decide) (by simp [hd]))
            have e75 : ax.tmps[75]?.getD undef = .int .i64 ((k : Int) + 1) := slv (hf.got 19 (by decide) (by simp [hd]))
            have g0 : sl ax 66 = .bool false := hf.got 10 (by decide) (by simp [hd])
            refine ⟨fun hh => ?_, fun hh => ?_⟩
            · first
                | (exfalso; revert hh; simp [Held, g0, *]; done)
                | (refine free_run (v := .bool false) (W' := W) rfl ?_ rfl (Below.refl _ _); go_simp)
            · first
                | (exfalso; revert hh; simp [Held, g0, *]; done)
                | (show undef = _; first | rfl | (simp [*]; done))
          · intro L ax W hf hd
            simp [Region.binds] at hd
            have e66 : ax.tmps[66]?.getD undef = .bool false := slv (hf.got 10 (by decide) (by simp [hd]))
            have e76 : ax.tmps[76]?.getD undef = .bool false := slv (hf.got 20 (by decide) (by simp [hd]))
            refine ⟨fun _ => ?_, fun h => absurd trivial h⟩
            refine free_run (v := .bool false) (W' := W) rfl ?_ rfl (Below.refl _ _)
            go_simp
          · intro L ax W hf hd
            simp [Region.binds] at hd
            have e77 : ax.tmps[77]?.getD undef = .bool false := slv (hf.got 21 (by decide) (by simp [hd]))
            refine ⟨fun _ => ?_, fun h => absurd trivial h⟩
            refine free_run (v := .bool false) (W' := W) rfl ?_ rfl (Below.refl _ _)
            go_simp
          · intro L ax W hf hd
            simp [Region.binds] at hd
            have e8 : ax.tmps[8]?.getD undef = .slice (some ⟨bb, ob, none⟩) lb cb := hf.out 8 (by decide) rfl
            have g0 : sl ax 78 = .bool false := hf.got 22 (by decide) (by simp [hd])
            refine ⟨fun hh => ?_, fun hh => ?_⟩
            · first
                | (exfalso; revert hh; simp [Held, g0, *]; done)
                | (refine free_run (v := .slice (some ⟨bb, ob, none⟩) lb cb) (W' := W) rfl ?_ rfl (Below.refl _ _); go_simp)
            · first
                | (exfalso; revert hh; simp [Held, g0, *]; done)
                | (show undef = _; first | rfl | (simp [*]; done))
          · intro L ax W hf hd
            simp [Region.binds] at hd
            have e79 : ax.tmps[79]?.getD undef = .slice (some ⟨bb, ob, none⟩) lb cb := slv (hf.got 23 (by decide) (by simp [hd]))
            have g0 : sl ax 78 = .bool false := hf.got 22 (by decide) (by simp [hd])
            refine ⟨fun hh => ?_, fun hh => ?_⟩
            · first
                | (exfalso; revert hh; simp [Held, g0, *]; done)
                | (refine free_run (v := .slice (some ⟨bb, ob, none⟩) 40 cb) (W' := W) rfl ?_ rfl (Below.refl _ _); go_simp)
            · first
                | (exfalso; revert hh; simp [Held, g0, *]; done)
                | (show undef = _; first | rfl | (simp [*]; done))
          · intro L ax W hf hd
            simp [Region.binds] at hd
            have e80 : ax.tmps[80]?.getD undef = .slice (some ⟨bb, ob, none⟩) 40 cb := slv (hf.got 24 (by decide) (by simp [hd]))
            have g0 : sl ax 78 = .bool false := hf.got 22 (by decide) (by simp [hd])
            refine ⟨fun hh => ?_, fun hh => ?_⟩
            · first
                | (exfalso; revert hh; simp [Held, g0, *]; done)
                | ((have hcv := str_run (BytesR.take (HB.out.keep hf.below) 40 (by omega))); refine free_run (v := .string ⟨(B.take 40).toArray⟩) (W' := W) rfl ?_ rfl (Below.refl _ _); go_simp)
            · first
                | (exfalso; revert hh; simp [Held, g0, *]; done)
                | (show undef = _; first | rfl | (simp [*]; done))
          · intro L ax W hf hd
            simp [Region.binds] at hd
            have e6 : ax.tmps[6]?.getD undef = .slice (some ⟨ba, oa2, none⟩) la ca := hf.out 6 (by decide) rfl
            have g0 : sl ax 78 = .bool false := hf.got 22 (by decide) (by simp [hd])
            refine ⟨fun hh => ?_, fun hh => ?_⟩
            · first
                | (exfalso; revert hh; simp [Held, g0, *]; done)
                | (refine free_run (v := .slice (some ⟨ba, oa2, none⟩) la ca) (W' := W) rfl ?_ rfl (Below.refl _ _); go_simp)
            · first
                | (exfalso; revert hh; simp [Held, g0, *]; done)
                | (show undef = _; first | rfl | (simp [*]; done))
          · intro L ax W hf hd
            simp [Region.binds] at hd
            have e82 : ax.tmps[82]?.getD undef = .slice (some ⟨ba, oa2, none⟩) la ca := slv (hf.got 26 (by decide) (by simp [hd]))
            have g0 : sl ax 78 = .bool false := hf.got 22 (by decide) (by simp [hd])
            refine ⟨fun hh => ?_, fun hh => ?_⟩
            · first
                | (exfalso; revert hh; simp [Held, g0, *]; done)
                | (refine free_run (v := .slice (some ⟨ba, oa2, none⟩) 40 ca) (W' := W) rfl ?_ rfl (Below.refl _ _); go_simp)
            · first
                | (exfalso; revert hh; simp [Held, g0, *]; done)
                | (show undef = _; first | rfl | (simp [*]; done))
          · intro L ax W hf hd
            simp [Region.binds] at hd
            have e83 : ax.tmps[83]?.getD undef = .slice (some ⟨ba, oa2, none⟩) 40 ca := slv (hf.got 27 (by decide) (by simp [hd]))
            have g0 : sl ax 78 = .bool false := hf.got 22 (by decide) (by simp [hd])
            refine ⟨fun hh => ?_, fun hh => ?_⟩
            · first
                | (exfalso; revert hh; simp [Held, g0, *]; done)
                | ((have hcv := str_run (BytesR.take (HA.out.keep hf.below) 40 (by omega))); refine free_run (v := .string ⟨(A.take 40).toArray⟩) (W' := W) rfl ?_ rfl (Below.refl _ _); go_simp)
            · first
                | (exfalso; revert hh; simp [Held, g0, *]; done)
                | (show undef = _; first | rfl | (simp [*]; done))
          · intro L ax W hf hd
            simp [Region.binds] at hd
            have e81 : ax.tmps[81]?.getD undef = .string ⟨(B.take 40).toArray⟩ := slv (hf.got 25 (by decide) (by simp [hd]))
            have e84 : ax.tmps[84]?.getD undef = .string ⟨(A.take 40).toArray⟩ := slv (hf.got 28 (by decide) (by simp [hd]))
            have g0 : sl ax 78 = .bool false := hf.got 22 (by decide) (by simp [hd])
            refine ⟨fun hh => ?_, fun hh => ?_⟩
            · first
                | (exfalso; revert hh; simp [Held, g0, *]; done)
                | (refine free_run (v := .bool false) (W' := W) rfl ?_ rfl (Below.refl _ _); go_simp)
            · first
                | (exfalso; revert hh; simp [Held, g0, *]; done)
                | (show undef = _; first | rfl | (simp [*]; done))
          · intro L ax W hf hd
            simp [Region.binds] at hd
            have e78 : ax.tmps[78]?.getD undef = .bool false := slv (hf.got 22 (by decide) (by simp [hd]))
            have e85 : ax.tmps[85]?.getD undef = .bool false := slv (hf.got 29 (by decide) (by simp [hd]))
            refine ⟨fun _ => ?_, fun h => absurd trivial h⟩
            refine free_run (v := .bool false) (W' := W) rfl ?_ rfl (Below.refl _ _)
            go_simp
          · intro L ax W hf hd
            simp [Region.binds] at hd
            have e86 : ax.tmps[86]?.getD undef = .bool false := slv (hf.got 30 (by decide) (by simp [hd]))
            refine ⟨fun _ => ?_, fun h => absurd trivial h⟩
            refine free_run (v := .bool false) (W' := W) rfl ?_ rfl (Below.refl _ _)
            go_simp
          · intro L ax W hf hd
            simp [Region.binds] at hd
            have e8 : ax.tmps[8]?.getD undef = .slice (some ⟨bb, ob, none⟩) lb cb := hf.out 8 (by decide) rfl
            have g0 : sl ax 87 = .bool false := hf.got 31 (by decide) (by simp [hd])
            refine ⟨fun hh => ?_, fun hh => ?_⟩
            · first
                | (exfalso; revert hh; simp [Held, g0, *]; done)
                | (refine free_run (v := .slice (some ⟨bb, ob, none⟩) lb cb) (W' := W) rfl ?_ rfl (Below.refl _ _); go_simp)
            · first
                | (exfalso; revert hh; simp [Held, g0, *]; done)
                | (show undef = _; first | rfl | (simp [*]; done))
          · intro L ax W hf hd
            simp [Region.binds] at hd
            have e6 : ax.tmps[6]?.getD undef = .slice (some ⟨ba, oa2, none⟩) la ca := hf.out 6 (by decide) rfl
            have g0 : sl ax 87 = .bool false := hf.got 31 (by decide) (by simp [hd])
            refine ⟨fun hh => ?_, fun hh => ?_⟩
            · first
                | (exfalso; revert hh; simp [Held, g0, *]; done)
                | (refine free_run (v := .slice (some ⟨ba, oa2, none⟩) la ca) (W' := W) rfl ?_ rfl (Below.refl _ _); go_simp)
            · first
                | (exfalso; revert hh; simp [Held, g0, *]; done)
                | (show undef = _; first | rfl | (simp [*]; done))
          · intro L ax W hf hd
            simp [Region.binds] at hd
            have e89 : ax.tmps[89]?.getD undef = .slice (some ⟨ba, oa2, none⟩) la ca := slv (hf.got 33 (by decide) (by simp [hd]))
            have g0 : sl ax 87 = .bool false := hf.got 31 (by decide) (by simp [hd])
            refine ⟨fun hh => ?_, fun hh => ?_⟩
            · first
                | (exfalso; revert hh; simp [Held, g0, *]; done)
                | (refine free_run (v := .int .i64 (la : Int)) (W' := W) rfl ?_ rfl (Below.refl _ _); go_simp)
            · first
                | (exfalso; revert hh; simp [Held, g0, *]; done)
                | (show undef = _; first | rfl | (simp [*]; done))
          · intro L ax W hf hd
            simp [Region.binds] at hd
            have e88 : ax.tmps[88]?.getD undef = .slice (some ⟨bb, ob, none⟩) lb cb := slv (hf.got 32 (by decide) (by simp [hd]))
            have e90 : ax.tmps[90]?.getD undef = .int .i64 (la : Int) := slv (hf.got 34 (by decide) (by simp [hd]))
            have g0 : sl ax 87 = .bool false := hf.got 31 (by decide) (by simp [hd])
            refine ⟨fun hh => ?_, fun hh => ?_⟩
            · first
                | (exfalso; revert hh; simp [Held, g0, *]; done)
                | (refine free_run (v := .slice (some ⟨bb, ob + 41, none⟩) (la - 41) (cb - 41)) (W' := W) rfl ?_ ⟨⟨some ⟨bb, ob + 41, none⟩, la - 41, cb - 41⟩, rfl, BytesR.take (n := lb - 41) (BytesR.drop (HB.out.keep hf.below) 41 (by omega)) (la - 41) (by rw [List.length_drop]; omega)⟩ (Below.refl _ _); go_simp)
            · first
                | (exfalso; revert hh; simp [Held, g0, *]; done)
                | (show undef = _; first | rfl | (simp [*]; done))
          · intro L ax W hf hd
            simp [Region.binds] at hd
            have f91 : IsB ((B.drop 41).take (la - 41)) (sl ax 91) W := hf.got 35 (by decide) (by simp [hd])
            have g0 : sl ax 87 = .bool false := hf.got 31 (by decide) (by simp [hd])
            refine ⟨fun hh => ?_, fun hh => ?_⟩
            · first
                | (exfalso; revert hh; simp [Held, g0, *]; done)
                | (obtain ⟨s2, e91, h91⟩ := f91; have e91 := slv e91; have hcv := str_run h91; refine free_run (v := .string ⟨((B.drop 41).take (la - 41)).toArray⟩) (W' := W) rfl ?_ rfl (Below.refl _ _); go_simp)
            · first
                | (exfalso; revert hh; simp [Held, g0, *]; done)
                | (show undef = _; first | rfl | (simp [*]; done))
          · intro L ax W hf hd
            simp [Region.binds] at hd
            have e6 : ax.tmps[6]?.getD undef = .slice (some ⟨ba, oa2, none⟩) la ca := hf.out 6 (by decide) rfl
            have g0 : sl ax 87 = .bool false := hf.got 31 (by decide) (by simp [hd])
            refine ⟨fun hh => ?_, fun hh => ?_⟩
            · first
                | (exfalso; revert hh; simp [Held, g0, *]; done)
                | (refine free_run (v := .slice (some ⟨ba, oa2, none⟩) la ca) (W' := W) rfl ?_ rfl (Below.refl _ _); go_simp)
            · first
                | (exfalso; revert hh; simp [Held, g0, *]; done)
                | (show undef = _; first | rfl | (simp [*]; done))
          · intro L ax W hf hd
            simp [Region.binds] at hd
            have e93 : ax.tmps[93]?.getD undef = .slice (some ⟨ba, oa2, none⟩) la ca := slv (hf.got 37 (by decide) (by simp [hd]))
            have g0 : sl ax 87 = .bool false := hf.got 31 (by decide) (by simp [hd])
            refine ⟨fun hh => ?_, fun hh => ?_⟩
            · first
                | (exfalso; revert hh; simp [Held, g0, *]; done)
                | (by_cases hca' : ca = 41 <;> first | (refine free_run (v := .slice (some ⟨ba, oa2, none⟩) (la - 41) (ca - 41)) (W' := W) rfl ?_ ⟨⟨some ⟨ba, oa2, none⟩, la - 41, ca - 41⟩, rfl, BytesR.empty (hd0 hca') (hn0 hca')⟩ (Below.refl _ _); go_simp; done) | (refine free_run (v := .slice (some ⟨ba, oa2 + 41, none⟩) (la - 41) (ca - 41)) (W' := W) rfl ?_ ⟨⟨some ⟨ba, oa2 + 41, none⟩, la - 41, ca - 41⟩, rfl, BytesR.drop (HA.out.keep hf.below) 41 hA41⟩ (Below.refl _ _); go_simp; done))
            · first
                | (exfalso; revert hh; simp [Held, g0, *]; done)
                | (show undef = _; first | rfl | (simp [*]; done))
          · intro L ax W hf hd
            simp [Region.binds] at hd
            have f94 : IsB (A.drop 41) (sl ax 94) W := hf.got 38 (by decide) (by simp [hd])
            have g0 : sl ax 87 = .bool false := hf.got 31 (by decide) (by simp [hd])
            refine ⟨fun hh => ?_, fun hh => ?_⟩
            · first
                | (exfalso; revert hh; simp [Held, g0, *]; done)
                | (obtain ⟨s2, e94, h94⟩ := f94; have e94 := slv e94; have hcv := str_run h94; refine free_run (v := .string ⟨(A.drop 41).toArray⟩) (W' := W) rfl ?_ rfl (Below.refl _ _); go_simp)
            · first
                | (exfalso; revert hh; simp [Held, g0, *]; done)
                | (show undef = _; first | rfl | (simp [*]; done))
          · intro L ax W hf hd
            simp [Region.binds] at hd
            have e92 : ax.tmps[92]?.getD undef = .string ⟨((B.drop 41).take (la - 41)).toArray⟩ := slv (hf.got 36 (by decide) (by simp [hd]))
            have e95 : ax.tmps[95]?.getD undef = .string ⟨(A.drop 41).toArray⟩ := slv (hf.got 39 (by decide) (by simp [hd]))
            have g0 : sl ax 87 = .bool false := hf.got 31 (by decide) (by simp [hd])
            refine ⟨fun hh => ?_, fun hh => ?_⟩
            · first
                | (exfalso; revert hh; simp [Held, g0, *]; done)
                | (refine free_run (v := .bool false) (W' := W) rfl ?_ rfl (Below.refl _ _); go_simp)
            · first
                | (exfalso; revert hh; simp [Held, g0, *]; done)
                | (show undef = _; first | rfl | (simp [*]; done))
          · intro L ax W hf hd
            simp [Region.binds] at hd
            have e87 : ax.tmps[87]?.getD undef = .bool false := slv (hf.got 31 (by decide) (by simp [hd]))
            have e96 : ax.tmps[96]?.getD undef = .bool false := slv (hf.got 40 (by decide) (by simp [hd]))
            refine ⟨fun _ => ?_, fun h => absurd trivial h⟩
            refine free_run (v := .bool false) (W' := W) rfl ?_ rfl (Below.refl _ _)
            go_simp
        · intro vs W hl' hF hb
          obtain ⟨g', hg1, hg2⟩ := vs_lit vs hl' hF
          have e97 : g' 41 = .bool false := hg2 41 (by decide)
          rw [hg1]
          clear hF hg1 hg2 hl'
          have HB := Lib.hid (HB.out.keep hb)
          have Ho := Lib.hid (Ho.out.keep' hb)
          have Ro := Lib.hid ((row?_below _ _ _ hb hzo).trans Ro.out)
          have HBW := Lib.hid (HB7.out.trans (hb.mono (by omega)))
          have hzW : w.heap.size ≤ W.heap.size := by have := hb.size; omega
          have hzo : w.heap.size + 1 < W.heap.size := by have := hb.size; omega
          clear hb cA cB hq1 hq2 kk
          simp only [List.length_cons, List.length_nil, Nat.reduceAdd, show List.range 42 = [0, 1, 2, 3, 4, 5, 6, 7, 8, 9, 10, 11, 12, 13, 14, 15, 16, 17, 18, 19, 20, 21, 22, 23, 24, 25, 26, 27, 28, 29, 30, 31, 32, 33, 34, 35, 36, 37, 38, 39, 40, 41] from rfl, List.map_cons, List.map_nil, putL, List.zip_cons_cons, List.zip_nil_right, List.setIfInBounds_toArray, List.set_cons_succ, List.set_cons_zero, e97]
          go_upto_region 13 with fail
          refine wp_region_freeG_l (fun W W' => Below W.heap.size W W') (by kernel_rfl) [98, 99, 100, 101, 102, 103, 104, 105, 106, 107, 108, 109, 4]
            [Is (.slice (some ⟨bb, ob, none⟩) lb cb), Is (.slice (some ⟨ba, oa2, none⟩) la ca), Is (.int .i64 (la : Int)), IsB (opBytes o), Is (.string ⟨(opBytes o).toArray⟩), Is (.agg (opA go)), IsB (opBytes o), Is (.string ⟨(opBytes o).toArray⟩), Is (.bool true), Is (.bool true), Is (.bool true), Is (.bool true), Is (.bool true)]
            (by kernel_rfl) (fun W W' h hb => hb.trans (h.mono hb.size)) ?_ ?_ ?_
          · intro f hf
            simp only [List.mem_cons, List.not_mem_nil, or_false] at hf
            rcases hf with rfl | rfl | rfl | rfl | rfl | rfl | rfl | rfl | rfl | rfl | rfl | rfl | rfl <;> intro x W W' h hr <;> first | exact h | exact IsB.keepB h hr
          · refine ⟨?_, ?_, ?_, ?_, ?_, ?_, ?_, ?_, ?_, ?_, ?_, ?_, ?_, trivial⟩
            · intro L ax W hf hd
              try simp [Region.binds] at hd
              have e8 : ax.tmps[8]?.getD undef = .slice (some ⟨bb, ob, none⟩) lb cb := hf.out 8 (by decide) rfl
              refine ⟨fun _ => ?_, fun h => absurd trivial h⟩
              refine free_run (v := .slice (some ⟨bb, ob, none⟩) lb cb) (W' := W) rfl ?_ rfl (Below.refl _ _)
              go_simp
            · intro L ax W hf hd
              try simp [Region.binds] at hd
              have e6 : ax.tmps[6]?.getD undef = .slice (some ⟨ba, oa2, none⟩) la ca := hf.out 6 (by decide) rfl
              refine ⟨fun _ => ?_, fun h => absurd trivial h⟩
              refine free_run (v := .slice (some ⟨ba, oa2, none⟩) la ca) (W' := W) rfl ?_ rfl (Below.refl _ _)
              go_simp
            · intro L ax W hf hd
              simp [Region.binds] at hd
              have e99 : ax.tmps[99]?.getD undef = .slice (some ⟨ba, oa2, none⟩) la ca := slv (hf.got 1 (by decide) (by simp [hd]))
              refine ⟨fun _ => ?_, fun h => absurd trivial h⟩
              refine free_run (v := .int .i64 (la : Int)) (W' := W) rfl ?_ rfl (Below.refl _ _)
              go_simp
            · intro L ax W hf hd
              simp [Region.binds] at hd
              have e98 : ax.tmps[98]?.getD undef = .slice (some ⟨bb, ob, none⟩) lb cb := slv (hf.got 0 (by decide) (by simp [hd]))
              have e100 : ax.tmps[100]?.getD undef = .int .i64 (la : Int) := slv (hf.got 2 (by decide) (by simp [hd]))
              refine ⟨fun _ => ?_, fun h => absurd trivial h⟩
              refine free_run (v := .slice (some ⟨bb, ob + la, none⟩) (lb - la) (cb - la)) (W' := W) rfl ?_ ⟨⟨some ⟨bb, ob + la, none⟩, lb - la, cb - la⟩, rfl, by rw [← hx]; exact BytesR.drop (HB.out.keep hf.below) la (by omega)⟩ (Below.refl _ _)
              go_simp
            · intro L ax W hf hd
              simp [Region.binds] at hd
              have f101 : IsB (opBytes o) (sl ax 101) W := hf.got 3 (by decide) (by simp [hd])
              refine ⟨fun _ => ?_, fun h => absurd trivial h⟩
              obtain ⟨s2, e101, h101⟩ := f101; have e101 := slv e101; have hcv := str_run h101
              refine free_run (v := .string ⟨(opBytes o).toArray⟩) (W' := W) rfl ?_ rfl (Below.refl _ _)
              go_simp
            · intro L ax W hf hd
              try simp [Region.binds] at hd
              have e3 : ax.tmps[3]?.getD undef = .pointer (some ⟨w.heap.size + 1, 0, none⟩) := hf.out 3 (by decide) rfl
              refine ⟨fun _ => ?_, fun h => absurd trivial h⟩
              have h1 := (row?_below _ _ _ hf.below hzo).trans Ro.out
              refine free_run (v := .agg (opA go)) (W' := W) rfl ?_ rfl (Below.refl _ _)
              go_simp
            · intro L ax W hf hd
              simp [Region.binds] at hd
              have e103 : ax.tmps[103]?.getD undef = .agg (opA go) := slv (hf.got 5 (by decide) (by simp [hd]))
              refine ⟨fun _ => ?_, fun h => absurd trivial h⟩
              refine free_call (f := 28) (args := #[.agg (opA go)]) rfl (by go_simp) ?_
              refine (fop_c go o W (Ho.out.keep' hf.below) hmo).mono ?_
              rintro e w' ⟨x, rfl, ho, hb⟩
              obtain ⟨s2, rfl⟩ := ho.slice
              exact ⟨_, rfl, ⟨s2, rfl, ho.reads⟩, hb⟩
            · intro L ax W hf hd
              simp [Region.binds] at hd
              have f104 : IsB (opBytes o) (sl ax 104) W := hf.got 6 (by decide) (by simp [hd])
              refine ⟨fun _ => ?_, fun h => absurd trivial h⟩
              obtain ⟨s2, e104, h104⟩ := f104; have e104 := slv e104; have hcv := str_run h104
              refine free_run (v := .string ⟨(opBytes o).toArray⟩) (W' := W) rfl ?_ rfl (Below.refl _ _)
              go_simp
            · intro L ax W hf hd
              simp [Region.binds] at hd
              have e102 : ax.tmps[102]?.getD undef = .string ⟨(opBytes o).toArray⟩ := slv (hf.got 4 (by decide) (by simp [hd]))
              have e105 : ax.tmps[105]?.getD undef = .string ⟨(opBytes o).toArray⟩ := slv (hf.got 7 (by decide) (by simp [hd]))
              refine ⟨fun _ => ?_, fun h => absurd trivial h⟩
              refine free_run (v := .bool true) (W' := W) rfl ?_ rfl (Below.refl _ _)
              go_simp
            · intro L ax W hf hd
              simp [Region.binds] at hd
              have e106 : ax.tmps[106]?.getD undef = .bool true := slv (hf.got 8 (by decide) (by simp [hd]))
              refine ⟨fun _ => ?_, fun h => absurd trivial h⟩
              refine free_run (v := .bool true) (W' := W) rfl ?_ rfl (Below.refl _ _)
              go_simp
            · intro L ax W hf hd
              simp [Region.binds] at hd
              have g0 : sl ax 107 = .bool true := hf.got 9 (by decide) (by simp [hd])
              refine ⟨fun hh => ?_, fun hh => ?_⟩
              · first
                  | (exfalso; revert hh; simp [Held, g0, *]; done)
                  | (refine free_call (f := 24) (args := #[]) rfl (by go_simp) ?_; refine (known09_c W).mono ?_; rintro e w' ⟨rfl, hb⟩; exact ⟨_, rfl, rfl, hb⟩)
              · first
                  | (exfalso; revert hh; simp [Held, g0, *]; done)
                  | (show undef = _; first | rfl | (simp [*]; done))
            · intro L ax W hf hd
              simp [Region.binds] at hd
              have e107 : ax.tmps[107]?.getD undef = .bool true := slv (hf.got 9 (by decide) (by simp [hd]))
              have e108 : ax.tmps[108]?.getD undef = .bool true := slv (hf.got 10 (by decide) (by simp [hd]))
              refine ⟨fun _ => ?_, fun h => absurd trivial h⟩
              refine free_run (v := .bool true) (W' := W) rfl ?_ rfl (Below.refl _ _)
              go_simp
            · intro L ax W hf hd
              simp [Region.binds] at hd
              have e109 : ax.tmps[109]?.getD undef = .bool true := slv (hf.got 11 (by decide) (by simp [hd]))
              refine ⟨fun _ => ?_, fun h => absurd trivial h⟩
              refine free_run (v := .bool true) (W' := W) rfl ?_ rfl (Below.refl _ _)
              go_simp
          · intro vs W' hl' hF hb
            obtain ⟨g2, hg1, hg2⟩ := vs_lit vs hl' hF
            have e4 : g2 12 = .bool true := hg2 12 (by decide)
            rw [hg1]
            clear hF hg1 hg2 hl'
            simp only [List.length_cons, List.length_nil, Nat.reduceAdd, show List.range 13 = [0, 1, 2, 3, 4, 5, 6, 7, 8, 9, 10, 11, 12] from rfl, List.map_cons, List.map_nil, putL, List.zip_cons_cons, List.zip_nil_right, List.setIfInBounds_toArray, List.set_cons_succ, List.set_cons_zero, e4]
            go_wp2_with fail
            go_ret
            exact ⟨rfl, HBW.out.trans (hb.mono hzW)⟩
end Go.Proofs.Ytbpbnnonialelaa
