/- Contracts: codec.op, codec.header. -/
import Derived.Test.YtbpbnnonialelaaOpBytes
import Derived.Test.YtbpbnnonialelaaHdrMay
namespace Go.Proofs.Ytbpbnnonialelaa
open Go.RowKit

theorem opMay_out {o : Op} (h : opMay o = true) : (o.kind = 1 ∨ ((o.kind = 2 ∨ o.kind = 3) ∧ 1 ≤ o.validator ∧ o.validator ≤ 64 ∧ o.evidence.length ≤ 2 ∧ o.evidence.all voteMay = true)) := by
  unfold opMay at h
  simp only [Bool.and_eq_true, decide_eq_true_eq] at h
  obtain ⟨hb, h⟩ := h
  by_cases e1 : o.kind = 1
  · exact .inl e1
  · rw [if_neg e1] at h
    by_cases e2 : o.kind = 2
    · rw [if_pos e2] at h
      have hev : o.evidence = [] := by
        have := congrArg Op.evidence hb
        unfold bareO at this
        rw [if_neg e1, if_neg (by omega), if_pos e2] at this
        exact this
      simp only [mayMem, decide_eq_true_eq] at h
      exact .inr ⟨.inl e2, h.1, h.2, by rw [hev]; simp, by rw [hev]; rfl⟩
    · rw [if_neg e2] at h
      by_cases e3 : o.kind = 3
      · rw [if_pos e3] at h
        simp only [mayMem, Bool.and_eq_true, decide_eq_true_eq] at h
        exact .inr ⟨.inr e3, h.1.1.1, h.1.1.2, by omega, h.2⟩
      · rw [if_neg e3] at h
        cases h
theorem op_c (g : GOp) (o : Op) (w : World) (h : OpR w g o) (hm : opMay o = true) :
    Calls Try.prog 104 #[.agg (opA g)] w fun e w' => ∃ v, e = .returned v ∧ Own w' w.heap.size v (opBytes o) ∧ Below w.heap.size w w' := by
  rcases opMay_out hm with h1 | ⟨h1, h2, h3, h4, h5⟩
  · exact op_dep g o w h h1
  · exact op_rest g o w h h1 h2 h3 h4 h5
theorem opBytes_length {o : Op} (hm : opMay o = true) : (opBytes o).length ≤ 10002 := by
  unfold opBytes
  rcases opMay_out hm with h1 | ⟨h1, h2, h3, h4, h5⟩
  · rw [if_pos h1]
    simp [be_length, o.key.2]
  · rw [if_neg (by omega)]
    have := votes_len o.evidence 2 (by omega) h5
    rw [List.take_of_length_le h4] at this
    simp only [List.length_cons]
    omega
theorem ops_len (l : List Op) (k : Nat) (hm : l.all opMay = true) : (((l.take k).map opBytes).flatten).length ≤ k * 10002 := by
  induction k generalizing l with
  | zero => simp
  | succ k ih =>
    cases l with
    | nil => simp
    | cons v l =>
      simp only [List.all_cons, Bool.and_eq_true] at hm
      have := ih l hm.2
      have h2 := opBytes_length hm.1
      simp only [List.take_succ_cons, List.map_cons, List.flatten_cons, List.length_append]
      omega

theorem headerA_cells {w : World} {b : Nat} {g : GHeader} (h : row? w b 0 34 = some (headerA g)) : w.cell? ⟨b, 32, none⟩ = some (.int .u64 (g.epoch.toNat : Int)) ∧ w.cell? ⟨b, 33, none⟩ = some g.ops.v := by
  have h0 := cell_of_row? h 32 (by omega)
  have h1 := cell_of_row? h 33 (by omega)
  simp only [Nat.zero_add, headerA_epoch, headerA_ops] at h0 h1
  exact ⟨h0, h1⟩
theorem parent_reads {w : World} {b : Nat} {g : GHeader} (h : row? w b 0 34 = some (headerA g)) : BytesR w ⟨some ⟨b, 0, none⟩, 32, 32⟩ g.parent.1 := by
  refine ⟨g.parent.2.symm, Nat.le_refl _, fun _ => ⟨b, 0, rfl, fun i hi => ?_⟩⟩
  have := g.parent.2
  rw [cell_of_row? h i (by omega)]
  have hk := congrArg (fun a => a[i]?) (headerA_parent g)
  simp only [Array.getElem?_extract] at hk
  rw [if_pos (by simp; omega), Nat.zero_add] at hk
  rw [hk]
  simp [hashA, hi]

/-- a slice of bytes of the call's own -/
def OwnB (base : Nat) (l : List UInt8) (v : Value) (w : World) : Prop := Own w base v l
def hdHead (h : Hdr) : List UInt8 := h.parent.1 ++ be 8 h.epoch.toNat ++ [UInt8.ofNat h.ops.length]
theorem hdBytes_eq (h : Hdr) : hdBytes h = hdHead h ++ (h.ops.map opBytes).flatten := rfl
theorem hdHead_length (h : Hdr) : (hdHead h).length = 41 := by simp [hdHead, be_length, h.parent.2]

set_option maxRecDepth 100000 in
set_option maxHeartbeats 1600000 in
theorem header_c (g : GHeader) (h : Hdr) (w : World) (hr : HdrR w g h) (hl : h.ops.length ≤ 16) (hm : h.ops.all opMay = true) :
    Calls Try.prog 72 #[.agg (headerA g)] w fun e w' => ∃ v, e = .returned v ∧ Own w' w.heap.size v (hdBytes h) ∧ Below w.heap.size w w' := by
  obtain ⟨i0, hi, hy0, hy1, hy2⟩ := info_parts info_u8
  have n1 := hr.2.2.1
  have e1 := hr.1
  have e2 := hr.2.1
  obtain ⟨gp, ge, ⟨oa, on, oc⟩⟩ := g
  simp only at n1 e1 e2
  subst n1 e1 e2
  have hw : IntKind.u8.wrap (h.ops.length : Int) = h.ops.length := IntWalk.u8_in _ (by omega)
  have hnb : byteV (UInt8.ofNat h.ops.length) = .int .u8 (h.ops.length : Int) := by
    rw [byteV_of, Nat.mod_eq_of_lt (by omega)]
  have Hnb := Lib.hid hnb
  have hn := h.epoch.toNat_lt
  have HC := fun W => number8 h.epoch.toNat W (by omega)
  have Hr := Lib.hid hr.2.2
  have Hm := Lib.hid hm
  have hrow : row? (w.alloc (.cells (headerA ⟨h.parent, h.epoch, ⟨oa, h.ops.length, oc⟩⟩) 51)) w.heap.size 0 34 = some (headerA ⟨h.parent, h.epoch, ⟨oa, h.ops.length, oc⟩⟩) := by
    rw [row?_new]
    simp
  have Hrow := Lib.hid hrow
  clear hr hm hn hnb hrow
  go_enter Try.func72, Try.ntmps72
  go_wp2_with fail
  obtain ⟨w1, hw1⟩ : ∃ w1, w1 = w.alloc (.cells (headerA ⟨h.parent, h.epoch, ⟨oa, h.ops.length, oc⟩⟩) 51) := ⟨_, rfl⟩
  have hb0 : Below w.heap.size w w1 := by rw [hw1]; exact bel_a _ _
  have hz0 : w.heap.size < w1.heap.size := by rw [hw1]; simp
  rw [← hw1] at Hrow ⊢
  clear hw1
  have hrow := Hrow.out
  obtain ⟨c1, c2⟩ := headerA_cells hrow
  have Hb0 := Lib.hid hb0
  clear hb0 hrow
  refine wp_region_free_l (fun W W' => Below W.heap.size W W') (by kernel_rfl) [6, 7, 8, 9, 10, 11, 12, 13, 14, 15, 16, 17, 3]
    [Is (.pointer (some ⟨w.heap.size, 0, none⟩)), Is (.slice (some ⟨w.heap.size, 0, none⟩) 32 32), Is (.pointer (some ⟨w.heap.size, 32, none⟩)), Is (.int .u64 (h.epoch.toNat : Int)), IsB (be 8 h.epoch.toNat),
      Is (.pointer (some ⟨w.heap.size, 33, none⟩)), Is (.slice oa h.ops.length oc), Is (.int .i64 (h.ops.length : Int)), Is (.int .u8 (h.ops.length : Int)), IsB [UInt8.ofNat h.ops.length],
      Pieces [h.parent.1, be 8 h.epoch.toNat, [UInt8.ofNat h.ops.length]], OwnB w.heap.size (hdHead h), OwnB w.heap.size (hdHead h)]
    (by kernel_rfl) (fun W W' h hb => hb.trans (h.mono hb.size)) ?_ ?_ ?_
  · intro f hf
    simp only [List.mem_cons, List.not_mem_nil, or_false] at hf
    rcases hf with rfl | rfl | rfl | rfl | rfl | rfl | rfl | rfl | rfl | rfl | rfl | rfl | rfl <;> intro x W W' h hr <;>
    first
      | exact h
      | (obtain ⟨s, h1, h2⟩ := h; exact ⟨s, h1, h2.keep hr⟩)
      | (exact Own.keep h hr)
      | (obtain ⟨b, ss, h1, h2, h3, h4⟩ := h; exact ⟨b, ss, h1, h2, fun i hi => (hr.cell (p := ⟨b, i, none⟩) (lt_of_cell (h3 i hi))).trans (h3 i hi), fun i hi hj => (h4 i hi hj).keep hr⟩)
  · refine ⟨?_, ?_, ?_, ?_, ?_, ?_, ?_, ?_, ?_, ?_, ?_, ?_, ?_, trivial⟩
    · intro L a W hf hd
      have e1 : a.tmps[1]?.getD undef = .pointer (some ⟨w.heap.size, 0, none⟩) := hf.out 1 (by decide) rfl
      refine free_run (v := .pointer (some ⟨w.heap.size, 0, none⟩)) (W' := W) rfl ?_ rfl (Below.refl _ _)
      go_simp
    · intro L a W hf hd
      simp [Region.binds] at hd
      have e1 : a.tmps[6]?.getD undef = .pointer (some ⟨w.heap.size, 0, none⟩) := slv (hf.got 0 (by decide) hd)
      refine free_run (v := .slice (some ⟨w.heap.size, 0, none⟩) 32 32) (W' := W) rfl ?_ rfl (Below.refl _ _)
      go_simp
    · intro L a W hf hd
      have e1 : a.tmps[1]?.getD undef = .pointer (some ⟨w.heap.size, 0, none⟩) := hf.out 1 (by decide) rfl
      refine free_run (v := .pointer (some ⟨w.heap.size, 32, none⟩)) (W' := W) rfl ?_ rfl (Below.refl _ _)
      go_simp
    · intro L a W hf hd
      simp [Region.binds] at hd
      have e1 : a.tmps[8]?.getD undef = .pointer (some ⟨w.heap.size, 32, none⟩) := slv (hf.got 2 (by decide) hd)
      have h1 := (hf.below.cell (p := ⟨w.heap.size, 32, none⟩) hz0).trans c1
      refine free_run (v := .int .u64 (h.epoch.toNat : Int)) (W' := W) rfl ?_ rfl (Below.refl _ _)
      go_simp
    · intro L a W hf hd
      simp [Region.binds] at hd
      have e1 : a.tmps[9]?.getD undef = .int .u64 (h.epoch.toNat : Int) := slv (hf.got 3 (by decide) hd)
      refine free_call (f := 75) (args := #[.int .u64 (h.epoch.toNat : Int), .int .i64 8]) rfl (by go_simp) ?_
      refine (HC W).mono ?_
      rintro e w' ⟨x, rfl, ho, hb⟩
      obtain ⟨s, rfl⟩ := ho.slice
      exact ⟨_, rfl, ⟨s, rfl, ho.reads⟩, hb⟩
    · intro L a W hf hd
      have e1 : a.tmps[1]?.getD undef = .pointer (some ⟨w.heap.size, 0, none⟩) := hf.out 1 (by decide) rfl
      refine free_run (v := .pointer (some ⟨w.heap.size, 33, none⟩)) (W' := W) rfl ?_ rfl (Below.refl _ _)
      go_simp
    · intro L a W hf hd
      simp [Region.binds] at hd
      have e1 : a.tmps[11]?.getD undef = .pointer (some ⟨w.heap.size, 33, none⟩) := slv (hf.got 5 (by decide) hd)
      have h1 := (hf.below.cell (p := ⟨w.heap.size, 33, none⟩) hz0).trans c2
      refine free_run (v := .slice oa h.ops.length oc) (W' := W) rfl ?_ rfl (Below.refl _ _)
      go_simp
    · intro L a W hf hd
      simp [Region.binds] at hd
      have e1 : a.tmps[12]?.getD undef = .slice oa h.ops.length oc := slv (hf.got 6 (by decide) hd)
      refine free_run (v := .int .i64 (h.ops.length : Int)) (W' := W) rfl ?_ rfl (Below.refl _ _)
      go_simp
    · intro L a W hf hd
      simp [Region.binds] at hd
      have e1 : a.tmps[13]?.getD undef = .int .i64 (h.ops.length : Int) := slv (hf.got 7 (by decide) hd)
      refine free_run (v := .int .u8 (h.ops.length : Int)) (W' := W) rfl ?_ rfl (Below.refl _ _)
      go_simp
    · intro L a W hf hd
      simp [Region.binds] at hd
      have e1 : a.tmps[14]?.getD undef = .int .u8 (h.ops.length : Int) := slv (hf.got 8 (by decide) hd)
      refine free_run (v := .slice (some ⟨W.heap.size, 0, none⟩) 1 1) (W' := W.alloc (.cells #[.int .u8 (h.ops.length : Int)] 5)) rfl ?_ ⟨⟨some ⟨W.heap.size, 0, none⟩, 1, 1⟩, rfl, BytesR.one _ _ _ _ _ rfl Hnb.out⟩ (bel_a _ _)
      go_simp
    · intro L a W hf hd
      simp [Region.binds] at hd
      have e7' : a.tmps[7]?.getD undef = .slice (some ⟨w.heap.size, 0, none⟩) 32 32 := slv (hf.got 1 (by decide) hd.1)
      obtain ⟨s1, e10, r1⟩ : IsB _ (sl a 10) W := hf.got 4 (by decide) hd.2.1
      obtain ⟨s2, e15, r2⟩ : IsB _ (sl a 15) W := hf.got 9 (by decide) hd.2.2
      have e10' := slv e10
      have e15' := slv e15
      have r0 : BytesR W ⟨some ⟨w.heap.size, 0, none⟩, 32, 32⟩ h.parent.1 := parent_reads ((row?_below _ _ _ hf.below hz0).trans Hrow.out)
      have hb := bel_a W (.cells #[.slice (some ⟨w.heap.size, 0, none⟩) 32 32, s1.v, s2.v] 35)
      refine free_run (v := .slice (some ⟨W.heap.size, 0, none⟩) 3 3) (W' := W.alloc (.cells #[.slice (some ⟨w.heap.size, 0, none⟩) 32 32, s1.v, s2.v] 35)) rfl ?_ ⟨W.heap.size, [⟨some ⟨w.heap.size, 0, none⟩, 32, 32⟩, s1, s2], rfl, rfl, ?_, ?_⟩ hb
      · clear hb
        go_simp
      · intro i h
        have hi4 : i = 0 ∨ i = 1 ∨ i = 2 := by simp at h; omega
        rcases hi4 with rfl | rfl | rfl <;> simp
      · intro i h h'
        have hi4 : i = 0 ∨ i = 1 ∨ i = 2 := by simp at h; omega
        rcases hi4 with rfl | rfl | rfl
        · exact r0.keep hb
        · exact r1.keep hb
        · exact r2.keep hb
    · intro L a W hf hd
      simp [Region.binds] at hd
      obtain ⟨b, ss, e19, hl, hc, hr⟩ : Pieces _ (sl a 16) W := hf.got 10 (by decide) hd.1
      have e19' := slv e19
      refine free_call (f := 103) (args := #[.slice (some ⟨b, 0, none⟩) 3 3]) rfl (by simp [execOp, Act.eval, e19', resolve, invoke, Deferred.ofValue]; try go_simp) ?_
      refine (concat_c b 3 ss [h.parent.1, be 8 h.epoch.toNat, [UInt8.ofNat h.ops.length]] W ⟨hl, hc, hr⟩ (by simp) (by simp [sumLen, be_length, h.parent.2]) (by simp [sumLen, be_length, h.parent.2])).mono ?_
      rintro e w' ⟨x, rfl, ho, hb⟩
      refine ⟨_, rfl, ?_, hb⟩
      have := ho.more (base' := w.heap.size) (by have := hf.below.size; omega)
      unfold OwnB hdHead
      simpa using this
    · intro L a W hf hd
      simp [Region.binds] at hd
      have e20 : OwnB w.heap.size (hdHead h) (sl a 17) W := hf.got 11 (by decide) (by first | exact hd | exact hd.1)
      refine free_run (v := sl a 17) (W' := W) rfl ?_ e20 (Below.refl _ _)
      simp [execOp, Act.eval, sl]
  · intro vs W hl' hF hb
    match vs, hl' with
    | [v0, v1, v2, v3, v4, v5, v6, v7, v8, v9, v10, v11, v12], _ =>
      have ho : Own W w.heap.size v12 (hdHead h) := hF 12 (by simp)
      have hrow := (row?_below _ _ _ hb hz0).trans Hrow.out
      have hB0 : Below w.heap.size w W := Hb0.out.trans (hb.mono (by omega))
      clear hF c1 c2
      obtain ⟨c1, c2⟩ := headerA_cells hrow
      clear hrow hb
      simp only [putL, List.zip_cons_cons, List.zip_nil_right, List.setIfInBounds_toArray, List.set_cons_succ, List.set_cons_zero]
      go_wp2_with fail
      clear c1 c2
      dsimp only [Sl.v]
      obtain ⟨W1, hW1⟩ : ∃ W1 : World, W1 = W := ⟨_, rfl⟩
      subst hW1
      go_loopw [3, 21] (fun u i w' => ∃ k : Nat, k ≤ h.ops.length ∧ Own w' w.heap.size u (hdHead h ++ ((h.ops.take k).map opBytes).flatten) ∧ i = .int .i64 k ∧ Below w.heap.size w w') (fun _ i _ => h.ops.length - (intOf i).toNat)
      case atStart => exact ⟨0, Nat.zero_le _, by simpa using ho, rfl, hB0⟩
      case round =>
        obtain ⟨k, hk, hown, rfl, hB⟩ := hrel
        have hz := hB.size
        by_cases hkx : k < h.ops.length
        · obtain ⟨b, off, e, hbs, hc⟩ := (OpsR.keep' Hr.out hB).at (by omega)
          have e1 := congrArg Sl.a e
          simp only at e1
          subst e1
          clear e
          obtain ⟨cs, hcx, g1, rfl, hv1⟩ := hc k hkx
          clear hc
          have hvm := List.all_eq_true.1 Hm.out h.ops[k] (List.getElem_mem _)
          have hfl : ((h.ops.take (k + 1)).map opBytes).flatten = ((h.ops.take k).map opBytes).flatten ++ opBytes h.ops[k] := by
            rw [List.take_succ_eq_append_getElem hkx, List.map_append, List.flatten_append, List.map_cons, List.map_nil, List.flatten_cons, List.flatten_nil, List.append_nil]
          have hlen := ops_len h.ops k Hm.out
          have hvl := opBytes_length hvm
          have hhd := hdHead_length h
          generalize h.ops[k] = ok at *
          have i0' : (0 : Int) ≤ (k : Int) := by omega
          have i1 : (k : Int) < (h.ops.length : Int) := by omega
          have n1 : b ≠ wr.heap.size := by omega
          have hfit : (hdHead h ++ ((h.ops.take k).map opBytes).flatten).length + (opBytes ok).length ≤ 140737488355328 := by
            simp only [List.length_append]
            omega
          have Hfl := Lib.hid hfl
          have Hv1 := Lib.hid hv1
          have Hown := Lib.hid hown
          have Hvm := Lib.hid hvm
          generalize hpre : ((h.ops.take k).map opBytes).flatten = pre at *
          clear hpre hfl hv1 hlen hvm hvl hown hhd
          go_wp2_with fail
          (with_reducible refine (op_c g1 ok _ (OpR.keep' Hv1.out (by (repeat' (first | (with_reducible exact Below.refl _ _) | (with_reducible assumption) | (with_reducible refine bel_trans (by assumption) ?_ ?_) | (with_reducible refine bel_grown (by assumption) ?_ ?_ ?_) | (with_reducible refine Below.alloc ?_ ?_ _) | (with_reducible refine Below.drew ?_) | (with_reducible refine below_drewN ?_ _) | (with_reducible refine Below.setCell ?_ ?_ _) | (with_reducible refine below_put ?_ ?_ _ _) | (with_reducible exact Nat.le_refl _) | omega | (with_reducible refine Nat.le_trans ?_ (Below.size (by assumption))) | (with_reducible refine Nat.le_trans ?_ (World.grownBy.size (by assumption))) | (simp only [World.size_alloc, World.size_setCell, World.size_drew, size_drewN]; omega) | (simp only [World.size_alloc, World.size_setCell, World.size_drew, size_drewN, size_put]; omega) | (intro k hk; simp [Value.ownBlock] at hk; done) | (intro k hk; simp [Value.ownBlock] at hk; omega) | (simp [size_drewN] at *; omega))))) Hvm.out).mono ?_)
          rintro e w2 ⟨x, rfl, o2, b2⟩
          obtain ⟨s2, rfl⟩ := o2.slice
          have hBx : Below wr.heap.size wr w2 := by (repeat' (first | (with_reducible exact Below.refl _ _) | (with_reducible assumption) | (with_reducible refine bel_trans (by assumption) ?_ ?_) | (with_reducible refine bel_grown (by assumption) ?_ ?_ ?_) | (with_reducible refine Below.alloc ?_ ?_ _) | (with_reducible refine Below.drew ?_) | (with_reducible refine below_drewN ?_ _) | (with_reducible refine Below.setCell ?_ ?_ _) | (with_reducible refine below_put ?_ ?_ _ _) | (with_reducible exact Nat.le_refl _) | omega | (with_reducible refine Nat.le_trans ?_ (Below.size (by assumption))) | (with_reducible refine Nat.le_trans ?_ (World.grownBy.size (by assumption))) | (simp only [World.size_alloc, World.size_setCell, World.size_drew, size_drewN]; omega) | (simp only [World.size_alloc, World.size_setCell, World.size_drew, size_drewN, size_put]; omega) | (intro k hk; simp [Value.ownBlock] at hk; done) | (intro k hk; simp [Value.ownBlock] at hk; omega) | (simp [size_drewN] at *; omega)))
          have hown := Hown.out.keep hBx
          have hB2 : Below w.heap.size w w2 := by (repeat' (first | (with_reducible exact Below.refl _ _) | (with_reducible assumption) | (with_reducible refine bel_trans (by assumption) ?_ ?_) | (with_reducible refine bel_grown (by assumption) ?_ ?_ ?_) | (with_reducible refine Below.alloc ?_ ?_ _) | (with_reducible refine Below.drew ?_) | (with_reducible refine below_drewN ?_ _) | (with_reducible refine Below.setCell ?_ ?_ _) | (with_reducible refine below_put ?_ ?_ _ _) | (with_reducible exact Nat.le_refl _) | omega | (with_reducible refine Nat.le_trans ?_ (Below.size (by assumption))) | (with_reducible refine Nat.le_trans ?_ (World.grownBy.size (by assumption))) | (simp only [World.size_alloc, World.size_setCell, World.size_drew, size_drewN]; omega) | (simp only [World.size_alloc, World.size_setCell, World.size_drew, size_drewN, size_put]; omega) | (intro k hk; simp [Value.ownBlock] at hk; done) | (intro k hk; simp [Value.ownBlock] at hk; omega) | (simp [size_drewN] at *; omega)))
          have hzB := hB2.size
          clear b2
          go_wp2_with (at_builtin; refine wpList_append_bytes _ rfl (.tmp 25) (.tmp 27) _ (by rfl) w.heap.size 5 i0 _ Try.underlying35 hi hy0 hy1 hy2 rfl _ _ rfl hown s2 (opBytes ok) rfl o2.reads hfit hzB ?_; intro v3 w3 o3 g3 e3)
          have hB3 : Below w.heap.size w w3 := bel_grown g3 hB2 hzB (fun k hk => (hown.lt k hk).1)
          go_roundw
          case rel => exact ⟨k + 1, by omega, by rw [Hfl.out]; simpa using o3, by go_num, hB3⟩
          case measure => simp [intOf]; omega
        · have hfl : (h.ops.take k) = h.ops := List.take_of_length_le (by omega)
          rw [hfl] at hown
          have Hown := Lib.hid hown
          clear hfl hown
          go_wp2_with fail
          go_ret
          exact ⟨_, rfl, by rw [hdBytes_eq]; exact Hown.out, by (repeat' (first | (with_reducible exact Below.refl _ _) | (with_reducible assumption) | (with_reducible refine bel_trans (by assumption) ?_ ?_) | (with_reducible refine bel_grown (by assumption) ?_ ?_ ?_) | (with_reducible refine Below.alloc ?_ ?_ _) | (with_reducible refine Below.drew ?_) | (with_reducible refine below_drewN ?_ _) | (with_reducible refine Below.setCell ?_ ?_ _) | (with_reducible refine below_put ?_ ?_ _ _) | (with_reducible exact Nat.le_refl _) | omega | (with_reducible refine Nat.le_trans ?_ (Below.size (by assumption))) | (with_reducible refine Nat.le_trans ?_ (World.grownBy.size (by assumption))) | (simp only [World.size_alloc, World.size_setCell, World.size_drew, size_drewN]; omega) | (simp only [World.size_alloc, World.size_setCell, World.size_drew, size_drewN, size_put]; omega) | (intro k hk; simp [Value.ownBlock] at hk; done) | (intro k hk; simp [Value.ownBlock] at hk; omega) | (simp [size_drewN] at *; omega)))⟩
end Go.Proofs.Ytbpbnnonialelaa
