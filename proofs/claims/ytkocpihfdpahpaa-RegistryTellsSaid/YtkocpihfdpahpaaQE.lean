/- Texts of this proof, one behind the other: RefHdr. -/
import Derived.Test.YtkocpihfdpahpaaQB
import Derived.Test.YtkocpihfdpahpaaQC
import Derived.Deep.CutRange
set_option linter.unusedVariables false
set_option linter.unusedSimpArgs false
/- Contracts: ref09.Op, Header, NameText. -/
namespace Go.Proofs.Ytkocpihfdpahpaa
open Go.RowKit

set_option maxRecDepth 100000 in
set_option maxHeartbeats 800000 in
theorem fop_dep (g : GOp) (o : Op) (w : World) (h : OpR w g o) (hk : o.kind = 1) :
    Calls Try.prog 179 #[.agg (opA g)] w fun e w' => ∃ v, e = .returned v ∧ Own w' w.heap.size v (opBytes o) ∧ Below w.heap.size w w' := by
  have hE : opBytes o = [1] ++ (g.key.1 ++ be 8 g.stake.toNat) := by
    unfold opBytes
    rw [if_pos hk, h.2.1, h.2.2.1, hk]
    rfl
  have hkind : g.kind = 1 := by rw [h.1, hk]
  have b1 : (g.kind == 1) = true := by simp [hkind]
  have hn := g.stake.toNat_lt
  have HP := fun W => rput_c 8 g.stake.toNat W (by omega) (by omega) (by omega)
  have hkl := g.key.2
  have HE := Lib.hid hE
  have hrow : row? (w.alloc (.cells (opA g) 83)) w.heap.size 0 36 = some (opA g) := by
    rw [row?_new]
    simp
  have hB0 : Below w.heap.size w (w.alloc (.cells (opA g) 83)) := bel_a _ _
  have hz0 : w.heap.size < (w.alloc (.cells (opA g) 83)).heap.size := by simp
  obtain ⟨c0, c33, c34, c35⟩ := opA_cells hrow
  have Hrow := Lib.hid hrow
  have HB0 := Lib.hid hB0
  clear hE h hk hkind hn hrow hB0
  go_enter Try.func179, Try.ntmps179
  go_upto_region 1 with fail
  generalize w.alloc (.cells (opA g) 83) = w1 at *
  go_upto_region 2 with fail
  refine wp_region_freeG_l (fun W W' => Below W.heap.size W W') (by kernel_rfl) [8, 9, 10, 11, 12, 13, 14, 15, 2]
    [IsB ([1]), Is (.pointer (some ⟨w.heap.size, 1, none⟩)), IsB (g.key.1), Is (.pointer (some ⟨w.heap.size, 33, none⟩)), Is (.int .u64 (g.stake.toNat : Int)), IsB (be 8 g.stake.toNat), Pieces [[1], g.key.1, be 8 g.stake.toNat], OwnB (w.heap.size + 1) (opBytes o), OwnB (w.heap.size + 1) (opBytes o)]
    (by kernel_rfl) (fun W W' h hb => hb.trans (h.mono hb.size)) ?_ ?_ ?_
  · intro f hf
    simp only [List.mem_cons, List.not_mem_nil, or_false] at hf
    rcases hf with rfl | rfl | rfl | rfl | rfl | rfl | rfl | rfl | rfl <;> intro x W W' h hr <;> first | exact h | exact IsB.keepB h hr | exact Pieces.keepB h hr | exact Own.keep h hr
  · refine ⟨?_, ?_, ?_, ?_, ?_, ?_, ?_, ?_, ?_, trivial⟩
    · intro L ax W hf hd
      try simp [Region.binds] at hd
      refine ⟨fun _ => ?_, fun h => absurd trivial h⟩
      refine free_run (v := .slice (some ⟨W.heap.size, 0, none⟩) 1 1) (W' := W.alloc (.cells #[.int .u8 1] 5)) rfl ?_ ⟨⟨some ⟨W.heap.size, 0, none⟩, 1, 1⟩, rfl, BytesR.one _ _ _ _ _ rfl rfl⟩ (bel_a _ _)
      go_simp
    · intro L ax W hf hd
      try simp [Region.binds] at hd
      have e1 : ax.tmps[1]?.getD undef = .pointer (some ⟨w.heap.size, 0, none⟩) := hf.out 1 (by decide) rfl
      refine ⟨fun _ => ?_, fun h => absurd trivial h⟩
      refine free_run (v := .pointer (some ⟨w.heap.size, 1, none⟩)) (W' := W) rfl ?_ rfl (Below.refl _ _)
      go_simp
    · intro L ax W hf hd
      simp [Region.binds] at hd
      have e9 : ax.tmps[9]?.getD undef = .pointer (some ⟨w.heap.size, 1, none⟩) := slv (hf.got 1 (by decide) (by simp [hd]))
      refine ⟨fun _ => ?_, fun h => absurd trivial h⟩
      refine free_run (v := .slice (some ⟨w.heap.size, 1, none⟩) 32 32) (W' := W) rfl ?_ ⟨⟨some ⟨w.heap.size, 1, none⟩, 32, 32⟩, rfl, key_reads ((row?_below _ _ _ hf.below hz0).trans Hrow.out)⟩ (Below.refl _ _)
      go_simp
    · intro L ax W hf hd
      try simp [Region.binds] at hd
      have e1 : ax.tmps[1]?.getD undef = .pointer (some ⟨w.heap.size, 0, none⟩) := hf.out 1 (by decide) rfl
      refine ⟨fun _ => ?_, fun h => absurd trivial h⟩
      refine free_run (v := .pointer (some ⟨w.heap.size, 33, none⟩)) (W' := W) rfl ?_ rfl (Below.refl _ _)
      go_simp
    · intro L ax W hf hd
      simp [Region.binds] at hd
      have e11 : ax.tmps[11]?.getD undef = .pointer (some ⟨w.heap.size, 33, none⟩) := slv (hf.got 3 (by decide) (by simp [hd]))
      refine ⟨fun _ => ?_, fun h => absurd trivial h⟩
      have h1 : W.cell? ⟨w.heap.size, 33, none⟩ = some (.int .u64 (g.stake.toNat : Int)) := (hf.below.cell (p := ⟨w.heap.size, 33, none⟩) hz0).trans c33
      refine free_run (v := .int .u64 (g.stake.toNat : Int)) (W' := W) rfl ?_ rfl (Below.refl _ _)
      go_simp
    · intro L ax W hf hd
      simp [Region.binds] at hd
      have e12 : ax.tmps[12]?.getD undef = .int .u64 (g.stake.toNat : Int) := slv (hf.got 4 (by decide) (by simp [hd]))
      refine ⟨fun _ => ?_, fun h => absurd trivial h⟩
      refine free_call (f := 159) (args := #[.int .u64 (g.stake.toNat : Int), .int .i64 8]) rfl (by go_simp) ?_
      refine (HP W).mono ?_
      rintro e w' ⟨x, rfl, ho, hb⟩
      obtain ⟨s, rfl⟩ := ho.slice
      exact ⟨_, rfl, ⟨s, rfl, ho.reads⟩, hb⟩
    · intro L ax W hf hd
      simp [Region.binds] at hd
      have f8 : IsB ([1]) (sl ax 8) W := hf.got 0 (by decide) (by simp [hd])
      have f10 : IsB (g.key.1) (sl ax 10) W := hf.got 2 (by decide) (by simp [hd])
      have f13 : IsB (be 8 g.stake.toNat) (sl ax 13) W := hf.got 5 (by decide) (by simp [hd])
      refine ⟨fun _ => ?_, fun h => absurd trivial h⟩
      obtain ⟨s0, e0, r0⟩ := f8
      obtain ⟨s1, e1, r1⟩ := f10
      obtain ⟨s2, e2, r2⟩ := f13
      have e0 := slv e0
      have e1 := slv e1
      have e2 := slv e2
      have hb := bel_a W (.cells #[s0.v, s1.v, s2.v] 32)
      refine free_run (v := .slice (some ⟨W.heap.size, 0, none⟩) 3 3) (W' := W.alloc (.cells #[s0.v, s1.v, s2.v] 32)) rfl ?_ ⟨W.heap.size, [s0, s1, s2], rfl, rfl, ?_, ?_⟩ hb
      · clear hb
        go_simp
      · intro i h
        have hi4 : i = 0 ∨ i = 1 ∨ i = 2 := by simp at h; omega
        rcases hi4 with rfl | rfl | rfl <;> simp
      · intro i h h'
        have hi4 : i = 0 ∨ i = 1 ∨ i = 2 := by simp at h; omega
        rcases hi4 with rfl | rfl | rfl
        · exact r0.keep hb
        · exact r1.keep hb
        · exact r2.keep hb
    · intro L ax W hf hd
      simp [Region.binds] at hd
      have f14 : Pieces [[1], g.key.1, be 8 g.stake.toNat] (sl ax 14) W := hf.got 6 (by decide) (by simp [hd])
      refine ⟨fun _ => ?_, fun h => absurd trivial h⟩
      obtain ⟨b, ss, e0, hl, hc, hr⟩ := f14
      have e0 := slv e0
      refine free_call (f := 94) (args := #[.slice (some ⟨b, 0, none⟩) 3 3]) rfl (by simp [execOp, Act.eval, e0, resolve, invoke, Deferred.ofValue]; try go_simp) ?_
      refine (rjoin_c b 3 ss [[1], g.key.1, be 8 g.stake.toNat] W ⟨hl, hc, hr⟩ (by simp) (by simp [be_length, hkl])).mono ?_
      rintro e w' ⟨x, rfl, ho, hb⟩
      refine ⟨_, rfl, ?_, hb⟩
      have := ho.more (base' := w.heap.size + 1) (by have := hf.below.size; omega)
      unfold OwnB
      rw [HE.out]
      simpa using this
    · intro L ax W hf hd
      simp [Region.binds] at hd
      have f15 : OwnB (w.heap.size + 1) (opBytes o) (sl ax 15) W := hf.got 7 (by decide) (by simp [hd])
      refine ⟨fun _ => ?_, fun h => absurd trivial h⟩
      refine free_run (v := sl ax 15) (W' := W) rfl ?_ f15 (Below.refl _ _)
      simp [execOp, Act.eval, sl]
  · intro vs W hl' hF hb
    obtain ⟨g', hg1, hg2⟩ := vs_lit vs hl' hF
    have ho : Own W (w.heap.size + 1) (g' 8) (opBytes o) := hg2 8 (by decide)
    rw [hg1]
    clear hF hg1 hg2 hl'
    have Ho := Lib.hid ho
    clear ho
    simp only [List.length_cons, List.length_nil, Nat.reduceAdd, show List.range 9 = [0, 1, 2, 3, 4, 5, 6, 7, 8] from rfl, List.map_cons, List.map_nil, putL, List.zip_cons_cons, List.zip_nil_right, List.setIfInBounds_toArray, List.set_cons_succ, List.set_cons_zero]
    go_wp2_with fail
    go_ret
    exact ⟨_, rfl, Ho.out.more (Nat.le_succ _), HB0.out.trans (hb.mono (Nat.le_of_lt hz0))⟩

set_option maxRecDepth 100000 in
set_option maxHeartbeats 800000 in
theorem fop_rest (g : GOp) (o : Op) (w : World) (h : OpR w g o) (hk : o.kind = 2 ∨ o.kind = 3) (hv0 : 1 ≤ o.validator) (hv1 : o.validator ≤ 64) (he : o.evidence.length ≤ 2) (hm : o.evidence.all voteMay = true) :
    Calls Try.prog 179 #[.agg (opA g)] w fun e w' => ∃ v, e = .returned v ∧ Own w' w.heap.size v (opBytes o) ∧ Below w.heap.size w w' := by
  obtain ⟨i0, hi, hz0, hz1, hz2⟩ := info_parts info_u8
  have hE : opBytes o = [UInt8.ofNat (g.kind % 256).toNat, UInt8.ofNat (g.validator % 256).toNat] ++ (o.evidence.map vtBytes).flatten := by
    unfold opBytes
    rw [if_neg (by omega), h.1, h.2.2.2.1]
    rfl
  have hkind : g.kind = 2 ∨ g.kind = 3 := by rw [h.1]; exact hk
  have hg0 : 1 ≤ g.validator := by rw [h.2.2.2.1]; exact hv0
  have hg1 : g.validator ≤ 64 := by rw [h.2.2.2.1]; exact hv1
  have n1 := h.2.2.2.2.1
  have hr := h.2.2.2.2
  obtain ⟨gk, gkey, gst, gv, ⟨ea, en, ec⟩⟩ := g
  simp only at n1 hkind hg0 hg1 hE
  subst n1
  have hw : IntKind.u8.wrap gk = gk := IntWalk.u8_in _ (by omega)
  have hw2 : IntKind.u8.wrap gv = gv := IntWalk.u8_in _ (by omega)
  have b1 : (gk == 1) = false := by simp; omega
  have hkb := byteV_int gk (by omega) (by omega)
  have hvb := byteV_int gv (by omega) (by omega)
  have HE := Lib.hid hE
  have Hr := Lib.hid hr
  generalize hA : opA ⟨gk, gkey, gst, gv, ⟨ea, o.evidence.length, ec⟩⟩ = A
  have hlit : Own ((w.alloc (.cells A 83)).alloc (.cells #[.int .u8 gk, .int .u8 gv] 5)) (w.heap.size + 1) (.slice (some ⟨w.heap.size + 1, 0, none⟩) 2 2) [UInt8.ofNat (gk % 256).toNat, UInt8.ofNat (gv % 256).toNat] := by
    have := Own.lit (w.alloc (.cells A 83)) (w.heap.size + 1) [UInt8.ofNat (gk % 256).toNat, UInt8.ofNat (gv % 256).toNat] #[.int .u8 gk, .int .u8 gv] 5 2 (by rw [List.map_cons, List.map_cons, hkb, hvb]; rfl) rfl (by simp) (by simp [maxLen])
    simpa using this
  have hrow : row? ((w.alloc (.cells A 83)).alloc (.cells #[.int .u8 gk, .int .u8 gv] 5)) w.heap.size 0 36 = some (opA ⟨gk, gkey, gst, gv, ⟨ea, o.evidence.length, ec⟩⟩) := by
    rw [row?_old _ _ _ _ _ (by simp), row?_new, ← hA]
    simp
  subst hA
  have hB1 : Below w.heap.size w ((w.alloc (.cells (opA ⟨gk, gkey, gst, gv, ⟨ea, o.evidence.length, ec⟩⟩) 83)).alloc (.cells #[.int .u8 gk, .int .u8 gv] 5)) := by (repeat' (first | (with_reducible exact Below.refl _ _) | (with_reducible assumption) | (with_reducible refine bel_trans (by assumption) ?_ ?_) | (with_reducible refine bel_grown (by assumption) ?_ ?_ ?_) | (with_reducible refine Below.alloc ?_ ?_ _) | (with_reducible refine Below.drew ?_) | (with_reducible refine below_drewN ?_ _) | (with_reducible refine Below.setCell ?_ ?_ _) | (with_reducible refine below_put ?_ ?_ _ _) | (with_reducible exact Nat.le_refl _) | omega | (with_reducible refine Nat.le_trans ?_ (Below.size (by assumption))) | (with_reducible refine Nat.le_trans ?_ (World.grownBy.size (by assumption))) | (simp only [World.size_alloc, World.size_setCell, World.size_drew, size_drewN]; omega) | (simp only [World.size_alloc, World.size_setCell, World.size_drew, size_drewN, size_put]; omega) | (intro k hk; simp [Value.ownBlock] at hk; done) | (intro k hk; simp [Value.ownBlock] at hk; omega) | (simp [size_drewN] at *; omega)))
  have H1 := Lib.hid hlit
  have Hm := Lib.hid hm
  obtain ⟨d0, d33, d34, d35⟩ := opA_cells hrow
  clear hm hE hr h hk hkb hvb hv0 hv1 hkind hlit hrow d0 d33 d34
  go_enter Try.func179, Try.ntmps179
  go_wp2_with fail
  generalize (w.alloc (.cells (opA ⟨gk, gkey, gst, gv, ⟨ea, o.evidence.length, ec⟩⟩) 83)).alloc (.cells #[.int .u8 gk, .int .u8 gv] 5) = w1 at *
  have hs1 : w.heap.size < w1.heap.size := lt_of_cell d35
  have hs2 : w.heap.size + 1 ≤ w1.heap.size := hs1
  go_loopw [3, 4] (fun u i w' => ∃ k : Nat, k ≤ o.evidence.length ∧ Own w' (w.heap.size + 1) u ([UInt8.ofNat (gk % 256).toNat, UInt8.ofNat (gv % 256).toNat] ++ ((o.evidence.take k).map vtBytes).flatten) ∧ i = .int .i64 k ∧ Below (w.heap.size + 1) w1 w') (fun _ i _ => o.evidence.length - (intOf i).toNat)
  case atStart => exact ⟨0, Nat.zero_le _, by simpa using H1.out, rfl, Below.refl _ _⟩
  case round =>
    obtain ⟨k, hk, hown, rfl, hB⟩ := hrel
    have hz := hB.size
    have c35 : wr.cell? ⟨w.heap.size, 35, none⟩ = some (.slice ea o.evidence.length ec) := (hB.cell (p := ⟨w.heap.size, 35, none⟩) (Nat.lt_succ_self _)).trans d35
    have hBB : Below w.heap.size w wr := hB1.trans (hB.mono (Nat.le_succ _))
    by_cases hkx : k < o.evidence.length
    · obtain ⟨b, off, e, hbs, hc⟩ := (VotesR.keep' Hr.out hBB).at (by omega)
      have e1 := congrArg Sl.a e
      simp only at e1
      subst e1
      clear e
      obtain ⟨cs, hcx, g1, rfl, hv1⟩ := hc k hkx
      clear hc
      have hvm := List.all_eq_true.1 Hm.out o.evidence[k] (List.getElem_mem _)
      have hfl : ((o.evidence.take (k + 1)).map vtBytes).flatten = ((o.evidence.take k).map vtBytes).flatten ++ vtBytes o.evidence[k] := by
        rw [List.take_succ_eq_append_getElem hkx, List.map_append, List.flatten_append, List.map_cons, List.map_nil, List.flatten_cons, List.flatten_nil, List.append_nil]
      have hlen := votes_len o.evidence k (by omega) Hm.out
      have hvl := vtBytes_length o.evidence[k]
      generalize o.evidence[k] = vk at *
      obtain ⟨m1, m2, m3, m4, m5⟩ := voteMay_out hvm
      have i0' : (0 : Int) ≤ (k : Int) := by omega
      have i1 : (k : Int) < (o.evidence.length : Int) := by omega
      have hfit : ([UInt8.ofNat (gk % 256).toNat, UInt8.ofNat (gv % 256).toNat] ++ ((o.evidence.take k).map vtBytes).flatten).length + (vtBytes vk).length ≤ 140737488355328 := by
        simp only [List.length_append, List.length_cons, List.length_nil]
        omega
      have Hfl := Lib.hid hfl
      have Hv1 := Lib.hid hv1
      have Hown := Lib.hid hown
      have HBo := Lib.hid hB
      generalize hpre : ((o.evidence.take k).map vtBytes).flatten = pre at *
      clear hpre hfl hv1 hlen hvm hvl hown m4 m5 hB
      go_wp2_with fail
      (with_reducible refine (fVote_c g1 vk _ Hv1.out m1 m2 m3).mono ?_)
      rintro e w2 ⟨s2, rfl, o2, b2⟩
      have hown := Hown.out.keep b2
      have hzb := b2.size
      have hB2 : Below (w.heap.size + 1) w1 w2 := HBo.out.trans (b2.mono (by omega))
      have hzB : w.heap.size + 1 ≤ w2.heap.size := by omega
      clear b2
      go_wp2_with (at_builtin; refine wpList_append_bytes _ rfl (.tmp 30) (.tmp 36) _ (by rfl) (w.heap.size + 1) 5 i0 _ Try.underlying32 hi hz0 hz1 hz2 rfl _ _ rfl hown s2 (vtBytes vk) rfl o2 hfit hzB ?_; intro v3 w3 o3 g3 e3)
      have hB3 : Below (w.heap.size + 1) w1 w3 := bel_grown g3 hB2 hzB (fun k hk => (hown.lt k hk).1)
      go_roundw
      case rel => exact ⟨k + 1, by omega, by rw [Hfl.out]; simpa using o3, by go_num, hB3⟩
      case measure => simp [intOf]; omega
    · have hfl : (o.evidence.take k) = o.evidence := List.take_of_length_le (by omega)
      rw [hfl] at hown
      have Hown := Lib.hid hown
      clear hfl hown
      go_wp2_with fail
      go_ret
      exact ⟨_, rfl, by rw [HE.out]; exact Hown.out.more (Nat.le_succ _), hBB⟩

theorem fop_c (g : GOp) (o : Op) (w : World) (h : OpR w g o) (hm : opMay o = true) :
    Calls Try.prog 179 #[.agg (opA g)] w fun e w' => ∃ v, e = .returned v ∧ Own w' w.heap.size v (opBytes o) ∧ Below w.heap.size w w' := by
  rcases opMay_out hm with h1 | ⟨h1, h2, h3, h4, h5⟩
  · exact fop_dep g o w h h1
  · exact fop_rest g o w h h1 h2 h3 h4 h5

set_option maxRecDepth 100000 in
set_option maxHeartbeats 1600000 in
theorem fheader_c (g : GHeader) (h : Hdr) (w : World) (hr : HdrR w g h) (hl : h.ops.length ≤ 16) (hm : h.ops.all opMay = true) :
    Calls Try.prog 112 #[.agg (headerA g)] w fun e w' => ∃ v, e = .returned v ∧ Own w' w.heap.size v (hdBytes h) ∧ Below w.heap.size w w' := by
  obtain ⟨i0, hi, hy0, hy1, hy2⟩ := info_parts info_u8
  have n1 := hr.2.2.1
  have e1 := hr.1
  have e2 := hr.2.1
  obtain ⟨gp, ge, ⟨oa, on, oc⟩⟩ := g
  simp only at n1 e1 e2
  subst n1 e1 e2
  have hw : IntKind.u8.wrap (h.ops.length : Int) = h.ops.length := IntWalk.u8_in _ (by omega)
  have hnb : byteV (UInt8.ofNat h.ops.length) = .int .u8 (h.ops.length : Int) := by
    rw [byteV_of, Nat.mod_eq_of_lt (by omega)]
  have Hnb := Lib.hid hnb
  have hn := h.epoch.toNat_lt
  have hkl := h.parent.2
  have HP := fun W => rput_c 8 h.epoch.toNat W (by omega) (by omega) (by omega)
  have Hr := Lib.hid hr.2.2
  have Hm := Lib.hid hm
  have hrow : row? (w.alloc (.cells (headerA ⟨h.parent, h.epoch, ⟨oa, h.ops.length, oc⟩⟩) 49)) w.heap.size 0 34 = some (headerA ⟨h.parent, h.epoch, ⟨oa, h.ops.length, oc⟩⟩) := by
    rw [row?_new]
    simp
  have hB0 : Below w.heap.size w (w.alloc (.cells (headerA ⟨h.parent, h.epoch, ⟨oa, h.ops.length, oc⟩⟩) 49)) := bel_a _ _
  have hz0 : w.heap.size < (w.alloc (.cells (headerA ⟨h.parent, h.epoch, ⟨oa, h.ops.length, oc⟩⟩) 49)).heap.size := by simp
  obtain ⟨c32, c33⟩ := headerA_cells hrow
  have Hrow := Lib.hid hrow
  have HB0 := Lib.hid hB0
  clear hr hm hn hnb hrow hB0
  go_enter Try.func112, Try.ntmps112
  go_upto_region 1 with fail
  generalize w.alloc (.cells (headerA ⟨h.parent, h.epoch, ⟨oa, h.ops.length, oc⟩⟩) 49) = w1 at *
  refine wp_region_freeG_l (fun W W' => Below W.heap.size W W') (by kernel_rfl) [5, 6, 7, 8, 9, 10, 11, 12, 13, 14, 15, 16, 3]
    [Is (.pointer (some ⟨w.heap.size, 0, none⟩)), IsB (h.parent.1), Is (.pointer (some ⟨w.heap.size, 32, none⟩)), Is (.int .u64 (h.epoch.toNat : Int)), IsB (be 8 h.epoch.toNat), Is (.pointer (some ⟨w.heap.size, 33, none⟩)), Is (.slice oa h.ops.length oc), Is (.int .i64 (h.ops.length : Int)), Is (.int .u8 (h.ops.length : Int)), IsB ([UInt8.ofNat h.ops.length]), Pieces [h.parent.1, be 8 h.epoch.toNat, [UInt8.ofNat h.ops.length]], OwnB (w.heap.size + 1) (hdHead h), OwnB (w.heap.size + 1) (hdHead h)]
    (by kernel_rfl) (fun W W' h hb => hb.trans (h.mono hb.size)) ?_ ?_ ?_
  · intro f hf
    simp only [List.mem_cons, List.not_mem_nil, or_false] at hf
    rcases hf with rfl | rfl | rfl | rfl | rfl | rfl | rfl | rfl | rfl | rfl | rfl | rfl | rfl <;> intro x W W' h hr <;> first | exact h | exact IsB.keepB h hr | exact Pieces.keepB h hr | exact Own.keep h hr
  · refine ⟨?_, ?_, ?_, ?_, ?_, ?_, ?_, ?_, ?_, ?_, ?_, ?_, ?_, trivial⟩
    · intro L ax W hf hd
      try simp [Region.binds] at hd
      have e1 : ax.tmps[1]?.getD undef = .pointer (some ⟨w.heap.size, 0, none⟩) := hf.out 1 (by decide) rfl
      refine ⟨fun _ => ?_, fun h => absurd trivial h⟩
      refine free_run (v := .pointer (some ⟨w.heap.size, 0, none⟩)) (W' := W) rfl ?_ rfl (Below.refl _ _)
      go_simp
    · intro L ax W hf hd
      simp [Region.binds] at hd
      have e5 : ax.tmps[5]?.getD undef = .pointer (some ⟨w.heap.size, 0, none⟩) := slv (hf.got 0 (by decide) (by simp [hd]))
      refine ⟨fun _ => ?_, fun h => absurd trivial h⟩
      refine free_run (v := .slice (some ⟨w.heap.size, 0, none⟩) 32 32) (W' := W) rfl ?_ ⟨⟨some ⟨w.heap.size, 0, none⟩, 32, 32⟩, rfl, parent_reads ((row?_below _ _ _ hf.below hz0).trans Hrow.out)⟩ (Below.refl _ _)
      go_simp
    · intro L ax W hf hd
      try simp [Region.binds] at hd
      have e1 : ax.tmps[1]?.getD undef = .pointer (some ⟨w.heap.size, 0, none⟩) := hf.out 1 (by decide) rfl
      refine ⟨fun _ => ?_, fun h => absurd trivial h⟩
      refine free_run (v := .pointer (some ⟨w.heap.size, 32, none⟩)) (W' := W) rfl ?_ rfl (Below.refl _ _)
      go_simp
    · intro L ax W hf hd
      simp [Region.binds] at hd
      have e7 : ax.tmps[7]?.getD undef = .pointer (some ⟨w.heap.size, 32, none⟩) := slv (hf.got 2 (by decide) (by simp [hd]))
      refine ⟨fun _ => ?_, fun h => absurd trivial h⟩
      have h1 : W.cell? ⟨w.heap.size, 32, none⟩ = some (.int .u64 (h.epoch.toNat : Int)) := (hf.below.cell (p := ⟨w.heap.size, 32, none⟩) hz0).trans c32
      refine free_run (v := .int .u64 (h.epoch.toNat : Int)) (W' := W) rfl ?_ rfl (Below.refl _ _)
      go_simp
    · intro L ax W hf hd
      simp [Region.binds] at hd
      have e8 : ax.tmps[8]?.getD undef = .int .u64 (h.epoch.toNat : Int) := slv (hf.got 3 (by decide) (by simp [hd]))
      refine ⟨fun _ => ?_, fun h => absurd trivial h⟩
      refine free_call (f := 159) (args := #[.int .u64 (h.epoch.toNat : Int), .int .i64 8]) rfl (by go_simp) ?_
      refine (HP W).mono ?_
      rintro e w' ⟨x, rfl, ho, hb⟩
      obtain ⟨s, rfl⟩ := ho.slice
      exact ⟨_, rfl, ⟨s, rfl, ho.reads⟩, hb⟩
    · intro L ax W hf hd
      try simp [Region.binds] at hd
      have e1 : ax.tmps[1]?.getD undef = .pointer (some ⟨w.heap.size, 0, none⟩) := hf.out 1 (by decide) rfl
      refine ⟨fun _ => ?_, fun h => absurd trivial h⟩
      refine free_run (v := .pointer (some ⟨w.heap.size, 33, none⟩)) (W' := W) rfl ?_ rfl (Below.refl _ _)
      go_simp
    · intro L ax W hf hd
      simp [Region.binds] at hd
      have e10 : ax.tmps[10]?.getD undef = .pointer (some ⟨w.heap.size, 33, none⟩) := slv (hf.got 5 (by decide) (by simp [hd]))
      refine ⟨fun _ => ?_, fun h => absurd trivial h⟩
      have h1 : W.cell? ⟨w.heap.size, 33, none⟩ = some (.slice oa h.ops.length oc) := (hf.below.cell (p := ⟨w.heap.size, 33, none⟩) hz0).trans c33
      refine free_run (v := .slice oa h.ops.length oc) (W' := W) rfl ?_ rfl (Below.refl _ _)
      go_simp
    · intro L ax W hf hd
      simp [Region.binds] at hd
      have e11 : ax.tmps[11]?.getD undef = .slice oa h.ops.length oc := slv (hf.got 6 (by decide) (by simp [hd]))
      refine ⟨fun _ => ?_, fun h => absurd trivial h⟩
      refine free_run (v := .int .i64 (h.ops.length : Int)) (W' := W) rfl ?_ rfl (Below.refl _ _)
      go_simp
    · intro L ax W hf hd
      simp [Region.binds] at hd
      have e12 : ax.tmps[12]?.getD undef = .int .i64 (h.ops.length : Int) := slv (hf.got 7 (by decide) (by simp [hd]))
      refine ⟨fun _ => ?_, fun h => absurd trivial h⟩
      refine free_run (v := .int .u8 (h.ops.length : Int)) (W' := W) rfl ?_ rfl (Below.refl _ _)
      go_simp
    · intro L ax W hf hd
      simp [Region.binds] at hd
      have e13 : ax.tmps[13]?.getD undef = .int .u8 (h.ops.length : Int) := slv (hf.got 8 (by decide) (by simp [hd]))
      refine ⟨fun _ => ?_, fun h => absurd trivial h⟩
      refine free_run (v := .slice (some ⟨W.heap.size, 0, none⟩) 1 1) (W' := W.alloc (.cells #[.int .u8 (h.ops.length : Int)] 5)) rfl ?_ ⟨⟨some ⟨W.heap.size, 0, none⟩, 1, 1⟩, rfl, BytesR.one _ _ _ _ _ rfl Hnb.out⟩ (bel_a _ _)
      go_simp
    · intro L ax W hf hd
      simp [Region.binds] at hd
      have f6 : IsB (h.parent.1) (sl ax 6) W := hf.got 1 (by decide) (by simp [hd])
      have f9 : IsB (be 8 h.epoch.toNat) (sl ax 9) W := hf.got 4 (by decide) (by simp [hd])
      have f14 : IsB ([UInt8.ofNat h.ops.length]) (sl ax 14) W := hf.got 9 (by decide) (by simp [hd])
      refine ⟨fun _ => ?_, fun h => absurd trivial h⟩
      obtain ⟨s0, e0, r0⟩ := f6
      obtain ⟨s1, e1, r1⟩ := f9
      obtain ⟨s2, e2, r2⟩ := f14
      have e0 := slv e0
      have e1 := slv e1
      have e2 := slv e2
      have hb := bel_a W (.cells #[s0.v, s1.v, s2.v] 32)
      refine free_run (v := .slice (some ⟨W.heap.size, 0, none⟩) 3 3) (W' := W.alloc (.cells #[s0.v, s1.v, s2.v] 32)) rfl ?_ ⟨W.heap.size, [s0, s1, s2], rfl, rfl, ?_, ?_⟩ hb
      · clear hb
        go_simp
      · intro i h
        have hi4 : i = 0 ∨ i = 1 ∨ i = 2 := by simp at h; omega
        rcases hi4 with rfl | rfl | rfl <;> simp
      · intro i h h'
        have hi4 : i = 0 ∨ i = 1 ∨ i = 2 := by simp at h; omega
        rcases hi4 with rfl | rfl | rfl
        · exact r0.keep hb
        · exact r1.keep hb
        · exact r2.keep hb
    · intro L ax W hf hd
      simp [Region.binds] at hd
      have f15 : Pieces [h.parent.1, be 8 h.epoch.toNat, [UInt8.ofNat h.ops.length]] (sl ax 15) W := hf.got 10 (by decide) (by simp [hd])
      refine ⟨fun _ => ?_, fun h => absurd trivial h⟩
      obtain ⟨b, ss, e0, hl, hc, hr⟩ := f15
      have e0 := slv e0
      refine free_call (f := 94) (args := #[.slice (some ⟨b, 0, none⟩) 3 3]) rfl (by simp [execOp, Act.eval, e0, resolve, invoke, Deferred.ofValue]; try go_simp) ?_
      refine (rjoin_c b 3 ss [h.parent.1, be 8 h.epoch.toNat, [UInt8.ofNat h.ops.length]] W ⟨hl, hc, hr⟩ (by simp) (by simp [be_length, hkl])).mono ?_
      rintro e w' ⟨x, rfl, ho, hb⟩
      refine ⟨_, rfl, ?_, hb⟩
      have := ho.more (base' := w.heap.size + 1) (by have := hf.below.size; omega)
      unfold OwnB
      unfold hdHead
      simpa using this
    · intro L ax W hf hd
      simp [Region.binds] at hd
      have f16 : OwnB (w.heap.size + 1) (hdHead h) (sl ax 16) W := hf.got 11 (by decide) (by simp [hd])
      refine ⟨fun _ => ?_, fun h => absurd trivial h⟩
      refine free_run (v := sl ax 16) (W' := W) rfl ?_ f16 (Below.refl _ _)
      simp [execOp, Act.eval, sl]
  · intro vs W hl' hF hb
    obtain ⟨g', hg1, hg2⟩ := vs_lit vs hl' hF
    have ho : Own W (w.heap.size + 1) (g' 12) (hdHead h) := hg2 12 (by decide)
    rw [hg1]
    clear hF hg1 hg2 hl'
    have hB1 : Below w.heap.size w W := HB0.out.trans (hb.mono (Nat.le_of_lt hz0))
    have d33 : W.cell? ⟨w.heap.size, 33, none⟩ = some (.slice oa h.ops.length oc) := (hb.cell (p := ⟨w.heap.size, 33, none⟩) hz0).trans c33
    have hs1 : w.heap.size < W.heap.size := by have := hb.size; omega
    have hs2 : w.heap.size + 1 ≤ W.heap.size := hs1
    have Ho := Lib.hid ho
    clear hb ho c32 c33 HP
    generalize g' 12 = gv12
    simp only [List.length_cons, List.length_nil, Nat.reduceAdd, show List.range 13 = [0, 1, 2, 3, 4, 5, 6, 7, 8, 9, 10, 11, 12] from rfl, List.map_cons, List.map_nil, putL, List.zip_cons_cons, List.zip_nil_right, List.setIfInBounds_toArray, List.set_cons_succ, List.set_cons_zero]
    go_wp2_with fail
    go_loopw [3, 4] (fun u i w' => ∃ k : Nat, k ≤ h.ops.length ∧ Own w' (w.heap.size + 1) u (hdHead h ++ ((h.ops.take k).map opBytes).flatten) ∧ i = .int .i64 k ∧ Below (w.heap.size + 1) W w') (fun _ i _ => h.ops.length - (intOf i).toNat)
    case atStart => exact ⟨0, Nat.zero_le _, by simpa using Ho.out, rfl, Below.refl _ _⟩
    case round =>
      obtain ⟨k, hk, hown, rfl, hB⟩ := hrel
      have hz := hB.size
      have c33 : wr.cell? ⟨w.heap.size, 33, none⟩ = some (.slice oa h.ops.length oc) := (hB.cell (p := ⟨w.heap.size, 33, none⟩) (Nat.lt_succ_self _)).trans d33
      have hBB : Below w.heap.size w wr := hB1.trans (hB.mono (Nat.le_succ _))
      by_cases hkx : k < h.ops.length
      · obtain ⟨b, off, e, hbs, hc⟩ := (OpsR.keep' Hr.out hBB).at (by omega)
        have e1 := congrArg Sl.a e
        simp only at e1
        subst e1
        clear e
        obtain ⟨cs, hcx, g1, rfl, hv1⟩ := hc k hkx
        clear hc
        have hvm := List.all_eq_true.1 Hm.out h.ops[k] (List.getElem_mem _)
        have hfl : ((h.ops.take (k + 1)).map opBytes).flatten = ((h.ops.take k).map opBytes).flatten ++ opBytes h.ops[k] := by
          rw [List.take_succ_eq_append_getElem hkx, List.map_append, List.flatten_append, List.map_cons, List.map_nil, List.flatten_cons, List.flatten_nil, List.append_nil]
        have hlen := ops_len h.ops k Hm.out
        have hvl := opBytes_length hvm
        have hhd := hdHead_length h
        generalize h.ops[k] = ok at *
        have i0' : (0 : Int) ≤ (k : Int) := by omega
        have i1 : (k : Int) < (h.ops.length : Int) := by omega
        have hfit : (hdHead h ++ ((h.ops.take k).map opBytes).flatten).length + (opBytes ok).length ≤ 140737488355328 := by
          simp only [List.length_append]
          omega
        have Hfl := Lib.hid hfl
        have Hv1 := Lib.hid hv1
        have Hown := Lib.hid hown
        have Hvm := Lib.hid hvm
        have HBo := Lib.hid hB
        generalize hpre : ((h.ops.take k).map opBytes).flatten = pre at *
        clear hpre hfl hv1 hlen hvm hvl hown hB
        go_wp2_with fail
        (with_reducible refine (fop_c g1 ok _ Hv1.out Hvm.out).mono ?_)
        rintro e w2 ⟨x, rfl, o2, b2⟩
        obtain ⟨s2, rfl⟩ := o2.slice
        have hown := Hown.out.keep b2
        have hzb := b2.size
        have hB2 : Below (w.heap.size + 1) W w2 := HBo.out.trans (b2.mono (by omega))
        have hzB : w.heap.size + 1 ≤ w2.heap.size := by omega
        clear b2
        go_wp2_with (at_builtin; refine wpList_append_bytes _ rfl (.tmp 24) (.tmp 30) _ (by rfl) (w.heap.size + 1) 5 i0 _ Try.underlying32 hi hy0 hy1 hy2 rfl _ _ rfl hown s2 (opBytes ok) rfl o2.reads hfit hzB ?_; intro v3 w3 o3 g3 e3)
        have hB3 : Below (w.heap.size + 1) W w3 := bel_grown g3 hB2 hzB (fun k hk => (hown.lt k hk).1)
        go_roundw
        case rel => exact ⟨k + 1, by omega, by rw [Hfl.out]; simpa using o3, by go_num, hB3⟩
        case measure => simp [intOf]; omega
      · have hfl : (h.ops.take k) = h.ops := List.take_of_length_le (by omega)
        rw [hfl] at hown
        have Hown := Lib.hid hown
        clear hfl hown
        go_wp2_with fail
        go_ret
        exact ⟨_, rfl, by rw [hdBytes_eq]; exact Hown.out.more (Nat.le_succ _), hBB⟩

theorem hdBytes_length {h : Hdr} (hl : h.ops.length ≤ 16) (hm : h.ops.all opMay = true) : (hdBytes h).length ≤ 200000 := by
  have h1 := ops_len h.ops 16 hm
  rw [List.take_of_length_le hl] at h1
  rw [hdBytes_eq, List.length_append, hdHead_length]
  omega
/-- the text of which a header's name is the hash -/
def nmText (h : Hdr) : List UInt8 := [104, 101, 97, 100, 101, 114] ++ hdBytes h

/-- a literal that is turned into bytes: still a slice of the call's own -/
theorem own_freeze (w : World) (base : Nat) (l : List UInt8) (cs : Array Value) (e : TypeId) (n : Nat) (hcs : cs = (l.map byteV).toArray) (hn : n = l.length) (hb : base ≤ w.heap.size) (hm : l.length ≤ maxLen) :
    Own ((w.alloc (.cells cs e)).freeze ⟨w.heap.size, n, none⟩ 1) base (.slice (some ⟨w.heap.size, 0, none⟩) n n) l := by
  have hk := freeze_kept (w.alloc (.cells cs e)) w.heap.size n 0 (Nat.zero_le _)
  have hf : ∀ j, j < n → ((w.alloc (.cells cs e)).freeze ⟨w.heap.size, n, none⟩ 1).frozen? ⟨w.heap.size, j, none⟩ = false := fun j hj => by
    unfold World.frozen? World.freeze
    rw [if_neg (by decide)]
    simp only [Array.getElem?_modify, if_true, heap_alloc_new]
    simp
    omega
  obtain ⟨hl, h⟩ := Own.lit w base l cs e n hcs hn hb hm
  rcases h with ⟨hv, _⟩ | ⟨g, cap, hv, h1, h2, h3, h4, h5, h6, h7⟩
  · cases hv
  · injection hv with e1 e2 e3
    injection e1 with e1
    injection e1 with e1 _
    subst e1 e3
    refine ⟨hl, .inr ⟨w.heap.size, n, by rw [hn], h1, Nat.lt_of_lt_of_le h2 hk.size, h3, h4, fun j hj => ?_, fun j hj => hf j (by omega), fun j u hu => hk.cell (h7 j u hu)⟩⟩
    obtain ⟨x, hx⟩ := Option.isSome_iff_exists.1 (h5 j hj)
    rw [hk.cell hx]
    rfl

set_option maxRecDepth 100000 in
set_option maxHeartbeats 1600000 in
theorem nameText_c (g : GHeader) (h : Hdr) (w : World) (hr : HdrR w g h) (hl : h.ops.length ≤ 16) (hm : h.ops.all opMay = true) :
    Calls Try.prog 32 #[.agg (headerA g)] w fun e w' => ∃ v, e = .returned v ∧ Own w' w.heap.size v (nmText h) ∧ Below w.heap.size w w' := by
  obtain ⟨i0, hi, hy0, hy1, hy2⟩ := info_parts info_u8
  have HC := fun W hW => fheader_c g h W hW hl hm
  have hlen := hdBytes_length hl hm
  have hrow : row? (w.alloc (.cells (headerA g) 49)) w.heap.size 0 34 = some (headerA g) := by rw [row?_new]; simp
  have hB0 : Below w.heap.size w (w.alloc (.cells (headerA g) 49)) := bel_a _ _
  have hz0 : w.heap.size < (w.alloc (.cells (headerA g) 49)).heap.size := by simp
  have Hr := Lib.hid (hr.keep' hB0)
  have HB0 := Lib.hid hB0
  clear hr hm hB0
  go_enter Try.func32, Try.ntmps32
  go_upto_region 1 with fail
  generalize w.alloc (.cells (headerA g) 49) = w1 at *
  have hcv := run_convert_lit (P := Try.prog) (w1.alloc (.cells #[.int .u8 104, .int .u8 101, .int .u8 97, .int .u8 100, .int .u8 101, .int .u8 114] 5)) 32 5 #[.int .u8 104, .int .u8 101, .int .u8 97, .int .u8 100, .int .u8 101, .int .u8 114] (0, 0) w1.heap.size 6 6 Try.underlying32 Try.underlying5 (heap_alloc_new w1 _)
  have ho := own_freeze w1 w.heap.size [104, 101, 97, 100, 101, 114] #[.int .u8 104, .int .u8 101, .int .u8 97, .int .u8 100, .int .u8 101, .int .u8 114] 5 6 rfl rfl (Nat.le_of_lt hz0) (by simp [maxLen])
  have hk := freeze_kept (w1.alloc (.cells #[.int .u8 104, .int .u8 101, .int .u8 97, .int .u8 100, .int .u8 101, .int .u8 114] 5)) w1.heap.size 6 w1.heap.size (Nat.le_refl _)
  have hbel : Below w1.heap.size w1 ((w1.alloc (.cells #[.int .u8 104, .int .u8 101, .int .u8 97, .int .u8 100, .int .u8 101, .int .u8 114] 5)).freeze ⟨w1.heap.size, 6, none⟩ 1) := hk.below (bel_a _ _)
  have hrow2 := (row?_below _ _ _ hbel hz0).trans hrow
  have hz2 := hbel.size
  have Ho := Lib.hid ho
  have Hb := Lib.hid hbel
  clear ho hk hbel hrow
  go_wp2_with fail
  generalize (w1.alloc (.cells #[.int .u8 104, .int .u8 101, .int .u8 97, .int .u8 100, .int .u8 101, .int .u8 114] 5)).freeze ⟨w1.heap.size, 6, none⟩ 1 = w2 at *
  refine (HC _ (Hr.out.keep' Hb.out)).mono ?_
  clear HC hcv
  rintro e w3 ⟨x, rfl, o3, hb3⟩
  obtain ⟨s3, rfl⟩ := o3.slice
  have hown := Ho.out.keep hb3
  have hzb := hb3.size
  have hB3 : Below w.heap.size w w3 := HB0.out.trans ((Hb.out.trans (hb3.mono (by omega))).mono (by omega))
  have hzB : w.heap.size ≤ w3.heap.size := by omega
  have hfit : ([104, 101, 97, 100, 101, 114] : List UInt8).length + (hdBytes h).length ≤ 140737488355328 := by simp only [List.length_cons, List.length_nil]; omega
  have Hro := Lib.hid o3.reads
  have hbz := hb3.mono (show w.heap.size ≤ w2.heap.size by omega)
  clear hb3 o3 hlen
  go_wp2_with (at_builtin; refine wpList_append_bytes _ rfl (.tmp 4) (.tmp 6) _ (by rfl) w.heap.size 5 i0 _ Try.underlying32 hi hy0 hy1 hy2 rfl _ _ rfl hown s3 (hdBytes h) rfl Hro.out hfit hzB ?_; intro v4 w4 o4 g4 e4)
  go_ret
  exact ⟨_, rfl, o4, bel_grown g4 hB3 hzB (fun k hk => (hown.lt k hk).1)⟩
end Go.Proofs.Ytkocpihfdpahpaa
