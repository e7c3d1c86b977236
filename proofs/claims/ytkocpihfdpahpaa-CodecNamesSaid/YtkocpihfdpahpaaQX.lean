/- Texts of this proof, one behind the other: HdrInj, RefSame, Names. -/
import Derived.Test.YtkocpihfdpahpaaQG
import Derived.Test.YtkocpihfdpahpaaQE
import Derived.Test.YtkocpihfdpahpaaQB
import Derived.Test.YtkocpihfdpahpaaQC
import Derived.Test.YtkocpihfdpahpaaQD
import Derived.Test.YtkocpihfdpahpaaQW
import Derived.Test.YtkocpihfdpahpaaQU
import Derived.Deep.CutRange
set_option linter.unusedVariables false
set_option linter.unusedSimpArgs false
/- Two headers that may be, and have the same text, are the same. -/
namespace Go.Proofs.Ytkocpihfdpahpaa

theorem vt_inj {v1 v2 : Vote} {r1 r2 : List UInt8} (h1 : voteMay v1 = true) (h2 : voteMay v2 = true) (h : vtBytes v1 ++ r1 = vtBytes v2 ++ r2) : v1 = v2 ∧ r1 = r2 := by
  simp only [voteMay, mayMem, Bool.and_eq_true, decide_eq_true_eq] at h1 h2
  have a := rdVote_app v1 r1 (by omega) (by omega) (by omega)
  have b := rdVote_app v2 r2 (by omega) (by omega) (by omega)
  rw [h, b] at a
  injection a with a1 a2
  injection a1 with a1
  exact ⟨a2.symm, a1.symm⟩
theorem hash_inj {a b : Hash} {r1 r2 : List UInt8} (h : a.1 ++ r1 = b.1 ++ r2) : a = b ∧ r1 = r2 := by
  have x := rdHash_app a r1
  have y := rdHash_app b r2
  rw [h, y] at x
  injection x with x1 x2
  injection x1 with x1
  exact ⟨x2.symm, x1.symm⟩
theorem be8_inj {a b : UInt64} {r1 r2 : List UInt8} (h : be 8 a.toNat ++ r1 = be 8 b.toNat ++ r2) : a = b ∧ r1 = r2 := by
  have x := rdNum_be 8 a.toNat r1 a.toNat_lt
  have y := rdNum_be 8 b.toNat r2 b.toNat_lt
  rw [h, y] at x
  injection x with x1 x2
  injection x1 with x1
  exact ⟨UInt64.toNat_inj.1 x2.symm, x1.symm⟩
theorem small_inj {a b : Nat} (ha : a < 256) (hb : b < 256) (h : UInt8.ofNat a = UInt8.ofNat b) : a = b := by
  have := congrArg UInt8.toNat h
  simp only [UInt8.toNat_ofNat'] at this
  omega
theorem op_inj {o1 o2 : Op} {r1 r2 : List UInt8} (h1 : opMay o1 = true) (h2 : opMay o2 = true) (h : opBytes o1 ++ r1 = opBytes o2 ++ r2) : o1 = o2 ∧ r1 = r2 := by
  simp only [opMay, Bool.and_eq_true, decide_eq_true_eq] at h1 h2
  obtain ⟨b1, c1⟩ := h1
  obtain ⟨b2, c2⟩ := h2
  have k1 : o1.kind = 1 ∨ o1.kind = 2 ∨ o1.kind = 3 := by
    by_cases e1 : o1.kind = 1
    · exact .inl e1
    by_cases e2 : o1.kind = 2
    · exact .inr (.inl e2)
    by_cases e3 : o1.kind = 3
    · exact .inr (.inr e3)
    · rw [if_neg e1, if_neg e2, if_neg e3] at c1; cases c1
  have k2 : o2.kind = 1 ∨ o2.kind = 2 ∨ o2.kind = 3 := by
    by_cases e1 : o2.kind = 1
    · exact .inl e1
    by_cases e2 : o2.kind = 2
    · exact .inr (.inl e2)
    by_cases e3 : o2.kind = 3
    · exact .inr (.inr e3)
    · rw [if_neg e1, if_neg e2, if_neg e3] at c2; cases c2
  unfold opBytes at h
  rw [List.cons_append, List.cons_append] at h
  injection h with hk h
  have hkk : o1.kind = o2.kind := by
    have := small_inj (by omega) (by omega) hk
    omega
  obtain ⟨kd, key, st, vd, ev⟩ := o1
  obtain ⟨kd2, key2, st2, vd2, ev2⟩ := o2
  simp only at hkk k1 k2 h c1 c2
  subst hkk
  rcases k1 with rfl | rfl | rfl
  · simp only [if_true, List.append_assoc] at h
    simp [bareO] at b1 b2
    obtain ⟨rfl, h3⟩ := hash_inj h
    obtain ⟨rfl, h4⟩ := be8_inj h3
    obtain ⟨rfl, rfl⟩ := b1
    obtain ⟨rfl, rfl⟩ := b2
    exact ⟨rfl, h4⟩
  · simp [bareO] at b1 b2
    simp [mayMem] at c1 c2
    obtain ⟨rfl, rfl, rfl⟩ := b1
    obtain ⟨rfl, rfl, rfl⟩ := b2
    simp at h
    obtain ⟨hv, h⟩ := h
    have := small_inj (by omega) (by omega) hv
    obtain rfl : vd = vd2 := by omega
    exact ⟨rfl, h⟩
  · simp [bareO] at b1 b2
    simp [mayMem] at c1 c2
    obtain ⟨rfl, rfl⟩ := b1
    obtain ⟨rfl, rfl⟩ := b2
    obtain ⟨⟨cv1, cl1⟩, ca1⟩ := c1
    obtain ⟨⟨cv2, cl2⟩, ca2⟩ := c2
    match ev, ev2, cl1, cl2 with
    | [a, b], [c, d], _, _ =>
      simp at h ca1 ca2
      obtain ⟨hv, h⟩ := h
      have := small_inj (by omega) (by omega) hv
      obtain rfl : vd = vd2 := by omega
      obtain ⟨rfl, h3⟩ := vt_inj ca1.1 ca2.1 h
      obtain ⟨rfl, h4⟩ := vt_inj ca1.2 ca2.2 h3
      exact ⟨rfl, h4⟩
theorem ops_inj : ∀ (l1 l2 : List Op), l1.all opMay = true → l2.all opMay = true → l1.length = l2.length → (l1.map opBytes).flatten = (l2.map opBytes).flatten → l1 = l2
  | [], [], _, _, _, _ => rfl
  | a :: l1, b :: l2, h1, h2, hl, h => by
    rw [List.all_cons, Bool.and_eq_true] at h1 h2
    rw [List.map_cons, List.map_cons, List.flatten_cons, List.flatten_cons] at h
    obtain ⟨rfl, h3⟩ := op_inj h1.1 h2.1 h
    rw [ops_inj l1 l2 h1.2 h2.2 (by simpa using hl) h3]
theorem hd_inj {a b : Hdr} (h1 : hdrMay a = true) (h2 : hdrMay b = true) (h : nmText a = nmText b) : a = b := by
  simp only [hdrMay, Bool.and_eq_true, decide_eq_true_eq] at h1 h2
  obtain ⟨⟨_, l1⟩, m1⟩ := h1
  obtain ⟨⟨_, l2⟩, m2⟩ := h2
  have h := List.append_cancel_left h
  unfold hdBytes at h
  rw [List.append_assoc, List.append_assoc, List.append_assoc, List.append_assoc] at h
  obtain ⟨hp, h⟩ := hash_inj h
  obtain ⟨he, h⟩ := be8_inj h
  rw [List.singleton_append, List.singleton_append] at h
  injection h with hl h
  have hl := small_inj (by omega) (by omega) hl
  have ho := ops_inj a.ops b.ops m1 m2 hl h
  cases a; cases b
  simp_all
end Go.Proofs.Ytkocpihfdpahpaa

/- Contracts: ref09.sameOp, SameHeader. -/
namespace Go.Proofs.Ytkocpihfdpahpaa
open Go.RowKit

theorem row?_heap1 {w : World} {b : Nat} {cs : Array Value} {t : TypeId} {n : Nat} (h : w.heap[b]? = some (.cells cs t (0, 0))) (hn : cs.size = n) : row? w b 0 n = some cs := by
  unfold row?
  rw [h]
  simp [← hn]
theorem two_new (w : World) (A B : Array Value) (t : TypeId) (n : Nat) (hA : A.size = n) (hB : B.size = n) : row? ((w.alloc (.cells A t)).alloc (.cells B t)) w.heap.size 0 n = some A ∧ row? ((w.alloc (.cells A t)).alloc (.cells B t)) (w.heap.size + 1) 0 n = some B := by
  refine ⟨?_, ?_⟩
  · rw [row?_old _ _ _ _ _ (by simp)]
    exact row?_heap1 (heap_alloc_new w _) hA
  · have := heap_alloc_new (w.alloc (.cells A t)) (.cells B t)
    rw [show (w.alloc (.cells A t)).heap.size = w.heap.size + 1 from by simp] at this
    exact row?_heap1 this hB

set_option maxRecDepth 100000 in
set_option maxHeartbeats 1600000 in
theorem fsameOp_c (g1 g2 : GOp) (v1 v2 : Op) (w : World) (h1 : OpR w g1 v1) (h2 : OpR w g2 v2) (hx : v1.evidence.length ≤ 9223372036854775807) :
    Calls Try.prog 109 #[.agg (opA g1), .agg (opA g2)] w fun e w' => e = .returned (.bool (decide (v1 = v2))) ∧ Below w.heap.size w w' := by
  have hg := eq_hash_guard
  have hE : decide (v1 = v2) = (decide (g1.kind = g2.kind) && decide (g1.key = g2.key) && decide (g1.stake = g2.stake) && decide (g1.validator = g2.validator) && decide (v1.evidence = v2.evidence)) := by
    rw [op_eq, ← h1.1, ← h1.2.1, ← h1.2.2.1, ← h1.2.2.2.1, ← h2.1, ← h2.2.1, ← h2.2.2.1, ← h2.2.2.2.1]
  have HE := Lib.hid hE
  have hB0 : Below w.heap.size w ((w.alloc (.cells (opA g1) 83)).alloc (.cells (opA g2) 83)) := by (repeat' (first | (with_reducible exact Below.refl _ _) | (with_reducible assumption) | (with_reducible refine bel_trans (by assumption) ?_ ?_) | (with_reducible refine bel_grown (by assumption) ?_ ?_ ?_) | (with_reducible refine Below.alloc ?_ ?_ _) | (with_reducible refine Below.drew ?_) | (with_reducible refine below_drewN ?_ _) | (with_reducible refine Below.setCell ?_ ?_ _) | (with_reducible refine below_put ?_ ?_ _ _) | (with_reducible exact Nat.le_refl _) | omega | (with_reducible refine Nat.le_trans ?_ (Below.size (by assumption))) | (with_reducible refine Nat.le_trans ?_ (World.grownBy.size (by assumption))) | (simp only [World.size_alloc, World.size_setCell, World.size_drew, size_drewN]; omega) | (simp only [World.size_alloc, World.size_setCell, World.size_drew, size_drewN, size_put]; omega) | (intro k hk; simp [Value.ownBlock] at hk; done) | (intro k hk; simp [Value.ownBlock] at hk; omega) | (simp [size_drewN] at *; omega)))
  obtain ⟨hR1, hR2⟩ := two_new w (opA g1) (opA g2) 83 36 (opA_size _) (opA_size _)
  have H1 := Lib.hid (VotesR.keep' h1.2.2.2.2 hB0)
  have H2 := Lib.hid (VotesR.keep' h2.2.2.2.2 hB0)
  have n1 := h1.2.2.2.2.1
  have n2 := h2.2.2.2.2.1
  have hy2 := h2.2.2.2.2.2.1
  obtain ⟨k1, y1, s1, a1, ⟨oa, on, oc⟩⟩ := g1
  obtain ⟨k2, y2, s2, a2, ⟨pa, pn, pc⟩⟩ := g2
  simp only at n1 n2 HE hy2
  subst n1 n2
  clear h1 h2 hy2 hE
  generalize hc1 : v1.evidence = c1 at *
  generalize hc2 : v2.evidence = c2 at *
  clear hc1 hc2
  have hlt1 : w.heap.size < ((w.alloc (.cells (opA ⟨k1, y1, s1, a1, ⟨oa, c1.length, oc⟩⟩) 83)).alloc (.cells (opA ⟨k2, y2, s2, a2, ⟨pa, c2.length, pc⟩⟩) 83)).heap.size := by simp; omega
  have hlt2 : w.heap.size + 1 < ((w.alloc (.cells (opA ⟨k1, y1, s1, a1, ⟨oa, c1.length, oc⟩⟩) 83)).alloc (.cells (opA ⟨k2, y2, s2, a2, ⟨pa, c2.length, pc⟩⟩) 83)).heap.size := by simp
  go_enter Try.func109, Try.ntmps109
  go_upto_region 1 with fail
  generalize (w.alloc (.cells (opA ⟨k1, y1, s1, a1, ⟨oa, c1.length, oc⟩⟩) 83)).alloc (.cells (opA ⟨k2, y2, s2, a2, ⟨pa, c2.length, pc⟩⟩) 83) = w1 at *
  obtain ⟨p1, p2, p3, p4⟩ := opA_cells hR1
  obtain ⟨q1, q2, q3, q4⟩ := opA_cells hR2
  have p5 := row_sub hR1 1 32 (by omega)
  have q5 := row_sub hR2 1 32 (by omega)
  simp only [Nat.reduceAdd, opA_key] at p5 q5
  dsimp only [Sl.v] at p1 p2 p3 p4 q1 q2 q3 q4
  have hkb : (k1 != k2) = !(decide (k1 = k2)) := by rw [← int_eq]; rfl
  have hab : (a1 != a2) = !(decide (a1 = a2)) := by rw [← int_eq]; rfl
  have hsb : ((s1.toNat : Int) != (s2.toNat : Int)) = !(decide (s1 = s2)) := by rw [← stake_eq]; rfl
  by_cases hk : k1 = k2
  case neg =>
    have hd := decide_eq_false hk
    rw [hd] at hkb
    go_wp2_with fail
    go_ret
    exact ⟨ret_bool (by rw [HE.out, hd]; rfl), hB0⟩
  have hdk := decide_eq_true hk
  rw [hdk] at hkb
  by_cases hy : y1 = y2
  case neg =>
    have hd := decide_eq_false hy
    clear hk
    go_wp2_with fail
    go_ret
    exact ⟨ret_bool (by rw [HE.out, hd, hdk]; rfl), hB0⟩
  have hdy := decide_eq_true hy
  by_cases hs : s1 = s2
  case neg =>
    have hd := decide_eq_false hs
    rw [hd] at hsb
    clear hk hy
    go_wp2_with fail
    go_ret
    exact ⟨ret_bool (by rw [HE.out, hd, hdk, hdy]; rfl), hB0⟩
  have hds := decide_eq_true hs
  rw [hds] at hsb
  by_cases ha : a1 = a2
  case neg =>
    have hd := decide_eq_false ha
    rw [hd] at hab
    clear hk hy hs
    go_wp2_with fail
    go_ret
    exact ⟨ret_bool (by rw [HE.out, hd, hdk, hdy, hds]; rfl), hB0⟩
  have hda := decide_eq_true ha
  rw [hda] at hab
  clear hk hy hs ha
  by_cases hlen : c1.length = c2.length
  case neg =>
    have hb : ((c1.length : Int) != (c2.length : Int)) = true := by simp; omega
    have Hd := Lib.hid (show decide (c1 = c2) = false from decide_eq_false (fun e => hlen (by rw [e])))
    clear hlen
    go_wp2_with fail
    go_ret
    exact ⟨ret_bool (by rw [HE.out, Hd.out, Bool.and_false]), hB0⟩
  have hb : ((c1.length : Int) != (c2.length : Int)) = false := by simp [hlen]
  have Hlen := Lib.hid hlen
  have HE2 := Lib.hid (show decide (v1 = v2) = decide (c1 = c2) by rw [HE.out, hdk, hdy, hds, hda]; simp)
  clear hlen HE
  have HR1 := Lib.hid hR1
  have HR2 := Lib.hid hR2
  have HB0 := Lib.hid hB0
  clear hR1 hR2 hB0
  go_wp2_with fail
  clear hb p1 p2 p3 p4 p5 q1 q2 q3 q4 q5 hdk hdy hds hda hkb hab hsb
  go_loopw [5] (fun i W => ∃ k : Nat, k ≤ c1.length ∧ i = .int .i64 k ∧ Hid (c1.take k = c2.take k) ∧ Hid (Below w1.heap.size w1 W)) (fun i _ => c1.length - (intOf i).toNat)
  case atStart => exact ⟨0, Nat.zero_le _, rfl, Lib.hid (by simp), Lib.hid (Below.refl _ _)⟩
  case round =>
    obtain ⟨k, hk, rfl, htk, hB⟩ := hrel
    have i0 : (0 : Int) ≤ (k : Int) := by omega
    have hRa := (row?_below _ 0 36 hB.out hlt1).trans HR1.out
    have hRb := (row?_below _ 0 36 hB.out hlt2).trans HR2.out
    have hzA : w.heap.size < wr.heap.size := Nat.lt_of_lt_of_le hlt1 hB.out.size
    have hzB : w.heap.size + 1 < wr.heap.size := Nat.lt_of_lt_of_le hlt2 hB.out.size
    obtain ⟨_, _, _, p4⟩ := opA_cells hRa
    obtain ⟨_, _, _, q4⟩ := opA_cells hRb
    dsimp only [Sl.v] at p4 q4
    have HBw := Lib.hid (HB0.out.trans (hB.out.mono HB0.out.size))
    by_cases hkx : k < c1.length
    · have hyk : k < c2.length := by have := Hlen.out; omega
      obtain ⟨b, off, e, hbs, hc⟩ := (VotesR.keep' H1.out hB.out).at (by omega)
      have e1 := congrArg Sl.a e
      simp only at e1
      subst e1
      clear e
      obtain ⟨cs, hcx, y1, rfl, hv1⟩ := hc k hkx
      clear hc
      obtain ⟨b2, off2, e, hbs2, hc⟩ := (VotesR.keep' H2.out hB.out).at (by omega)
      have e1 := congrArg Sl.a e
      simp only at e1
      subst e1
      clear e
      obtain ⟨cs, hcy, y2, rfl, hv2⟩ := hc k hyk
      clear hc
      have i1 : (k : Int) < (c1.length : Int) := by omega
      have i2 : (k : Int) < (c2.length : Int) := by omega
      have hne := ne_of_atA c1 c2 k hkx hyk
      have hts := take_succ_eqA c1 c2 k hkx hyk htk.out
      generalize c1[k] = xk at *
      generalize c2[k] = yk at *
      have HS := fun W (hW : Below wr.heap.size wr W) => fsameVote_c y1 y2 xk yk W (hv1.keep' hW) (hv2.keep' hW)
      have Hne := Lib.hid hne
      have Hts := Lib.hid hts
      clear hne hts hv1 hv2 hRa hRb
      generalize hq : decide (xk = yk) = q at *
      replace hq := Lib.hid hq
      go_upto_region 6 with fail
      refine wp_region_freeG_l (fun W W' => Below W.heap.size W W') (by kernel_rfl) [48, 49, 50, 51, 52, 53, 54, 55, 56, 57, 58, 59]
        [Is (.pointer (some ⟨w.heap.size, 35, none⟩)), Is (.slice (some ⟨b, off, none⟩) c1.length oc), Is (.int .i64 (k : Int)), Is (.pointer (some ⟨b, off + k * 68, none⟩)), Is (.agg (voteA y1)), Is (.pointer (some ⟨w.heap.size + 1, 35, none⟩)), Is (.slice (some ⟨b2, off2, none⟩) c2.length pc), Is (.int .i64 (k : Int)), Is (.pointer (some ⟨b2, off2 + k * 68, none⟩)), Is (.agg (voteA y2)), Is (.bool q), Is (.bool (!q))]
        (by kernel_rfl) (fun W W' h hb => hb.trans (h.mono hb.size)) ?_ ?_ ?_
      · intro f hf
        simp only [List.mem_cons, List.not_mem_nil, or_false] at hf
        rcases hf with rfl | rfl | rfl | rfl | rfl | rfl | rfl | rfl | rfl | rfl | rfl | rfl <;> intro x W W' h hr <;> first | exact h
      · refine ⟨?_, ?_, ?_, ?_, ?_, ?_, ?_, ?_, ?_, ?_, ?_, ?_, trivial⟩
        · intro L ax W hf hd
          try simp [Region.binds] at hd
          have e2 : ax.tmps[2]?.getD undef = .pointer (some ⟨w.heap.size, 0, none⟩) := hf.out 2 (by decide) rfl
          refine ⟨fun _ => ?_, fun h => absurd trivial h⟩
          refine free_run (v := .pointer (some ⟨w.heap.size, 35, none⟩)) (W' := W) rfl ?_ rfl (Below.refl _ _)
          go_simp
        · intro L ax W hf hd
          simp [Region.binds] at hd
          have e48 : ax.tmps[48]?.getD undef = .pointer (some ⟨w.heap.size, 35, none⟩) := slv (hf.got 0 (by decide) (by simp [hd]))
          refine ⟨fun _ => ?_, fun h => absurd trivial h⟩
          have h1 := (hf.below.cell (p := ⟨w.heap.size, 35, none⟩) hzA).trans p4
          refine free_run (v := .slice (some ⟨b, off, none⟩) c1.length oc) (W' := W) rfl ?_ rfl (Below.refl _ _)
          go_simp
        · intro L ax W hf hd
          try simp [Region.binds] at hd
          have e5 : ax.tmps[5]?.getD undef = .int .i64 (k : Int) := hf.out 5 (by decide) rfl
          refine ⟨fun _ => ?_, fun h => absurd trivial h⟩
          refine free_run (v := .int .i64 (k : Int)) (W' := W) rfl ?_ rfl (Below.refl _ _)
          go_simp
        · intro L ax W hf hd
          simp [Region.binds] at hd
          have e49 : ax.tmps[49]?.getD undef = .slice (some ⟨b, off, none⟩) c1.length oc := slv (hf.got 1 (by decide) (by simp [hd]))
          have e50 : ax.tmps[50]?.getD undef = .int .i64 (k : Int) := slv (hf.got 2 (by decide) (by simp [hd]))
          refine ⟨fun _ => ?_, fun h => absurd trivial h⟩
          refine free_run (v := .pointer (some ⟨b, off + k * 68, none⟩)) (W' := W) rfl ?_ rfl (Below.refl _ _)
          go_simp
        · intro L ax W hf hd
          simp [Region.binds] at hd
          have e51 : ax.tmps[51]?.getD undef = .pointer (some ⟨b, off + k * 68, none⟩) := slv (hf.got 3 (by decide) (by simp [hd]))
          refine ⟨fun _ => ?_, fun h => absurd trivial h⟩
          have h1 := (row?_below _ _ _ hf.below hbs).trans hcx
          refine free_run (v := .agg (voteA y1)) (W' := W) rfl ?_ rfl (Below.refl _ _)
          go_simp
        · intro L ax W hf hd
          try simp [Region.binds] at hd
          have e3 : ax.tmps[3]?.getD undef = .pointer (some ⟨w.heap.size + 1, 0, none⟩) := hf.out 3 (by decide) rfl
          refine ⟨fun _ => ?_, fun h => absurd trivial h⟩
          refine free_run (v := .pointer (some ⟨w.heap.size + 1, 35, none⟩)) (W' := W) rfl ?_ rfl (Below.refl _ _)
          go_simp
        · intro L ax W hf hd
          simp [Region.binds] at hd
          have e53 : ax.tmps[53]?.getD undef = .pointer (some ⟨w.heap.size + 1, 35, none⟩) := slv (hf.got 5 (by decide) (by simp [hd]))
          refine ⟨fun _ => ?_, fun h => absurd trivial h⟩
          have h1 := (hf.below.cell (p := ⟨w.heap.size + 1, 35, none⟩) hzB).trans q4
          refine free_run (v := .slice (some ⟨b2, off2, none⟩) c2.length pc) (W' := W) rfl ?_ rfl (Below.refl _ _)
          go_simp
        · intro L ax W hf hd
          try simp [Region.binds] at hd
          have e5 : ax.tmps[5]?.getD undef = .int .i64 (k : Int) := hf.out 5 (by decide) rfl
          refine ⟨fun _ => ?_, fun h => absurd trivial h⟩
          refine free_run (v := .int .i64 (k : Int)) (W' := W) rfl ?_ rfl (Below.refl _ _)
          go_simp
        · intro L ax W hf hd
          simp [Region.binds] at hd
          have e54 : ax.tmps[54]?.getD undef = .slice (some ⟨b2, off2, none⟩) c2.length pc := slv (hf.got 6 (by decide) (by simp [hd]))
          have e55 : ax.tmps[55]?.getD undef = .int .i64 (k : Int) := slv (hf.got 7 (by decide) (by simp [hd]))
          refine ⟨fun _ => ?_, fun h => absurd trivial h⟩
          refine free_run (v := .pointer (some ⟨b2, off2 + k * 68, none⟩)) (W' := W) rfl ?_ rfl (Below.refl _ _)
          go_simp
        · intro L ax W hf hd
          simp [Region.binds] at hd
          have e56 : ax.tmps[56]?.getD undef = .pointer (some ⟨b2, off2 + k * 68, none⟩) := slv (hf.got 8 (by decide) (by simp [hd]))
          refine ⟨fun _ => ?_, fun h => absurd trivial h⟩
          have h1 := (row?_below _ _ _ hf.below hbs2).trans hcy
          refine free_run (v := .agg (voteA y2)) (W' := W) rfl ?_ rfl (Below.refl _ _)
          go_simp
        · intro L ax W hf hd
          simp [Region.binds] at hd
          have e52 : ax.tmps[52]?.getD undef = .agg (voteA y1) := slv (hf.got 4 (by decide) (by simp [hd]))
          have e57 : ax.tmps[57]?.getD undef = .agg (voteA y2) := slv (hf.got 9 (by decide) (by simp [hd]))
          refine ⟨fun _ => ?_, fun h => absurd trivial h⟩
          refine free_call (f := 83) (args := #[.agg (voteA y1), .agg (voteA y2)]) rfl (by go_simp) ?_
          refine (HS W hf.below).mono ?_
          rintro e w' ⟨rfl, hb⟩
          exact ⟨_, rfl, rfl, hb⟩
        · intro L ax W hf hd
          simp [Region.binds] at hd
          have e58 : ax.tmps[58]?.getD undef = .bool q := slv (hf.got 10 (by decide) (by simp [hd]))
          refine ⟨fun _ => ?_, fun h => absurd trivial h⟩
          refine free_run (v := .bool (!q)) (W' := W) rfl ?_ rfl (Below.refl _ _)
          go_simp
      · intro vs W hl' hF hb
        obtain ⟨g', hg1, hg2⟩ := vs_lit vs hl' hF
        have e38 : g' 11 = .bool (!q) := hg2 11 (by decide)
        rw [hg1]
        clear hF hg1 hg2 hl'
        have hB4 := Lib.hid (hB.out.trans (hb.mono hB.out.size))
        clear hb hB p4 q4 hcx hcy HS
        simp only [List.length_cons, List.length_nil, Nat.reduceAdd, show List.range 12 = [0, 1, 2, 3, 4, 5, 6, 7, 8, 9, 10, 11] from rfl, List.map_cons, List.map_nil, putL, List.zip_cons_cons, List.zip_nil_right, List.setIfInBounds_toArray, List.set_cons_succ, List.set_cons_zero, e38]
        cases q
        · have Hf := Lib.hid (show decide (v1 = v2) = false by rw [HE2.out]; exact decide_eq_false (Hne.out (of_decide_eq_false hq.out)))
          go_wp2_with fail
          go_ret
          exact ⟨ret_bool Hf.out.symm, HB0.out.trans (hB4.out.mono HB0.out.size)⟩
        · have Ht := Lib.hid (Hts.out (of_decide_eq_true hq.out))
          go_wp2_with fail
          go_roundw
          case rel => exact ⟨k + 1, by omega, by go_num, Ht, hB4⟩
          case measure => (first | (simp [intOf]; done) | (simp [intOf]; omega))
    · have Hf := Lib.hid (show decide (v1 = v2) = true by
        rw [HE2.out]
        have h1 := htk.out
        have h2 := Hlen.out
        rw [List.take_of_length_le (by omega), List.take_of_length_le (by omega)] at h1
        exact decide_eq_true h1)
      go_wp2_with fail
      go_ret
      exact ⟨ret_bool Hf.out.symm, HBw.out⟩

theorem hdr_eq (a b : Hdr) : decide (a = b) = (decide (a.parent = b.parent) && decide (a.epoch = b.epoch) && decide (a.ops = b.ops)) := by
  rw [Bool.eq_iff_iff]
  cases a; cases b
  simp [and_assoc]
set_option maxRecDepth 100000 in
set_option maxHeartbeats 1600000 in
theorem fsameHeader_c (g1 g2 : GHeader) (v1 v2 : Hdr) (w : World) (h1 : HdrR w g1 v1) (h2 : HdrR w g2 v2) (hxl : v1.ops.length ≤ 9223372036854775807) (hx : ∀ o ∈ v1.ops, o.evidence.length ≤ 9223372036854775807) :
    Calls Try.prog 30 #[.agg (headerA g1), .agg (headerA g2)] w fun e w' => e = .returned (.bool (decide (v1 = v2))) ∧ Below w.heap.size w w' := by
  have hg := eq_hash_guard
  have hE : decide (v1 = v2) = (decide (g1.parent = g2.parent) && decide (g1.epoch = g2.epoch) && decide (v1.ops = v2.ops)) := by
    rw [hdr_eq, ← h1.1, ← h1.2.1, ← h2.1, ← h2.2.1]
  have HE := Lib.hid hE
  have hB0 : Below w.heap.size w ((w.alloc (.cells (headerA g1) 49)).alloc (.cells (headerA g2) 49)) := by (repeat' (first | (with_reducible exact Below.refl _ _) | (with_reducible assumption) | (with_reducible refine bel_trans (by assumption) ?_ ?_) | (with_reducible refine bel_grown (by assumption) ?_ ?_ ?_) | (with_reducible refine Below.alloc ?_ ?_ _) | (with_reducible refine Below.drew ?_) | (with_reducible refine below_drewN ?_ _) | (with_reducible refine Below.setCell ?_ ?_ _) | (with_reducible refine below_put ?_ ?_ _ _) | (with_reducible exact Nat.le_refl _) | omega | (with_reducible refine Nat.le_trans ?_ (Below.size (by assumption))) | (with_reducible refine Nat.le_trans ?_ (World.grownBy.size (by assumption))) | (simp only [World.size_alloc, World.size_setCell, World.size_drew, size_drewN]; omega) | (simp only [World.size_alloc, World.size_setCell, World.size_drew, size_drewN, size_put]; omega) | (intro k hk; simp [Value.ownBlock] at hk; done) | (intro k hk; simp [Value.ownBlock] at hk; omega) | (simp [size_drewN] at *; omega)))
  obtain ⟨hR1, hR2⟩ := two_new w (headerA g1) (headerA g2) 49 34 (headerA_size _) (headerA_size _)
  have H1 := Lib.hid (OpsR.keep' h1.2.2 hB0)
  have H2 := Lib.hid (OpsR.keep' h2.2.2 hB0)
  have n1 := h1.2.2.1
  have n2 := h2.2.2.1
  have hy2 := h2.2.2.2.1
  obtain ⟨y1, s1, ⟨oa, on, oc⟩⟩ := g1
  obtain ⟨y2, s2, ⟨pa, pn, pc⟩⟩ := g2
  simp only at n1 n2 HE hy2
  subst n1 n2
  clear h1 h2 hy2 hE
  generalize hc1 : v1.ops = c1 at *
  generalize hc2 : v2.ops = c2 at *
  clear hc1 hc2
  have hlt1 : w.heap.size < ((w.alloc (.cells (headerA ⟨y1, s1, ⟨oa, c1.length, oc⟩⟩) 49)).alloc (.cells (headerA ⟨y2, s2, ⟨pa, c2.length, pc⟩⟩) 49)).heap.size := by simp; omega
  have hlt2 : w.heap.size + 1 < ((w.alloc (.cells (headerA ⟨y1, s1, ⟨oa, c1.length, oc⟩⟩) 49)).alloc (.cells (headerA ⟨y2, s2, ⟨pa, c2.length, pc⟩⟩) 49)).heap.size := by simp
  go_enter Try.func30, Try.ntmps30
  go_upto_region 1 with fail
  generalize (w.alloc (.cells (headerA ⟨y1, s1, ⟨oa, c1.length, oc⟩⟩) 49)).alloc (.cells (headerA ⟨y2, s2, ⟨pa, c2.length, pc⟩⟩) 49) = w1 at *
  obtain ⟨p1, p4⟩ := headerA_cells hR1
  obtain ⟨q1, q4⟩ := headerA_cells hR2
  have p5 := row_sub hR1 0 32 (by omega)
  have q5 := row_sub hR2 0 32 (by omega)
  simp only [Nat.zero_add, headerA_parent] at p5 q5
  dsimp only [Sl.v] at p1 p4 q1 q4
  have hsb : ((s1.toNat : Int) != (s2.toNat : Int)) = !(decide (s1 = s2)) := by rw [← stake_eq]; rfl
  by_cases hy : y1 = y2
  case neg =>
    have hd := decide_eq_false hy
    go_wp2_with fail
    go_ret
    exact ⟨ret_bool (by rw [HE.out, hd]; rfl), hB0⟩
  have hdy := decide_eq_true hy
  by_cases hs : s1 = s2
  case neg =>
    have hd := decide_eq_false hs
    rw [hd] at hsb
    clear hy
    go_wp2_with fail
    go_ret
    exact ⟨ret_bool (by rw [HE.out, hd, hdy]; rfl), hB0⟩
  have hds := decide_eq_true hs
  rw [hds] at hsb
  clear hy hs
  by_cases hlen : c1.length = c2.length
  case neg =>
    have hb : ((c1.length : Int) != (c2.length : Int)) = true := by simp; omega
    have Hd := Lib.hid (show decide (c1 = c2) = false from decide_eq_false (fun e => hlen (by rw [e])))
    clear hlen
    go_wp2_with fail
    go_ret
    exact ⟨ret_bool (by rw [HE.out, Hd.out, Bool.and_false]), hB0⟩
  have hb : ((c1.length : Int) != (c2.length : Int)) = false := by simp [hlen]
  have Hlen := Lib.hid hlen
  have HE2 := Lib.hid (show decide (v1 = v2) = decide (c1 = c2) by rw [HE.out, hdy, hds]; simp)
  clear hlen HE
  have HR1 := Lib.hid hR1
  have HR2 := Lib.hid hR2
  have HB0 := Lib.hid hB0
  clear hR1 hR2 hB0
  go_wp2_with fail
  clear hb p1 p4 p5 q1 q4 q5 hdy hds hsb
  go_loopw [5] (fun i W => ∃ k : Nat, k ≤ c1.length ∧ i = .int .i64 k ∧ Hid (c1.take k = c2.take k) ∧ Hid (Below w1.heap.size w1 W)) (fun i _ => c1.length - (intOf i).toNat)
  case atStart => exact ⟨0, Nat.zero_le _, rfl, Lib.hid (by simp), Lib.hid (Below.refl _ _)⟩
  case round =>
    obtain ⟨k, hk, rfl, htk, hB⟩ := hrel
    have i0 : (0 : Int) ≤ (k : Int) := by omega
    have hRa := (row?_below _ 0 34 hB.out hlt1).trans HR1.out
    have hRb := (row?_below _ 0 34 hB.out hlt2).trans HR2.out
    have hzA : w.heap.size < wr.heap.size := Nat.lt_of_lt_of_le hlt1 hB.out.size
    have hzB : w.heap.size + 1 < wr.heap.size := Nat.lt_of_lt_of_le hlt2 hB.out.size
    obtain ⟨_, p4⟩ := headerA_cells hRa
    obtain ⟨_, q4⟩ := headerA_cells hRb
    dsimp only [Sl.v] at p4 q4
    have HBw := Lib.hid (HB0.out.trans (hB.out.mono HB0.out.size))
    by_cases hkx : k < c1.length
    · have hyk : k < c2.length := by have := Hlen.out; omega
      obtain ⟨b, off, e, hbs, hc⟩ := (OpsR.keep' H1.out hB.out).at (by omega)
      have e1 := congrArg Sl.a e
      simp only at e1
      subst e1
      clear e
      obtain ⟨cs, hcx, y1, rfl, hv1⟩ := hc k hkx
      clear hc
      obtain ⟨b2, off2, e, hbs2, hc⟩ := (OpsR.keep' H2.out hB.out).at (by omega)
      have e1 := congrArg Sl.a e
      simp only at e1
      subst e1
      clear e
      obtain ⟨cs, hcy, y2, rfl, hv2⟩ := hc k hyk
      clear hc
      have i1 : (k : Int) < (c1.length : Int) := by omega
      have i2 : (k : Int) < (c2.length : Int) := by omega
      have hne := ne_of_atA c1 c2 k hkx hyk
      have hts := take_succ_eqA c1 c2 k hkx hyk htk.out
      have hxe := hx c1[k] (List.getElem_mem _)
      generalize c1[k] = xk at *
      generalize c2[k] = yk at *
      have HS := fun W (hW : Below wr.heap.size wr W) => fsameOp_c y1 y2 xk yk W (hv1.keep' hW) (hv2.keep' hW) hxe
      have Hne := Lib.hid hne
      have Hts := Lib.hid hts
      clear hne hts hv1 hv2 hRa hRb
      generalize hq : decide (xk = yk) = q at *
      replace hq := Lib.hid hq
      go_upto_region 6 with fail
      refine wp_region_freeG_l (fun W W' => Below W.heap.size W W') (by kernel_rfl) [34, 35, 36, 37, 38, 39, 40, 41, 42, 43, 44, 45]
        [Is (.pointer (some ⟨w.heap.size, 33, none⟩)), Is (.slice (some ⟨b, off, none⟩) c1.length oc), Is (.int .i64 (k : Int)), Is (.pointer (some ⟨b, off + k * 36, none⟩)), Is (.agg (opA y1)), Is (.pointer (some ⟨w.heap.size + 1, 33, none⟩)), Is (.slice (some ⟨b2, off2, none⟩) c2.length pc), Is (.int .i64 (k : Int)), Is (.pointer (some ⟨b2, off2 + k * 36, none⟩)), Is (.agg (opA y2)), Is (.bool q), Is (.bool (!q))]
        (by kernel_rfl) (fun W W' h hb => hb.trans (h.mono hb.size)) ?_ ?_ ?_
      · intro f hf
        simp only [List.mem_cons, List.not_mem_nil, or_false] at hf
        rcases hf with rfl | rfl | rfl | rfl | rfl | rfl | rfl | rfl | rfl | rfl | rfl | rfl <;> intro x W W' h hr <;> first | exact h
      · refine ⟨?_, ?_, ?_, ?_, ?_, ?_, ?_, ?_, ?_, ?_, ?_, ?_, trivial⟩
        · intro L ax W hf hd
          try simp [Region.binds] at hd
          have e2 : ax.tmps[2]?.getD undef = .pointer (some ⟨w.heap.size, 0, none⟩) := hf.out 2 (by decide) rfl
          refine ⟨fun _ => ?_, fun h => absurd trivial h⟩
          refine free_run (v := .pointer (some ⟨w.heap.size, 33, none⟩)) (W' := W) rfl ?_ rfl (Below.refl _ _)
          go_simp
        · intro L ax W hf hd
          simp [Region.binds] at hd
          have e34 : ax.tmps[34]?.getD undef = .pointer (some ⟨w.heap.size, 33, none⟩) := slv (hf.got 0 (by decide) (by simp [hd]))
          refine ⟨fun _ => ?_, fun h => absurd trivial h⟩
          have h1 := (hf.below.cell (p := ⟨w.heap.size, 33, none⟩) hzA).trans p4
          refine free_run (v := .slice (some ⟨b, off, none⟩) c1.length oc) (W' := W) rfl ?_ rfl (Below.refl _ _)
          go_simp
        · intro L ax W hf hd
          try simp [Region.binds] at hd
          have e5 : ax.tmps[5]?.getD undef = .int .i64 (k : Int) := hf.out 5 (by decide) rfl
          refine ⟨fun _ => ?_, fun h => absurd trivial h⟩
          refine free_run (v := .int .i64 (k : Int)) (W' := W) rfl ?_ rfl (Below.refl _ _)
          go_simp
        · intro L ax W hf hd
          simp [Region.binds] at hd
          have e35 : ax.tmps[35]?.getD undef = .slice (some ⟨b, off, none⟩) c1.length oc := slv (hf.got 1 (by decide) (by simp [hd]))
          have e36 : ax.tmps[36]?.getD undef = .int .i64 (k : Int) := slv (hf.got 2 (by decide) (by simp [hd]))
          refine ⟨fun _ => ?_, fun h => absurd trivial h⟩
          refine free_run (v := .pointer (some ⟨b, off + k * 36, none⟩)) (W' := W) rfl ?_ rfl (Below.refl _ _)
          go_simp
        · intro L ax W hf hd
          simp [Region.binds] at hd
          have e37 : ax.tmps[37]?.getD undef = .pointer (some ⟨b, off + k * 36, none⟩) := slv (hf.got 3 (by decide) (by simp [hd]))
          refine ⟨fun _ => ?_, fun h => absurd trivial h⟩
          have h1 := (row?_below _ _ _ hf.below hbs).trans hcx
          refine free_run (v := .agg (opA y1)) (W' := W) rfl ?_ rfl (Below.refl _ _)
          go_simp
        · intro L ax W hf hd
          try simp [Region.binds] at hd
          have e3 : ax.tmps[3]?.getD undef = .pointer (some ⟨w.heap.size + 1, 0, none⟩) := hf.out 3 (by decide) rfl
          refine ⟨fun _ => ?_, fun h => absurd trivial h⟩
          refine free_run (v := .pointer (some ⟨w.heap.size + 1, 33, none⟩)) (W' := W) rfl ?_ rfl (Below.refl _ _)
          go_simp
        · intro L ax W hf hd
          simp [Region.binds] at hd
          have e39 : ax.tmps[39]?.getD undef = .pointer (some ⟨w.heap.size + 1, 33, none⟩) := slv (hf.got 5 (by decide) (by simp [hd]))
          refine ⟨fun _ => ?_, fun h => absurd trivial h⟩
          have h1 := (hf.below.cell (p := ⟨w.heap.size + 1, 33, none⟩) hzB).trans q4
          refine free_run (v := .slice (some ⟨b2, off2, none⟩) c2.length pc) (W' := W) rfl ?_ rfl (Below.refl _ _)
          go_simp
        · intro L ax W hf hd
          try simp [Region.binds] at hd
          have e5 : ax.tmps[5]?.getD undef = .int .i64 (k : Int) := hf.out 5 (by decide) rfl
          refine ⟨fun _ => ?_, fun h => absurd trivial h⟩
          refine free_run (v := .int .i64 (k : Int)) (W' := W) rfl ?_ rfl (Below.refl _ _)
          go_simp
        · intro L ax W hf hd
          simp [Region.binds] at hd
          have e40 : ax.tmps[40]?.getD undef = .slice (some ⟨b2, off2, none⟩) c2.length pc := slv (hf.got 6 (by decide) (by simp [hd]))
          have e41 : ax.tmps[41]?.getD undef = .int .i64 (k : Int) := slv (hf.got 7 (by decide) (by simp [hd]))
          refine ⟨fun _ => ?_, fun h => absurd trivial h⟩
          refine free_run (v := .pointer (some ⟨b2, off2 + k * 36, none⟩)) (W' := W) rfl ?_ rfl (Below.refl _ _)
          go_simp
        · intro L ax W hf hd
          simp [Region.binds] at hd
          have e42 : ax.tmps[42]?.getD undef = .pointer (some ⟨b2, off2 + k * 36, none⟩) := slv (hf.got 8 (by decide) (by simp [hd]))
          refine ⟨fun _ => ?_, fun h => absurd trivial h⟩
          have h1 := (row?_below _ _ _ hf.below hbs2).trans hcy
          refine free_run (v := .agg (opA y2)) (W' := W) rfl ?_ rfl (Below.refl _ _)
          go_simp
        · intro L ax W hf hd
          simp [Region.binds] at hd
          have e38 : ax.tmps[38]?.getD undef = .agg (opA y1) := slv (hf.got 4 (by decide) (by simp [hd]))
          have e43 : ax.tmps[43]?.getD undef = .agg (opA y2) := slv (hf.got 9 (by decide) (by simp [hd]))
          refine ⟨fun _ => ?_, fun h => absurd trivial h⟩
          refine free_call (f := 109) (args := #[.agg (opA y1), .agg (opA y2)]) rfl (by go_simp) ?_
          refine (HS W hf.below).mono ?_
          rintro e w' ⟨rfl, hb⟩
          exact ⟨_, rfl, rfl, hb⟩
        · intro L ax W hf hd
          simp [Region.binds] at hd
          have e44 : ax.tmps[44]?.getD undef = .bool q := slv (hf.got 10 (by decide) (by simp [hd]))
          refine ⟨fun _ => ?_, fun h => absurd trivial h⟩
          refine free_run (v := .bool (!q)) (W' := W) rfl ?_ rfl (Below.refl _ _)
          go_simp
      · intro vs W hl' hF hb
        obtain ⟨g', hg1, hg2⟩ := vs_lit vs hl' hF
        have e38 : g' 11 = .bool (!q) := hg2 11 (by decide)
        rw [hg1]
        clear hF hg1 hg2 hl'
        have hB4 := Lib.hid (hB.out.trans (hb.mono hB.out.size))
        clear hb hB p4 q4 hcx hcy HS
        simp only [List.length_cons, List.length_nil, Nat.reduceAdd, show List.range 12 = [0, 1, 2, 3, 4, 5, 6, 7, 8, 9, 10, 11] from rfl, List.map_cons, List.map_nil, putL, List.zip_cons_cons, List.zip_nil_right, List.setIfInBounds_toArray, List.set_cons_succ, List.set_cons_zero, e38]
        cases q
        · have Hf := Lib.hid (show decide (v1 = v2) = false by rw [HE2.out]; exact decide_eq_false (Hne.out (of_decide_eq_false hq.out)))
          go_wp2_with fail
          go_ret
          exact ⟨ret_bool Hf.out.symm, HB0.out.trans (hB4.out.mono HB0.out.size)⟩
        · have Ht := Lib.hid (Hts.out (of_decide_eq_true hq.out))
          go_wp2_with fail
          go_roundw
          case rel => exact ⟨k + 1, by omega, by go_num, Ht, hB4⟩
          case measure => (first | (simp [intOf]; done) | (simp [intOf]; omega))
    · have Hf := Lib.hid (show decide (v1 = v2) = true by
        rw [HE2.out]
        have h1 := htk.out
        have h2 := Hlen.out
        rw [List.take_of_length_le (by omega), List.take_of_length_le (by omega)] at h1
        exact decide_eq_true h1)
      go_wp2_with fail
      go_ret
      exact ⟨ret_bool Hf.out.symm, HBw.out⟩
end Go.Proofs.Ytkocpihfdpahpaa

/- The walk of landmarklaw09.CodecNames. -/

namespace Go.Proofs.Ytkocpihfdpahpaa
open Go.RowKit

/-- a slice of two messages -/
def IsTwo (a b : List UInt8) (v : Value) (W : World) : Prop := ∃ (k : Nat) (s t : Sl), v = .slice (some ⟨k, 0, none⟩) 2 2 ∧ W.cell? ⟨k, 0, none⟩ = some s.v ∧ W.cell? ⟨k, 1, none⟩ = some t.v ∧ BytesR W s a ∧ BytesR W t b ∧ k < W.heap.size
theorem IsTwo.keep {a b : List UInt8} {v : Value} {W W' : World} (h : IsTwo a b v W) (hb : Below W.heap.size W W') : IsTwo a b v W' := by
  obtain ⟨k, s, t, h1, h2, h3, h4, h5, h6⟩ := h
  exact ⟨k, s, t, h1, (hb.cell h6).trans h2, (hb.cell h6).trans h3, h4.keep hb, h5.keep hb, Nat.lt_of_lt_of_le h6 hb.size⟩
set_option maxRecDepth 100000 in
set_option maxHeartbeats 3200000 in
theorem codecNames_walk (g1 g2 : GHeader) (h o : Hdr) (w : World) (hh : HdrR w g1 h) (ho : HdrR w g2 o) :
    Calls Try.prog 4 #[.agg (headerA g1), .agg (headerA g2)] w fun e w' => e = .returned (.bool true) ∧ Below w.heap.size w w' := by
  have HCh := fun W hW => fmuch_c g1 h W hW
  have HCo := fun W hW => fmuch_c g2 o W hW
  have hb1 := Lib.hid (show hdMuch h = false → _ from fun e => hdMuch_out e)
  have hb2 := Lib.hid (show hdMuch o = false → _ from fun e => hdMuch_out e)
  generalize hdMuch h = m1 at *
  generalize hdMuch o = m2 at *
  obtain ⟨hrow1, hrow2⟩ := two_new w (headerA g1) (headerA g2) 49 34 (headerA_size _) (headerA_size _)
  have hB0 : Below w.heap.size w ((w.alloc (.cells (headerA g1) 49)).alloc (.cells (headerA g2) 49)) := by (repeat' (first | (with_reducible exact Below.refl _ _) | (with_reducible assumption) | (with_reducible refine bel_trans (by assumption) ?_ ?_) | (with_reducible refine bel_grown (by assumption) ?_ ?_ ?_) | (with_reducible refine Below.alloc ?_ ?_ _) | (with_reducible refine Below.drew ?_) | (with_reducible refine below_drewN ?_ _) | (with_reducible refine Below.setCell ?_ ?_ _) | (with_reducible refine below_put ?_ ?_ _ _) | (with_reducible exact Nat.le_refl _) | omega | (with_reducible refine Nat.le_trans ?_ (Below.size (by assumption))) | (with_reducible refine Nat.le_trans ?_ (World.grownBy.size (by assumption))) | (simp only [World.size_alloc, World.size_setCell, World.size_drew, size_drewN]; omega) | (simp only [World.size_alloc, World.size_setCell, World.size_drew, size_drewN, size_put]; omega) | (intro k hk; simp [Value.ownBlock] at hk; done) | (intro k hk; simp [Value.ownBlock] at hk; omega) | (simp [size_drewN] at *; omega)))
  have hz0 : w.heap.size + 2 ≤ ((w.alloc (.cells (headerA g1) 49)).alloc (.cells (headerA g2) 49)).heap.size := by simp
  go_enter Try.func4, Try.ntmps4
  go_upto_region 1 with fail
  generalize (w.alloc (.cells (headerA g1) 49)).alloc (.cells (headerA g2) 49) = w1 at *
  have Hh := Lib.hid (hh.keep' hB0)
  have Ho := Lib.hid (ho.keep' hB0)
  have HB0 := Lib.hid hB0
  clear hh ho hB0
  go_wp2_with fail
  refine (HCh _ Hh.out).mono ?_
  clear HCh
  rintro e w2 ⟨rfl, hb⟩
  have hz2 := hb.size
  have r1 := (row?_below _ _ _ hb (by omega)).trans hrow1
  have r2 := (row?_below _ _ _ hb (by omega)).trans hrow2
  have Hh2 := Lib.hid (Hh.out.keep' hb)
  have Ho2 := Lib.hid (Ho.out.keep' hb)
  have HB2 := Lib.hid (HB0.out.trans (hb.mono (by omega)))
  clear hb Hh Ho HB0 hrow1 hrow2
  cases m1
  rotate_left
  · go_wp2_with (go_at_call 27; (with_reducible refine (known09_c _).mono ?_); rintro e W4 ⟨rfl, hb4⟩)
    go_ret
    exact ⟨rfl, HB2.out.trans (hb4.mono (by omega))⟩
  obtain ⟨hl1, hl2⟩ := hb1.out rfl
  clear hb1
  go_wp2_with fail
  refine (HCo _ Ho2.out).mono ?_
  clear HCo
  rintro e w3 ⟨rfl, hb⟩
  have hz3 := hb.size
  have q1 := (row?_below _ _ _ hb (by omega)).trans r1
  have q2 := (row?_below _ _ _ hb (by omega)).trans r2
  have Hh3 := Lib.hid (Hh2.out.keep' hb)
  have Ho3 := Lib.hid (Ho2.out.keep' hb)
  have HB3 := Lib.hid (HB2.out.trans (hb.mono (by omega)))
  clear hb Hh2 Ho2 HB2 r1 r2
  cases m2
  rotate_left
  · go_wp2_with (go_at_call 27; (with_reducible refine (known09_c _).mono ?_); rintro e W4 ⟨rfl, hb4⟩)
    go_ret
    exact ⟨rfl, HB3.out.trans (hb4.mono (by omega))⟩
  obtain ⟨ll1, ll2⟩ := hb2.out rfl
  clear hb2
  have hf1 : HdrFits h := ⟨by omega, fun o ho => ⟨by have := (hl2 o ho).1; omega, fun v hv => by have := (hl2 o ho).2 v hv; omega⟩⟩
  have hf2 : HdrFits o := ⟨by omega, fun o ho => ⟨by have := (ll2 o ho).1; omega, fun v hv => by have := (ll2 o ho).2 v hv; omega⟩⟩
  have HN1 := fun W hW => name_c g1 h W hW hf1
  have HN2 := fun W hW => name_c g2 o W hW hf2
  have HS := fun W (a : HdrR W g1 h) (b : HdrR W g2 o) => fsameHeader_c g1 g2 h o W a b (by omega) (fun x hx => by have := (hl2 x hx).1; omega)
  have hn1 := Lib.hid (show hdName h = if hdrMay h then shaSum (nmText h) else zeroHash from rfl)
  have hn2 := Lib.hid (show hdName o = if hdrMay o then shaSum (nmText o) else zeroHash from rfl)
  have H1 := Lib.hid hl1
  have H2 := Lib.hid ll1
  clear hl1 hl2 ll1 ll2 hf1 hf2
  obtain ⟨n1, hn1e⟩ : ∃ n, n = hdName h := ⟨_, rfl⟩
  obtain ⟨n2, hn2e⟩ : ∃ n, n = hdName o := ⟨_, rfl⟩
  rw [← hn1e] at HN1 hn1
  rw [← hn2e] at HN2 hn2
  clear hn1e hn2e
  obtain ⟨a1, ha1⟩ : ∃ a, a = hdrMay h := ⟨_, rfl⟩
  obtain ⟨a2, ha2⟩ : ∃ a, a = hdrMay o := ⟨_, rfl⟩
  rw [← ha1] at HN1 hn1
  rw [← ha2] at HN2 hn2
  replace ha1 := Lib.hid ha1
  replace ha2 := Lib.hid ha2
  obtain ⟨x1, hx1⟩ : ∃ x, x = noErr a1 := ⟨_, rfl⟩
  obtain ⟨x2, hx2⟩ : ∃ x, x = noErr a2 := ⟨_, rfl⟩
  rw [← hx1] at HN1
  rw [← hx2] at HN2
  have hd1 : x1 = 0 ∨ x1 = 2 := by rw [hx1]; cases a1 <;> simp [noErr]
  have hd2 : x2 = 0 ∨ x2 = 2 := by rw [hx2]; cases a2 <;> simp [noErr]
  replace hx1 := Lib.hid hx1
  replace hx2 := Lib.hid hx2
  have hw12 : IntKind.i64.wrap (x1 + x2) = x1 + x2 := IntWalk.i64_in _ (by omega)
  go_wp2_with fail
  refine (HN1 _ Hh3.out).mono ?_
  rintro e w4 ⟨rfl, hb⟩
  clear HN1
  have hz4 := hb.size
  have r1 := (row?_below _ _ _ hb (by omega)).trans q1
  have r2 := (row?_below _ _ _ hb (by omega)).trans q2
  have Hh4 := Lib.hid (Hh3.out.keep' hb)
  have Ho4 := Lib.hid (Ho3.out.keep' hb)
  have HB4 := Lib.hid (HB3.out.trans (hb.mono (by omega)))
  clear hb Hh3 Ho3 HB3 q1 q2
  have ht := there_new w4 (hashA zeroHash) 24 0 32 (by simp)
  go_upto_region 4 with fail
  obtain ⟨w5, hw5⟩ : ∃ w5, w5 = putRow (w4.alloc (.cells (hashA zeroHash) 24)) w4.heap.size 0 (hashA n1) := ⟨_, rfl⟩
  have hb : Below w4.heap.size w4 w5 := by rw [hw5]; exact below_put (bel_a w4 _) (Nat.le_refl _) _ _
  have hr5 : row? w5 w4.heap.size 0 32 = some (hashA n1) := by rw [hw5]; exact row?_put_same _ _ _ _ _ (by simp) (by omega) ht
  have hz5 : w5.heap.size = w4.heap.size + 1 := by rw [hw5, size_put]; simp
  have q1 := (row?_below _ _ _ hb (by omega)).trans r1
  have q2 := (row?_below _ _ _ hb (by omega)).trans r2
  have Hh5 := Lib.hid (Hh4.out.keep' hb)
  have Ho5 := Lib.hid (Ho4.out.keep' hb)
  have HB5 := Lib.hid (HB4.out.trans (hb.mono (by omega)))
  rw [← hw5]
  clear hw5 hb ht Hh4 Ho4 HB4 r1 r2
  go_wp2_with fail
  refine (HN2 _ Ho5.out).mono ?_
  rintro e w6 ⟨rfl, hb⟩
  clear HN2
  have hz6 := hb.size
  have r1 := (row?_below _ _ _ hb (by omega)).trans q1
  have r2 := (row?_below _ _ _ hb (by omega)).trans q2
  have hr6 := (row?_below _ _ _ hb (by omega)).trans hr5
  have Hh6 := Lib.hid (Hh5.out.keep' hb)
  have Ho6 := Lib.hid (Ho5.out.keep' hb)
  have HB6 := Lib.hid (HB5.out.trans (hb.mono (by omega)))
  clear hb Hh5 Ho5 HB5 q1 q2 hr5
  have ht := there_new w6 (hashA zeroHash) 24 0 32 (by simp)
  go_upto_region 5 with fail
  obtain ⟨w7, hw7⟩ : ∃ w7, w7 = putRow (w6.alloc (.cells (hashA zeroHash) 24)) w6.heap.size 0 (hashA n2) := ⟨_, rfl⟩
  have hb : Below w6.heap.size w6 w7 := by rw [hw7]; exact below_put (bel_a w6 _) (Nat.le_refl _) _ _
  have hr7 : row? w7 w6.heap.size 0 32 = some (hashA n2) := by rw [hw7]; exact row?_put_same _ _ _ _ _ (by simp) (by omega) ht
  have hz7 : w7.heap.size = w6.heap.size + 1 := by rw [hw7, size_put]; simp
  have q1 := (row?_below _ _ _ hb (by omega)).trans r1
  have q2 := (row?_below _ _ _ hb (by omega)).trans r2
  have hr8 := (row?_below _ _ _ hb (by omega)).trans hr6
  have Hh7 := Lib.hid (Hh6.out.keep' hb)
  have Ho7 := Lib.hid (Ho6.out.keep' hb)
  have HB7 := Lib.hid (HB6.out.trans (hb.mono (by omega)))
  rw [← hw7]
  clear hw7 hb ht Hh6 Ho6 HB6 r1 r2 hr6
  by_cases hx : x1 + x2 = 0
  case neg =>
    go_wp2_with (first
      | (go_at_call 29; (with_reducible refine (num09_c _ _).mono ?_); rintro e w11 ⟨rfl, rfl⟩)
      | (go_at_call 27; (with_reducible refine (known09_c _).mono ?_); rintro e W4 ⟨rfl, hb4⟩))
    go_ret
    exact ⟨rfl, HB7.out.trans (hb4.mono (by omega))⟩
  have hxx := hx
  go_upto_region 7 with (first
      | (go_at_call 29; (with_reducible refine (num09_c _ _).mono ?_); rintro e w11 ⟨rfl, rfl⟩))
  have ht1 : a1 = true := by
    cases a1
    · have := hx1.out
      simp [noErr] at this
      omega
    · rfl
  have ht2 : a2 = true := by
    cases a2
    · have := hx2.out
      simp [noErr] at this
      omega
    · rfl
  have hN1 := Lib.hid (show n1 = shaSum (nmText h) from by rw [hn1.out, ht1]; rfl)
  have hN2 := Lib.hid (show n2 = shaSum (nmText o) from by rw [hn2.out, ht2]; rfl)
  have M1 := Lib.hid (show hdrMay h = true from ha1.out.symm.trans ht1)
  have M2 := Lib.hid (show hdrMay o = true from ha2.out.symm.trans ht2)
  clear hn1 hn2 ht1 ht2 ha1 ha2 hx1 hx2 hd1 hd2 hw12 hx hxx
  go_wp2_with fail
  refine (HS _ Hh7.out Ho7.out).mono ?_
  clear HS
  rintro e w8 ⟨rfl, hb⟩
  have hz8 := hb.size
  have r1 := (row?_below _ _ _ hb (by omega)).trans q1
  have r2 := (row?_below _ _ _ hb (by omega)).trans q2
  have s1 := (row?_below _ _ _ hb (by omega)).trans hr8
  have s2 := (row?_below _ _ _ hb (by omega)).trans hr7
  have Hh8 := Lib.hid (Hh7.out.keep' hb)
  have Ho8 := Lib.hid (Ho7.out.keep' hb)
  have HB8 := Lib.hid (HB7.out.trans (hb.mono (by omega)))
  have hg := eq_hash_guard
  clear hb Hh7 Ho7 HB7 q1 q2 hr7 hr8
  by_cases he : h = o
  · have hd : decide (h = o) = true := decide_eq_true he
    have hnn : decide (n1 = n2) = true := decide_eq_true (by rw [hN1.out, hN2.out, he])
    rw [hd]
    go_wp2_with (go_at_call 27; (with_reducible refine (known09_c _).mono ?_); rintro e W4 ⟨rfl, hb4⟩)
    go_ret
    exact ⟨rfl, HB8.out.trans (hb4.mono (by omega))⟩
  have hd : decide (h = o) = false := decide_eq_false he
  rw [hd]
  clear hd
  by_cases hne : n1 = n2
  case neg =>
    have hnn : decide (n1 = n2) = false := decide_eq_false hne
    go_upto_region 9 with fail
    have HK := fun W => known09_c W
    have l4 : w4.heap.size < w8.heap.size := by omega
    have l6 : w6.heap.size < w8.heap.size := by omega
    refine wp_region_freeG_l (fun W W' => Below W.heap.size W W') (by kernel_rfl) [42, 43, 44, 45, 46, 47, 48, 49, 50, 51, 52, 53, 54, 55, 4]
      [Is (.agg (hashA n1)), Is (.agg (hashA n2)), Is (.bool true), Is (.bool true), Is (undef), Is (undef), Is (undef), Is (undef), Is (undef), Is (undef), Is (.bool true), Is (.bool true), Is (.bool true), Is (.bool true), Is (.bool true)]
      (by kernel_rfl) (fun W W' h hb => hb.trans (h.mono hb.size)) ?_ ?_ ?_
    · intro f hf
      simp only [List.mem_cons, List.not_mem_nil, or_false] at hf
      rcases hf with rfl | rfl | rfl | rfl | rfl | rfl | rfl | rfl | rfl | rfl | rfl | rfl | rfl | rfl | rfl <;> intro x W W' h hr <;> first | exact h
    · refine ⟨?_, ?_, ?_, ?_, ?_, ?_, ?_, ?_, ?_, ?_, ?_, ?_, ?_, ?_, ?_, trivial⟩
      · intro L ax W hf hd
        try simp [Region.binds] at hd
        have e5 : ax.tmps[5]?.getD undef = .pointer (some ⟨w4.heap.size, 0, none⟩) := hf.out 5 (by decide) rfl
        refine ⟨fun _ => ?_, fun h => absurd trivial h⟩
        have r1 : row? W w4.heap.size 0 32 = some (hashA n1) := (row?_below _ _ _ hf.below l4).trans s1
        refine free_run (v := .agg (hashA n1)) (W' := W) rfl ?_ rfl (Below.refl _ _)
        go_simp
      · intro L ax W hf hd
        try simp [Region.binds] at hd
        have e7 : ax.tmps[7]?.getD undef = .pointer (some ⟨w6.heap.size, 0, none⟩) := hf.out 7 (by decide) rfl
        refine ⟨fun _ => ?_, fun h => absurd trivial h⟩
        have r2 : row? W w6.heap.size 0 32 = some (hashA n2) := (row?_below _ _ _ hf.below l6).trans s2
        refine free_run (v := .agg (hashA n2)) (W' := W) rfl ?_ rfl (Below.refl _ _)
        go_simp
      · intro L ax W hf hd
        simp [Region.binds] at hd
        have e42 : ax.tmps[42]?.getD undef = .agg (hashA n1) := slv (hf.got 0 (by decide) (by simp [hd]))
        have e43 : ax.tmps[43]?.getD undef = .agg (hashA n2) := slv (hf.got 1 (by decide) (by simp [hd]))
        refine ⟨fun _ => ?_, fun h => absurd trivial h⟩
        refine free_run (v := .bool true) (W' := W) rfl ?_ rfl (Below.refl _ _)
        go_simp
      · intro L ax W hf hd
        simp [Region.binds] at hd
        have e44 : ax.tmps[44]?.getD undef = .bool true := slv (hf.got 2 (by decide) (by simp [hd]))
        refine ⟨fun _ => ?_, fun h => absurd trivial h⟩
        refine free_run (v := .bool true) (W' := W) rfl ?_ rfl (Below.refl _ _)
        go_simp
      · intro L ax W hf hd
        simp [Region.binds] at hd
        have e2 : ax.tmps[2]?.getD undef = .pointer (some ⟨w.heap.size, 0, none⟩) := hf.out 2 (by decide) rfl
        have g0 : sl ax 45 = .bool true := hf.got 3 (by decide) (by simp [hd])
        refine ⟨fun hh => ?_, fun hh => ?_⟩
        · first
            | (exact absurd (g0.symm.trans hh) (undef_ne _))
            | (exact absurd (g0.symm.trans hh) (bool_ne (by decide)))
            | (exfalso; revert hh; simp [Held, g0, *]; done)
            | (refine free_run (v := undef) (W' := W) rfl ?_ rfl (Below.refl _ _); go_simp)
        · first
            | (exact absurd g0 hh)
            | (exfalso; revert hh; simp [Held, g0, *]; done)
            | (show undef = _; first | rfl | (simp [*]; done))
      · intro L ax W hf hd
        simp [Region.binds] at hd
        have e46 : ax.tmps[46]?.getD undef = undef := slv (hf.got 4 (by decide) (by simp [hd]))
        have g0 : sl ax 45 = .bool true := hf.got 3 (by decide) (by simp [hd])
        refine ⟨fun hh => ?_, fun hh => ?_⟩
        · first
            | (exact absurd (g0.symm.trans hh) (undef_ne _))
            | (exact absurd (g0.symm.trans hh) (bool_ne (by decide)))
            | (exfalso; revert hh; simp [Held, g0, *]; done)
            | (refine free_run (v := undef) (W' := W) rfl ?_ rfl (Below.refl _ _); go_simp)
        · first
            | (exact absurd g0 hh)
            | (exfalso; revert hh; simp [Held, g0, *]; done)
            | (show undef = _; first | rfl | (simp [*]; done))
      · intro L ax W hf hd
        simp [Region.binds] at hd
        have e3 : ax.tmps[3]?.getD undef = .pointer (some ⟨w.heap.size + 1, 0, none⟩) := hf.out 3 (by decide) rfl
        have g0 : sl ax 45 = .bool true := hf.got 3 (by decide) (by simp [hd])
        refine ⟨fun hh => ?_, fun hh => ?_⟩
        · first
            | (exact absurd (g0.symm.trans hh) (undef_ne _))
            | (exact absurd (g0.symm.trans hh) (bool_ne (by decide)))
            | (exfalso; revert hh; simp [Held, g0, *]; done)
            | (refine free_run (v := undef) (W' := W) rfl ?_ rfl (Below.refl _ _); go_simp)
        · first
            | (exact absurd g0 hh)
            | (exfalso; revert hh; simp [Held, g0, *]; done)
            | (show undef = _; first | rfl | (simp [*]; done))
      · intro L ax W hf hd
        simp [Region.binds] at hd
        have e48 : ax.tmps[48]?.getD undef = undef := slv (hf.got 6 (by decide) (by simp [hd]))
        have g0 : sl ax 45 = .bool true := hf.got 3 (by decide) (by simp [hd])
        refine ⟨fun hh => ?_, fun hh => ?_⟩
        · first
            | (exact absurd (g0.symm.trans hh) (undef_ne _))
            | (exact absurd (g0.symm.trans hh) (bool_ne (by decide)))
            | (exfalso; revert hh; simp [Held, g0, *]; done)
            | (refine free_run (v := undef) (W' := W) rfl ?_ rfl (Below.refl _ _); go_simp)
        · first
            | (exact absurd g0 hh)
            | (exfalso; revert hh; simp [Held, g0, *]; done)
            | (show undef = _; first | rfl | (simp [*]; done))
      · intro L ax W hf hd
        simp [Region.binds] at hd
        have e47 : ax.tmps[47]?.getD undef = undef := slv (hf.got 5 (by decide) (by simp [hd]))
        have e49 : ax.tmps[49]?.getD undef = undef := slv (hf.got 7 (by decide) (by simp [hd]))
        have g0 : sl ax 45 = .bool true := hf.got 3 (by decide) (by simp [hd])
        refine ⟨fun hh => ?_, fun hh => ?_⟩
        · first
            | (exact absurd (g0.symm.trans hh) (undef_ne _))
            | (exact absurd (g0.symm.trans hh) (bool_ne (by decide)))
            | (exfalso; revert hh; simp [Held, g0, *]; done)
            | (refine free_run (v := undef) (W' := W) rfl ?_ rfl (Below.refl _ _); go_simp)
        · first
            | (exact absurd g0 hh)
            | (exfalso; revert hh; simp [Held, g0, *]; done)
            | (show undef = _; first | rfl | (simp [*]; done))
      · intro L ax W hf hd
        simp [Region.binds] at hd
        have e50 : ax.tmps[50]?.getD undef = undef := slv (hf.got 8 (by decide) (by simp [hd]))
        have g0 : sl ax 45 = .bool true := hf.got 3 (by decide) (by simp [hd])
        refine ⟨fun hh => ?_, fun hh => ?_⟩
        · first
            | (exact absurd (g0.symm.trans hh) (undef_ne _))
            | (exact absurd (g0.symm.trans hh) (bool_ne (by decide)))
            | (exfalso; revert hh; simp [Held, g0, *]; done)
            | (refine free_run (v := undef) (W' := W) rfl ?_ rfl (Below.refl _ _); go_simp)
        · first
            | (exact absurd g0 hh)
            | (exfalso; revert hh; simp [Held, g0, *]; done)
            | (show undef = _; first | rfl | (simp [*]; done))
      · intro L ax W hf hd
        simp [Region.binds] at hd
        have e45 : ax.tmps[45]?.getD undef = .bool true := slv (hf.got 3 (by decide) (by simp [hd]))
        have e51 : ax.tmps[51]?.getD undef = undef := slv (hf.got 9 (by decide) (by simp [hd]))
        refine ⟨fun _ => ?_, fun h => absurd trivial h⟩
        refine free_run (v := .bool true) (W' := W) rfl ?_ rfl (Below.refl _ _)
        go_simp
      · intro L ax W hf hd
        simp [Region.binds] at hd
        have e52 : ax.tmps[52]?.getD undef = .bool true := slv (hf.got 10 (by decide) (by simp [hd]))
        refine ⟨fun _ => ?_, fun h => absurd trivial h⟩
        refine free_run (v := .bool true) (W' := W) rfl ?_ rfl (Below.refl _ _)
        go_simp
      · intro L ax W hf hd
        simp [Region.binds] at hd
        have g0 : sl ax 53 = .bool true := hf.got 11 (by decide) (by simp [hd])
        refine ⟨fun hh => ?_, fun hh => ?_⟩
        · first
            | (exact absurd (g0.symm.trans hh) (undef_ne _))
            | (exact absurd (g0.symm.trans hh) (bool_ne (by decide)))
            | (exfalso; revert hh; simp [Held, g0, *]; done)
            | (refine free_call (f := 27) (args := #[]) rfl (by go_simp) ?_; refine (HK W).mono ?_; rintro e w' ⟨rfl, hb⟩; exact ⟨_, rfl, rfl, hb⟩)
        · first
            | (exact absurd g0 hh)
            | (exfalso; revert hh; simp [Held, g0, *]; done)
            | (show undef = _; first | rfl | (simp [*]; done))
      · intro L ax W hf hd
        simp [Region.binds] at hd
        have e53 : ax.tmps[53]?.getD undef = .bool true := slv (hf.got 11 (by decide) (by simp [hd]))
        have e54 : ax.tmps[54]?.getD undef = .bool true := slv (hf.got 12 (by decide) (by simp [hd]))
        refine ⟨fun _ => ?_, fun h => absurd trivial h⟩
        refine free_run (v := .bool true) (W' := W) rfl ?_ rfl (Below.refl _ _)
        go_simp
      · intro L ax W hf hd
        simp [Region.binds] at hd
        have e55 : ax.tmps[55]?.getD undef = .bool true := slv (hf.got 13 (by decide) (by simp [hd]))
        refine ⟨fun _ => ?_, fun h => absurd trivial h⟩
        refine free_run (v := .bool true) (W' := W) rfl ?_ rfl (Below.refl _ _)
        go_simp
    · intro vs W hl' hF hb
      obtain ⟨g', hg1, hg2⟩ := vs_lit vs hl' hF
      have e14 : g' 14 = .bool true := hg2 14 (by decide)
      rw [hg1]
      clear hF hg1 hg2 hl'
      simp only [List.length_cons, List.length_nil, Nat.reduceAdd, show List.range 15 = [0, 1, 2, 3, 4, 5, 6, 7, 8, 9, 10, 11, 12, 13, 14] from rfl, List.map_cons, List.map_nil, putL, List.zip_cons_cons, List.zip_nil_right, List.setIfInBounds_toArray, List.set_cons_succ, List.set_cons_zero, e14]
      go_wp2_with fail
      go_ret
      exact ⟨rfl, HB8.out.trans (hb.mono (by omega))⟩
  have hnn : decide (n1 = n2) = true := decide_eq_true hne
  have HK := fun W => known09_c W
  have l4 : w4.heap.size < w8.heap.size := by omega
  have l6 : w6.heap.size < w8.heap.size := by omega
  have lw0 : w.heap.size < w8.heap.size := by omega
  have lw1 : w.heap.size + 1 < w8.heap.size := by omega
  have m1 := M1.out
  have m2 := M2.out
  simp only [hdrMay, Bool.and_eq_true, decide_eq_true_eq] at m1 m2
  have HT1 := fun W (hW : Below w8.heap.size w8 W) => nameText_c g1 h W (Hh8.out.keep' hW) m1.1.2 m1.2
  have HT2 := fun W (hW : Below w8.heap.size w8 W) => nameText_c g2 o W (Ho8.out.keep' hW) m2.1.2 m2.2
  have b1 : (nmText h).length ≤ 1000000000 := by have := hdBytes_length m1.1.2 m1.2; simp [nmText]; omega
  have b2 : (nmText o).length ≤ 1000000000 := by have := hdBytes_length m2.1.2 m2.2; simp [nmText]; omega
  have hcl : Value.bool (decide (shaSum (nmText h) = shaSum (nmText o)) && decide (nmText h ≠ nmText o)) = Value.bool true := by
    have e1 : decide (shaSum (nmText h) = shaSum (nmText o)) = true := decide_eq_true (by rw [← hN1.out, ← hN2.out]; exact hne)
    have e2 : decide (nmText h ≠ nmText o) = true := decide_eq_true (fun e => he (hd_inj M1.out M2.out e))
    rw [e1, e2]
    rfl
  clear m1 m2
  go_upto_region 9 with fail
  refine wp_region_freeG_l (fun W W' => Below W.heap.size W W') (by kernel_rfl) [42, 43, 44, 45, 46, 47, 48, 49, 50, 51, 52, 53, 54, 55, 4]
    [Is (.agg (hashA n1)), Is (.agg (hashA n2)), Is (.bool false), Is (.bool false), Is (.agg (headerA g1)), IsB (nmText h), Is (.agg (headerA g2)), IsB (nmText o), IsTwo (nmText h) (nmText o), Is (.bool true), Is (.bool true), Is (.bool true), Is (.bool true), Is (.bool true), Is (.bool true)]
    (by kernel_rfl) (fun W W' h hb => hb.trans (h.mono hb.size)) ?_ ?_ ?_
  · intro f hf
    simp only [List.mem_cons, List.not_mem_nil, or_false] at hf
    rcases hf with rfl | rfl | rfl | rfl | rfl | rfl | rfl | rfl | rfl | rfl | rfl | rfl | rfl | rfl | rfl <;> intro x W W' h hr <;> first | exact h | exact IsB.keepB h hr | exact IsTwo.keep h hr
  · refine ⟨?_, ?_, ?_, ?_, ?_, ?_, ?_, ?_, ?_, ?_, ?_, ?_, ?_, ?_, ?_, trivial⟩
    · intro L ax W hf hd
      try simp [Region.binds] at hd
      have e5 : ax.tmps[5]?.getD undef = .pointer (some ⟨w4.heap.size, 0, none⟩) := hf.out 5 (by decide) rfl
      refine ⟨fun _ => ?_, fun h => absurd trivial h⟩
      have r1 : row? W w4.heap.size 0 32 = some (hashA n1) := (row?_below _ _ _ hf.below l4).trans s1
      refine free_run (v := .agg (hashA n1)) (W' := W) rfl ?_ rfl (Below.refl _ _)
      go_simp
    · intro L ax W hf hd
      try simp [Region.binds] at hd
      have e7 : ax.tmps[7]?.getD undef = .pointer (some ⟨w6.heap.size, 0, none⟩) := hf.out 7 (by decide) rfl
      refine ⟨fun _ => ?_, fun h => absurd trivial h⟩
      have r2 : row? W w6.heap.size 0 32 = some (hashA n2) := (row?_below _ _ _ hf.below l6).trans s2
      refine free_run (v := .agg (hashA n2)) (W' := W) rfl ?_ rfl (Below.refl _ _)
      go_simp
    · intro L ax W hf hd
      simp [Region.binds] at hd
      have e42 : ax.tmps[42]?.getD undef = .agg (hashA n1) := slv (hf.got 0 (by decide) (by simp [hd]))
      have e43 : ax.tmps[43]?.getD undef = .agg (hashA n2) := slv (hf.got 1 (by decide) (by simp [hd]))
      refine ⟨fun _ => ?_, fun h => absurd trivial h⟩
      refine free_run (v := .bool false) (W' := W) rfl ?_ rfl (Below.refl _ _)
      go_simp
    · intro L ax W hf hd
      simp [Region.binds] at hd
      have e44 : ax.tmps[44]?.getD undef = .bool false := slv (hf.got 2 (by decide) (by simp [hd]))
      refine ⟨fun _ => ?_, fun h => absurd trivial h⟩
      refine free_run (v := .bool false) (W' := W) rfl ?_ rfl (Below.refl _ _)
      go_simp
    · intro L ax W hf hd
      simp [Region.binds] at hd
      have e2 : ax.tmps[2]?.getD undef = .pointer (some ⟨w.heap.size, 0, none⟩) := hf.out 2 (by decide) rfl
      have g0 : sl ax 45 = .bool false := hf.got 3 (by decide) (by simp [hd])
      refine ⟨fun hh => ?_, fun hh => ?_⟩
      · first
          | (exact absurd (g0.symm.trans hh) (undef_ne _))
          | (exact absurd (g0.symm.trans hh) (bool_ne (by decide)))
          | (exfalso; revert hh; simp [Held, g0, *]; done)
          | ((have r3 : row? W w.heap.size 0 34 = some (headerA g1) := (row?_below _ _ _ hf.below lw0).trans r1); refine free_run (v := .agg (headerA g1)) (W' := W) rfl ?_ rfl (Below.refl _ _); go_simp)
      · first
          | (exact absurd g0 hh)
          | (exfalso; revert hh; simp [Held, g0, *]; done)
          | (show undef = _; first | rfl | (simp [*]; done))
    · intro L ax W hf hd
      simp [Region.binds] at hd
      have e46 : ax.tmps[46]?.getD undef = .agg (headerA g1) := slv (hf.got 4 (by decide) (by simp [hd]))
      have g0 : sl ax 45 = .bool false := hf.got 3 (by decide) (by simp [hd])
      refine ⟨fun hh => ?_, fun hh => ?_⟩
      · first
          | (exact absurd (g0.symm.trans hh) (undef_ne _))
          | (exact absurd (g0.symm.trans hh) (bool_ne (by decide)))
          | (exfalso; revert hh; simp [Held, g0, *]; done)
          | (refine free_call (f := 32) (args := #[.agg (headerA g1)]) rfl (by go_simp) ?_; refine (HT1 W hf.below).mono ?_; rintro e w' ⟨x, rfl, ho, hb⟩; obtain ⟨s2, rfl⟩ := ho.slice; exact ⟨_, rfl, ⟨s2, rfl, ho.reads⟩, hb⟩)
      · first
          | (exact absurd g0 hh)
          | (exfalso; revert hh; simp [Held, g0, *]; done)
          | (show undef = _; first | rfl | (simp [*]; done))
    · intro L ax W hf hd
      simp [Region.binds] at hd
      have e3 : ax.tmps[3]?.getD undef = .pointer (some ⟨w.heap.size + 1, 0, none⟩) := hf.out 3 (by decide) rfl
      have g0 : sl ax 45 = .bool false := hf.got 3 (by decide) (by simp [hd])
      refine ⟨fun hh => ?_, fun hh => ?_⟩
      · first
          | (exact absurd (g0.symm.trans hh) (undef_ne _))
          | (exact absurd (g0.symm.trans hh) (bool_ne (by decide)))
          | (exfalso; revert hh; simp [Held, g0, *]; done)
          | ((have r4 : row? W (w.heap.size + 1) 0 34 = some (headerA g2) := (row?_below _ _ _ hf.below lw1).trans r2); refine free_run (v := .agg (headerA g2)) (W' := W) rfl ?_ rfl (Below.refl _ _); go_simp)
      · first
          | (exact absurd g0 hh)
          | (exfalso; revert hh; simp [Held, g0, *]; done)
          | (show undef = _; first | rfl | (simp [*]; done))
    · intro L ax W hf hd
      simp [Region.binds] at hd
      have e48 : ax.tmps[48]?.getD undef = .agg (headerA g2) := slv (hf.got 6 (by decide) (by simp [hd]))
      have g0 : sl ax 45 = .bool false := hf.got 3 (by decide) (by simp [hd])
      refine ⟨fun hh => ?_, fun hh => ?_⟩
      · first
          | (exact absurd (g0.symm.trans hh) (undef_ne _))
          | (exact absurd (g0.symm.trans hh) (bool_ne (by decide)))
          | (exfalso; revert hh; simp [Held, g0, *]; done)
          | (refine free_call (f := 32) (args := #[.agg (headerA g2)]) rfl (by go_simp) ?_; refine (HT2 W hf.below).mono ?_; rintro e w' ⟨x, rfl, ho, hb⟩; obtain ⟨s2, rfl⟩ := ho.slice; exact ⟨_, rfl, ⟨s2, rfl, ho.reads⟩, hb⟩)
      · first
          | (exact absurd g0 hh)
          | (exfalso; revert hh; simp [Held, g0, *]; done)
          | (show undef = _; first | rfl | (simp [*]; done))
    · intro L ax W hf hd
      simp [Region.binds] at hd
      have f47 : IsB (nmText h) (sl ax 47) W := hf.got 5 (by decide) (by simp [hd])
      have f49 : IsB (nmText o) (sl ax 49) W := hf.got 7 (by decide) (by simp [hd])
      have g0 : sl ax 45 = .bool false := hf.got 3 (by decide) (by simp [hd])
      refine ⟨fun hh => ?_, fun hh => ?_⟩
      · first
          | (exact absurd (g0.symm.trans hh) (undef_ne _))
          | (exact absurd (g0.symm.trans hh) (bool_ne (by decide)))
          | (exfalso; revert hh; simp [Held, g0, *]; done)
          | (obtain ⟨⟨ua, un, uc⟩, e47, h47⟩ := f47; (have e47 := slv e47); obtain ⟨⟨va, vn, vc⟩, e49, h49⟩ := f49; (have e49 := slv e49); dsimp only [Sl.v] at e47 e49; refine free_run (v := .slice (some ⟨W.heap.size, 0, none⟩) 2 2) (W' := W.alloc (.cells #[.slice ua un uc, .slice va vn vc] 32)) rfl ?_ ⟨W.heap.size, ⟨ua, un, uc⟩, ⟨va, vn, vc⟩, rfl, by simp [Sl.v], by simp [Sl.v], h47.keep (bel_a _ _), h49.keep (bel_a _ _), by simp⟩ (bel_a _ _); go_simp)
      · first
          | (exact absurd g0 hh)
          | (exfalso; revert hh; simp [Held, g0, *]; done)
          | (show undef = _; first | rfl | (simp [*]; done))
    · intro L ax W hf hd
      simp [Region.binds] at hd
      have f50 : IsTwo (nmText h) (nmText o) (sl ax 50) W := hf.got 8 (by decide) (by simp [hd])
      have g0 : sl ax 45 = .bool false := hf.got 3 (by decide) (by simp [hd])
      refine ⟨fun hh => ?_, fun hh => ?_⟩
      · first
          | (exact absurd (g0.symm.trans hh) (undef_ne _))
          | (exact absurd (g0.symm.trans hh) (bool_ne (by decide)))
          | (exfalso; revert hh; simp [Held, g0, *]; done)
          | (obtain ⟨bk, u, v, e50, hc1, hc2, h1, h2, hbk⟩ := f50; (have e50 := slv e50); refine free_call (f := 31) (args := #[.slice (some ⟨bk, 0, none⟩) 2 2]) rfl (by go_simp) ?_; refine (clash_c bk 2 u v (nmText h) (nmText o) W hc1 hc2 h1 h2 b1 b2).mono ?_; rintro e w' ⟨rfl, hb⟩; exact ⟨_, rfl, hcl, hb⟩)
      · first
          | (exact absurd g0 hh)
          | (exfalso; revert hh; simp [Held, g0, *]; done)
          | (show undef = _; first | rfl | (simp [*]; done))
    · intro L ax W hf hd
      simp [Region.binds] at hd
      have e45 : ax.tmps[45]?.getD undef = .bool false := slv (hf.got 3 (by decide) (by simp [hd]))
      have f51 : Is (.bool true) (sl ax 51) W := hf.got 9 (by decide) (by simp [hd])
      refine ⟨fun _ => ?_, fun h => absurd trivial h⟩
      have e51 := slv f51
      refine free_run (v := .bool true) (W' := W) rfl ?_ rfl (Below.refl _ _)
      go_simp
    · intro L ax W hf hd
      simp [Region.binds] at hd
      have e52 : ax.tmps[52]?.getD undef = .bool true := slv (hf.got 10 (by decide) (by simp [hd]))
      refine ⟨fun _ => ?_, fun h => absurd trivial h⟩
      refine free_run (v := .bool true) (W' := W) rfl ?_ rfl (Below.refl _ _)
      go_simp
    · intro L ax W hf hd
      simp [Region.binds] at hd
      have g0 : sl ax 53 = .bool true := hf.got 11 (by decide) (by simp [hd])
      refine ⟨fun hh => ?_, fun hh => ?_⟩
      · first
          | (exact absurd (g0.symm.trans hh) (undef_ne _))
          | (exact absurd (g0.symm.trans hh) (bool_ne (by decide)))
          | (exfalso; revert hh; simp [Held, g0, *]; done)
          | (refine free_call (f := 27) (args := #[]) rfl (by go_simp) ?_; refine (HK W).mono ?_; rintro e w' ⟨rfl, hb⟩; exact ⟨_, rfl, rfl, hb⟩)
      · first
          | (exact absurd g0 hh)
          | (exfalso; revert hh; simp [Held, g0, *]; done)
          | (show undef = _; first | rfl | (simp [*]; done))
    · intro L ax W hf hd
      simp [Region.binds] at hd
      have e53 : ax.tmps[53]?.getD undef = .bool true := slv (hf.got 11 (by decide) (by simp [hd]))
      have e54 : ax.tmps[54]?.getD undef = .bool true := slv (hf.got 12 (by decide) (by simp [hd]))
      refine ⟨fun _ => ?_, fun h => absurd trivial h⟩
      refine free_run (v := .bool true) (W' := W) rfl ?_ rfl (Below.refl _ _)
      go_simp
    · intro L ax W hf hd
      simp [Region.binds] at hd
      have e55 : ax.tmps[55]?.getD undef = .bool true := slv (hf.got 13 (by decide) (by simp [hd]))
      refine ⟨fun _ => ?_, fun h => absurd trivial h⟩
      refine free_run (v := .bool true) (W' := W) rfl ?_ rfl (Below.refl _ _)
      go_simp
  · intro vs W hl' hF hb
    obtain ⟨g', hg1, hg2⟩ := vs_lit vs hl' hF
    have e14 : g' 14 = .bool true := hg2 14 (by decide)
    rw [hg1]
    clear hF hg1 hg2 hl'
    simp only [List.length_cons, List.length_nil, Nat.reduceAdd, show List.range 15 = [0, 1, 2, 3, 4, 5, 6, 7, 8, 9, 10, 11, 12, 13, 14] from rfl, List.map_cons, List.map_nil, putL, List.zip_cons_cons, List.zip_nil_right, List.setIfInBounds_toArray, List.set_cons_succ, List.set_cons_zero, e14]
    go_wp2_with fail
    go_ret
    exact ⟨rfl, HB8.out.trans (hb.mono (by omega))⟩
end Go.Proofs.Ytkocpihfdpahpaa
