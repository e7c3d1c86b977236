/- Texts of this proof, one behind the other: Kn10, DoW, UndP, OrdP, OrdM, DeepM. -/
import Derived.Test.YthdjhbiigmcecaaPAS
import Derived.Test.YthdjhbiigmcecaaPAM
import Derived.Test.YthdjhbiigmcecaaPAG
import Derived.BigQuiet
import Derived.Deep.CutRange
set_option linter.unusedVariables false
set_option linter.unusedSimpArgs false
/- Contract: landmarklaw10.known. -/
namespace Go.Proofs.Ythdjhbiigmcecaa
open Go.RowKit

theorem ChR.at_c {B : Nat} {T : Nat → Nat} {W : World} {cb : Nat} {C : List Blk} (h : ChR B T W cb C) (hok : ChnOk C) (n : Hash) (e : UInt64) :
  Calls Try.prog 48 #[ptrV cb, .agg (hashA n), .int .u64 (e.toNat : Int)] W fun r w' => r = .returned (.tuple #[.agg (pointA (chAtE C n e).1), .int .i64 (chAtE C n e).2]) ∧ Below W.heap.size W w' := by
 obtain ⟨sA, mb, G, hM⟩ := h
 obtain ⟨ab, -, -, hv⟩ := hM.view hok.pos
 exact chat_c hv hok n e
theorem ChR.path_c {B : Nat} {T : Nat → Nat} {W : World} {cb : Nat} {C : List Blk} (h : ChR B T W cb C) (hok : ChnOk C) {n : Hash} {i : Nat} (hi : chAt C n = some i) :
  Calls Try.prog 54 #[ptrV cb, .agg (hashA n)] W fun e w' => ∃ s : Sl, e = .returned (.tuple #[s.v, .int .i64 0]) ∧ PtsR w' s ((pth C i).reverse.map (ptAt C)) ∧ Below W.heap.size W w' := by
 obtain ⟨sA, mb, G, hM⟩ := h
 obtain ⟨ab, -, -, hv⟩ := hM.view hok.pos
 exact chpath_some hv hok hi
def bldNm (parts : Array (Nat × Value)) : Sem Value := Instr.build 24 parts
theorem fold_bldNm (parts : Array (Nat × Value)) : Instr.build 24 parts = bldNm parts := rfl
theorem nm_lit1 : (hashA zeroHash).setIfInBounds 0 (.int .u8 1) = hashA nm1H := by
 unfold hashA nm1H zeroHash
 rfl
theorem run_bldNm (W : World) : (bldNm #[(0, .int .u8 1)]).run Try.prog W = .ok (.agg (hashA nm1H)) W := by
 unfold bldNm
 go_simp
 first | (rw [nm_lit1, if_neg (fun h => by have := congrArg Array.size h; simp at this)]; simp) | (rw [zero_hash, nm_lit1]) | (rw [nm_lit1])
def bldPt (parts : Array (Nat × Value)) : Sem Value := Instr.build 26 parts
theorem fold_bldPt (parts : Array (Nat × Value)) : Instr.build 26 parts = bldPt parts := rfl
theorem run_bldPt (n : Hash) (W : World) : (bldPt #[(0, .int .u64 5), (1, .agg (hashA n))]).run Try.prog W = .ok (.agg (pointA ⟨5, n⟩)) W := by
 unfold bldPt
 go_simp
 rw [if_neg (fun h => by have := congrArg Array.size h; simp at this)]
 have h := pointA_set_epoch zeroPt 5
 rw [show (.int .u64 ((5 : UInt64).toNat : Int) : Value) = .int .u64 5 from rfl] at h
 rw [h, splice_point_name]
 rfl
theorem hdr_set_ep10 (g : GHeader) (e : UInt64) : (headerA g).setIfInBounds 32 (.int .u64 (e.toNat : Int)) = headerA { g with epoch := e } := by
 unfold headerA
 rw [Array.setIfInBounds_append_right (by simp)]
 simp
def bldHd (parts : Array (Nat × Value)) : Sem Value := Instr.build 49 parts
theorem fold_bldHd (parts : Array (Nat × Value)) : Instr.build 49 parts = bldHd parts := rfl
theorem run_bldHd (n : Hash) (e : UInt64) (W : World) : (bldHd #[(0, .agg (hashA n)), (1, .int .u64 (e.toNat : Int))]).run Try.prog W = .ok (.agg (headerA ⟨n, e, ⟨none, 0, 0⟩⟩)) W := by
 unfold bldHd
 go_simp
 rw [fold0_splice _ _ 32 (by simp) (by simp), splice_header_parent, if_neg (by simp), hdr_set_ep10]
 rfl
theorem bare_r (W : World) (n : Hash) (e : UInt64) : HdrR W ⟨n, e, ⟨none, 0, 0⟩⟩ ⟨n, e, []⟩ := ⟨rfl, rfl, rfl, Nat.le_refl _, fun h => absurd rfl h⟩
theorem bare_fits (n : Hash) (e : UInt64) : HdrFits ⟨n, e, []⟩ := ⟨Nat.zero_le _, fun o ho => by cases ho⟩
theorem MutS.ge {B : Nat} {T : Nat → Nat} {W W' : World} {cb : Nat} {C : List Blk} (h : ChR B T W cb C) (ha : Asd (MutS T) W W') {E : Nat} (hE : E ≤ B) (hW : E ≤ W.heap.size) : Below E W W' :=
 ha.below hW fun k hk hm => Nat.le_trans hE (h.tB k hk hm.1)
theorem chAtE_of {C : List Blk} {n : Hash} {i : Nat} {e : UInt64} {b : Blk} {k : Nat} (h : chAt C n = some i) (h0 : ¬ e.toNat < epAt C 0) (hk : bk C e.toNat i = k) (hb : C[k]? = some b) : chAtE C n e = (b.p, 0) := by
 unfold chAtE
 rw [h]
 simp only [if_neg h0]
 rw [hk, hb]
 rfl
theorem kC2_0 : kC2[0]? = some ⟨⟨5, nm1H⟩, zeroHdr, none⟩ := by simp [kC2, kC1, kC0, chNew]
theorem kC2_1 : kC2[1]? = some ⟨⟨7, hdName hd1⟩, hd1, some 0⟩ := by simp [kC2, kC1, kC0, chNew]
theorem kC2_2 : kC2[2]? = some ⟨⟨9, hdName hd2⟩, hd2, some 1⟩ := by simp [kC2, kC1, kC0, chNew]
theorem kpts : ([2, 1, 0] : List Nat).reverse.map (ptAt kC2) = [⟨5, nm1H⟩, ⟨7, hdName hd1⟩, ⟨9, hdName hd2⟩] := by
 simp only [List.reverse_cons, List.reverse_nil, List.nil_append, List.cons_append, List.map_cons, List.map_nil]
 rw [ptAt_of kC2_0, ptAt_of kC2_1, ptAt_of kC2_2]
theorem kate0 : ¬ (8 : UInt64).toNat < epAt kC2 0 := by
 rw [epAt_of kC2_0]
 decide
theorem kate1 : bk kC2 (8 : UInt64).toNat 2 = 1 := by
 rw [show (8 : UInt64).toNat = 8 from rfl]
 exact kbk
theorem kate : chAtE kC2 (hdName hd2) 8 = (⟨7, hdName hd1⟩, 0) := chAtE_of kat2 kate0 kate1 kC2_1
theorem known10_facts : ∃ (n1 n2 : Hash) (h1 h2 : Hdr) (C0 C1 C2 : List Blk), C0 = chNew ⟨5, nm1H⟩ ∧ h1 = ⟨nm1H, 7, []⟩ ∧ h2 = ⟨n1, 9, []⟩ ∧ ChnOk C0 ∧ ChnOk C1 ∧ ChnOk C2 ∧ chCheck C0 h1 = (⟨7, n1⟩, 0) ∧ chAdd C0 h1 = C1 ∧ chCheck C1 h2 = (⟨9, n2⟩, 0) ∧ chAdd C1 h2 = C2 ∧
  chAtE C2 n2 8 = (⟨7, n1⟩, 0) ∧ chAt C2 n2 = some 2 ∧ (pth C2 2).reverse.map (ptAt C2) = [⟨5, nm1H⟩, ⟨7, n1⟩, ⟨9, n2⟩] :=
 ⟨hdName hd1, hdName hd2, hd1, hd2, kC0, kC1, kC2, rfl, rfl, rfl, kok0, kok1, kok2, kchk1, kadd1, kchk2, kadd2, kate, kat2, by rw [kpth]; exact kpts⟩
attribute [local go_sem ↓] fold_bldNm fold_bldPt fold_bldHd
set_option maxRecDepth 100000 in
set_option maxHeartbeats 1600000 in
theorem known10_c (w : World) : Calls Try.prog 31 #[] w fun e w' => e = .returned (.bool true) ∧ Below w.heap.size w w' := by
 obtain ⟨n1, n2, hd1, hd2, C0, C1, C2, hC0e, hh1e, hh2e, kok0, kok1, kok2, kchk1, kadd1, kchk2, kadd2, kate, kat2, kpts⟩ := known10_facts
 have hn1 := run_bldNm
 generalize nm1H = n0 at *
 have hp1 := run_bldPt n0
 have hh1 : ∀ W, (bldHd #[(0, .agg (hashA n0)), (1, .int .u64 7)]).run Try.prog W = .ok (.agg (headerA ⟨n0, 7, ⟨none, 0, 0⟩⟩)) W := run_bldHd n0 7
 have hh2 : ∀ W, (bldHd #[(0, .agg (hashA (n1))), (1, .int .u64 9)]).run Try.prog W = .ok (.agg (headerA ⟨n1, 9, ⟨none, 0, 0⟩⟩)) W := run_bldHd (n1) 9
 have HN := chnew_c ⟨5, n0⟩ w (by show (5 : UInt64).toNat ≤ _; decide)
 replace hC0e := Lib.hid hC0e
 replace hh1e := Lib.hid hh1e
 replace hh2e := Lib.hid hh2e
 replace kok0 := Lib.hid kok0
 replace kok1 := Lib.hid kok1
 replace kok2 := Lib.hid kok2
 replace kchk1 := Lib.hid kchk1
 replace kchk2 := Lib.hid kchk2
 replace kadd1 := Lib.hid kadd1
 replace kadd2 := Lib.hid kadd2
 replace kate := Lib.hid kate
 replace kat2 := Lib.hid kat2
 replace kpts := Lib.hid kpts
 go_enter Try.func31, Try.ntmps31
 go_wp2_with fail
 (with_reducible refine HN.mono ?_)
 clear HN
 rintro e w1 ⟨cb, rfl, hcb, ⟨T0, hC0⟩, hb1⟩
 have HA := chadd_c (show ChR w.heap.size T0 w1 cb C0 by rw [hC0e.out]; exact hC0) kok0.out (g := ⟨n0, 7, ⟨none, 0, 0⟩⟩) (h := hd1) (by rw [hh1e.out]; exact bare_r _ _ _) (by rw [hh1e.out]; exact bare_fits _ _)
 rw [kchk1.out, kadd1.out] at HA
 have hz1 := hb1.size
 go_wp2_with fail
 (with_reducible refine HA.mono ?_)
 clear HA
 rintro e w2 ⟨rfl, ⟨T1, hC1a, -⟩, hA1⟩
 have hC1 := hC1a.retag (T' := fun k => if k < w2.heap.size then T1 k else 0) fun k hk => if_pos hk
 clear hC1a
 have hb2 := hb1.trans (MutS.ge hC0 hA1 (Nat.le_refl _) hz1)
 have hz2 := hb2.size
 clear hC0 hA1 hb1
 go_upto_region 5 with fail
 obtain ⟨w3, hw3, hrow3, -, hB3, hz3⟩ := box_row w2 (pointA zeroPt) (pointA ⟨7, n1⟩) 26 33 (by omega) (by simp) (by simp)
 rw [← hw3]
 clear hw3
 have hC3 := hC1.keep hB3
 obtain ⟨b3, hb3⟩ : ∃ b, b = w2.heap.size := ⟨_, rfl⟩
 rw [← hb3] at hrow3 ⊢
 have hBw3 := hb2.trans (hB3.mono hz2)
 have hrn3 := row_part hrow3 1 32 (by omega)
 have en3 : (pointA ⟨7, n1⟩).extract 1 33 = hashA (n1) := by simp
 rw [en3, Nat.zero_add] at hrn3
 have HA := chadd_c hC3 kok1.out (g := ⟨n1, 9, ⟨none, 0, 0⟩⟩) (h := hd2) (by rw [hh2e.out]; exact bare_r _ _ _) (by rw [hh2e.out]; exact bare_fits _ _)
 rw [kchk2.out, kadd2.out] at HA
 replace hb3 := Lib.hid hb3
 clear hC1 hB3 en3
 go_wp2_with fail
 (with_reducible refine HA.mono ?_)
 clear HA
 rintro e w4 ⟨rfl, ⟨T2, hC4, -⟩, hA4⟩
 have hB4 := MutS.ge hC3 hA4 (Nat.le_refl _) (by omega)
 have hBw4 := hBw3.trans hB4
 have hm3 : ¬ MutS (fun k => if k < w2.heap.size then T1 k else 0) b3 := fun q => q.1 (if_neg (by have := hb3.out; omega))
 have hrow34 := hA4.row hm3 hrow3
 have hz4 := hA4.size
 clear hA4 hC3 hrow3 hrn3
 go_upto_region 6 with fail
 obtain ⟨w5, hw5, hrow5, -, hB5, hz5⟩ := box_row w4 (pointA zeroPt) (pointA ⟨9, n2⟩) 26 33 (by omega) (by simp) (by simp)
 rw [← hw5]
 clear hw5
 have hC5 := hC4.keep hB5
 obtain ⟨b5, hb5⟩ : ∃ b, b = w4.heap.size := ⟨_, rfl⟩
 rw [← hb5] at hrow5 ⊢
 have hBw5 := hBw4.trans (hB5.mono (by omega))
 have hrn5 := row_part hrow5 1 32 (by omega)
 have en5 : (pointA ⟨9, n2⟩).extract 1 33 = hashA (n2) := by simp
 rw [en5, Nat.zero_add] at hrn5
 have hrow35 := (row?_below _ _ _ hB5 (by have := hb3.out; omega)).trans hrow34
 have HT := hC5.at_c kok2.out (n2) 8
 rw [show (((8 : UInt64).toNat : Int)) = 8 from rfl, kate.out] at HT
 replace hb5 := Lib.hid hb5
 clear hC4 hB5 en5 hrow34
 go_wp2_with fail
 (with_reducible refine HT.mono ?_)
 clear HT
 rintro e w6 ⟨rfl, hB6⟩
 have hC6 := hC5.keep hB6
 have hBw6 := hBw5.trans (hB6.mono (by omega))
 have hz6 := hB6.size
 have hrow36 := (row?_below _ _ _ hB6 (by have := hb3.out; omega)).trans hrow35
 have hrow56 := (row?_below _ _ _ hB6 (by have := hb5.out; omega)).trans hrow5
 have hrn56 := (row?_below _ _ _ hB6 (by have := hb5.out; omega)).trans hrn5
 clear hC5 hB6 hrow35 hrow5 hrn5
 go_upto_region 7 with fail
 obtain ⟨w7, hw7, hrow7, -, hB7, hz7⟩ := box_row w6 (pointA zeroPt) (pointA ⟨7, n1⟩) 26 33 (by omega) (by simp) (by simp)
 rw [← hw7]
 clear hw7
 have hC7 := hC6.keep hB7
 obtain ⟨b7, hb7⟩ : ∃ b, b = w6.heap.size := ⟨_, rfl⟩
 rw [← hb7] at hrow7 ⊢
 have hBw7 := hBw6.trans (hB7.mono (by omega))
 have hrow37 := (row?_below _ _ _ hB7 (by have := hb3.out; omega)).trans hrow36
 have hrow57 := (row?_below _ _ _ hB7 (by have := hb5.out; omega)).trans hrow56
 have hrn57 := (row?_below _ _ _ hB7 (by have := hb5.out; omega)).trans hrn56
 have HP := hC7.path_c kok2.out kat2.out
 rw [kpts.out] at HP
 replace hb7 := Lib.hid hb7
 clear hC6 hB7 hrow36 hrow56 hrn56
 go_wp2_with fail
 (with_reducible refine HP.mono ?_)
 clear HP
 rintro e w8 ⟨⟨sa, sn, sc⟩, he, hp8, hB8⟩
 replace he : e = .returned (.tuple #[.slice sa sn sc, .int .i64 0]) := he
 subst he
 obtain rfl : sn = 3 := hp8.1
 have hrow38 := (row?_below _ _ _ hB8 (by have := hb3.out; omega)).trans hrow37
 have hrow58 := (row?_below _ _ _ hB8 (by have := hb5.out; omega)).trans hrow57
 have hrow78 := (row?_below _ _ _ hB8 (by have := hb7.out; omega)).trans hrow7
 have hBw8 := hBw7.trans (hB8.mono (by omega))
 obtain ⟨pb, po, e0, hc⟩ := hp8.2.2 (by simp)
 obtain ⟨c1, r1, rfl⟩ := hc 1 (by simp)
 obtain ⟨c2, r2, rfl⟩ := hc 2 (by simp)
 simp only at e0
 subst e0
 have r1' : row? w8 pb (po + 33) 33 = some (pointA ⟨7, n1⟩) := r1
 have r2' : row? w8 pb (po + 66) 33 = some (pointA ⟨9, n2⟩) := r2
 have x0 := cell_of_row? hrow38 0 (by omega)
 have x1 : w8.cell? ⟨b3, 0, none⟩ = some (.int .u64 7) := by simpa using x0
 have f1 := fun k => show row? (w8.drewN k) pb (po + 33) 33 = _ from r1'
 have f2 := fun k => show row? (w8.drewN k) pb (po + 66) 33 = _ from r2'
 have f3 := fun k => show row? (w8.drewN k) b3 0 33 = _ from hrow38
 have f5 := fun k => show row? (w8.drewN k) b5 0 33 = _ from hrow58
 have f7 := fun k => show row? (w8.drewN k) b7 0 33 = _ from hrow78
 have f8 := fun k => show (w8.drewN k).cell? ⟨b3, 0, none⟩ = _ from x1
 clear r1 r2 r1' r2' x0 x1 hc hp8 hrow38 hrow58 hrow78 hrow37 hrow57 hrow7 hrn57
 go_upto_region 8 with fail
 go_quiet (fail)
 go_wp2_with fail
 go_ret
 exact ⟨rfl, below_drewN hBw8 _⟩
end Go.Proofs.Ythdjhbiigmcecaa

/- The walk of landmarklaw10.do. -/
namespace Go.Proofs.Ythdjhbiigmcecaa
open Go.RowKit

theorem Both.bel {w0 W : World} {B : Nat} {T : Nat → Nat} {cb cr : Nat} {C D : List Blk} (h : Both w0 B T W cb cr C D) : Below w0.heap.size w0 W := by
 obtain ⟨rb, cap, G, hR, -⟩ := h.doc
 exact hR.bel
/-- what is not made yet has a tag of its own -/
theorem Both.fresh {w0 W : World} {B : Nat} {T : Nat → Nat} {cb cr : Nat} {C D : List Blk} (h : Both w0 B T W cb cr C D) : ∃ T', Both w0 B T' W cb cr C D ∧ (∀ k, W.heap.size ≤ k → T' k = 2500000) ∧ ∀ k, k < W.heap.size → T' k = T k := by
 obtain ⟨rb, cap, G, hR, h0⟩ := h.doc
 refine ⟨fun k => if k < W.heap.size then T k else 2500000, ⟨h.real.retag fun k hk => if_pos hk, ?_, ⟨rb, cap, G, hR, ?_⟩, h.le⟩, fun k hk => if_neg (by omega), fun k hk => if_pos hk⟩
 ·show (if cr < W.heap.size then T cr else 2500000) = 2000000
  rw [if_pos hR.cbW]
  exact h.tag
 ·show (if rb < W.heap.size then T rb else 2500000) = 0
  rw [if_pos hR.lt]
  exact h0
/-- a block of that tag is written -/
theorem Both.put {w0 W : World} {B : Nat} {T : Nat → Nat} {cb cr : Nat} {C D : List Blk} (h : Both w0 B T W cb cr C D) (hl : C.length ≤ 100000) {b : Nat} (hb : b < W.heap.size) (ht : T b = 2500000) (off : Nat) (xs : Array Value) :
  ∃ T', Both w0 B T' (putRow W b off xs) cb cr C D ∧ ∀ k, k < W.heap.size → T' k = T k := by
 obtain ⟨rb, cap, G, hR, h0⟩ := h.doc
 have hT : ∀ k, k < W.heap.size → (if k < W.heap.size then T k else 0) = T k := fun k hk => if_pos hk
 refine ⟨fun k => if k < W.heap.size then T k else 0, ⟨(h.real.retag (T' := fun k => if k < W.heap.size then T k else 0) hT).offBig hl (asd_put W b off xs) (fun k hk e => ?_) (fun k hk => if_neg (by omega)), (hT _ hR.cbW).trans h.tag, ⟨rb, cap, G, hR.off (asd_put W b off xs) (fun k e => ?_) (fun e => ?_) (fun e => ?_), (hT _ hR.lt).trans h0⟩, h.le⟩, hT⟩
 ·have e' : k = b := e
  show 1000000 ≤ (if k < W.heap.size then T k else 0)
  rw [if_pos hk, e', ht]
  omega
 ·have e' : k = b := e
  rw [e']
  exact Nat.le_trans h.le (h.real.tB b hb (by omega))
 ·have e' : cr = b := e
  have := h.tag
  rw [e', ht] at this
  omega
 ·have e' : rb = b := e
  rw [e', ht] at h0
  omega
theorem Both.retag {w0 W : World} {B : Nat} {T T' : Nat → Nat} {cb cr : Nat} {C D : List Blk} (h : Both w0 B T W cb cr C D) (hT : ∀ k, k < W.heap.size → T' k = T k) : Both w0 B T' W cb cr C D := by
 obtain ⟨rb, cap, G, hR, h0⟩ := h.doc
 exact ⟨h.real.retag hT, (hT _ hR.cbW).trans h.tag, ⟨rb, cap, G, hR, (hT _ hR.lt).trans h0⟩, h.le⟩
theorem t10_point_guard : Try.prog.eqGuardType Try.prog.depth 26 = false := by kernel_rfl
theorem pick_in (x : Int) (n : Nat) (hn : 0 < n) (hb : n ≤ 100000) : 0 ≤ (x.tmod n + n).tmod n ∧ (x.tmod n + n).tmod n < n ∧ -100000 < x.tmod n ∧ x.tmod n < 100000 := by
 have h1 := Int.tmod_lt_of_pos x (show (0 : Int) < n by omega)
 have h2 : -(n : Int) < x.tmod n := Int.lt_tmod_of_pos x (by omega)
 have h3 : 0 ≤ x.tmod n + n := by omega
 exact ⟨Int.tmod_nonneg _ h3, Int.tmod_lt_of_pos _ (by omega), by omega, by omega⟩
/-- what is tagged as another's, or not at all, stays -/
def Fr (T : Nat → Nat) (W : World) (T' : Nat → Nat) (W' : World) : Prop := W.heap.size ≤ W'.heap.size ∧ ∀ k, k < W.heap.size → T' k = T k ∧ (T k = 0 ∨ T k = 3000000 → W'.heap[k]? = W.heap[k]?)
theorem Fr.refl (T : Nat → Nat) (W : World) : Fr T W T W := ⟨Nat.le_refl _, fun _ _ => ⟨rfl, fun _ => rfl⟩⟩
theorem Fr.tag {T T1 T2 : Nat → Nat} {W W1 : World} (h : Fr T W T1 W1) (hT : ∀ k, k < W1.heap.size → T2 k = T1 k) : Fr T W T2 W1 :=
 ⟨h.1, fun k hk => ⟨(hT k (Nat.lt_of_lt_of_le hk h.1)).trans (h.2 k hk).1, (h.2 k hk).2⟩⟩
theorem Fr.below {T T1 : Nat → Nat} {W W1 W2 : World} (h : Fr T W T1 W1) (hb : Below W1.heap.size W1 W2) : Fr T W T1 W2 :=
 ⟨Nat.le_trans h.1 hb.size, fun k hk => ⟨(h.2 k hk).1, fun ht => (hb.block k (Nat.lt_of_lt_of_le hk h.1)).trans ((h.2 k hk).2 ht)⟩⟩
theorem Fr.asd {T T1 T2 : Nat → Nat} {W W1 W2 : World} {M : Nat → Prop} (h : Fr T W T1 W1) (hb : Asd M W1 W2) (hM : ∀ k, k < W1.heap.size → T1 k = 0 ∨ T1 k = 3000000 → ¬ M k) (hT : ∀ k, k < W1.heap.size → T2 k = T1 k) : Fr T W T2 W2 :=
 ⟨Nat.le_trans h.1 hb.size, fun k hk => by
  have hk1 := Nat.lt_of_lt_of_le hk h.1
  obtain ⟨h1, h2⟩ := h.2 k hk
  exact ⟨(hT k hk1).trans h1, fun ht => (hb.block k hk1 (hM k hk1 (by rw [h1]; exact ht))).trans (h2 ht)⟩⟩
/-- the parent is put: done, or not yet -/
def HDo7 (w : World) (b : Nat) (h : Hash) (L : List Bool) (_V : List Value) (W : World) : Prop := (L.getD 0 false = false → W = w.drew) ∧ (L.getD 0 false = true → W = putRow w.drew b 0 (hashA h))
theorem pickN_int (x : Int) {n : Nat} (hn : 0 < n) : ((pickN x n : Nat) : Int) = (x.tmod n + n).tmod n := by
 have := pickI_lt x hn
 unfold pickN
 rw [Int.toNat_of_nonneg this.1]
 rfl
theorem do_name {W : World} {b o : Nat} {p : Pt} {g : GHeader} {q : Option Nat} (h : row? W b o 68 = some (rblkA p g q)) : row? W b (o + 1) 32 = some (hashA p.name) := (rblk_cells h).2.1
set_option maxRecDepth 100000 in
set_option maxHeartbeats 1600000 in
theorem actdo_c {w0 W : World} {B : Nat} {T : Nat → Nat} {cb cr : Nat} {C : List Blk} (h : Both w0 B T W cb cr C C) (hok : ChnOk C) {s : Sl} {l : List Act} (ha : ActsR w0 s l) (hl : l.length ≤ 40) (hf : ∀ a ∈ l, HdrFits a.h ∧ a.h.ops.length ≤ 30) :
  Calls Try.prog 34 #[ptrV cb, ptrV cr, s.v] W fun e w' => e = .returned (.bool true) ∧ ∃ T', Both w0 B T' w' cb cr (doA C l) (doA C l) ∧ Fr T W T' w' := by
 obtain ⟨sa, sn, sc⟩ := s
 obtain rfl : sn = l.length := ha.1
 have hs := Lib.hid ha
 clear ha
 dsimp only [Sl.v]
 unfold ptrV
 go_enter Try.func34, Try.ntmps34
 go_wp2_with fail
 go_loopw [7] (fun i w' => ∃ (k : Nat) (T' : Nat → Nat), k ≤ l.length ∧ i = .int .i64 k ∧ Hid (Both w0 B T' w' cb cr (doA C (l.take k)) (doA C (l.take k))) ∧ Hid (Fr T W T' w')) (fun i _ => l.length - (intOf i).toNat)
 case atStart => exact ⟨0, T, Nat.zero_le _, rfl, Lib.hid (by simpa [doA] using h), Lib.hid (Fr.refl _ _)⟩
 case round =>
  obtain ⟨k, T0, hk, rfl, hb0, hfr0⟩ := hrel
  obtain ⟨T1, hb1, hT0, hT01⟩ := hb0.out.fresh
  have hfr := Lib.hid (hfr0.out.tag hT01)
  clear hfr0 hT01
  have hb := Lib.hid hb1
  replace hT0 := Lib.hid hT0
  clear hb0 hb1
  have hok1 := doA_ok hok (l.take k)
  by_cases hkx : k < l.length
  ·obtain ⟨bl, off, e, hbs, hc⟩ := hs.out.at (by omega)
   have e1 := congrArg Sl.a e
   simp only at e1
   subst e1
   clear e
   obtain ⟨cs, hcx0, x, rfl, hx, hxu, hxn⟩ := hc k hkx
   clear hc
   have hbel := hb.out.bel
   have hcx := (row?_below _ _ _ hbel hbs).trans hcx0
   obtain ⟨hrw, hcu, hcn⟩ := act_cells hcx
   have htk := Lib.hid (doA_take C l k hkx)
   have hfk := hf l[k] (List.getElem_mem hkx)
   generalize l[k] = a at *
   generalize doA C (l.take k) = D at *
   have k0 : (0 : Int) ≤ (k : Int) := by omega
   have k1 : (k : Int) < (l.length : Int) := by omega
   go_upto_region 5 with fail
   obtain ⟨w3, hw3, hrow8, hth8, hB3, hz3⟩ := box_row wr (headerA ⟨zeroHash, 0, ⟨none, 0, 0⟩⟩) (headerA x.g) 49 34 (by omega) (by simp) (by simp)
   rw [← hw3]
   clear hw3
   obtain ⟨wo, hwo⟩ : ∃ W, W = wr := ⟨_, rfl⟩
   have hBo3 := Lib.hid (show Below wo.heap.size wo w3 by rw [hwo]; exact hB3)
   have hfro := Lib.hid (show Fr T W T1 wo by rw [hwo]; exact hfr.out)
   have hzo := Lib.hid (show wo.heap.size = wr.heap.size by rw [hwo])
   clear hwo hfr
   obtain ⟨b8, hb8⟩ : ∃ b, b = wr.heap.size := ⟨_, rfl⟩
   rw [← hb8] at hrow8 hth8 ⊢
   have hb3 := Lib.hid (hb.out.keep hB3)
   have hbl3 : bl < wr.heap.size := Nat.lt_of_lt_of_le hbs hbel.size
   have hcu3 := (hB3.cell (p := ⟨bl, off + k * 36 + 34, none⟩) hbl3).trans hcu
   have hcn3 := (hB3.cell (p := ⟨bl, off + k * 36 + 35, none⟩) hbl3).trans hcn
   have hb8w : b8 < w3.heap.size := by omega
   have hx3 := Lib.hid hx
   replace hb8 := Lib.hid hb8
   replace hz3 := Lib.hid hz3
   clear hB3 hcx hcx0 hrw hcu hcn hbel hx
   obtain ⟨un, hun⟩ : ∃ un, un = a.under := ⟨_, rfl⟩
   rw [hxu, ← hun] at hcu3
   clear hxu
   replace hun := Lib.hid hun
   go_upto_if 29 with fail
   go_cut [9] from 30 to 55 (fun u W' => Hid (∃ g' : GHeader, row? W' b8 0 34 = some (headerA g') ∧ there W' b8 0 34 ∧ HdrR w0 g' (actH D a) ∧ Both w0 B T1 W' cb cr D D ∧ W'.heap.size = w3.heap.size ∧ Below wo.heap.size wo W'))
   case first =>
    cases un
    ·have hact := Lib.hid (show actH D a = a.h by unfold actH; rw [← hun.out]; rfl)
     clear hun
     go_wp2_with fail
     go_meet
     case rel => exact Lib.hid ⟨x.g, hrow8, hth8, by rw [hact.out]; exact hx3.out, hb3.out, rfl, hBo3.out⟩
    ·obtain ⟨rb, cap, G, hR, h0⟩ := hb3.out.doc
     have c0 := hR.c0
     have hDp := hok1.pos
     obtain ⟨i, hi⟩ : ∃ i, i = pickN a.n D.length := ⟨_, rfl⟩
     have hiD : i < D.length := by rw [hi]; exact pickN_lt _ hDp
     obtain ⟨gx, -, hrwi, -⟩ := hR.at hiD
     have hnm0 := do_name hrwi
     have hact := Lib.hid (show actH D a = { a.h with parent := D[i].p.name } by
      unfold actH
      rw [← hun.out, ← hi, List.getElem?_eq_getElem hiD]
      rfl)
     have hii := pickN_int a.n hDp
     rw [← hi] at hii
     have hDl := hok1.len
     obtain ⟨j1, j2, j3, j4⟩ := pick_in a.n D.length hDp (by omega)
     obtain ⟨nm, hnmE⟩ : ∃ nm, nm = D[i].p.name := ⟨_, rfl⟩
     rw [← hnmE] at hact hnm0
     have hnm := hnm0
     clear hnm0 hrwi hnmE hi hun
     obtain ⟨xn, hxne⟩ : ∃ xn, xn = x.n := ⟨_, rfl⟩
     rw [← hxne] at hcn3 hxn
     rw [← hxn] at hii j1 j2 j3 j4
     obtain ⟨r1, hr1⟩ : ∃ r, xn.tmod (D.length : Int) = r := ⟨_, rfl⟩
     rw [hr1] at hii j1 j2 j3 j4
     obtain ⟨r2, hr2⟩ : ∃ r, r1 + (D.length : Int) = r := ⟨_, rfl⟩
     rw [hr2] at hii j1 j2
     have hr3 : r2.tmod (D.length : Int) = (i : Int) := hii.symm
     have hne0 : ¬ (D.length : Int) = 0 := by omega
     have hDn : ¬ D = [] := by intro e; rw [e] at hDp; simp at hDp
     have hw1 : IntKind.i64.wrap r1 = r1 := IntWalk.i64_in _ (by omega)
     have hw2 : IntKind.i64.wrap r2 = r2 := IntWalk.i64_in _ (by omega)
     have hw3 : IntKind.i64.wrap (i : Int) = (i : Int) := IntWalk.i64_in _ (by omega)
     have hi0 : (0 : Int) ≤ (i : Int) := by omega
     have hi1 : (i : Int) < (D.length : Int) := by omega
     clear hii hxne hxn
     go_upto_region 7 with fail
     refine wp_region_freeI_l (by kernel_rfl) [35, 36, 37, 38, 39, 40, 41, 42, 43, 44, 45, 46, 47, 48, 49, 50, 51, 52, 53, 54, 126]
      [(fun v => v = .pointer (some ⟨cr, 0, none⟩)), (fun v => v = .pointer (some ⟨cr, 0, none⟩)), (fun v => v = .pointer (some ⟨cr, 0, none⟩)), (fun v => v = .slice (some ⟨rb, 0, none⟩) D.length cap), (fun v => v = .slice (some ⟨bl, off, none⟩) l.length sc), (fun v => v = .int .i64 (k : Int)), (fun v => v = .pointer (some ⟨bl, off + k * 36, none⟩)), (fun v => v = .pointer (some ⟨bl, off + k * 36 + 35, none⟩)), (fun v => v = .int .i64 xn), (fun v => v = .int .i64 (D.length : Int)), (fun v => v = .int .i64 r1), (fun v => v = .int .i64 (D.length : Int)), (fun v => v = .int .i64 r2), (fun v => v = .int .i64 (D.length : Int)), (fun v => v = .int .i64 (i : Int)), (fun v => v = .pointer (some ⟨rb, i * 68, none⟩)), (fun v => v = .pointer (some ⟨rb, i * 68, none⟩)), (fun v => v = .pointer (some ⟨rb, i * 68 + 1, none⟩)), (fun v => v = .agg (hashA nm)), (fun v => v = .pointer (some ⟨b8, 0, none⟩)), (fun _ => True)]
      [20] (HDo7 w3 b8 nm) [[1, 2, 3, 15, 16, 17, 18, 20], [2, 3, 15, 16, 17, 18, 20], [3, 15, 16, 17, 18, 20], [15, 16, 17, 18, 20], [6, 7, 8, 10, 12, 14, 15, 16, 17, 18, 20], [6, 7, 8, 10, 12, 14, 15, 16, 17, 18, 20], [7, 8, 10, 12, 14, 15, 16, 17, 18, 20], [8, 10, 12, 14, 15, 16, 17, 18, 20], [10, 12, 14, 15, 16, 17, 18, 20], [10, 12, 14, 15, 16, 17, 18, 20], [12, 14, 15, 16, 17, 18, 20], [12, 14, 15, 16, 17, 18, 20], [14, 15, 16, 17, 18, 20], [14, 15, 16, 17, 18, 20], [15, 16, 17, 18, 20], [16, 17, 18, 20], [17, 18, 20], [18, 20], [20], [20], []] (by kernel_rfl) (by kernel_rfl) ?_ ?_ ?_
     ·show HDo7 w3 b8 nm [false] [_] _
      exact ⟨fun _ => rfl, fun q => (by cases q)⟩
     ·refine ⟨?_, ?_, ?_, ?_, ?_, ?_, ?_, ?_, ?_, ?_, ?_, ?_, ?_, ?_, ?_, ?_, ?_, ?_, ?_, ?_, ?_, trivial⟩
      ·intro L ax W hf hLi hno hd
       try simp [Region.binds] at hd
       have e1 : ax.tmps[1]?.getD undef = .pointer (some ⟨cr, 0, none⟩) := hf.out 1 (by decide) rfl
       refine ⟨fun _ => ?_, fun h => absurd trivial h⟩
       refine freeI_run (v := .pointer (some ⟨cr, 0, none⟩)) rfl hf (by decide) ?_ rfl
       go_simp
      ·intro L ax W hf hLi hno hd
       simp [Region.binds] at hd
       have e35 : ax.tmps[35]?.getD undef = .pointer (some ⟨cr, 0, none⟩) := slv (hf.got 0 (by decide) (by simp [hd]))
       refine ⟨fun _ => ?_, fun h => absurd trivial h⟩
       refine freeI_run (v := .pointer (some ⟨cr, 0, none⟩)) rfl hf (by decide) ?_ rfl
       go_simp
      ·intro L ax W hf hLi hno hd
       simp [Region.binds] at hd
       have e36 : ax.tmps[36]?.getD undef = .pointer (some ⟨cr, 0, none⟩) := slv (hf.got 1 (by decide) (by simp [hd]))
       refine ⟨fun _ => ?_, fun h => absurd trivial h⟩
       refine freeI_run (v := .pointer (some ⟨cr, 0, none⟩)) rfl hf (by decide) ?_ rfl
       go_simp
      ·intro L ax W hf hLi hno hd
       simp [Region.binds] at hd
       have e37 : ax.tmps[37]?.getD undef = .pointer (some ⟨cr, 0, none⟩) := slv (hf.got 2 (by decide) (by simp [hd]))
       refine ⟨fun _ => ?_, fun h => absurd trivial h⟩
       have hG : HDo7 w3 b8 nm [L 20] [sl ax 126] W := hf.glob
       have hW : W = w3.drew := hG.1 (hno 20 (by decide))
       subst hW
       have c0d : w3.drew.cell? ⟨cr, 0, none⟩ = _ := c0
       refine freeI_run (v := .slice (some ⟨rb, 0, none⟩) D.length cap) rfl hf (by decide) ?_ rfl
       go_simp
      ·intro L ax W hf hLi hno hd
       try simp [Region.binds] at hd
       have e2 : ax.tmps[2]?.getD undef = .slice (some ⟨bl, off, none⟩) l.length sc := hf.out 2 (by decide) rfl
       refine ⟨fun _ => ?_, fun h => absurd trivial h⟩
       refine freeI_run (v := .slice (some ⟨bl, off, none⟩) l.length sc) rfl hf (by decide) ?_ rfl
       go_simp
      ·intro L ax W hf hLi hno hd
       try simp [Region.binds] at hd
       have e7 : ax.tmps[7]?.getD undef = .int .i64 (k : Int) := hf.out 7 (by decide) rfl
       refine ⟨fun _ => ?_, fun h => absurd trivial h⟩
       refine freeI_run (v := .int .i64 (k : Int)) rfl hf (by decide) ?_ rfl
       go_simp
      ·intro L ax W hf hLi hno hd
       simp [Region.binds] at hd
       have e39 : ax.tmps[39]?.getD undef = .slice (some ⟨bl, off, none⟩) l.length sc := slv (hf.got 4 (by decide) (by simp [hd]))
       have e40 : ax.tmps[40]?.getD undef = .int .i64 (k : Int) := slv (hf.got 5 (by decide) (by simp [hd]))
       refine ⟨fun _ => ?_, fun h => absurd trivial h⟩
       refine freeI_run (v := .pointer (some ⟨bl, off + k * 36, none⟩)) rfl hf (by decide) ?_ rfl
       go_simp
      ·intro L ax W hf hLi hno hd
       simp [Region.binds] at hd
       have e41 : ax.tmps[41]?.getD undef = .pointer (some ⟨bl, off + k * 36, none⟩) := slv (hf.got 6 (by decide) (by simp [hd]))
       refine ⟨fun _ => ?_, fun h => absurd trivial h⟩
       refine freeI_run (v := .pointer (some ⟨bl, off + k * 36 + 35, none⟩)) rfl hf (by decide) ?_ rfl
       go_simp
      ·intro L ax W hf hLi hno hd
       simp [Region.binds] at hd
       have e42 : ax.tmps[42]?.getD undef = .pointer (some ⟨bl, off + k * 36 + 35, none⟩) := slv (hf.got 7 (by decide) (by simp [hd]))
       refine ⟨fun _ => ?_, fun h => absurd trivial h⟩
       have hG : HDo7 w3 b8 nm [L 20] [sl ax 126] W := hf.glob
       have hW : W = w3.drew := hG.1 (hno 20 (by decide))
       subst hW
       have c1d : w3.drew.cell? ⟨bl, off + k * 36 + 35, none⟩ = _ := hcn3
       refine freeI_run (v := .int .i64 xn) rfl hf (by decide) ?_ rfl
       go_simp
      ·intro L ax W hf hLi hno hd
       try simp [Region.binds] at hd
       have e9 : ax.tmps[9]?.getD undef = .int .i64 (D.length : Int) := hf.out 9 (by decide) rfl
       refine ⟨fun _ => ?_, fun h => absurd trivial h⟩
       refine freeI_run (v := .int .i64 (D.length : Int)) rfl hf (by decide) ?_ rfl
       go_simp
      ·intro L ax W hf hLi hno hd
       simp [Region.binds] at hd
       have e43 : ax.tmps[43]?.getD undef = .int .i64 xn := slv (hf.got 8 (by decide) (by simp [hd]))
       have e44 : ax.tmps[44]?.getD undef = .int .i64 (D.length : Int) := slv (hf.got 9 (by decide) (by simp [hd]))
       refine ⟨fun _ => ?_, fun h => absurd trivial h⟩
       refine freeI_run (v := .int .i64 r1) rfl hf (by decide) ?_ rfl
       go_simp
      ·intro L ax W hf hLi hno hd
       try simp [Region.binds] at hd
       have e9 : ax.tmps[9]?.getD undef = .int .i64 (D.length : Int) := hf.out 9 (by decide) rfl
       refine ⟨fun _ => ?_, fun h => absurd trivial h⟩
       refine freeI_run (v := .int .i64 (D.length : Int)) rfl hf (by decide) ?_ rfl
       go_simp
      ·intro L ax W hf hLi hno hd
       simp [Region.binds] at hd
       have e45 : ax.tmps[45]?.getD undef = .int .i64 r1 := slv (hf.got 10 (by decide) (by simp [hd]))
       have e46 : ax.tmps[46]?.getD undef = .int .i64 (D.length : Int) := slv (hf.got 11 (by decide) (by simp [hd]))
       refine ⟨fun _ => ?_, fun h => absurd trivial h⟩
       refine freeI_run (v := .int .i64 r2) rfl hf (by decide) ?_ rfl
       go_simp
      ·intro L ax W hf hLi hno hd
       try simp [Region.binds] at hd
       have e9 : ax.tmps[9]?.getD undef = .int .i64 (D.length : Int) := hf.out 9 (by decide) rfl
       refine ⟨fun _ => ?_, fun h => absurd trivial h⟩
       refine freeI_run (v := .int .i64 (D.length : Int)) rfl hf (by decide) ?_ rfl
       go_simp
      ·intro L ax W hf hLi hno hd
       simp [Region.binds] at hd
       have e47 : ax.tmps[47]?.getD undef = .int .i64 r2 := slv (hf.got 12 (by decide) (by simp [hd]))
       have e48 : ax.tmps[48]?.getD undef = .int .i64 (D.length : Int) := slv (hf.got 13 (by decide) (by simp [hd]))
       refine ⟨fun _ => ?_, fun h => absurd trivial h⟩
       refine freeI_run (v := .int .i64 (i : Int)) rfl hf (by decide) ?_ rfl
       go_simp
      ·intro L ax W hf hLi hno hd
       simp [Region.binds] at hd
       have e38 : ax.tmps[38]?.getD undef = .slice (some ⟨rb, 0, none⟩) D.length cap := slv (hf.got 3 (by decide) (by simp [hd]))
       have e49 : ax.tmps[49]?.getD undef = .int .i64 (i : Int) := slv (hf.got 14 (by decide) (by simp [hd]))
       refine ⟨fun _ => ?_, fun h => absurd trivial h⟩
       refine freeI_run (v := .pointer (some ⟨rb, i * 68, none⟩)) rfl hf (by decide) ?_ rfl
       go_simp
      ·intro L ax W hf hLi hno hd
       simp [Region.binds] at hd
       have e50 : ax.tmps[50]?.getD undef = .pointer (some ⟨rb, i * 68, none⟩) := slv (hf.got 15 (by decide) (by simp [hd]))
       refine ⟨fun _ => ?_, fun h => absurd trivial h⟩
       refine freeI_run (v := .pointer (some ⟨rb, i * 68, none⟩)) rfl hf (by decide) ?_ rfl
       go_simp
      ·intro L ax W hf hLi hno hd
       simp [Region.binds] at hd
       have e51 : ax.tmps[51]?.getD undef = .pointer (some ⟨rb, i * 68, none⟩) := slv (hf.got 16 (by decide) (by simp [hd]))
       refine ⟨fun _ => ?_, fun h => absurd trivial h⟩
       refine freeI_run (v := .pointer (some ⟨rb, i * 68 + 1, none⟩)) rfl hf (by decide) ?_ rfl
       go_simp
      ·intro L ax W hf hLi hno hd
       simp [Region.binds] at hd
       have e52 : ax.tmps[52]?.getD undef = .pointer (some ⟨rb, i * 68 + 1, none⟩) := slv (hf.got 17 (by decide) (by simp [hd]))
       refine ⟨fun _ => ?_, fun h => absurd trivial h⟩
       have hG : HDo7 w3 b8 nm [L 20] [sl ax 126] W := hf.glob
       have hW : W = w3.drew := hG.1 (hno 20 (by decide))
       subst hW
       have c2d : row? w3.drew rb (i * 68 + 1) 32 = _ := hnm
       refine freeI_run (v := .agg (hashA nm)) rfl hf (by decide) ?_ rfl
       go_simp
      ·intro L ax W hf hLi hno hd
       try simp [Region.binds] at hd
       have e8 : ax.tmps[8]?.getD undef = .pointer (some ⟨b8, 0, none⟩) := hf.out 8 (by decide) rfl
       refine ⟨fun _ => ?_, fun h => absurd trivial h⟩
       refine freeI_run (v := .pointer (some ⟨b8, 0, none⟩)) rfl hf (by decide) ?_ rfl
       go_simp
      ·intro L ax W hf hLi hno hd
       simp [Region.binds] at hd
       have e54 : ax.tmps[54]?.getD undef = .pointer (some ⟨b8, 0, none⟩) := slv (hf.got 19 (by decide) (by simp [hd]))
       have e53 : ax.tmps[53]?.getD undef = .agg (hashA nm) := slv (hf.got 18 (by decide) (by simp [hd]))
       refine ⟨fun _ => ?_, fun h => absurd trivial h⟩
       have hG : HDo7 w3 b8 nm [L 20] [sl ax 126] W := hf.glob
       have hW : W = w3.drew := hG.1 hLi
       subst hW
       have hthd : there w3.drew b8 0 32 := fun j hj => hth8 j (by omega)
       refine freeI_store (W' := putRow w3.drew b8 0 (hashA nm)) rfl ?_ trivial ⟨fun q => (by cases q), fun _ => rfl⟩
       go_simp
     ·intro vs w4 hl' hF hG
      obtain ⟨g', hg1, hg2⟩ := vs_litI vs hl' hF
      have hW4 : w4 = putRow w3.drew b8 0 (hashA nm) := hG.2 rfl
      have hB3d : Both w0 B T1 w3.drew cb cr D D := hb3.out.keep ((Below.refl _ _).drew)
      have hl1 : D.length ≤ 100000 := by omega
      have ht8 : T1 b8 = 2500000 := hT0.out b8 (by have := hb8.out; omega)
      obtain ⟨T3, hB4, hT4⟩ := hB3d.put hl1 (b := b8) hb8w ht8 0 (hashA nm)
      have hB5 := hB4.retag (T' := T1) fun k hk => (hT4 k (by rw [size_put] at hk; exact hk)).symm
      rw [← hW4] at hB5
      have hrw4 : row? w4 b8 0 34 = some (headerA { x.g with parent := nm }) := by
       have hd8 : row? w3.drew b8 0 34 = some (headerA x.g) := hrow8
       rw [hW4, ← splice_header_parent, row?_put_in' _ _ _ _ _ (by simp) (by omega), hd8]
       rfl
      have hth4 : there w4 b8 0 34 := by
       rw [hW4, there_put']
       exact hth8
      have hz4 : w4.heap.size = w3.heap.size := by rw [hW4]; exact size_put _ _ _ _
      have hx4 : HdrR w0 { x.g with parent := nm } (actH D a) := by
       rw [hact.out]
       exact ⟨rfl, hx3.out.2.1, hx3.out.2.2⟩
      have hfin7 := Lib.hid (show ∃ g' : GHeader, row? w4 b8 0 34 = some (headerA g') ∧ there w4 b8 0 34 ∧ HdrR w0 g' (actH D a) ∧ Both w0 B T1 w4 cb cr D D ∧ w4.heap.size = w3.heap.size ∧ Below wo.heap.size wo w4 from ⟨_, hrw4, hth4, hx4, hB5, hz4, by rw [hW4]; exact below_put hBo3.out.drew (Nat.le_of_eq (hzo.out.trans hb8.out.symm)) _ _⟩)
      rw [hg1]
      simp only [List.length_cons, List.length_nil, Nat.reduceAdd, show List.range 21 = [0, 1, 2, 3, 4, 5, 6, 7, 8, 9, 10, 11, 12, 13, 14, 15, 16, 17, 18, 19, 20] from rfl, List.map_cons, List.map_nil, slotsIn, putL, List.setIfInBounds_toArray, List.set_cons_succ, List.set_cons_zero, List.size_toArray, Nat.reduceLT, if_true, if_false]
      clear hg1 hg2 hG hF hl' hW4 hB3d hB4 hT4 hB5 hrw4 hth4 hz4 hx4
      go_wp2_with fail
      go_meet
      case rel => exact hfin7
   case rest =>
    obtain ⟨g', hrow, hth, hg, hB, hzz, hBoc⟩ := hcut.out
    have hfc := Lib.hid (hfro.out.below hBoc)
    clear hBoc
    have hops : (actH D a).ops.length ≤ 1000000 := by rw [actH_ops]; omega
    have hfits : HdrFits (actH D a) := by
     have := hfk.1
     unfold HdrFits at this ⊢
     rw [actH_ops]
     exact this
    generalize actH D a = hd at *
    have hb8c : b8 < wc.heap.size := by omega
    obtain ⟨p, k2, hpk⟩ : ∃ p k2, (p, k2) = chCheck D hd := ⟨_, _, rfl⟩
    have HC := hB.real.check_c hok1 (hg.keep' hB.bel) hfits
    rw [← hpk] at HC
    unfold ptrV at HC
    have hB1 := Lib.hid hB
    have hg1 := Lib.hid hg
    replace hpk := Lib.hid hpk
    clear hB hg hcut hfk hb3 hx3 hrow8 hth8 hcu3 hcn3
    go_wp2_with fail
    (with_reducible refine HC.mono ?_)
    clear HC
    rintro e w5 ⟨rfl, hb5⟩
    have hB5 := Lib.hid (hB1.out.keep hb5)
    have hf5 := Lib.hid (hfc.out.below hb5)
    have hrow5 := (row?_below _ _ _ hb5 hb8c).trans hrow
    have hb85 : b8 < w5.heap.size := Nat.lt_of_lt_of_le hb8c hb5.size
    clear hb5 hB1 hrow hth
    go_upto_region 9 with fail
    obtain ⟨w6, hw6, hrow10, hth10, hB56, hz6⟩ := box_row w5 (pointA zeroPt) (pointA p) 26 33 (by omega) (by simp) (by simp)
    rw [← hw6]
    clear hw6
    have hB6 := Lib.hid (hB5.out.keep hB56)
    have hf6 := Lib.hid (hf5.out.below hB56)
    have hrow6 := (row?_below _ _ _ hB56 hb85).trans hrow5
    obtain ⟨b10, hb10⟩ : ∃ b, b = w5.heap.size := ⟨_, rfl⟩
    rw [← hb10] at hrow10 hth10 ⊢
    have hb86 : b8 < w6.heap.size := by omega
    have hb106 : b10 < w6.heap.size := by omega
    have hb810 : b8 < b10 := by omega
    have HD := hB6.out.docCheck hok1 (hg1.out.keep' hB6.out.bel) hops
    rw [← hpk.out] at HD
    unfold ptrV at HD
    replace hb10 := Lib.hid hb10
    replace hz6 := Lib.hid hz6
    clear hB56 hrow5 hB5
    go_wp2_with fail
    (with_reducible refine HD.mono ?_)
    clear HD
    rintro e w7 ⟨rfl, hb7⟩
    have hB7 := Lib.hid (hB6.out.keep hb7)
    have hf7 := Lib.hid (hf6.out.below hb7)
    have hrow7 := (row?_below _ _ _ hb7 hb86).trans hrow6
    have hrow107 := (row?_below _ _ _ hb7 hb106).trans hrow10
    have hth107 := there_below hb7 hb106 hth10
    have hb87 : b8 < w7.heap.size := Nat.lt_of_lt_of_le hb86 hb7.size
    have hb107 : b10 < w7.heap.size := Nat.lt_of_lt_of_le hb106 hb7.size
    clear hb7 hB6 hrow6 hrow10 hth10
    go_upto_region 10 with fail
    obtain ⟨w8, hw8, hrow12, hth12, hB78, hz8⟩ := box_row w7 (pointA zeroPt) (pointA p) 26 33 (by omega) (by simp) (by simp)
    rw [← hw8]
    clear hw8
    have hB8 := Lib.hid (hB7.out.keep hB78)
    have hf8 := Lib.hid (hf7.out.below hB78)
    have hrow8b := (row?_below _ _ _ hB78 hb87).trans hrow7
    have hrow108 := (row?_below _ _ _ hB78 hb107).trans hrow107
    have hth108 := there_below hB78 hb107 hth107
    obtain ⟨b12, hb12⟩ : ∃ b, b = w7.heap.size := ⟨_, rfl⟩
    rw [← hb12] at hrow12 hth12 ⊢
    have hb88 : b8 < w8.heap.size := by omega
    have hb108 : b10 < w8.heap.size := by omega
    have hb128 : b12 < w8.heap.size := by omega
    have hb1012 : b10 < b12 := by omega
    replace hb12 := Lib.hid hb12
    replace hz8 := Lib.hid hz8
    clear hB78 hrow7 hB7 hrow107 hth107
    have HR := hB8.out.realAdd hok1 (hg1.out.keep' hB8.out.bel) hfits
    rw [← hpk.out] at HR
    unfold ptrV at HR
    go_wp2_with fail
    (with_reducible refine HR.mono ?_)
    clear HR
    rintro e w9 ⟨rfl, ⟨T2, hB9, hT2⟩, hA9⟩
    have t10 : Hid (T2 b10 = 2500000) := Lib.hid ((hT2 b10 hb108).trans (hT0.out b10 (by have := hb8.out; omega)))
    have t12 : Hid (T2 b12 = 2500000) := Lib.hid ((hT2 b12 hb128).trans (hT0.out b12 (by have := hb8.out; omega)))
    have hf9 := Lib.hid (hf8.out.asd hA9 (fun k _ ht hm => by have h1 := hm.1; have h2 := hm.2; omega) hT2)
    clear hT2
    have hbr8 : wr.heap.size ≤ b8 := Nat.le_of_eq hb8.out.symm
    have n8 : ¬ MutS T1 b8 := fun q => by
     have h1 := hT0.out b8 hbr8
     have h2 := q.2
     omega
    have n10 : ¬ MutS T1 b10 := fun q => by
     have h1 := hT0.out b10 (by omega)
     have h2 := q.2
     omega
    have n12 : ¬ MutS T1 b12 := fun q => by
     have h1 := hT0.out b12 (by omega)
     have h2 := q.2
     omega
    have hrow9 := hA9.row n8 hrow8b
    have hth109 := hA9.there n10 hb108 hth108
    have hth129 := hA9.there n12 hb128 hth12
    have hrow109 := hA9.row n10 hrow108
    have hrow129 := hA9.row n12 hrow12
    have hz89 := hA9.size
    have hb89 : b8 < w9.heap.size := by omega
    have hb109 : b10 < w9.heap.size := by omega
    have hb129 : b12 < w9.heap.size := by omega
    replace hB9 := Lib.hid hB9
    clear hA9 hrow8b hth108 hth12 hrow108 hrow12 hB8 n8 n10 n12
    go_upto_region 13 with fail
    have hlen2 : (chAdd D hd).length ≤ 100000 := by
     have h1 := chAdd_len D hd
     have h2 := hok1.len
     omega
    obtain ⟨T3, hB10, hT3⟩ := hB9.out.put hlen2 hb109 t10.out 0 (pointA p)
    have t12b : Hid (T3 b12 = 2500000) := Lib.hid ((hT3 b12 hb129).trans t12.out)
    have hP := asd_put w9 b10 0 (pointA p)
    have hf10 := Lib.hid (hf9.out.asd hP (fun k _ ht hm => by have h1 := t10.out; rw [show k = b10 from hm, h1] at ht; omega) hT3)
    have hrow10a := hP.row (b := b8) (by show ¬ b8 = b10; omega) hrow9
    have hrow12a := hP.row (b := b12) (by show ¬ b12 = b10; omega) hrow129
    have hth12a := hP.there (b := b12) (by show ¬ b12 = b10; omega) hb129 hth129
    have hrow10b : row? (putRow w9 b10 0 (pointA p)) b10 0 33 = some (pointA p) := row?_put_same _ _ _ _ _ (by simp) (by omega) hth109
    have hsz10 : (putRow w9 b10 0 (pointA p)).heap.size = w9.heap.size := size_put _ _ _ _
    have HD2 := hB10.docAdd hlen2 hok1 hg1.out hops
    rw [← hpk.out] at HD2
    unfold ptrV at HD2
    clear hP hrow9 hrow129 hth129 hrow109 hth109 hB9 t12
    generalize putRow w9 b10 0 (pointA p) = w10 at *
    go_wp2_with fail
    (with_reducible refine HD2.mono ?_)
    clear HD2
    rintro e w11 ⟨rfl, ⟨T4, hB11, hT4⟩, hA11⟩
    have hcr2 : T3 cr = 2000000 := hB10.tag
    have t10b : T3 b10 = 2500000 := (hT3 b10 hb109).trans t10.out
    have n10 : ¬ b10 = cr := fun e => by rw [e, hcr2] at t10b; omega
    have n12 : ¬ b12 = cr := fun e => by
     have := t12b.out
     rw [e, hcr2] at this
     omega
    have hz11 := hA11.size
    have hrow10c0 := hA11.row (b := b10) n10 hrow10b
    have hrow12c0 := hA11.row (b := b12) n12 hrow12a
    have hth12b := hA11.there (b := b12) n12 (by omega) hth12a
    have t12c : T4 b12 = 2500000 := (hT4 b12 (by omega)).trans t12b.out
    have hlenD := chAdd_len D hd
    have hf11 := Lib.hid (hf10.out.asd hA11 (fun k _ ht hm => by rw [show k = cr from hm, hcr2] at ht; omega) hT4)
    have hb1211 : b12 < w11.heap.size := by omega
    go_upto_region 14 with fail
    obtain ⟨T5, hB12, hT5⟩ := hB11.put hlen2 hb1211 t12c 0 (pointA p)
    have hP := asd_put w11 b12 0 (pointA p)
    have hf12 := Lib.hid (hf11.out.asd hP (fun k _ ht hm => by rw [show k = b12 from hm, t12c] at ht; omega) hT5)
    clear hT5
    have hrow10c := hP.row (b := b10) (by show ¬ b10 = b12; omega) hrow10c0
    have hrow12c : row? (putRow w11 b12 0 (pointA p)) b12 0 33 = some (pointA p) := row?_put_same _ _ _ _ _ (by simp) (by omega) hth12b
    have hsz12 : (putRow w11 b12 0 (pointA p)).heap.size = w11.heap.size := size_put _ _ _ _
    have hb10c : b10 < (putRow w11 b12 0 (pointA p)).heap.size := by omega
    have hb12c : b12 < (putRow w11 b12 0 (pointA p)).heap.size := by omega
    have hok2 := chAdd_ok hok1 hd
    obtain ⟨rb5, cap5, G5, hR5, -⟩ := hB12.doc
    have c05 := hR5.c0
    have hcrc := hR5.cbW
    have HL := fun W (hb : Below (putRow w11 b12 0 (pointA p)).heap.size (putRow w11 b12 0 (pointA p)) W) => (hB12.real.keep hb).len_c hok2
    have hpos2 := hok2.pos
    obtain ⟨n0, hn0⟩ : ∃ n, n = (chAdd D hd).length := ⟨_, rfl⟩
    obtain ⟨n1, hn1⟩ : ∃ n : Nat, n = n0 - 1 := ⟨_, rfl⟩
    have hn1i : ((chAdd D hd).length : Int) - 1 = (n1 : Int) := by omega
    rw [← hn0] at c05
    simp only [hn1i] at HL
    unfold ptrV at HL
    have hn01 : (n0 : Int) - 1 = (n1 : Int) := by omega
    have hwn : IntKind.i64.wrap (n1 : Int) = (n1 : Int) := IntWalk.i64_in _ (by omega)
    have hgd := t10_point_guard
    have htk2 := htk.out
    replace hn0 := Lib.hid hn0
    replace hn1 := Lib.hid hn1
    replace hB12 := Lib.hid hB12
    clear hP hrow10c0 hrow12c0 hrow10b hrow12a hth12b hth12a hA11 hB11 hB10 hR5 hn1i
    generalize putRow w11 b12 0 (pointA p) = w12 at *
    refine wp_region_freeG_l (fun W W' => Below W.heap.size W W') (by kernel_rfl) [87, 88, 89, 90, 91, 92, 93, 94, 95, 96, 97, 98, 99, 100, 101, 102, 103, 104, 105]
     [Is (.int .i64 k2), Is (.int .i64 k2), Is (.bool false), Is (.bool false), Is (.agg (pointA p)), Is (.agg (pointA p)), Is (.bool false), Is (.bool false), Is (.bool false), Is (.pointer (some ⟨cb, 0, none⟩)), Is (.int .i64 (n1 : Int)), Is (.pointer (some ⟨cr, 0, none⟩)), Is (.pointer (some ⟨cr, 0, none⟩)), Is (.pointer (some ⟨cr, 0, none⟩)), Is (.slice (some ⟨rb5, 0, none⟩) n0 cap5), Is (.int .i64 (n0 : Int)), Is (.int .i64 (n1 : Int)), Is (.bool false), Is (.bool false)]
     (by kernel_rfl) (fun W W' h hb => hb.trans (h.mono hb.size)) ?_ ?_ ?_
    ·intro f hf
     simp only [List.mem_cons, List.not_mem_nil, or_false] at hf
     rcases hf with rfl | rfl | rfl | rfl | rfl | rfl | rfl | rfl | rfl | rfl | rfl | rfl | rfl | rfl | rfl | rfl | rfl | rfl | rfl <;> intro x W W' h hr <;> first | exact h
    ·refine ⟨?_, ?_, ?_, ?_, ?_, ?_, ?_, ?_, ?_, ?_, ?_, ?_, ?_, ?_, ?_, ?_, ?_, ?_, ?_, trivial⟩
     ·intro L ax W hf hd
      try simp [Region.binds] at hd
      have e11 : ax.tmps[11]?.getD undef = .int .i64 k2 := hf.out 11 (by decide) rfl
      refine ⟨fun _ => ?_, fun h => absurd trivial h⟩
      refine free_run (v := .int .i64 k2) (W' := W) rfl ?_ rfl (Below.refl _ _)
      go_simp
     ·intro L ax W hf hd
      try simp [Region.binds] at hd
      have e13 : ax.tmps[13]?.getD undef = .int .i64 k2 := hf.out 13 (by decide) rfl
      refine ⟨fun _ => ?_, fun h => absurd trivial h⟩
      refine free_run (v := .int .i64 k2) (W' := W) rfl ?_ rfl (Below.refl _ _)
      go_simp
     ·intro L ax W hf hd
      simp [Region.binds] at hd
      have e87 : ax.tmps[87]?.getD undef = .int .i64 k2 := slv (hf.got 0 (by decide) (by simp [hd]))
      have e88 : ax.tmps[88]?.getD undef = .int .i64 k2 := slv (hf.got 1 (by decide) (by simp [hd]))
      refine ⟨fun _ => ?_, fun h => absurd trivial h⟩
      refine free_run (v := .bool false) (W' := W) rfl ?_ rfl (Below.refl _ _)
      go_simp
     ·intro L ax W hf hd
      simp [Region.binds] at hd
      have e89 : ax.tmps[89]?.getD undef = .bool false := slv (hf.got 2 (by decide) (by simp [hd]))
      refine ⟨fun _ => ?_, fun h => absurd trivial h⟩
      refine free_run (v := .bool false) (W' := W) rfl ?_ rfl (Below.refl _ _)
      go_simp
     ·intro L ax W hf hd
      simp [Region.binds] at hd
      have e10 : ax.tmps[10]?.getD undef = .pointer (some ⟨b10, 0, none⟩) := hf.out 10 (by decide) rfl
      have g0 : sl ax 90 = .bool false := hf.got 3 (by decide) (by simp [hd])
      refine ⟨fun hh => ?_, fun hh => ?_⟩
      ·first
        | (exact absurd (g0.symm.trans hh) (undef_ne _))
        | (exact absurd (g0.symm.trans hh) (bool_ne (by decide)))
        | (exfalso; revert hh; simp [Held, g0, *]; done)
        | ((have h1 := (row?_below _ _ _ hf.below hb10c).trans hrow10c); refine free_run (v := .agg (pointA p)) (W' := W) rfl ?_ rfl (Below.refl _ _); go_simp)
      ·first
        | (exact absurd g0 hh)
        | (exfalso; revert hh; simp [Held, g0, *]; done)
        | (show undef = _; first | rfl | (simp [*]; done))
     ·intro L ax W hf hd
      simp [Region.binds] at hd
      have e12 : ax.tmps[12]?.getD undef = .pointer (some ⟨b12, 0, none⟩) := hf.out 12 (by decide) rfl
      have g0 : sl ax 90 = .bool false := hf.got 3 (by decide) (by simp [hd])
      refine ⟨fun hh => ?_, fun hh => ?_⟩
      ·first
        | (exact absurd (g0.symm.trans hh) (undef_ne _))
        | (exact absurd (g0.symm.trans hh) (bool_ne (by decide)))
        | (exfalso; revert hh; simp [Held, g0, *]; done)
        | ((have h1 := (row?_below _ _ _ hf.below hb12c).trans hrow12c); refine free_run (v := .agg (pointA p)) (W' := W) rfl ?_ rfl (Below.refl _ _); go_simp)
      ·first
        | (exact absurd g0 hh)
        | (exfalso; revert hh; simp [Held, g0, *]; done)
        | (show undef = _; first | rfl | (simp [*]; done))
     ·intro L ax W hf hd
      simp [Region.binds] at hd
      have e91 : ax.tmps[91]?.getD undef = .agg (pointA p) := slv (hf.got 4 (by decide) (by simp [hd]))
      have e92 : ax.tmps[92]?.getD undef = .agg (pointA p) := slv (hf.got 5 (by decide) (by simp [hd]))
      have g0 : sl ax 90 = .bool false := hf.got 3 (by decide) (by simp [hd])
      refine ⟨fun hh => ?_, fun hh => ?_⟩
      ·first
        | (exact absurd (g0.symm.trans hh) (undef_ne _))
        | (exact absurd (g0.symm.trans hh) (bool_ne (by decide)))
        | (exfalso; revert hh; simp [Held, g0, *]; done)
        | (refine free_run (v := .bool false) (W' := W) rfl ?_ rfl (Below.refl _ _); go_simp)
      ·first
        | (exact absurd g0 hh)
        | (exfalso; revert hh; simp [Held, g0, *]; done)
        | (show undef = _; first | rfl | (simp [*]; done))
     ·intro L ax W hf hd
      simp [Region.binds] at hd
      have e90 : ax.tmps[90]?.getD undef = .bool false := slv (hf.got 3 (by decide) (by simp [hd]))
      have e93 : ax.tmps[93]?.getD undef = .bool false := slv (hf.got 6 (by decide) (by simp [hd]))
      refine ⟨fun _ => ?_, fun h => absurd trivial h⟩
      refine free_run (v := .bool false) (W' := W) rfl ?_ rfl (Below.refl _ _)
      go_simp
     ·intro L ax W hf hd
      simp [Region.binds] at hd
      have e94 : ax.tmps[94]?.getD undef = .bool false := slv (hf.got 7 (by decide) (by simp [hd]))
      refine ⟨fun _ => ?_, fun h => absurd trivial h⟩
      refine free_run (v := .bool false) (W' := W) rfl ?_ rfl (Below.refl _ _)
      go_simp
     ·intro L ax W hf hd
      simp [Region.binds] at hd
      have e0 : ax.tmps[0]?.getD undef = .pointer (some ⟨cb, 0, none⟩) := hf.out 0 (by decide) rfl
      have g0 : sl ax 95 = .bool false := hf.got 8 (by decide) (by simp [hd])
      refine ⟨fun hh => ?_, fun hh => ?_⟩
      ·first
        | (exact absurd (g0.symm.trans hh) (undef_ne _))
        | (exact absurd (g0.symm.trans hh) (bool_ne (by decide)))
        | (exfalso; revert hh; simp [Held, g0, *]; done)
        | (refine free_run (v := .pointer (some ⟨cb, 0, none⟩)) (W' := W) rfl ?_ rfl (Below.refl _ _); go_simp)
      ·first
        | (exact absurd g0 hh)
        | (exfalso; revert hh; simp [Held, g0, *]; done)
        | (show undef = _; first | rfl | (simp [*]; done))
     ·intro L ax W hf hd
      simp [Region.binds] at hd
      have e96 : ax.tmps[96]?.getD undef = .pointer (some ⟨cb, 0, none⟩) := slv (hf.got 9 (by decide) (by simp [hd]))
      have g0 : sl ax 95 = .bool false := hf.got 8 (by decide) (by simp [hd])
      refine ⟨fun hh => ?_, fun hh => ?_⟩
      ·first
        | (exact absurd (g0.symm.trans hh) (undef_ne _))
        | (exact absurd (g0.symm.trans hh) (bool_ne (by decide)))
        | (exfalso; revert hh; simp [Held, g0, *]; done)
        | (refine free_call (f := 36) (args := #[.pointer (some ⟨cb, 0, none⟩)]) rfl (by go_simp) ?_; refine (HL W hf.below).mono ?_; rintro e w' ⟨rfl, hb⟩; exact ⟨_, rfl, rfl, hb⟩)
      ·first
        | (exact absurd g0 hh)
        | (exfalso; revert hh; simp [Held, g0, *]; done)
        | (show undef = _; first | rfl | (simp [*]; done))
     ·intro L ax W hf hd
      simp [Region.binds] at hd
      have e1 : ax.tmps[1]?.getD undef = .pointer (some ⟨cr, 0, none⟩) := hf.out 1 (by decide) rfl
      have g0 : sl ax 95 = .bool false := hf.got 8 (by decide) (by simp [hd])
      refine ⟨fun hh => ?_, fun hh => ?_⟩
      ·first
        | (exact absurd (g0.symm.trans hh) (undef_ne _))
        | (exact absurd (g0.symm.trans hh) (bool_ne (by decide)))
        | (exfalso; revert hh; simp [Held, g0, *]; done)
        | (refine free_run (v := .pointer (some ⟨cr, 0, none⟩)) (W' := W) rfl ?_ rfl (Below.refl _ _); go_simp)
      ·first
        | (exact absurd g0 hh)
        | (exfalso; revert hh; simp [Held, g0, *]; done)
        | (show undef = _; first | rfl | (simp [*]; done))
     ·intro L ax W hf hd
      simp [Region.binds] at hd
      have e98 : ax.tmps[98]?.getD undef = .pointer (some ⟨cr, 0, none⟩) := slv (hf.got 11 (by decide) (by simp [hd]))
      have g0 : sl ax 95 = .bool false := hf.got 8 (by decide) (by simp [hd])
      refine ⟨fun hh => ?_, fun hh => ?_⟩
      ·first
        | (exact absurd (g0.symm.trans hh) (undef_ne _))
        | (exact absurd (g0.symm.trans hh) (bool_ne (by decide)))
        | (exfalso; revert hh; simp [Held, g0, *]; done)
        | (refine free_run (v := .pointer (some ⟨cr, 0, none⟩)) (W' := W) rfl ?_ rfl (Below.refl _ _); go_simp)
      ·first
        | (exact absurd g0 hh)
        | (exfalso; revert hh; simp [Held, g0, *]; done)
        | (show undef = _; first | rfl | (simp [*]; done))
     ·intro L ax W hf hd
      simp [Region.binds] at hd
      have e99 : ax.tmps[99]?.getD undef = .pointer (some ⟨cr, 0, none⟩) := slv (hf.got 12 (by decide) (by simp [hd]))
      have g0 : sl ax 95 = .bool false := hf.got 8 (by decide) (by simp [hd])
      refine ⟨fun hh => ?_, fun hh => ?_⟩
      ·first
        | (exact absurd (g0.symm.trans hh) (undef_ne _))
        | (exact absurd (g0.symm.trans hh) (bool_ne (by decide)))
        | (exfalso; revert hh; simp [Held, g0, *]; done)
        | (refine free_run (v := .pointer (some ⟨cr, 0, none⟩)) (W' := W) rfl ?_ rfl (Below.refl _ _); go_simp)
      ·first
        | (exact absurd g0 hh)
        | (exfalso; revert hh; simp [Held, g0, *]; done)
        | (show undef = _; first | rfl | (simp [*]; done))
     ·intro L ax W hf hd
      simp [Region.binds] at hd
      have e100 : ax.tmps[100]?.getD undef = .pointer (some ⟨cr, 0, none⟩) := slv (hf.got 13 (by decide) (by simp [hd]))
      have g0 : sl ax 95 = .bool false := hf.got 8 (by decide) (by simp [hd])
      refine ⟨fun hh => ?_, fun hh => ?_⟩
      ·first
        | (exact absurd (g0.symm.trans hh) (undef_ne _))
        | (exact absurd (g0.symm.trans hh) (bool_ne (by decide)))
        | (exfalso; revert hh; simp [Held, g0, *]; done)
        | ((have h1 := (hf.below.cell (p := ⟨cr, 0, none⟩) hcrc).trans c05); refine free_run (v := .slice (some ⟨rb5, 0, none⟩) n0 cap5) (W' := W) rfl ?_ rfl (Below.refl _ _); go_simp)
      ·first
        | (exact absurd g0 hh)
        | (exfalso; revert hh; simp [Held, g0, *]; done)
        | (show undef = _; first | rfl | (simp [*]; done))
     ·intro L ax W hf hd
      simp [Region.binds] at hd
      have e101 : ax.tmps[101]?.getD undef = .slice (some ⟨rb5, 0, none⟩) n0 cap5 := slv (hf.got 14 (by decide) (by simp [hd]))
      have g0 : sl ax 95 = .bool false := hf.got 8 (by decide) (by simp [hd])
      refine ⟨fun hh => ?_, fun hh => ?_⟩
      ·first
        | (exact absurd (g0.symm.trans hh) (undef_ne _))
        | (exact absurd (g0.symm.trans hh) (bool_ne (by decide)))
        | (exfalso; revert hh; simp [Held, g0, *]; done)
        | (refine free_run (v := .int .i64 (n0 : Int)) (W' := W) rfl ?_ rfl (Below.refl _ _); go_simp)
      ·first
        | (exact absurd g0 hh)
        | (exfalso; revert hh; simp [Held, g0, *]; done)
        | (show undef = _; first | rfl | (simp [*]; done))
     ·intro L ax W hf hd
      simp [Region.binds] at hd
      have e102 : ax.tmps[102]?.getD undef = .int .i64 (n0 : Int) := slv (hf.got 15 (by decide) (by simp [hd]))
      have g0 : sl ax 95 = .bool false := hf.got 8 (by decide) (by simp [hd])
      refine ⟨fun hh => ?_, fun hh => ?_⟩
      ·first
        | (exact absurd (g0.symm.trans hh) (undef_ne _))
        | (exact absurd (g0.symm.trans hh) (bool_ne (by decide)))
        | (exfalso; revert hh; simp [Held, g0, *]; done)
        | (refine free_run (v := .int .i64 (n1 : Int)) (W' := W) rfl ?_ rfl (Below.refl _ _); go_simp)
      ·first
        | (exact absurd g0 hh)
        | (exfalso; revert hh; simp [Held, g0, *]; done)
        | (show undef = _; first | rfl | (simp [*]; done))
     ·intro L ax W hf hd
      simp [Region.binds] at hd
      have e97 : ax.tmps[97]?.getD undef = .int .i64 (n1 : Int) := slv (hf.got 10 (by decide) (by simp [hd]))
      have e103 : ax.tmps[103]?.getD undef = .int .i64 (n1 : Int) := slv (hf.got 16 (by decide) (by simp [hd]))
      have g0 : sl ax 95 = .bool false := hf.got 8 (by decide) (by simp [hd])
      refine ⟨fun hh => ?_, fun hh => ?_⟩
      ·first
        | (exact absurd (g0.symm.trans hh) (undef_ne _))
        | (exact absurd (g0.symm.trans hh) (bool_ne (by decide)))
        | (exfalso; revert hh; simp [Held, g0, *]; done)
        | (refine free_run (v := .bool false) (W' := W) rfl ?_ rfl (Below.refl _ _); go_simp)
      ·first
        | (exact absurd g0 hh)
        | (exfalso; revert hh; simp [Held, g0, *]; done)
        | (show undef = _; first | rfl | (simp [*]; done))
     ·intro L ax W hf hd
      simp [Region.binds] at hd
      have e95 : ax.tmps[95]?.getD undef = .bool false := slv (hf.got 8 (by decide) (by simp [hd]))
      have e104 : ax.tmps[104]?.getD undef = .bool false := slv (hf.got 17 (by decide) (by simp [hd]))
      refine ⟨fun _ => ?_, fun h => absurd trivial h⟩
      refine free_run (v := .bool false) (W' := W) rfl ?_ rfl (Below.refl _ _)
      go_simp
    ·intro vs W' hl' hF hb
     obtain ⟨g', hg1, hg2⟩ := vs_lit vs hl' hF
     have e18 : g' 18 = .bool false := hg2 18 (by decide)
     rw [hg1]
     have hfinB := Lib.hid (hB12.out.keep hb)
     have hfinF := Lib.hid (hf12.out.below hb)
     clear hF hg1 hg2 hl' hb HL hB12 hrow10c hrow12c c05 hcrc
     simp only [List.length_cons, List.length_nil, Nat.reduceAdd, show List.range 19 = [0, 1, 2, 3, 4, 5, 6, 7, 8, 9, 10, 11, 12, 13, 14, 15, 16, 17, 18] from rfl, List.map_cons, List.map_nil, putL, List.zip_cons_cons, List.zip_nil_right, List.setIfInBounds_toArray, List.set_cons_succ, List.set_cons_zero, e18]
     go_wp2_with fail
     go_roundw
     case rel => exact ⟨k + 1, T5, by omega, by go_num, Lib.hid (by rw [htk2]; exact hfinB.out), hfinF⟩
     case measure => simp [intOf]; omega
  ·have hfin := Lib.hid (show ∃ T', Both w0 B T' wr cb cr (doA C l) (doA C l) ∧ Fr T W T' wr by
    have h1 := hb.out
    rw [List.take_of_length_le (by omega)] at h1
    exact ⟨T1, h1, hfr.out⟩)
   go_wp2_with fail
   go_ret
   exact ⟨rfl, hfin.out⟩
end Go.Proofs.Ythdjhbiigmcecaa

/- What the laws of chain read: the document's rows, paths, what stands at an epoch; helpers of their walks. -/
namespace Go.Proofs.Ythdjhbiigmcecaa
open Go.RowKit

theorem Both.docPath {w0 B W} {T : Nat → Nat} {cb cr : Nat} {C D : List Blk} (h : Both w0 B T W cb cr C D) (hok : ChnOk D) (i : Nat) (hi : i < D.length) :
  Calls Try.prog 56 #[ptrV cr, .int .i64 (i : Int)] W fun r w' => ∃ s : Sl, r = .returned s.v ∧ IntsR w' s (pth D i).reverse ∧ Below W.heap.size W w' := by
 obtain ⟨rb, cap, G, hR, -⟩ := h.doc
 refine (rpath_c hR hok i hi).mono ?_
 rintro r w' ⟨s, rfl, ho, hb⟩
 refine ⟨s, rfl, rows_of_own natA natA_size (by omega) (B := W.heap.size) ?_, hb⟩
 have e : flatC natA (pth D i).reverse = (pth D i).reverse.map natV := by
  unfold flatC
  induction (pth D i).reverse with
  | nil => rfl
  | cons x l ih =>
   rw [List.map_cons, List.flatten_cons, ih, List.map_cons]
   rfl
 rw [e]
 exact ho
theorem Both.start {w0 W W' : World} {B : Nat} {T : Nat → Nat} {cb cr rb cap : Nat} {G : List GHeader} {C D : List Blk} (h : ChR B T W cb C) (hb : Below W.heap.size W W') (hR : RefC w0 W' cr rb cap G D) (h1 : W.heap.size ≤ cr) (h2 : W.heap.size ≤ rb) (hle : w0.heap.size ≤ B) : ∃ T', Both w0 B T' W' cb cr C D := by
 refine ⟨fun k => if k < W.heap.size then T k else if k = cr then 2000000 else 0, (h.retag fun k hk => if_pos hk).keep hb, ?_, ⟨rb, cap, G, hR, ?_⟩, hle⟩
 ·show (if cr < W.heap.size then T cr else if cr = cr then 2000000 else 0) = 2000000
  rw [if_neg (by omega), if_pos rfl]
 ·show (if rb < W.heap.size then T rb else if rb = cr then 2000000 else 0) = 0
  rw [if_neg (by omega), if_neg (fun e => hR.ne e.symm)]
/-- the first one stays -/
theorem chAdd_head {C : List Blk} (hp : 0 < C.length) (h : Hdr) : (chAdd C h)[0]? = C[0]? := by
 unfold chAdd
 split
 ·rw [List.getElem?_append_left hp]
 ·rfl
theorem doA_head {C : List Blk} (hok : ChnOk C) (l : List Act) : (doA C l)[0]? = C[0]? := by
 induction l generalizing C with
 | nil => rfl
 | cons b l ih =>
  show (doA (chAdd C (actH C b)) l)[0]? = _
  rw [ih (chAdd_ok hok _), chAdd_head hok.pos]
theorem u64_more (x : UInt64) : IntKind.u64.wrap ((x.toNat : Int) + 1) = ((x + 1).toNat : Int) := by
 have h := x.toNat_lt
 rw [UInt64.toNat_add, show (1 : UInt64).toNat = 1 from rfl, IntKind.wrap_u64]
 omega
/-- cells are put: done, or not yet -/
def HPut (w : World) (b : Nat) (xs : Array Value) (L : List Bool) (_V : List Value) (W : World) : Prop := (L.getD 0 false = false → W = w.drew) ∧ (L.getD 0 false = true → W = putRow w.drew b 0 xs)
/-- a call, a box, what comes of the call put into the box -/
structure HAt (W0 : World) (p : Pt) (L : List Bool) (V : List Value) (w : World) : Prop where
 bel : Below W0.heap.size W0 w
 box : L.getD 1 false = true → ∃ b, V.getD 1 undef = .pointer (some ⟨b, 0, none⟩) ∧ W0.heap.size ≤ b ∧ b < w.heap.size ∧ there w b 0 33 ∧ (L.getD 2 false = true → row? w b 0 33 = some (pointA p))
section
variable {W0 w w' : World} {p : Pt} {l0 l1 l2 : Bool} {v0 v1 v2 : Value}
end
end Go.Proofs.Ythdjhbiigmcecaa

/- Chains, plainly: what a chain is does not hang on the order in which its headers were added. -/
namespace Go.Proofs.Ythdjhbiigmcecaa

section
variable {C D : List Blk}
end
end Go.Proofs.Ythdjhbiigmcecaa

/- Three chains in memory: a chain, the document's, and another one of the same base; slices of headers. -/
namespace Go.Proofs.Ythdjhbiigmcecaa
open Go.RowKit

section
variable {B : Nat} {T : Nat → Nat} {W W' : World} {cb : Nat} {C : List Blk}
end
section
variable {w0 W W' : World} {B : Nat} {T To : Nat → Nat} {cb cr ob : Nat} {C D : List Blk}
end
/-! slices of headers -/
section
variable {w1 W W' : World} {B cb cr ob : Nat} {C : List Blk} {GL : List GHeader} {s : Sl} {D : List Blk}
end
end Go.Proofs.Ythdjhbiigmcecaa

/- A chain in memory, and two slices of checkpoints of the caller's own beside it. -/
namespace Go.Proofs.Ythdjhbiigmcecaa
open Go.RowKit

section
variable {B cb : Nat} {C : List Blk} {s t : Sl} {l m : List Pt} {W W' : World}
theorem OwnPt.reads {w : World} {E : Nat} {s : Sl} {l : List Pt} (h : OwnPt w E s.v l) : PtsR w s l := rows_of_own pointA ptA_size (by omega) h
end
end Go.Proofs.Ythdjhbiigmcecaa
