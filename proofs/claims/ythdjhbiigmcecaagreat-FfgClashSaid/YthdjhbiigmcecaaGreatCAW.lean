/- Texts of this proof, one behind the other: ChnC, ChnJ, Both, DoP, Do. -/
import Derived.Test.YthdjhbiigmcecaaGreatCAO
import Derived.Deep.CutRange
import Derived.LaidEqlPtr
import Derived.Test.YthdjhbiigmcecaaGreatCAV
import Derived.Test.YthdjhbiigmcecaaGreatCAQ
set_option linter.unusedVariables false
set_option linter.unusedSimpArgs false
/- A chain, read: back, Under, At. -/
namespace Go.Proofs.YthdjhbiigmcecaaGreat
open Go.RowKit

/-- a box's place -/
def boxAt (G : List GB) : Value → Nat
 | .pointer (some a) => (G.findIdx? fun x => decide (x.b = a.block)).getD 0
 | _ => 0
theorem boxAt_of {W : World} {cb ab ac mb : Nat} {G : List GB} {C : List Blk} (h : ChV W cb ab ac mb G C) {i : Nat} {x : GB} (hx : G[i]? = some x) : boxAt G (.pointer (some ⟨x.b, 0, none⟩)) = i := by
 obtain ⟨hi, he⟩ := List.getElem?_eq_some_iff.1 hx
 have : G.findIdx? (fun y => decide (y.b = x.b)) = some i := by
  refine List.findIdx?_eq_some_iff_getElem.2 ⟨hi, by rw [he]; simp, fun j hj => ?_⟩
  have hjl : j < G.length := by omega
  simp only [decide_eq_true_eq, Bool.not_eq_true]
  intro e
  have := h.inj j i _ _ (List.getElem?_eq_getElem hjl) hx e
  omega
 unfold boxAt
 simp only [this, Option.getD_some]
theorem ints_at {W : World} {s : Sl} {l : List Nat} (h : IntsR W s l) (hl : 0 < l.length) : ∃ b off, s = ⟨some ⟨b, off, none⟩, l.length, s.c⟩ ∧ b < W.heap.size ∧ ∀ (i : Nat) (hi : i < l.length), W.cell? ⟨b, off + i, none⟩ = some (.int .i64 ((l[i] : Nat) : Int)) := by
 obtain ⟨b, off, e, hb, hr⟩ := h.at hl
 refine ⟨b, off, e, hb, fun i hi => ?_⟩
 obtain ⟨cs, h1, rfl⟩ := hr i hi
 have := cell_of_row? h1 0 (by omega)
 rw [Nat.mul_one, Nat.add_zero] at this
 rw [this]
 rfl
set_option maxRecDepth 100000 in
set_option maxHeartbeats 1600000 in
theorem back_c {W : World} {cb ab ac mb : Nat} {G : List GB} {C : List Blk} (h : ChV W cb ab ac mb G C) (hok : ChnOk C) (e : UInt64) {i : Nat} {x : GB} (hx : G[i]? = some x) :
  Calls Tryz.prog 42 #[ptrV cb, ptrV x.b, .int .u64 (e.toNat : Int)] W fun e' w' => ∃ y, G[bk C e.toNat i]? = some y ∧ e' = .returned (ptrV y.b) ∧ Below W.heap.size W w' := by
 have hI := Lib.hid h
 have hO := Lib.hid hok
 have hM := Lib.hid (fun (j : Nat) (y : GB) (hy : G[j]? = some y) => boxAt_of h hy)
 have hgl := h.glen
 have hlen := hok.len
 clear h hok
 unfold ptrV
 go_enter Tryz.func42, Tryz.ntmps42
 go_upto_region 1 with fail
 go_step3
 go_wp2_with fail
 go_step3
 go_wp2_with fail
 go_loopw [1] (fun xv W' => ∃ (j : Nat) (y : GB), Hid (G[j]? = some y) ∧ Hid (bk C e.toNat j = bk C e.toNat i) ∧ xv = .pointer (some ⟨y.b, 0, none⟩) ∧ Hid (Below W.heap.size W W')) (fun xv _ => boxAt G xv)
 case atStart => exact ⟨i, x, Lib.hid hx, Lib.hid rfl, rfl, Lib.hid (Below.refl _ _)⟩
 case round =>
  obtain ⟨j, y, hy, hbk, rfl, hB⟩ := hrel
  have hjl : j < C.length := by rw [← hgl]; exact (List.getElem?_eq_some_iff.1 hy.out).1
  obtain ⟨b, hb⟩ : ∃ b, C[j]? = some b := ⟨_, List.getElem?_eq_getElem hjl⟩
  have hV := hI.out.keep hB.out
  obtain ⟨x0, xu, -, -, -, -⟩ := hV.cells hy.out hb
  have hep := epAt_of hb
  obtain ⟨u, hu⟩ : ∃ u, u = (ups C).getD j [] := ⟨_, rfl⟩
  have hul : (ups C)[j]? = some u := by
   rw [hu, List.getD_eq_getElem?_getD]
   have : j < (ups C).length := by rw [ups_length]; exact hjl
   rw [List.getElem?_eq_getElem this]
   rfl
  have hU := hV.up j y b hy.out hb
  rw [← hu] at hU
  have hn := hU.1
  obtain ⟨yb, yg, ⟨ua, un, uc⟩, yc⟩ := y
  simp only at hn x0 xu
  subst hn
  dsimp only [Sl.v] at xu
  have hule := ups_le hO.out hul
  have Hup := Lib.hid (fun (k q : Nat) (hq : u[k]? = some q) => ups_mem hO.out hul hq)
  have Hu0 := Lib.hid (ups_zero hO.out hul)
  have hx0 := Lib.hid x0
  have hep' := Lib.hid hep
  clear hep hul hu
  by_cases hlt : (e.toNat : Int) < (b.p.epoch.toNat : Int)
  ·generalize wr = wo at *
   have he1 := Lib.hid (show e.toNat < epAt C j by rw [hep'.out]; omega)
   go_upto_region 3 with fail
   go_loopw [1, 7] (fun p t W' => ∃ k : Int, p = .pointer (some ⟨yb, 0, none⟩) ∧ t = .int .i64 k ∧ -1 ≤ k ∧ k < (u.length : Int) ∧ (u.length = 0 ∨ 0 ≤ k) ∧ Hid (Below wo.heap.size wo W')) (fun _ t _ => (intOf t + 1).toNat)
   case atStart => exact ⟨(u.length : Int) - 1, rfl, by go_num, by omega, by omega, by omega, Lib.hid (Below.refl _ _)⟩
   case round =>
    obtain ⟨k, rfl, rfl, k1, k2, k3, hB2⟩ := hrel
    have hBw := Lib.hid (hB.out.trans (hB2.out.mono hB.out.size))
    by_cases hk : 0 ≤ k
    ·obtain ⟨n, rfl⟩ : ∃ n : Nat, k = (n : Int) := ⟨k.toNat, by omega⟩
     have hnl : n < u.length := by omega
     obtain ⟨bu, ou, e1, hbu, hcu⟩ := ints_at (SlR.keep hU hB2.out fun _ _ h => h) (by omega)
     have e2 := congrArg Sl.a e1
     simp only at e2
     subst e2
     clear e1
     have hcq := hcu n hnl
     clear hcu
     have hq := List.getElem?_eq_getElem hnl
     generalize u[n] = q at *
     obtain ⟨hqm, hqj⟩ := Hup.out n q hq
     have hql : q < C.length := by omega
     obtain ⟨bq, hbq⟩ : ∃ b, C[q]? = some b := ⟨_, List.getElem?_eq_getElem hql⟩
     have hV2 := hV.keep hB2.out
     obtain ⟨yq, hyq⟩ := hV2.box hbq
     obtain ⟨q0, -, -, -, -, -⟩ := hV2.cells hyq hbq
     have c0 := hV2.c0
     have ca := hV2.arr q yq hyq
     unfold ptrV at ca
     have hmq := Lib.hid (hM.out q yq hyq)
     have hmj := Lib.hid (hM.out j _ hy.out)
     have heq := epAt_of hbq
     have xu2 := (hB2.out.cell (p := ⟨yb, 67, none⟩) (lt_of_cell xu)).trans xu
     have q1 : (q : Int) < (C.length : Int) := by omega
     have q2 : (0 : Int) ≤ (q : Int) := by omega
     have n1 : (n : Int) < (u.length : Int) := by omega
     have f1 := fun m => show (wr.drewN m).cell? ⟨cb, 0, none⟩ = _ from c0
     have f2 := fun m => show (wr.drewN m).cell? ⟨yb, 67, none⟩ = _ from xu2
     have f3 := fun m => show (wr.drewN m).cell? ⟨bu, ou + n, none⟩ = _ from hcq
     have f4 := fun m => show (wr.drewN m).cell? ⟨ab, q, none⟩ = _ from ca
     have hyq' := Lib.hid hyq
     have hskip := Lib.hid (fun (hh : e.toNat < epAt C q) => bk_skip hO.out hh j hqm)
     have hpar := Lib.hid (fun (hh : parAt C j = some q) => bk_par hO.out hh he1.out)
     have hz : n = 0 → parAt C j = some q := fun hn => by rw [← Hu0.out, ← hn]; exact hq
     have hz := Lib.hid hz
     have hB2' := Lib.hid hB2.out
     clear hV2 hyq hq hqm hcq c0 ca xu2 hB2 x0 xu
     go_upto_region 5 with fail
     go_quiet (fail)
     have q0' : (wr.drewN nq).cell? ⟨yq.b, 0, none⟩ = some (.int .u64 (bq.p.epoch.toNat : Int)) := q0
     clear q0 f1 f2 f3 f4
     have hBn := Lib.hid (below_drewN hBw.out nq)
     have hB2n := Lib.hid (below_drewN hB2'.out nq)
     generalize wr.drewN nq = w2 at *
     by_cases hgt : (e.toNat : Int) < (bq.p.epoch.toNat : Int)
     ·have hnew := Lib.hid (show bk C e.toNat q = bk C e.toNat i from (hskip.out (by rw [heq]; omega)).symm.trans hbk.out)
      go_wp2_with fail
      exact ⟨⟨q, yq, hyq', hnew, rfl, hBn⟩, by rw [hmq.out]; exact Nat.lt_of_lt_of_eq hqj hmj.out.symm⟩
     ·by_cases hn0 : n = 0
      ·have hnew := Lib.hid (show bk C e.toNat q = bk C e.toNat i from (hpar.out (hz.out hn0)).symm.trans hbk.out)
       subst hn0
       go_wp2_with fail
       exact ⟨⟨q, yq, hyq', hnew, rfl, hBn⟩, by rw [hmq.out]; exact Nat.lt_of_lt_of_eq hqj hmj.out.symm⟩
      ·have hn1 : ¬ ((n : Int) = 0) := by omega
       go_wp2_with fail
       exact ⟨⟨(n : Int) - 1, rfl, rfl, by omega, by omega, by omega, hB2n⟩, by first | (simp [intOf]; done) | (simp [intOf]; omega)⟩
    ·have hul0 : u.length = 0 := by omega
     have hnone : parAt C j = none := by rw [← Hu0.out]; exact List.getElem?_eq_none (by omega)
     have hr := Lib.hid (show bk C e.toNat i = j from hbk.out.symm.trans (bk_root hnone))
     clear hnone
     go_wp2_with fail
     go_ret
     exact ⟨_, by rw [hr.out]; exact hy.out, rfl, hBw.out⟩
  ·have hr := Lib.hid (show bk C e.toNat i = j from hbk.out.symm.trans (bk_le (by rw [hep'.out]; omega)))
   go_wp2_with fail
   go_ret
   exact ⟨_, by rw [hr.out]; exact hy.out, rfl, hB.out⟩
theorem chfind_any {W0 : World} {cb ab ac mb : Nat} {G : List GB} {C : List Blk} (h0 : ChV W0 cb ab ac mb G C) (hp : 0 < C.length) (n : Hash) : ∃ (v : Value) (k : Int), (k = 0 → ∃ i x, chAt C n = some i ∧ G[i]? = some x ∧ v = ptrV x.b) ∧ (k ≠ 0 → chAt C n = none ∧ v = .pointer none ∧ k = 6) ∧
  ∀ W, ChV W cb ab ac mb G C → Calls Tryz.prog 41 #[ptrV cb, .agg (hashA n)] W fun e w' => e = .returned (.tuple #[v, .int .i64 k]) ∧ Below W.heap.size W w' := by
 cases hi : chAt C n with
 | none => exact ⟨.pointer none, 6, fun h => by omega, fun _ => ⟨rfl, rfl, rfl⟩, fun W h => chfind_none h hi hp⟩
 | some i =>
  obtain ⟨b, hb, -⟩ := chAt_some hi
  obtain ⟨x, hx⟩ := h0.box hb
  exact ⟨ptrV x.b, 0, fun _ => ⟨i, x, rfl, hx, rfl⟩, fun h => absurd rfl h, fun W h => chfind_some h hi hx⟩
theorem blk_info : ∃ j, Tryz.prog.info? 65 = some j ∧ j.size ≠ 0 := by
 have h : ((Tryz.prog.info? 65).map (·.size)) = some 69 := by kernel_rfl
 cases hi : Tryz.prog.info? 65 with
 | none => rw [hi] at h; cases h
 | some j =>
  rw [hi] at h
  injection h with h
  exact ⟨j, rfl, by have h' : j.size = 69 := h; omega⟩
def chUnder (C : List Blk) (n a : Hash) : Bool := match chAt C n, chAt C a with | some i, some j => decide (j ∈ pth C i) | _, _ => false
set_option maxRecDepth 100000 in
set_option maxHeartbeats 1600000 in
theorem under_c {W : World} {cb ab ac mb : Nat} {G : List GB} {C : List Blk} (h : ChV W cb ab ac mb G C) (hok : ChnOk C) (n a : Hash) :
  Calls Tryz.prog 25 #[ptrV cb, .agg (hashA n), .agg (hashA a)] W fun e w' => e = .returned (.bool (chUnder C n a)) ∧ Below W.heap.size W w' := by
 have hp := hok.pos
 have hB0 : Below W.heap.size W ((W.alloc (.cells (hashA n) 24)).alloc (.cells (hashA a) 24)) := by (repeat' (first | (with_reducible first | exact Below.refl _ _ | assumption | refine bel_trans (by assumption) ?_ ?_ | refine bel_grown (by assumption) ?_ ?_ ?_ | refine Below.alloc ?_ ?_ _ | refine Below.drew ?_ | refine below_drewN ?_ _ | refine Below.setCell ?_ ?_ _ | refine below_put ?_ ?_ _ _ | exact Nat.le_refl _) | omega | (with_reducible first | refine Nat.le_trans ?_ (Below.size (by assumption)) | refine Nat.le_trans ?_ (World.grownBy.size (by assumption))) | (simp only [World.size_alloc, World.size_setCell, World.size_drew, size_drewN]; omega) | (simp only [World.size_alloc, World.size_setCell, World.size_drew, size_drewN, size_put]; omega) | (intro k hk; simp [Value.ownBlock] at hk; first | done | omega) | (simp [size_drewN] at *; omega)))
 have hz0 : ((W.alloc (.cells (hashA n) 24)).alloc (.cells (hashA a) 24)).heap.size = W.heap.size + 2 := by simp
 have hrow0 : row? ((W.alloc (.cells (hashA n) 24)).alloc (.cells (hashA a) 24)) W.heap.size 0 32 = some (hashA n) := by rw [row?_old _ _ _ _ _ (by simp), row?_new]; simp
 have hrow1 : row? ((W.alloc (.cells (hashA n) 24)).alloc (.cells (hashA a) 24)) (W.heap.size + 1) 0 32 = some (hashA a) := by rw [row?_new_at _ _ _ _ _ _ (by simp)]; simp
 have h0 := Lib.hid (h.keep hB0)
 clear h
 unfold ptrV
 obtain ⟨rU, hrU⟩ : ∃ r, r = chUnder C n a := ⟨_, rfl⟩
 rw [← hrU]
 replace hrU := Lib.hid hrU
 obtain ⟨v1, k1, s1, t1, HF1⟩ := chfind_any h0.out hp n
 obtain ⟨v2, k2, s2, t2, HF2⟩ := chfind_any h0.out hp a
 go_enter Tryz.func25, Tryz.ntmps25
 go_upto_region 1 with fail
 generalize (W.alloc (.cells (hashA n) 24)).alloc (.cells (hashA a) 24) = w0 at *
 have HF1 := HF1 w0 h0.out
 unfold ptrV at HF1
 go_wp2_with fail
 refine HF1.mono ?_
 clear HF1
 rintro e w1 ⟨rfl, hb1⟩
 have hz1 := hb1.size
 have h1 := Lib.hid (h0.out.keep hb1)
 have hB1 := hB0.trans (hb1.mono (by omega))
 have hrow11 := (row?_below _ _ _ hb1 (by omega)).trans hrow1
 have HF2 := HF2 w1 h1.out
 unfold ptrV at HF2
 clear hB0 hb1 hrow0 hrow1 h0
 go_wp2_with fail
 refine HF2.mono ?_
 clear HF2
 rintro e w2 ⟨rfl, hb2⟩
 have hz2 := hb2.size
 have h2 := h1.out.keep hb2
 have hB2 := hB1.trans (hb2.mono (by omega))
 clear hB1 hb2 hrow11 h1
 by_cases e1 : k1 = 0
 ·obtain ⟨i, x, hi, hx, rfl⟩ := s1 e1
  subst e1
  clear s1 t1
  by_cases e2 : k2 = 0
  ·obtain ⟨j, y, hj, hy, rfl⟩ := s2 e2
   subst e2
   clear s2 t2
   unfold ptrV
   obtain ⟨b, hb, -⟩ := chAt_some hj
   obtain ⟨y0, -, -, -, -, -⟩ := h2.cells hy hb
   have HB := back_c h2 hok b.p.epoch hx
   have hU : rU = decide (bk C b.p.epoch.toNat i = j) := by
    rw [hrU.out]
    unfold chUnder
    rw [hi, hj]
    simp only
    rw [← epAt_of hb]
    exact decide_eq_decide.2 (bk_under hok i).symm
   have hinj := Lib.hid h2.inj
   have hobs := Lib.hid (fun (q : Nat) (z : GB) (hz : G[q]? = some z) => h2.ob q z (C[q]'(by rw [← h2.glen]; exact (List.getElem?_eq_some_iff.1 hz).1)) hz (List.getElem?_eq_getElem _))
   unfold ptrV at HB
   replace hU := Lib.hid hU
   clear h2
   go_wp2_with fail
   refine HB.mono ?_
   clear HB
   rintro e w3 ⟨z, hz, rfl, hb3⟩
   have hB3 := hB2.trans (hb3.mono (by omega))
   have hd : decide (bk C b.p.epoch.toNat i = j) = decide (z.b = y.b) := by
    refine decide_eq_decide.2 ⟨fun e => ?_, fun e => hinj.out _ _ _ _ hz hy e⟩
    rw [e] at hz
    rw [hy] at hz
    cases hz
    rfl
   have hU := Lib.hid (hU.out.trans hd)
   obtain ⟨csz, tz, oz⟩ := hobs.out _ _ hz
   obtain ⟨csy, ty, oy⟩ := hobs.out _ _ hy
   have oz3 := (hb3.block _ (Array.getElem?_eq_some_iff.1 oz).1).trans oz
   have oy3 := (hb3.block _ (Array.getElem?_eq_some_iff.1 oy).1).trans oy
   obtain ⟨jt, hjt, hjs⟩ := blk_info
   clear hd hz hy hinj hx hrU hobs oz oy
   generalize z.b = zb at *
   generalize y.b = yb at *
   clear hb3
   by_cases hzy : zb = yb
   ·subst hzy
    have hq := run_eql_ptr_same (P := Tryz.prog) w3 (tp := 63) ⟨zb, 0, none⟩ Tryz.underlying63 hjt
    clear oz3 oy3 hjt hjs
    go_wp2_with fail
    go_ret
    exact ⟨ret_bool (by rw [hU.out]; simp), hB3⟩
   ·have hq := run_eql_ptr_other (P := Tryz.prog) w3 (tp := 63) (a := ⟨zb, 0, none⟩) (b := ⟨yb, 0, none⟩) Tryz.underlying63 hjt hjs (fun e => hzy (by injection e)) oz3 oy3
    clear oz3 oy3 hjt hjs
    go_wp2_with fail
    go_ret
    exact ⟨ret_bool (by rw [hU.out]; simp [hzy]), hB3⟩
  ·obtain ⟨hj, rfl, rfl⟩ := t2 e2
   have hU : rU = false := by rw [hrU.out]; unfold chUnder; rw [hi, hj]
   replace hU := Lib.hid hU
   clear hrU h2 s2 t2
   unfold ptrV
   go_wp2_with fail
   go_ret
   exact ⟨ret_bool hU.out.symm, hB2⟩
 ·obtain ⟨hi, rfl, rfl⟩ := t1 e1
  have hU : rU = false := by rw [hrU.out]; unfold chUnder; rw [hi]
  replace hU := Lib.hid hU
  clear hrU h2 s1 t1 s2 t2
  go_wp2_with fail
  go_ret
  exact ⟨ret_bool hU.out.symm, hB2⟩
end Go.Proofs.YthdjhbiigmcecaaGreat

/- chain.Add. -/
namespace Go.Proofs.YthdjhbiigmcecaaGreat
open Go.RowKit

def HBx (W0 : World) (p : Pt) (h : Hdr) (L : List Bool) (V : List Value) (w : World) : Prop :=
 Below W0.heap.size W0 w ∧
 (L.getD 0 false = true → ∃ (g' : GHeader) (wc : World), V.getD 0 undef = .agg (headerA g') ∧ Safe (fun k => k < W0.heap.size) wc (fun W => HdrR W g' h) ∧ Below W0.heap.size W0 wc ∧ Below wc.heap.size wc w) ∧
 (L.getD 1 false = true → ∃ (g' : GHeader) (wc : World), V.getD 1 undef = .agg (blkA p { nx with g := g' }) ∧ Safe (fun k => k < W0.heap.size) wc (fun W => HdrR W g' h) ∧ Below W0.heap.size W0 wc ∧ Below wc.heap.size wc w) ∧
 (L.getD 2 false = true → ∃ (b : Nat) (g' : GHeader) (wc : World), V.getD 2 undef = ptrV b ∧ Safe (fun k => k < W0.heap.size) wc (fun W => HdrR W g' h) ∧ Below W0.heap.size W0 wc ∧ wc.heap.size ≤ b ∧ Below wc.heap.size wc w ∧ w.heap[b]? = some (.cells (blkA p { nx with g := g' }) 65 (0, 0))) ∧
 (L.getD 3 false = true → V.getD 3 undef = V.getD 2 undef)
/-- a new block's box, and a cell of the call's own, told apart -/
def tagA (T : Nat → Nat) (z bx b4 n : Nat) : Nat → Nat := fun k => if k < z then T k else if k = bx then 4 + 2 * n else if k = b4 then 4 + 2 * (n + 1) else 0
section
variable {T : Nat → Nat} {z bx b4 n k : Nat}
theorem tagA_old (h : k < z) : tagA T z bx b4 n k = T k := if_pos h
theorem tagA_bx (h : z ≤ bx) : tagA T z bx b4 n bx = 4 + 2 * n := by unfold tagA; rw [if_neg (by omega), if_pos rfl]
theorem tagA_b4 (h : z ≤ b4) (hne : b4 ≠ bx) : tagA T z bx b4 n b4 = 4 + 2 * (n + 1) := by unfold tagA; rw [if_neg (by omega), if_neg hne, if_pos rfl]
theorem tagA_no (h : z ≤ k) (h1 : k ≠ bx) (h2 : k ≠ b4) : tagA T z bx b4 n k = 0 := by unfold tagA; rw [if_neg (by omega), if_neg h1, if_neg h2]
end
/-- a list's array that is new from block M on takes tag t -/
def tagB (T : Nat → Nat) (z : Nat) (o : Option Nat) (t : Nat) : Nat → Nat := fun k => if k < z then T k else if o = some k then t else 0
section
variable {T : Nat → Nat} {z t k : Nat} {o : Option Nat}
theorem tagB_old (h : k < z) : tagB T z o t k = T k := if_pos h
theorem tagB_new (h : z ≤ k) (ho : o = some k) : tagB T z o t k = t := by unfold tagB; rw [if_neg (by omega), if_pos ho]
theorem tagB_ne (h : z ≤ k) (ho : tagB T z o t k ≠ 0) : o = some k := by
 unfold tagB at ho
 rw [if_neg (by omega)] at ho
 by_cases h1 : o = some k
 ·exact h1
 ·rw [if_neg h1] at ho
  exact absurd rfl ho
end
/-- the new block's ancestors, while they are gathered -/
structure UpI (C : List Blk) (p : Pt) (gx : GHeader) (W4 W : World) (bx i0 i k : Nat) (acc : List Nat) (su : Sl) : Prop where
 row : row? W bx 0 69 = some (blkA p { nx with g := gx, u := su })
 thr : there W bx 0 69
 ob : ∃ cs t, W.heap[bx]? = some (.cells cs t (0, 0))
 own : OwnC W (bx + 1) 1 su.v acc.length (flatC natA acc)
 bel : Below bx W4 W
 clm : climb (ups C) i0 0 = acc ++ climb (ups C) i k
 len : acc.length = k
 lt : i < C.length
theorem chadd_res : Tryz.f8.results = #[.cell 4 26, .tmp 5] := by kernel_rfl
theorem check_bad {C : List Blk} {h : Hdr} (hc : (chCheck C h).2 ≠ 0) : (chCheck C h).1 = zeroPt := by
 unfold chCheck at hc ⊢
 split
 ·rename_i hm
  rw [if_pos hm] at hc
  split
  ·rfl
  ·rename_i h1
   rw [h1] at hc
   split
   ·rfl
   ·rename_i h2
    rw [h2] at hc
    simp only at hc
    split
    ·rfl
    ·rename_i h3
     rw [if_neg h3] at hc
     split
     ·rfl
     ·rename_i h4
      rw [if_neg h4] at hc
      exact absurd rfl hc
 ·rfl
attribute [local go_sem ↓] fold_bldB fold_bsN fold_appN fold_bsP fold_appP
/-- blocks with a small tag: those of the chain itself -/
def MutS (T : Nat → Nat) : Nat → Prop := fun k => T k ≠ 0 ∧ T k < 1000000
set_option maxRecDepth 100000 in
set_option maxHeartbeats 6400000 in
theorem chadd_c {B : Nat} {T : Nat → Nat} {W : World} {cb : Nat} {C : List Blk} (hC : ChR B T W cb C) (hok : ChnOk C) {g : GHeader} {h : Hdr} (hr : HdrR W g h) (hl : HdrFits h) :
  Calls Tryz.prog 8 #[ptrV cb, .agg (headerA g)] W fun r w' => r = .returned (.tuple #[.agg (pointA (chCheck C h).1), .int .i64 (chCheck C h).2]) ∧ (∃ T', ChR B T' w' cb (chAdd C h) ∧ ∀ k, k < W.heap.size → T' k = T k) ∧ Asd (MutS T) W w' := by
 obtain ⟨sA, mb, G, hM⟩ := hC
 have hp := hok.pos
 have hB0 : Below W.heap.size W ((W.alloc (.cells (headerA g) 39)).alloc (.cells (pointA zeroPt) 26)) := by (repeat' (first | (with_reducible first | exact Below.refl _ _ | assumption | refine bel_trans (by assumption) ?_ ?_ | refine bel_grown (by assumption) ?_ ?_ ?_ | refine Below.alloc ?_ ?_ _ | refine Below.drew ?_ | refine below_drewN ?_ _ | refine Below.setCell ?_ ?_ _ | refine below_put ?_ ?_ _ _ | exact Nat.le_refl _) | omega | (with_reducible first | refine Nat.le_trans ?_ (Below.size (by assumption)) | refine Nat.le_trans ?_ (World.grownBy.size (by assumption))) | (simp only [World.size_alloc, World.size_setCell, World.size_drew, size_drewN]; omega) | (simp only [World.size_alloc, World.size_setCell, World.size_drew, size_drewN, size_put]; omega) | (intro k hk; simp [Value.ownBlock] at hk; first | done | omega) | (simp [size_drewN] at *; omega)))
 have hz0 : ((W.alloc (.cells (headerA g) 39)).alloc (.cells (pointA zeroPt) 26)).heap.size = W.heap.size + 2 := by simp
 have hrow0 : row? ((W.alloc (.cells (headerA g) 39)).alloc (.cells (pointA zeroPt) 26)) W.heap.size 0 34 = some (headerA g) := by rw [row?_old _ _ _ _ _ (by simp), row?_new]; simp
 have hrow1 : row? ((W.alloc (.cells (headerA g) 39)).alloc (.cells (pointA zeroPt) 26)) (W.heap.size + 1) 0 33 = some (pointA zeroPt) := by rw [row?_new_at _ _ _ _ _ _ (by simp)]; simp
 have hth : there ((W.alloc (.cells (headerA g) 39)).alloc (.cells (pointA zeroPt) 26)) (W.heap.size + 1) 0 33 := there_new_at _ _ _ _ _ _ (by simp) (by simp)
 obtain ⟨ab, hab, hsn, hV⟩ := hM.view hp
 have hHM := Lib.hid hM
 have hVI := Lib.hid hV
 have hr0 := Lib.hid (hr.keep' hB0)
 have g1 := hr.1
 clear hr hM
 obtain ⟨p, k, hpk⟩ : ∃ p k, (p, k) = chCheck C h := ⟨_, _, rfl⟩
 obtain ⟨D, hD⟩ : ∃ D, D = chAdd C h := ⟨_, rfl⟩
 have HCk := chcheck_c (hV.keep hB0) hok hr0.out hl
 rw [← hpk] at HCk ⊢
 rw [← hD]
 replace hpk := Lib.hid hpk
 replace hD := Lib.hid hD
 clear hV
 unfold ptrV at HCk ⊢
 go_enter Tryz.func8, Tryz.ntmps8
 go_upto_region 1 with fail
 generalize (W.alloc (.cells (headerA g) 39)).alloc (.cells (pointA zeroPt) 26) = w0 at *
 go_wp2_with fail
 refine HCk.mono ?_
 clear HCk
 rintro r w1 ⟨rfl, hb1⟩
 have hz1 := hb1.size
 go_upto_region 2 with fail
 obtain ⟨w2, hw2, hrow6, -, hb2, hz2⟩ := box_row w1 (pointA zeroPt) (pointA p) 26 33 (by omega) (by simp) (by simp)
 rw [← hw2]
 clear hw2
 have hb02 := hb1.trans (hb2.mono hz1)
 have hB2 := hB0.trans (hb02.mono (by omega))
 have hrow3 := (row?_below _ _ _ hb02 (show W.heap.size < w0.heap.size by omega)).trans hrow0
 have hrow4 := (row?_below _ _ _ hb02 (show W.heap.size + 1 < w0.heap.size by omega)).trans hrow1
 have hth4 := there_below hb02 (show W.heap.size + 1 < w0.heap.size by omega) hth
 obtain ⟨b3, hb3e⟩ : ∃ b, b = W.heap.size := ⟨_, rfl⟩
 obtain ⟨b4, hb4e⟩ : ∃ b, b = W.heap.size + 1 := ⟨_, rfl⟩
 obtain ⟨b6, hb6e⟩ : ∃ b, b = w1.heap.size := ⟨_, rfl⟩
 rw [← hb4e] at hrow4 hth4 ⊢
 rw [← hb3e] at hrow3 ⊢
 rw [← hb6e] at hrow6 ⊢
 have hb3 : b3 < w2.heap.size := by omega
 have hb4 : b4 < w2.heap.size := by omega
 have hb6 : b6 < w2.heap.size := by omega
 have q34 : b3 < b4 := by omega
 have q46 : b4 < b6 := by omega
 have q3W : W.heap.size ≤ b3 := by omega
 have hV2 := Lib.hid (hVI.out.keep hB2)
 have hr2 := Lib.hid (hr0.out.keep' (hb02.mono (Nat.le_refl _)))
 clear hB0 hrow0 hrow1 hth hb1 hb2 hb02 hr0
 replace hb3e := Lib.hid hb3e
 replace hb4e := Lib.hid hb4e
 replace hb6e := Lib.hid hb6e
 replace hz2 := Lib.hid hz2
 replace hz0 := Lib.hid hz0
 by_cases hk : k = 0
 rotate_left
 ·have hk2 : (k != 0) = true := by simpa using hk
  have hDC : D = C := by
   rw [hD.out]
   unfold chAdd
   rw [if_neg (by rw [← hpk.out]; exact hk)]
  have hpz : p = zeroPt := by
   have := check_bad (C := C) (h := h) (by rw [← hpk.out]; exact hk)
   rw [← hpk.out] at this
   exact this
  subst hDC hpz
  have hfin : Hid (∀ W', Below W.heap.size W W' → (∃ T', ChR B T' W' cb D ∧ ∀ k, k < W.heap.size → T' k = T k) ∧ Asd (MutS T) W W') := Lib.hid fun W' hb => ⟨⟨T, ⟨sA, mb, G, hHM.out.keep hb⟩, fun _ _ => rfl⟩, below_fresh hb _⟩
  have hBp := Lib.hid (below_put hB2 (show W.heap.size ≤ b4 by omega) 0 (pointA zeroPt))
  clear hk hpk hD hV2 hr2 hVI hHM
  go_wp2_with (with_reducible refine ret_row2 Tryz.isAgg26 Tryz.sizeOf26 chadd_res (x := .pointer (some ⟨b4, 0, none⟩)) (y := .int .i64 k) (b4) 0 ?rrhx (Eq.refl _) ?rrhy ?rrh ?rrhd ?rrhR; (case rrhx => simp only [Array.getD_eq_getD_getElem?, List.getElem?_toArray, List.getElem?_cons_succ, List.getElem?_cons_zero, Option.getD_some]); (case rrhy => simp only [Array.getD_eq_getD_getElem?, List.getElem?_toArray, List.getElem?_cons_succ, List.getElem?_cons_zero, Option.getD_some]); (case rrhd => exact rfl); (case rrh => go_simp); (case rrhR => ((refine ⟨?_, hfin.out _ hBp.out⟩; go_simp; done))))
 ·subst hk
  obtain ⟨hm, hnone, ⟨i0, hi0, hep⟩, hlen, hp1⟩ := check_ok (C := C) (h := h) (by rw [← hpk.out])
  have hpp : p = ⟨h.epoch, hdName h⟩ := by rw [← hp1, ← hpk.out]
  have hDD : D = C ++ [⟨p, h, some i0⟩] := by
   rw [hD.out]
   unfold chAdd
   rw [if_pos (by rw [← hpk.out]), ← hpk.out, hi0]
  replace hDD := Lib.hid hDD
  replace hpp := Lib.hid hpp
  have hHCl := clnFits_may hm
  have HCl := fun Wx (hb : Below w2.heap.size w2 Wx) => hclone_c (hr2.out.keep' hb) hHCl
  have c0 := hV2.out.c0
  clear hpk hD hep hp1 hHCl
  have hm' := Lib.hid hm
  clear hm
  go_upto_region 5 with fail
  refine wp_region_freeI_l (by kernel_rfl) [28, 29, 30, 31, 32, 9]
   [(fun v => v = .agg (pointA p)), (fun v => v = .agg (headerA g)), (fun v => ∃ g', v = .agg (headerA g')), (fun v => ∃ g', v = .agg (blkA p { nx with g := g' })), (fun v => ∃ b, v = ptrV b), (fun v => ∃ b, v = ptrV b)]
   [2, 3, 4, 5] (HBx w2 p h) [[3, 4, 5], [2, 3, 4, 5], [3, 4, 5], [4, 5], [5], []] (by kernel_rfl) (by kernel_rfl) ?_ ?_ ?_
  ·show HBx w2 p h [false, false, false, false] [_, _, _, _] _
   refine ⟨(Below.refl _ _).drew, ?_, ?_, ?_, ?_⟩ <;> (intro h; cases h)
  ·refine ⟨?_, ?_, ?_, ?_, ?_, ?_, trivial⟩
   ·intro L ax W hf hLi hno hd
    try simp [Region.binds] at hd
    have e6 : ax.tmps[6]?.getD undef = .pointer (some ⟨b6, 0, none⟩) := hf.out 6 (by decide) rfl
    refine ⟨fun _ => ?_, fun h => absurd trivial h⟩
    have hG : HBx w2 p h [L 2, L 3, L 4, L 5] [sl ax 30, sl ax 31, sl ax 32, sl ax 9] W := hf.glob
    have h1 := (row?_below _ _ _ hG.1 hb6).trans hrow6
    refine freeI_run (v := .agg (pointA p)) rfl hf (by decide) ?_ rfl
    go_simp
   ·intro L ax W hf hLi hno hd
    try simp [Region.binds] at hd
    have e3 : ax.tmps[3]?.getD undef = .pointer (some ⟨b3, 0, none⟩) := hf.out 3 (by decide) rfl
    refine ⟨fun _ => ?_, fun h => absurd trivial h⟩
    have hG : HBx w2 p h [L 2, L 3, L 4, L 5] [sl ax 30, sl ax 31, sl ax 32, sl ax 9] W := hf.glob
    have h1 := (row?_below _ _ _ hG.1 hb3).trans hrow3
    refine freeI_run (v := .agg (headerA g)) rfl hf (by decide) ?_ rfl
    go_simp
   ·intro L ax W hf hLi hno hd
    simp [Region.binds] at hd
    have e29 : ax.tmps[29]?.getD undef = .agg (headerA g) := slv (hf.got 1 (by decide) (by simp [hd]))
    refine ⟨fun _ => ?_, fun h => absurd trivial h⟩
    have hG : HBx w2 p h [L 2, L 3, L 4, L 5] [sl ax 30, sl ax 31, sl ax 32, sl ax 9] W := hf.glob
    refine freeI_call (f := 19) (args := #[.agg (headerA g)]) rfl (by go_simp) ?_
    refine (HCl W hG.1).mono ?_
    rintro e w' ⟨g', rfl, hat, hb⟩
    refine ⟨_, rfl, ⟨g', rfl⟩, ?_⟩
    show HBx w2 p h [true, L 3, L 4, L 5] [.agg (headerA g'), sl ax 31, sl ax 32, sl ax 9] w'
    exact ⟨hG.1.trans (hb.mono hG.1.size), fun _ => ⟨g', w', rfl, hat.step (Asd.refl _ _) fun k _ hk => Nat.lt_of_lt_of_le hk hG.1.size, hG.1.trans (hb.mono hG.1.size), Below.refl _ _⟩, fun h => by (have h' : L 3 = true := h; rw [hno 3 (by decide)] at h'; cases h'), fun h => by (have h' : L 4 = true := h; rw [hno 4 (by decide)] at h'; cases h'), fun h => by (have h' : L 5 = true := h; rw [hno 5 (by decide)] at h'; cases h')⟩
   ·intro L ax W hf hLi hno hd
    simp [Region.binds] at hd
    have e28 : ax.tmps[28]?.getD undef = .agg (pointA p) := slv (hf.got 0 (by decide) (by simp [hd]))
    have f30 : (fun v => ∃ g', v = .agg (headerA g')) (sl ax 30) := hf.got 2 (by decide) (by simp [hd])
    refine ⟨fun _ => ?_, fun h => absurd trivial h⟩
    have hG : HBx w2 p h [L 2, L 3, L 4, L 5] [sl ax 30, sl ax 31, sl ax 32, sl ax 9] W := hf.glob
    have hl2 : L 2 = true := by simp [hd]
    obtain ⟨hB, h0, h1, h2, h3⟩ := hG
    obtain ⟨g', wc, q1, q2, q3, q4⟩ := h0 hl2
    have e30' := slv q1
    have hbd := bld_blk p g' W
    refine freeI_val (v := .agg (blkA p { nx with g := g' })) (W' := W) rfl ?_ ⟨g', rfl⟩ ?_
    ·go_simp
    ·exact ⟨hB, h0, fun _ => ⟨g', wc, rfl, q2, q3, q4⟩, fun h => by (have h' : L 4 = true := h; rw [hno 4 (by decide)] at h'; cases h'), fun h => by (have h' : L 5 = true := h; rw [hno 5 (by decide)] at h'; cases h')⟩
   ·intro L ax W hf hLi hno hd
    simp [Region.binds] at hd
    have f31 : (fun v => ∃ g', v = .agg (blkA p { nx with g := g' })) (sl ax 31) := hf.got 3 (by decide) (by simp [hd])
    refine ⟨fun _ => ?_, fun h => absurd trivial h⟩
    have hG : HBx w2 p h [L 2, L 3, L 4, L 5] [sl ax 30, sl ax 31, sl ax 32, sl ax 9] W := hf.glob
    have hl3 : L 3 = true := by simp [hd]
    obtain ⟨hB, h0, h1, h2, h3⟩ := hG
    obtain ⟨g', wc, q1, q2, q3, q4⟩ := h1 hl3
    have e31' := slv q1
    refine freeI_val (v := ptrV W.heap.size) (W' := W.alloc (.cells (blkA p { nx with g := g' }) 65)) rfl ?_ ⟨_, rfl⟩ ?_
    ·unfold ptrV
     go_simp
    ·have hb := bel_a W (.cells (blkA p { nx with g := g' }) 65)
     refine ⟨hB.trans (hb.mono hB.size), fun hx => ?_, fun hx => ⟨g', wc, q1, q2, q3, q4.trans (hb.mono q4.size)⟩, fun _ => ⟨W.heap.size, g', wc, rfl, q2, q3, q4.size, q4.trans (hb.mono q4.size), heap_alloc_new W _⟩, fun h => by (have h' : L 5 = true := h; rw [hno 5 (by decide)] at h'; cases h')⟩
     obtain ⟨g2, wc2, r1, r2, r3, r4⟩ := h0 hx
     exact ⟨g2, wc2, r1, r2, r3, r4.trans (hb.mono r4.size)⟩
   ·intro L ax W hf hLi hno hd
    simp [Region.binds] at hd
    have f32 : (fun v => ∃ b, v = ptrV b) (sl ax 32) := hf.got 4 (by decide) (by simp [hd])
    refine ⟨fun _ => ?_, fun h => absurd trivial h⟩
    have hG : HBx w2 p h [L 2, L 3, L 4, L 5] [sl ax 30, sl ax 31, sl ax 32, sl ax 9] W := hf.glob
    obtain ⟨b, e32⟩ := f32
    have e32' := slv e32
    obtain ⟨hB, h0, h1, h2, h3⟩ := hG
    refine freeI_val (v := ptrV b) (W' := W) rfl ?_ ⟨b, rfl⟩ ?_
    ·unfold ptrV at e32' ⊢
     go_simp
    ·exact ⟨hB, h0, h1, h2, fun _ => e32.symm⟩
  ·intro vs w3 hl' hF hG
   obtain ⟨g', hg1, hg2⟩ := vs_litI vs hl' hF
   obtain ⟨hB3, -, -, h2, h3⟩ := hG
   obtain ⟨bx, gx, wc, vb, hsafe, hBc, hbx, hBcw, obx⟩ := h2 rfl
   have v3 := h3 rfl
   rw [hg1] at vb v3
   simp only [List.length_cons, List.length_nil, Nat.reduceAdd, List.map_cons, List.map_nil, show List.range 6 = [0, 1, 2, 3, 4, 5] from rfl, List.getD_cons_zero, List.getD_cons_succ] at vb v3
   have e5 : g' 5 = ptrV bx := v3.trans vb
   rw [hg1]
   simp only [List.length_cons, List.length_nil, Nat.reduceAdd, show List.range 6 = [0, 1, 2, 3, 4, 5] from rfl, List.map_cons, List.map_nil, slotsIn, putL, List.setIfInBounds_toArray, List.set_cons_succ, List.set_cons_zero, e5, List.size_toArray, Nat.reduceLT, if_true, if_false]
   have hbx3 := (Array.getElem?_eq_some_iff.1 obx).1
   have hz3 := hB3.size
   have hzc := hBc.size
   have hB03 := hB2.trans (hB3.mono (by have := hb3e.out; omega))
   have hrow33 := (row?_below _ _ _ hB3 hb3).trans hrow3
   have hrow43 := (row?_below _ _ _ hB3 hb4).trans hrow4
   have hrow63 := (row?_below _ _ _ hB3 hb6).trans hrow6
   have hth43 := there_below hB3 hb4 hth4
   have hV3 := Lib.hid (hVI.out.keep hB03)
   have hxb6 : b6 < bx := by omega
   have hWx : W.heap.size ≤ bx := by omega
   have hp0 := row_part hrow33 0 32 (by omega)
   rw [headerA_parent, g1] at hp0
   have c1 := fun m => show (w3.drewN m).cell? ⟨cb, 1, none⟩ = _ from hV3.out.c1
   have f0 := fun m => show row? (w3.drewN m) b3 0 32 = _ from hp0
   have l1 := fun m => (show ChV (w3.drewN m) cb ab sA.c mb G C from hV3.out.keep (below_drewN (Below.refl _ _) m)).look1 h.parent
   rw [hi0] at l1
   simp only [Option.getD_some] at l1
   clear hg1 hg2 h2 h3 vb v3 e5 hF hl' hrow3 hrow4 hrow6 hth4 hV2 hr2 HCl c0 hp0 hB2
   unfold ptrV
   go_upto_region 6 with fail
   go_quiet (fail)
   have hB04 := below_drewN hB03 nq
   have hrow34 : row? (w3.drewN nq) b3 0 34 = _ := hrow33
   have hrow44 : row? (w3.drewN nq) b4 0 33 = _ := hrow43
   have hrow64 : row? (w3.drewN nq) b6 0 33 = _ := hrow63
   have hth44 : there (w3.drewN nq) b4 0 33 := hth43
   have obx4 : (w3.drewN nq).heap[bx]? = _ := obx
   have hBcw4 := below_drewN hBcw nq
   have hbx4 : bx < (w3.drewN nq).heap.size := hbx3
   clear c1 f0 l1 hB03 hrow33 hrow43 hrow63 hth43 obx hBcw hbx3 hV3 hz3 hB3
   generalize w3.drewN nq = w4 at *
   have hup0 : UpI C p gx w4 w4 bx i0 i0 0 [] ⟨none, 0, 0⟩ := by
    refine ⟨?_, there_block obx4 (by simp), ⟨_, _, obx4⟩, OwnC.nil _ _ _, Below.refl _ _, by simp, rfl, chAt_lt hi0⟩
    exact rowHeap obx4 (by simp)
   replace hup0 := Lib.hid hup0
   go_upto_region 8 with fail
   go_loopw [10, 11] (fun iv kv W' => ∃ (i k : Nat) (acc : List Nat) (su : Sl), iv = .int .i64 i ∧ kv = .int .i64 k ∧ Hid (UpI C p gx w4 W' bx i0 i k acc su)) (fun iv _ _ => (intOf iv).toNat)
   case atStart => exact ⟨i0, 0, [], ⟨none, 0, 0⟩, rfl, rfl, hup0⟩
   case round =>
    clear hup0
    obtain ⟨i, k, acc, ⟨ua, un, uc⟩, rfl, rfl, hU⟩ := hrel
    have hbw := hU.out.bel.size
    have hlr : bx < wr.heap.size := by omega
    have hbelW := hB04.trans (hU.out.bel.mono hWx)
    have hVr := hVI.out.keep hbelW
    obtain ⟨b, hb⟩ : ∃ b, C[i]? = some b := ⟨_, List.getElem?_eq_getElem hU.out.lt⟩
    obtain ⟨x, hx⟩ := hVr.box hb
    obtain ⟨-, xu, -, -, -, -⟩ := hVr.cells hx hb
    have c0 := hVr.c0
    have ca := hVr.arr i x hx
    unfold ptrV at ca
    have hUl := hVr.up i x b hx hb
    obtain ⟨ui, hui⟩ : ∃ u, u = (ups C).getD i [] := ⟨_, rfl⟩
    rw [← hui] at hUl
    have huis : (ups C)[i]? = some ui := by
     rw [hui, List.getD_eq_getElem?_getD]
     have : i < (ups C).length := by rw [ups_length]; exact hU.out.lt
     rw [List.getElem?_eq_getElem this]
     rfl
    have hacc : acc.length ≤ 1000000 := by
     have h1 := congrArg List.length hU.out.clm
     rw [List.length_append] at h1
     have h2 := climb_length (U := ups C) i0 0
     have h3 := chAt_lt hi0
     omega
    have hcl : k = acc.length := hU.out.len.symm
    have hil := hU.out.lt
    have hx67 : wr.cell? ⟨bx, 67, none⟩ = some (.slice ua un uc) := by
     have := cell_of_row? hU.out.row 67 (by omega)
     rw [blkA_tail _ _ 0, Nat.zero_add] at this
     exact this
    have hbN := bsN_one i wr
    obtain ⟨⟨sa', sn', sc'⟩, wa, hrun, hown', hgr, hob⟩ := app_nat (B := bx + 1) hU.out.own (show bx + 1 ≤ wr.heap.size by omega) hacc i
    dsimp only [Sl.v] at hrun
    have hza := hgr.size
    have hfar : ∀ q : Nat, q ≤ bx → wa.heap[q]? = wr.heap[q]? := fun q hq => (hgr.block q (by simp; omega) (fun e => by
     have := (OwnC.lt hU.out.own q e.symm).1
     omega)).trans (Below.heap_alloc wr _ q (by omega))
    have hx67a : wa.cell? ⟨bx, 67, none⟩ = some (.slice ua un uc) := (World.cell?_of_block (a := ⟨bx, 67, none⟩) (hfar bx (Nat.le_refl _))).trans hx67
    have hfz : wa.frozen? ⟨bx, 67, none⟩ = false := (World.frozen?_of_block (a := ⟨bx, 67, none⟩) (hfar bx (Nat.le_refl _))).trans (hU.out.thr 67 (by omega)).2
    go_upto_region 9 with fail
    obtain ⟨w5, hw5⟩ : ∃ w5, w5 = wa.setCell ⟨bx, 67, none⟩ (.slice sa' sn' sc') := ⟨_, rfl⟩
    have hbel5 : Below bx wr w5 := by
     rw [hw5]
     exact (((Below.refl bx wr).alloc (by omega) _).grown hgr (by simp; omega) fun q hq => by
      have := (OwnC.lt hU.out.own q hq).1
      omega).setCell (Nat.le_refl _) _
    have hrow5 : row? w5 bx 0 69 = some (blkA p { nx with g := gx, u := ⟨sa', sn', sc'⟩ }) := by
     have h1 : row? wa bx 0 69 = some (blkA p { nx with g := gx, u := ⟨ua, un, uc⟩ }) := by
      have := hU.out.row
      unfold row? at this ⊢
      rw [hfar bx (Nat.le_refl _)]
      exact this
     rw [hw5, row?_set_in _ _ _ _ _ (by omega) (by rw [h1]; rfl), h1, Option.map_some]
     refine congrArg some ?_
     simp only [splice, blkA]
     apply Array.ext'
     simp
    have hthr5 : there w5 bx 0 69 := by
     rw [hw5]
     refine there_set _ _ _ _ _ _ fun j hj => ?_
     have := hU.out.thr j hj
     rw [World.cell?_of_block (a := ⟨bx, 0 + j, none⟩) (hfar bx (Nat.le_refl _)), World.frozen?_of_block (a := ⟨bx, 0 + j, none⟩) (hfar bx (Nat.le_refl _))]
     exact this
    have hob5 : ∃ cs t, w5.heap[bx]? = some (.cells cs t (0, 0)) := by
     obtain ⟨cs, t, h1⟩ := hU.out.ob
     rw [hw5]
     exact set_ob ((hfar bx (Nat.le_refl _)).trans h1) _ _
    have hown5 : OwnC w5 (bx + 1) 1 (.slice sa' sn' sc') (acc ++ [i]).length (flatC natA (acc ++ [i])) := by
     rw [hw5]
     exact OwnC.off hown' (asd_set wa ⟨bx, 67, none⟩ _) fun q hq e => by
      have := (OwnC.lt hown' q hq).1
      have e' : q = bx := e
      omega
    rw [← hw5]
    have hz5 := hbel5.size
    have hbelW5 := hB04.trans ((hU.out.bel.trans hbel5).mono hWx)
    have hV5 := Lib.hid (hVI.out.keep hbelW5)
    have hbel45 := Lib.hid (hU.out.bel.trans hbel5)
    have hclm := Lib.hid hU.out.clm
    clear hw5 hfar hfz hx67a hx67 hbN hrun hown' hgr hob hza hVr c0 ca xu hU hbel5 hbelW
    obtain ⟨-, xu, -, -, -, -⟩ := hV5.out.cells hx hb
    have c0 := hV5.out.c0
    have ca := hV5.out.arr i x hx
    unfold ptrV at ca
    have hUl5 := hV5.out.up i x b hx hb
    rw [← hui] at hUl5
    clear hUl
    have hn5 := hUl5.1
    obtain ⟨xb, xg, ⟨xua, xun, xuc⟩, xc⟩ := x
    simp only at hn5 xu ca
    subst hn5
    dsimp only [Sl.v] at xu
    subst hcl
    have i1 : (i : Int) < (C.length : Int) := by omega
    replace hui := Lib.hid hui
    by_cases hku : acc.length < ui.length
    ·have hk1 : ¬ ((ui.length : Int) ≤ (acc.length : Int)) := by omega
     obtain ⟨bu, ou, e1, hbu, hcu⟩ := ints_at hUl5 (by omega)
     have e2 := congrArg Sl.a e1
     simp only at e2
     subst e2
     clear e1
     have hcq := hcu acc.length hku
     clear hcu
     have hq := List.getElem?_eq_getElem hku
     generalize ui[acc.length] = q at *
     obtain ⟨-, hqi⟩ := ups_mem hok huis hq
     have hnew : Hid (UpI C p gx w4 w5 bx i0 q (acc.length + 1) (acc ++ [i]) ⟨sa', sn', sc'⟩) := Lib.hid (by
      refine ⟨hrow5, hthr5, hob5, hown5, hbel45.out, ?_, by simp, by omega⟩
      rw [hclm.out, climb, huis]
      simp only [Option.bind_some, hq, hqi, dite_true]
      rw [List.append_assoc]
      rfl)
     have k1 : (acc.length : Int) < (ui.length : Int) := by omega
     have hqi' := Lib.hid hqi
     clear hrow5 hthr5 hob5 hown5 hbelW5 hclm huis hq hqi
     go_wp2_with fail
     go_roundw
     case rel => exact ⟨q, acc.length + 1, acc ++ [i], ⟨sa', sn', sc'⟩, rfl, by go_num, hnew⟩
     case measure =>
      have := hqi'.out
      simp [intOf]
      omega
    ·have hk1 : (ui.length : Int) ≤ (acc.length : Int) := by omega
     have hcl2 : climb (ups C) i0 0 = acc ++ [i] := by
      rw [hclm.out, climb, huis]
      simp only [Option.bind_some, List.getElem?_eq_none (Nat.le_of_not_lt hku)]
     go_upto_region 11 with fail
     clear xu c0 ca hUl5 hclm huis hku hk1 hx hb
     have hp0 : row? w5 b3 0 32 = some (hashA h.parent) := by
      have h1 := (row?_below _ _ _ hbel45.out (show b3 < bx by omega)).trans (row_part hrow34 0 32 (by omega))
      rw [headerA_parent, g1] at h1
      exact h1
     obtain ⟨bp, hbp⟩ : ∃ b, C[i0]? = some b := ⟨_, List.getElem?_eq_getElem (chAt_lt hi0)⟩
     obtain ⟨xp, hxp⟩ := hV5.out.box hbp
     have ca := hV5.out.arr i0 xp hxp
     unfold ptrV at ca
     have c0 := fun m => show (w5.drewN m).cell? ⟨cb, 0, none⟩ = _ from hV5.out.c0
     have c1 := fun m => show (w5.drewN m).cell? ⟨cb, 1, none⟩ = _ from hV5.out.c1
     have f0 := fun m => show row? (w5.drewN m) b3 0 32 = _ from hp0
     have f1 := fun m => show (w5.drewN m).cell? ⟨ab, i0, none⟩ = _ from ca
     have l1 := fun m => (show ChV (w5.drewN m) cb ab sA.c mb G C from hV5.out.keep (below_drewN (Below.refl _ _) m)).look1 h.parent
     rw [hi0] at l1
     simp only [Option.getD_some] at l1
     have j1 : (i0 : Int) < (C.length : Int) := by have := chAt_lt hi0; omega
     have j2 : (0 : Int) ≤ (i0 : Int) := by omega
     go_quiet (fail)
     have hV6 := Lib.hid (show ChV (w5.drewN nq) cb ab sA.c mb G C from hV5.out.keep (below_drewN (Below.refl _ _) nq))
     have hbel46 : Below bx w4 (w5.drewN nq) := below_drewN hbel45.out nq
     have hbelW6 : Below W.heap.size W (w5.drewN nq) := below_drewN hbelW5 nq
     have hrow6x : row? (w5.drewN nq) bx 0 69 = _ := hrow5
     have hthr6x : there (w5.drewN nq) bx 0 69 := hthr5
     have hob6x : ∃ cs t, (w5.drewN nq).heap[bx]? = some (.cells cs t (0, 0)) := hob5
     have hown6x : OwnC (w5.drewN nq) (bx + 1) 1 (.slice sa' sn' sc') (acc ++ [i]).length (flatC natA (acc ++ [i])) := OwnC.keep hown5 (below_drewN (Below.refl _ _) nq)
     have hbx6 : bx < (w5.drewN nq).heap.size := by show bx < w5.heap.size; omega
     clear c0 c1 f0 f1 l1 hp0 ca hV5 hbel45 hbelW5 hrow5 hthr5 hob5 hown5 hz5
     generalize w5.drewN nq = w6 at *
     clear hlr hacc hil i1 hbw hlen
     have hMk : Hid (∃ T1 : Nat → Nat, (∀ k, k < W.heap.size → T1 k = T k) ∧ T1 b4 = 4 + 2 * (C.length + 1) ∧ (∀ k, W.heap.size ≤ k → k ≠ bx → k ≠ b4 → T1 k = 0) ∧ ChM B T1 w6 cb sA mb G C (ups C) (chs C) (C.map (·.p.name)) ∧ BlkM B T1 w6 C.length ⟨bx, gx, ⟨sa', sn', sc'⟩, ⟨none, 0, 0⟩⟩ ⟨p, h, some i0⟩ (climb (ups C) i0 0) []) := Lib.hid (by
      refine ⟨tagA T W.heap.size bx b4 C.length, fun k hk => tagA_old hk, tagA_b4 (by omega) (by omega), fun k h1 h2 h3 => tagA_no h1 h2 h3, (hHM.out.retag fun k hk => tagA_old hk).keep hbelW6, ?_⟩
      refine ⟨hrow6x, hthr6x, hob6x, tagA_bx (by omega), hsafe.step (below_fresh (hBcw4.trans (hbel46.mono hbx)) _) fun k hk hm => ?_, fun W2 h2 => ?_, OwnC.nil _ _ _, fun q hq => by simp [Value.ownBlock] at hq⟩
      ·show k < w2.heap.size
       unfold Mut at hm
       by_cases hkb : k = b4
       ·omega
       ·have : ¬ W.heap.size ≤ k := fun hge => hm (tagA_no hge (by omega) hkb)
        omega
      ·rw [hcl2]
       refine rows_of_own natA natA_size (by omega) (OwnC.off hown6x h2 fun q hq => ?_)
       have := (OwnC.lt hown6x q hq).1
       unfold Mut
       intro hn
       exact hn (tagA_no (by omega) (by omega) (by omega)))
     clear hrow6x hthr6x hob6x hown6x hsafe hBcw4
     obtain ⟨T1, hT1a, hT1b, hT1c, hM6, hX6⟩ := hMk.out
     clear hMk
     have hkp := hM6.blk i0 xp bp hxp hbp
     have hcp := cell_of_row? hkp.row 68 (by omega)
     rw [blkA_tail _ _ 1, Nat.zero_add] at hcp
     have hbN := bsN_one C.length w6
     obtain ⟨⟨pa, pn, pc⟩, wa, hrun, hown', hgr, hob⟩ := app_nat (B := B) hkp.ch hM6.hB (by have := chs_length C i0; have := hok.len; omega) C.length
     obtain ⟨xpb, xpg, xpu, ⟨qa, qn, qc⟩⟩ := xp
     simp only at hcp hrun hgr hob
     dsimp only [Sl.v] at hcp hrun
     have hxpl : xpb < w6.heap.size := hkp.lt
     have hxpne : (Sl.v ⟨qa, qn, qc⟩).ownBlock ≠ some xpb := fun e => by
      have h1 := hkp.tc xpb e
      have h2 := hkp.tb
      simp only at h2
      omega
     have hfar : wa.heap[xpb]? = w6.heap[xpb]? := (hgr.block xpb (by simp; omega) (fun e => hxpne e.symm)).trans (Below.heap_alloc w6 _ xpb hxpl)
     have hcpa : wa.cell? ⟨xpb, 68, none⟩ = some (.slice qa qn qc) := (World.cell?_of_block (a := ⟨xpb, 68, none⟩) hfar).trans hcp
     have hfz : wa.frozen? ⟨xpb, 68, none⟩ = false := (World.frozen?_of_block (a := ⟨xpb, 68, none⟩) hfar).trans (hkp.thr 68 (by omega)).2
     go_upto_region 13 with fail
     obtain ⟨T2, hT2⟩ : ∃ T2, T2 = tagB T1 (w6.alloc (.cells (natA C.length) 3)).heap.size (Sl.v ⟨pa, pn, pc⟩).ownBlock (5 + 2 * i0) := ⟨_, rfl⟩
     have hsz6 : (w6.alloc (.cells (natA C.length) 3)).heap.size = w6.heap.size + 1 := by simp
     have hM6a := hM6.keep (bel_a w6 (.cells (natA C.length) 3))
     have hX6a := hX6.off (M := fun _ => False) (below_fresh (bel_a w6 (.cells (natA C.length) 3)) _) id (fun _ _ => id) (fun _ _ h => h.elim)
     have hob2 : (Sl.v ⟨pa, pn, pc⟩).ownBlock = (Sl.v ⟨qa, qn, qc⟩).ownBlock ∨ ∃ k, (Sl.v ⟨pa, pn, pc⟩).ownBlock = some k ∧ (w6.alloc (.cells (natA C.length) 3)).heap.size ≤ k := hob.imp id fun e => ⟨_, e, by omega⟩
     obtain ⟨hM7, hA7⟩ := hM6a.child hxp hgr hown' hob2 (W' := wa.setCell ⟨xpb, 68, none⟩ (Sl.v ⟨pa, pn, pc⟩)) rfl (T' := T2) (fun k hk => by rw [hT2]; exact tagB_old hk) (fun k hk ho => by rw [hT2]; exact tagB_new hk ho) (fun k hk ho => by
      rw [hT2] at ho
      have h1 := tagB_ne hk ho
      have h2 := (OwnC.lt hown' k h1).1
      exact h2)
     have hX7 : BlkM B T2 (wa.setCell ⟨xpb, 68, none⟩ (Sl.v ⟨pa, pn, pc⟩)) C.length ⟨bx, gx, ⟨sa', sn', sc'⟩, ⟨none, 0, 0⟩⟩ ⟨p, h, some i0⟩ (climb (ups C) i0 0) [] := by
      have hA : Asd (fun k => k = xpb ∨ (Sl.v ⟨qa, qn, qc⟩).ownBlock = some k) (w6.alloc (.cells (natA C.length) 3)) (wa.setCell ⟨xpb, 68, none⟩ (Sl.v ⟨pa, pn, pc⟩)) :=
       ((asd_grown hgr).mono fun k _ e => .inr e).trans ((asd_set wa ⟨xpb, 68, none⟩ _).mono fun k _ e => .inl e)
      have hkp' := hkp
      refine (hX6a.retag fun k hk => (by rw [hT2]; exact tagB_old hk : T2 k = T1 k)).off hA ?_ (fun q hq => by simp [Value.ownBlock] at hq) fun k hk hm => ?_
      ·intro e
       have h1 := hX6.tb
       have h2 := hkp.tb
       have h3 := hkp.tc bx
       simp only at h1 h2 h3
       have := chAt_lt hi0
       rcases e with e | e
       ·have e' : bx = xpb := e
        rw [← e'] at h2
        omega
       ·have := h3 e
        omega
      ·rw [hT2, tagB_old hk]
       have h2 := hkp.tb
       simp only at h2
       rcases hm with e | e
       ·rw [e]
        omega
       ·have := hkp.tc k e
        omega
     have hc00 := hM6.row
     have hbel6a : Below W.heap.size W (w6.alloc (.cells (natA C.length) 3)) := hbelW6.alloc (by omega) _
     have hAc : Asd (fun k => k = xpb ∨ (Sl.v ⟨qa, qn, qc⟩).ownBlock = some k) (w6.alloc (.cells (natA C.length) 3)) (wa.setCell ⟨xpb, 68, none⟩ (Sl.v ⟨pa, pn, pc⟩)) :=
       ((asd_grown hgr).mono fun k _ e => .inr e).trans ((asd_set wa ⟨xpb, 68, none⟩ _).mono fun k _ e => .inl e)
     have hAW7 : Hid (Asd (MutS T) W (wa.setCell ⟨xpb, 68, none⟩ (Sl.v ⟨pa, pn, pc⟩))) := Lib.hid ((below_fresh hbel6a (MutS T)).trans' hAc fun k hk hm => by
      have h0 := chAt_lt hi0
      have h1 := hok.len
      have h2 := hkp.tb
      simp only at h2
      unfold MutS
      rw [← hT1a k hk]
      rcases hm with e | e
      ·rw [e]
       omega
      ·have h3 := hkp.tc k e
       omega)
     have hT2a : ∀ k, k < W.heap.size → T2 k = T k := fun k hk => by
      rw [hT2, tagB_old (by omega)]
      exact hT1a k hk
     have hT2b : T2 b4 = 4 + 2 * (C.length + 1) := by
      rw [hT2, tagB_old (by omega)]
      exact hT1b
     have hm7 : ∀ q : Nat, q < w6.heap.size → W.heap.size ≤ q → q ≠ bx → q ≠ b4 → (wa.setCell ⟨xpb, 68, none⟩ (Sl.v ⟨pa, pn, pc⟩)).heap[q]? = w6.heap[q]? := fun q hq hqW hqx hq4 => by
      have h1 := hT1c q hqW hqx hq4
      refine (hA7.block q (by omega) fun e => e h1).trans (Below.heap_alloc w6 _ q hq)
     have hx67 : row? (wa.setCell ⟨xpb, 68, none⟩ (Sl.v ⟨pa, pn, pc⟩)) b6 0 33 = some (pointA p) := by
      have h1 := (row?_below _ _ _ hbel46 (show b6 < bx by omega)).trans hrow64
      have h2 := hm7 b6 (by omega) (by omega) (by omega) (by omega)
      unfold row? at h1 ⊢
      rw [h2]
      exact h1
     have hpn := Lib.hid (show p.name = hdName h by rw [hpp.out])
     have hnn : p.name ∉ C.map (·.p.name) := fun hin => by
      obtain ⟨bb, h1, h2⟩ := List.mem_map.1 hin
      exact chAt_none hnone bb h1 (h2.trans hpn.out)
     obtain ⟨G7, hG7⟩ : ∃ G7, G7 = G.set i0 ⟨xpb, xpg, xpu, ⟨pa, pn, pc⟩⟩ := ⟨_, rfl⟩
     have hM7' : ChM B T2 (wa.setCell ⟨xpb, 68, none⟩ (Sl.v ⟨pa, pn, pc⟩)) cb sA mb G7 C (ups C) (fun j => if j = i0 then chs C i0 ++ [C.length] else chs C j) (C.map (·.p.name)) := by
      rw [hG7]
      exact hM7
     have hrow47 : row? (wa.setCell ⟨xpb, 68, none⟩ (Sl.v ⟨pa, pn, pc⟩)) b4 0 33 = some (pointA zeroPt) ∧ there (wa.setCell ⟨xpb, 68, none⟩ (Sl.v ⟨pa, pn, pc⟩)) b4 0 33 := by
      have h1 := (row?_below _ _ _ hbel46 (show b4 < bx by omega)).trans hrow44
      have h1t := there_below hbel46 (show b4 < bx by omega) hth44
      have h2 : wa.heap[b4]? = w6.heap[b4]? := (hgr.block b4 (by simp; omega) fun e => by
       have h3 := hkp.tc b4 e.symm
       have := chAt_lt hi0
       omega).trans (Below.heap_alloc w6 _ b4 (by omega))
      have hne4 : b4 ≠ xpb := fun e => by
       have h3 := hkp.tb
       simp only at h3
       rw [← e] at h3
       have := chAt_lt hi0
       omega
      refine ⟨?_, there_set _ _ _ _ _ _ fun j hj => ?_⟩
      ·rw [row?_far _ _ _ _ _ _ hne4]
       unfold row? at h1 ⊢
       rw [h2]
       exact h1
      ·have := h1t j hj
       rw [World.cell?_of_block (a := ⟨b4, 0 + j, none⟩) h2, World.frozen?_of_block (a := ⟨b4, 0 + j, none⟩) h2]
       exact this
     obtain ⟨hr47, ht47⟩ := hrow47
     obtain ⟨w7, hw7⟩ : ∃ w7, w7 = wa.setCell ⟨xpb, 68, none⟩ (Sl.v ⟨pa, pn, pc⟩) := ⟨_, rfl⟩
     rw [← hw7] at hM7' hX7 hAW7 hx67 hr47 ht47
     have hw7' : wa.setCell ⟨xpb, 68, none⟩ (.slice pa pn pc) = w7 := hw7.symm
     rw [hw7']
     have hcbW := hVI.out.lt
     have hmbW := hVI.out.map.lt
     have habW := hVI.out.abl
     have hsA : sA.v = .slice (some ⟨ab, 0, none⟩) C.length sA.c := by
      show Value.slice sA.a sA.n sA.c = _
      rw [hab, hsn]
     have howA : ∀ q, sA.v.ownBlock = some q → q = ab := fun q hq => by
      rw [hsA] at hq
      simp [Value.ownBlock] at hq
      exact hq.symm
     have hFin0 : ∀ V : List Value, HFin B w7 cb mb bx C.length sA G7 ⟨bx, gx, ⟨sa', sn', sc'⟩, ⟨none, 0, 0⟩⟩ (C.map (·.p.name)) p.name [false, false, false, false, false, false] V w7.drew := fun V =>
      ⟨(Asd.refl _ _).drew, ⟨hM7'.hB, hM7'.lt, hM7'.map.lt, fun e => by
       have h1 := hM7'.tcb
       have h2 := hM7'.tmap
       rw [e] at h1
       omega, fun e => by
       have h1 := hM7'.tall cb e
       have h2 := hM7'.tcb
       omega, fun e => by
       have h1 := hM7'.tall mb e
       have h2 := hM7'.tmap
       omega, fun q hq => (OwnC.lt hM7'.all q hq).2, rfl, by simp⟩, fun hl => (by cases hl), fun _ => hM7'.all.keep ((Below.refl _ w7).drew), fun hl => (by cases hl), hM7'.row, hM7'.thr, fun hl => (by cases hl), fun _ => hM7'.map.keep ((Below.refl _ w7).drew) hM7'.map.lt, fun hl => (by cases hl), fun hl => (by cases hl), fun hl => (by cases hl)⟩
     have hG7l : G7.length ≤ 1000000 := by
      rw [hM7'.glen]
      have := hok.len
      omega
     have hrow67 := row_part hx67 1 32 (by omega)
     rw [pointA_name] at hrow67
     have hb6n : ¬ (b6 = cb ∨ b6 = mb ∨ sA.v.ownBlock = some b6) := fun e => by
      rcases e with e | e | e
      ·omega
      ·omega
      ·have := howA b6 e
       omega
     have hb4n : ¬ (b4 = cb ∨ b4 = mb ∨ sA.v.ownBlock = some b4) := fun e => by
      rcases e with e | e | e
      ·omega
      ·omega
      ·have := howA b4 e
       omega
     have hb47 : b4 < w7.heap.size := lt_of_row hr47
     clear hw7 hw7' hM7 hA7 hX6a hM6a hM6 hX6 hkp hcp hbN hrun hgr hob hob2 hfar hcpa hfz hV6 hc00 hcl2 hown' hm7 hbel46 hbelW6 hbel6a hxp hbp hxpne hxpl hG7
     refine wp_region_freeI_l (by kernel_rfl) [101, 102, 103, 104, 105, 106, 107, 108, 109, 110, 111, 112, 113, 114, 115, 116, 117, 138, 118, 119, 141]
      [(fun v => v = .pointer (some ⟨cb, 0, none⟩)), (fun v => v = .pointer (some ⟨cb, 0, none⟩)), (fun v => v = .pointer (some ⟨cb, 0, none⟩)), (fun v => v = .pointer (some ⟨cb, 1, none⟩)), (fun v => v = .map (some mb)), (fun v => v = .pointer (some ⟨b6, 1, none⟩)), (fun v => v = .agg (hashA p.name)), (fun v => v = .pointer (some ⟨cb, 0, none⟩)), (fun v => v = .pointer (some ⟨cb, 0, none⟩)), (fun v => v = .pointer (some ⟨cb, 0, none⟩)), (fun v => v = .slice (some ⟨ab, 0, none⟩) C.length sA.c), (fun v => v = .pointer (some ⟨bx, 0, none⟩)), (fun v => ∃ a, v = .slice (some ⟨a, 0, none⟩) 1 1), (fun v => ∃ s : Sl, v = s.v), (fun v => v = .int .i64 (C.length : Int)), (fun v => v = .pointer (some ⟨cb, 0, none⟩)), (fun v => v = .pointer (some ⟨cb, 0, none⟩)), (fun _ => True), (fun v => ∃ st : Nat, v = .tuple #[.int .i64 0, .int .i64 (st : Int)]), (fun v => ∃ st : Nat, v = .int .i64 (st : Int)), (fun _ => True)]
      [12, 13, 17, 18, 19, 20] (HFin B w7 cb mb bx C.length sA G7 ⟨bx, gx, ⟨sa', sn', sc'⟩, ⟨none, 0, 0⟩⟩ (C.map (·.p.name)) p.name) [[15, 16, 17], [2, 3, 4, 18, 19, 20], [3, 4, 18, 19, 20], [4, 18, 19, 20], [18, 19, 20], [6, 18, 19, 20], [18, 19, 20], [8, 9, 10, 13, 17], [9, 10, 13, 17], [10, 13, 17], [13, 17], [12, 13, 17], [13, 17], [17], [20], [16, 17], [17], [], [19, 20], [20], []] (by kernel_rfl) (by kernel_rfl) ?_ ?_ ?_
     ·show HFin B w7 cb mb bx C.length sA G7 ⟨bx, gx, ⟨sa', sn', sc'⟩, ⟨none, 0, 0⟩⟩ (C.map (·.p.name)) p.name [false, false, false, false, false, false] [_, _, _, _, _, _] _
      exact hFin0 _
     ·refine ⟨?_, ?_, ?_, ?_, ?_, ?_, ?_, ?_, ?_, ?_, ?_, ?_, ?_, ?_, ?_, ?_, ?_, ?_, ?_, ?_, ?_, trivial⟩
      ·intro L ax W hf hLi hno hd
       try simp [Region.binds] at hd
       have e0 : ax.tmps[0]?.getD undef = .pointer (some ⟨cb, 0, none⟩) := hf.out 0 (by decide) rfl
       refine ⟨fun _ => ?_, fun h => absurd trivial h⟩
       refine freeI_run (v := .pointer (some ⟨cb, 0, none⟩)) rfl hf (by decide) ?_ rfl
       go_simp
      ·intro L ax W hf hLi hno hd
       try simp [Region.binds] at hd
       have e0 : ax.tmps[0]?.getD undef = .pointer (some ⟨cb, 0, none⟩) := hf.out 0 (by decide) rfl
       refine ⟨fun _ => ?_, fun h => absurd trivial h⟩
       refine freeI_run (v := .pointer (some ⟨cb, 0, none⟩)) rfl hf (by decide) ?_ rfl
       go_simp
      ·intro L ax W hf hLi hno hd
       simp [Region.binds] at hd
       have e102 : ax.tmps[102]?.getD undef = .pointer (some ⟨cb, 0, none⟩) := slv (hf.got 1 (by decide) (by simp [hd]))
       refine ⟨fun _ => ?_, fun h => absurd trivial h⟩
       refine freeI_run (v := .pointer (some ⟨cb, 0, none⟩)) rfl hf (by decide) ?_ rfl
       go_simp
      ·intro L ax W hf hLi hno hd
       simp [Region.binds] at hd
       have e103 : ax.tmps[103]?.getD undef = .pointer (some ⟨cb, 0, none⟩) := slv (hf.got 2 (by decide) (by simp [hd]))
       refine ⟨fun _ => ?_, fun h => absurd trivial h⟩
       refine freeI_run (v := .pointer (some ⟨cb, 1, none⟩)) rfl hf (by decide) ?_ rfl
       go_simp
      ·intro L ax W hf hLi hno hd
       simp [Region.binds] at hd
       have e104 : ax.tmps[104]?.getD undef = .pointer (some ⟨cb, 1, none⟩) := slv (hf.got 3 (by decide) (by simp [hd]))
       refine ⟨fun _ => ?_, fun h => absurd trivial h⟩
       have hG : HFin B w7 cb mb bx C.length sA G7 ⟨bx, gx, ⟨sa', sn', sc'⟩, ⟨none, 0, 0⟩⟩ (C.map (·.p.name)) p.name [L 12, L 13, L 17, L 18, L 19, L 20] [sl ax 113, sl ax 114, sl ax 138, sl ax 118, sl ax 119, sl ax 141] W := hf.glob
       have hc1 := hG.c1
       refine freeI_run (v := .map (some mb)) rfl hf (by decide) ?_ rfl
       go_simp
      ·intro L ax W hf hLi hno hd
       try simp [Region.binds] at hd
       have e6 : ax.tmps[6]?.getD undef = .pointer (some ⟨b6, 0, none⟩) := hf.out 6 (by decide) rfl
       refine ⟨fun _ => ?_, fun h => absurd trivial h⟩
       refine freeI_run (v := .pointer (some ⟨b6, 1, none⟩)) rfl hf (by decide) ?_ rfl
       go_simp
      ·intro L ax W hf hLi hno hd
       simp [Region.binds] at hd
       have e106 : ax.tmps[106]?.getD undef = .pointer (some ⟨b6, 1, none⟩) := slv (hf.got 5 (by decide) (by simp [hd]))
       refine ⟨fun _ => ?_, fun h => absurd trivial h⟩
       have hG : HFin B w7 cb mb bx C.length sA G7 ⟨bx, gx, ⟨sa', sn', sc'⟩, ⟨none, 0, 0⟩⟩ (C.map (·.p.name)) p.name [L 12, L 13, L 17, L 18, L 19, L 20] [sl ax 113, sl ax 114, sl ax 138, sl ax 118, sl ax 119, sl ax 141] W := hf.glob
       have hc6 := hG.asd.row hb6n hrow67
       refine freeI_run (v := .agg (hashA p.name)) rfl hf (by decide) ?_ rfl
       go_simp
      ·intro L ax W hf hLi hno hd
       try simp [Region.binds] at hd
       have e0 : ax.tmps[0]?.getD undef = .pointer (some ⟨cb, 0, none⟩) := hf.out 0 (by decide) rfl
       refine ⟨fun _ => ?_, fun h => absurd trivial h⟩
       refine freeI_run (v := .pointer (some ⟨cb, 0, none⟩)) rfl hf (by decide) ?_ rfl
       go_simp
      ·intro L ax W hf hLi hno hd
       simp [Region.binds] at hd
       have e108 : ax.tmps[108]?.getD undef = .pointer (some ⟨cb, 0, none⟩) := slv (hf.got 7 (by decide) (by simp [hd]))
       refine ⟨fun _ => ?_, fun h => absurd trivial h⟩
       refine freeI_run (v := .pointer (some ⟨cb, 0, none⟩)) rfl hf (by decide) ?_ rfl
       go_simp
      ·intro L ax W hf hLi hno hd
       simp [Region.binds] at hd
       have e109 : ax.tmps[109]?.getD undef = .pointer (some ⟨cb, 0, none⟩) := slv (hf.got 8 (by decide) (by simp [hd]))
       refine ⟨fun _ => ?_, fun h => absurd trivial h⟩
       refine freeI_run (v := .pointer (some ⟨cb, 0, none⟩)) rfl hf (by decide) ?_ rfl
       go_simp
      ·intro L ax W hf hLi hno hd
       simp [Region.binds] at hd
       have e110 : ax.tmps[110]?.getD undef = .pointer (some ⟨cb, 0, none⟩) := slv (hf.got 9 (by decide) (by simp [hd]))
       refine ⟨fun _ => ?_, fun h => absurd trivial h⟩
       have hG : HFin B w7 cb mb bx C.length sA G7 ⟨bx, gx, ⟨sa', sn', sc'⟩, ⟨none, 0, 0⟩⟩ (C.map (·.p.name)) p.name [L 12, L 13, L 17, L 18, L 19, L 20] [sl ax 113, sl ax 114, sl ax 138, sl ax 118, sl ax 119, sl ax 141] W := hf.glob
       have hc0 := hG.c0 (hno 17 (by decide))
       rw [hsA] at hc0
       refine freeI_run (v := .slice (some ⟨ab, 0, none⟩) C.length sA.c) rfl hf (by decide) ?_ rfl
       go_simp
      ·intro L ax W hf hLi hno hd
       try simp [Region.binds] at hd
       have e9 : ax.tmps[9]?.getD undef = .pointer (some ⟨bx, 0, none⟩) := hf.out 9 (by decide) rfl
       refine ⟨fun _ => ?_, fun h => absurd trivial h⟩
       refine freeI_run (v := .pointer (some ⟨bx, 0, none⟩)) rfl hf (by decide) ?_ rfl
       go_simp
      ·intro L ax W hf hLi hno hd
       simp [Region.binds] at hd
       have e112 : ax.tmps[112]?.getD undef = .pointer (some ⟨bx, 0, none⟩) := slv (hf.got 11 (by decide) (by simp [hd]))
       refine ⟨fun _ => ?_, fun h => absurd trivial h⟩
       have hG : HFin B w7 cb mb bx C.length sA G7 ⟨bx, gx, ⟨sa', sn', sc'⟩, ⟨none, 0, 0⟩⟩ (C.map (·.p.name)) p.name [L 12, L 13, L 17, L 18, L 19, L 20] [sl ax 113, sl ax 114, sl ax 138, sl ax 118, sl ax 119, sl ax 141] W := hf.glob
       have hbs := show (bsP #[(0, ptrV bx)]).run Tryz.prog W = _ from bsP_one bx W
       unfold ptrV at hbs
       refine freeI_val (v := .slice (some ⟨W.heap.size, 0, none⟩) 1 1) (W' := W.alloc (.cells #[ptrV bx] 63)) rfl ?_ ⟨_, rfl⟩ ?_
       ·unfold ptrV
        go_simp
       ·exact hG.lit
      ·intro L ax W hf hLi hno hd
       simp [Region.binds] at hd
       have e111 : ax.tmps[111]?.getD undef = .slice (some ⟨ab, 0, none⟩) C.length sA.c := slv (hf.got 10 (by decide) (by simp [hd]))
       have f113 : (fun v => ∃ a, v = .slice (some ⟨a, 0, none⟩) 1 1) (sl ax 113) := hf.got 12 (by decide) (by simp [hd])
       refine ⟨fun _ => ?_, fun h => absurd trivial h⟩
       have hG : HFin B w7 cb mb bx C.length sA G7 ⟨bx, gx, ⟨sa', sn', sc'⟩, ⟨none, 0, 0⟩⟩ (C.map (·.p.name)) p.name [L 12, L 13, L 17, L 18, L 19, L 20] [sl ax 113, sl ax 114, sl ax 138, sl ax 118, sl ax 119, sl ax 141] W := hf.glob
       have hl12 : L 12 = true := by simp [hd]
       obtain ⟨a, e113⟩ := f113
       obtain ⟨s', W', hrun, hH⟩ := hG.app hl12 hLi (hno 17 (by decide)) hG7l e113
       have e113' := slv e113
       rw [hsA] at hrun
       dsimp only [Sl.v] at hrun
       refine freeI_val (v := s'.v) (W' := W') rfl ?_ ⟨s', rfl⟩ hH
       go_simp
      ·intro L ax W hf hLi hno hd
       try simp [Region.binds] at hd
       have e8 : ax.tmps[8]?.getD undef = .int .i64 (C.length : Int) := hf.out 8 (by decide) rfl
       refine ⟨fun _ => ?_, fun h => absurd trivial h⟩
       refine freeI_run (v := .int .i64 (C.length : Int)) rfl hf (by decide) ?_ rfl
       go_simp
      ·intro L ax W hf hLi hno hd
       simp [Region.binds] at hd
       have e101 : ax.tmps[101]?.getD undef = .pointer (some ⟨cb, 0, none⟩) := slv (hf.got 0 (by decide) (by simp [hd]))
       refine ⟨fun _ => ?_, fun h => absurd trivial h⟩
       refine freeI_run (v := .pointer (some ⟨cb, 0, none⟩)) rfl hf (by decide) ?_ rfl
       go_simp
      ·intro L ax W hf hLi hno hd
       simp [Region.binds] at hd
       have e116 : ax.tmps[116]?.getD undef = .pointer (some ⟨cb, 0, none⟩) := slv (hf.got 15 (by decide) (by simp [hd]))
       refine ⟨fun _ => ?_, fun h => absurd trivial h⟩
       refine freeI_run (v := .pointer (some ⟨cb, 0, none⟩)) rfl hf (by decide) ?_ rfl
       go_simp
      ·intro L ax W hf hLi hno hd
       simp [Region.binds] at hd
       have e117 : ax.tmps[117]?.getD undef = .pointer (some ⟨cb, 0, none⟩) := slv (hf.got 16 (by decide) (by simp [hd]))
       have f114 : (fun v => ∃ s : Sl, v = s.v) (sl ax 114) := hf.got 13 (by decide) (by simp [hd])
       refine ⟨fun _ => ?_, fun h => absurd trivial h⟩
       have hG : HFin B w7 cb mb bx C.length sA G7 ⟨bx, gx, ⟨sa', sn', sc'⟩, ⟨none, 0, 0⟩⟩ (C.map (·.p.name)) p.name [L 12, L 13, L 17, L 18, L 19, L 20] [sl ax 113, sl ax 114, sl ax 138, sl ax 118, sl ax 119, sl ax 141] W := hf.glob
       have hl13 : L 13 = true := by simp [hd]
       obtain ⟨s', e114⟩ := f114
       have e114' := slv e114
       have hc0 := hG.c0 hLi
       rw [hsA] at hc0
       have hfz := hG.fz
       refine freeI_store (W' := W.setCell ⟨cb, 0, none⟩ s'.v) rfl ?_ trivial ?_
       ·go_simp
       ·exact hG.put hl13 hLi e114
      ·intro L ax W hf hLi hno hd
       simp [Region.binds] at hd
       have e105 : ax.tmps[105]?.getD undef = .map (some mb) := slv (hf.got 4 (by decide) (by simp [hd]))
       have e107 : ax.tmps[107]?.getD undef = .agg (hashA p.name) := slv (hf.got 6 (by decide) (by simp [hd]))
       refine ⟨fun _ => ?_, fun h => absurd trivial h⟩
       have hG : HFin B w7 cb mb bx C.length sA G7 ⟨bx, gx, ⟨sa', sn', sc'⟩, ⟨none, 0, 0⟩⟩ (C.map (·.p.name)) p.name [L 12, L 13, L 17, L 18, L 19, L 20] [sl ax 113, sl ax 114, sl ax 138, sl ax 118, sl ax 119, sl ax 141] W := hf.glob
       obtain ⟨st, W', hrun, hH⟩ := hG.ent hLi (hno 20 (by decide)) hnn
       unfold hsV at hrun
       refine freeI_val (v := .tuple #[.int .i64 0, .int .i64 (st : Int)]) (W' := W') rfl ?_ ⟨st, rfl⟩ hH
       go_simp
      ·intro L ax W hf hLi hno hd
       simp [Region.binds] at hd
       have f118 : (fun v => ∃ st : Nat, v = .tuple #[.int .i64 0, .int .i64 (st : Int)]) (sl ax 118) := hf.got 18 (by decide) (by simp [hd])
       refine ⟨fun _ => ?_, fun h => absurd trivial h⟩
       have hG : HFin B w7 cb mb bx C.length sA G7 ⟨bx, gx, ⟨sa', sn', sc'⟩, ⟨none, 0, 0⟩⟩ (C.map (·.p.name)) p.name [L 12, L 13, L 17, L 18, L 19, L 20] [sl ax 113, sl ax 114, sl ax 138, sl ax 118, sl ax 119, sl ax 141] W := hf.glob
       have hl18 : L 18 = true := by simp [hd]
       obtain ⟨st, e118⟩ := f118
       have e118' := slv e118
       refine freeI_val (v := .int .i64 (st : Int)) (W' := W) rfl ?_ ⟨st, rfl⟩ (hG.ext hl18 e118 (hno 20 (by decide)))
       go_simp
      ·intro L ax W hf hLi hno hd
       simp [Region.binds] at hd
       have e105 : ax.tmps[105]?.getD undef = .map (some mb) := slv (hf.got 4 (by decide) (by simp [hd]))
       have f119 : (fun v => ∃ st : Nat, v = .int .i64 (st : Int)) (sl ax 119) := hf.got 19 (by decide) (by simp [hd])
       have e115 : ax.tmps[115]?.getD undef = .int .i64 (C.length : Int) := slv (hf.got 14 (by decide) (by simp [hd]))
       refine ⟨fun _ => ?_, fun h => absurd trivial h⟩
       have hG : HFin B w7 cb mb bx C.length sA G7 ⟨bx, gx, ⟨sa', sn', sc'⟩, ⟨none, 0, 0⟩⟩ (C.map (·.p.name)) p.name [L 12, L 13, L 17, L 18, L 19, L 20] [sl ax 113, sl ax 114, sl ax 138, sl ax 118, sl ax 119, sl ax 141] W := hf.glob
       have hl19 : L 19 = true := by simp [hd]
       obtain ⟨st, e119⟩ := f119
       obtain ⟨W', hrun, hH⟩ := hG.sto hl19 hLi e119
       have e119' := slv e119
       refine freeI_store (W' := W') rfl ?_ trivial hH
       go_simp
     ·intro vs2 wf hl2' hF2 hG2
      obtain ⟨g2, hg21, hg22⟩ := vs_litI vs2 hl2' hF2
      obtain ⟨s', hs', hos, hcs⟩ := hG2.lst1 rfl
      obtain ⟨-, hmf⟩ := hG2.map2 rfl
      have hrf : row? wf cb 0 2 = some #[s'.v, .map (some mb)] := by
       have := hG2.row
       rw [← hs']
       exact this
      have hcc := chAt_lt hi0
      have hpar : ∀ i j, parAt C i = some j → j < i := fun i j hj => (parAt_some hok hj).1
      have hch0 : chs C C.length = [] := List.eq_nil_iff_forall_not_mem.2 fun q hq => by
       have h1 := parAt_some hok (chs_mem.1 hq)
       omega
      obtain ⟨T3, hT3⟩ : ∃ T3, T3 = tagB T2 w7.heap.size s'.v.ownBlock 2 := ⟨_, rfl⟩
      obtain ⟨hM8, hA8⟩ := hM7'.grow (b := ⟨p, h, some i0⟩) (n := p.name) hX7 (by show (if C.length = i0 then _ else chs C C.length) = []; rw [if_neg (by omega)]; exact hch0) hG2.asd hrf hG2.thr hos hcs (by rw [idxs_snoc, List.length_map]; exact hmf) (T' := T3) (fun q hq => by rw [hT3]; exact tagB_old hq) (fun q hq ho => by rw [hT3]; exact tagB_new hq ho) (fun q hq ho => by
       rw [hT3] at ho
       exact (OwnC.lt hos q (tagB_ne hq ho)).1)
      have hr4f := hG2.asd.row hb4n hr47
      have ht4f := hG2.asd.there hb4n hb47 ht47
      have hr6f := hG2.asd.row hb6n hx67
      have hT3b : T3 b4 = 4 + 2 * (C ++ [(⟨p, h, some i0⟩ : Blk)]).length := by
       rw [hT3, tagB_old hb47, hT2b, List.length_append]
       rfl
      have hfin : ∃ wz, wz = putRow wf b4 0 (pointA p) ∧ Hid ((∃ T', ChR B T' wz cb D ∧ ∀ k, k < W.heap.size → T' k = T k) ∧ Asd (MutS T) W wz) := by
       refine ⟨_, rfl, Lib.hid ?_⟩
       obtain ⟨hM9, hA9⟩ := hM8.scratch hT3b (asd_put wf b4 0 (pointA p))
       have hlt7 : ∀ k, k < W.heap.size → k < w7.heap.size := fun k hk => Nat.lt_of_lt_of_le hk hAW7.out.size
       refine ⟨⟨T3, ⟨s', mb, G7 ++ [⟨bx, gx, ⟨sa', sn', sc'⟩, ⟨none, 0, 0⟩⟩], ?_⟩, fun k hk => by rw [hT3, tagB_old (hlt7 k hk)]; exact hT2a k hk⟩, ?_⟩
       ·have e1 : ups D = ups C ++ [climb (ups C) i0 0] := by rw [hDD.out, ups_snoc]
        have e2 : chs D = fun j => if j = i0 then chs C i0 ++ [C.length] else chs C j := by
         funext j
         rw [hDD.out, chs_old (fun q hq => by injection hq with hq; omega) hpar]
         by_cases hj : j = i0
         ·subst hj
          simp
         ·rw [if_neg hj, if_neg (fun e => hj (by injection e with e; exact e.symm)), List.append_nil]
        have e3 : D.map (·.p.name) = C.map (·.p.name) ++ [p.name] := by rw [hDD.out, List.map_append]; rfl
        rw [e1, e2, e3, hDD.out]
        exact hM9
       ·refine (hAW7.out.trans' hG2.asd fun k hk hm => ?_).trans' (asd_put wf b4 0 (pointA p)) fun k hk e => ?_
        ·unfold MutS
         rw [← hT2a k hk]
         rcases hm with e | e | e
         ·rw [e, hM7'.tcb]
          omega
         ·rw [e, hM7'.tmap]
          omega
         ·rw [hM7'.tall k e]
          omega
        ·have e' : k = b4 := e
         omega
      obtain ⟨wz, hwz, hfin⟩ := hfin
      rw [hg21]
      simp only [List.length_cons, List.length_nil, Nat.reduceAdd, show List.range 21 = [0, 1, 2, 3, 4, 5, 6, 7, 8, 9, 10, 11, 12, 13, 14, 15, 16, 17, 18, 19, 20] from rfl, List.map_cons, List.map_nil, slotsIn, putL, List.setIfInBounds_toArray, List.set_cons_succ, List.set_cons_zero, List.size_toArray, Nat.reduceLT, if_true, if_false]
      replace hwz := hwz.symm
      have hrz : row? wz b4 0 33 = some (pointA p) := by
       rw [← hwz]
       exact row?_put_same _ _ _ _ _ (by simp) (by omega) ht4f
      clear hg21 hg22 hs' hos hcs hmf hrf hM8 hA8 hG2 hF2 hl2' hT3b hT3 hch0 hpar
      go_wp2_with (with_reducible refine ret_row2 Tryz.isAgg26 Tryz.sizeOf26 chadd_res (x := .pointer (some ⟨b4, 0, none⟩)) (y := .int .i64 0) (b4) 0 ?rrhx (Eq.refl _) ?rrhy ?rrh ?rrhd ?rrhR; (case rrhx => simp only [Array.getD_eq_getD_getElem?, List.getElem?_toArray, List.getElem?_cons_succ, List.getElem?_cons_zero, Option.getD_some]); (case rrhy => simp only [Array.getD_eq_getD_getElem?, List.getElem?_toArray, List.getElem?_cons_succ, List.getElem?_cons_zero, Option.getD_some]); (case rrhd => exact rfl); (case rrh => go_simp); (case rrhR => ((first | (rw [hwz, hrz]; exact ⟨rfl, hfin.out⟩) | (rw [hrz]; exact ⟨rfl, hfin.out⟩)))))
end Go.Proofs.YthdjhbiigmcecaaGreat

/- The chain and the document's chain, side by side in memory. -/
namespace Go.Proofs.YthdjhbiigmcecaaGreat
open Go.RowKit

section
variable {B : Nat} {T : Nat → Nat} {W W' : World} {cb : Nat} {C : List Blk}
theorem ChR.keep (h : ChR B T W cb C) (hb : Below W.heap.size W W') : ChR B T W' cb C := by
 obtain ⟨sA, mb, G, h⟩ := h
 exact ⟨sA, mb, G, h.keep hb⟩
theorem ChR.retag (h : ChR B T W cb C) {T' : Nat → Nat} (hT : ∀ k, k < W.heap.size → T' k = T k) : ChR B T' W cb C := by
 obtain ⟨sA, mb, G, h⟩ := h
 exact ⟨sA, mb, G, h.retag hT⟩
theorem ChR.tB (h : ChR B T W cb C) : ∀ k, k < W.heap.size → T k ≠ 0 → B ≤ k := by
 obtain ⟨sA, mb, G, h⟩ := h
 exact h.tB
/-- blocks of great tags are changed: none of the chain's own -/
theorem ChR.offBig (h : ChR B T W cb C) (hl : C.length ≤ 100000) {M : Nat → Prop} (hb : Asd M W W') (hM : ∀ k, k < W.heap.size → M k → 1000000 ≤ T k) (hT : ∀ k, W.heap.size ≤ k → T k = 0) : ChR B T W' cb C := by
 obtain ⟨sA, mb, G, h⟩ := h
 have hn : ∀ k, k < W.heap.size → T k < 1000000 → ¬ M k := fun k hk ht hm => by
  have := hM k hk hm
  omega
 have hO : Asd (Mut T) W W' := hb.mono fun k hk hm => by
  have := hM k hk hm
  unfold Mut
  omega
 have hM' : ∀ P : World → Prop, Safe (Mut T) W P → Safe (Mut T) W' P := fun P hs => hs.step hO fun _ _ h => h
 refine ⟨sA, mb, G, hb.row (hn _ h.lt (by rw [h.tcb]; omega)) h.row, hb.there (hn _ h.lt (by rw [h.tcb]; omega)) h.lt h.thr, h.tcb, h.all.off hb fun g hg => hn g (OwnC.lt h.all g hg).2 (by rw [h.tall g hg]; omega), h.tall,
  h.map.of_block (hb.block _ h.map.lt (hn _ h.map.lt (by rw [h.tmap]; omega))), h.tmap, fun k hk ht => ?_, Nat.le_trans h.hB hb.size, h.glen, h.ulen, fun i x b hx hbk => ?_⟩
 ·rcases Nat.lt_or_ge k W.heap.size with hlt | hge
  ·exact h.tB k hlt ht
  ·exact absurd (hT k hge) ht
 ·have hk := h.blk i x b hx hbk
  have hi : i < C.length := (List.getElem?_eq_some_iff.1 hbk).1
  have n1 := hn _ hk.lt (by rw [hk.tb]; omega)
  exact ⟨hb.row n1 hk.row, hb.there n1 hk.lt hk.thr, hk.ob.imp fun _ h => h.imp fun _ h => (hb.block _ hk.lt n1).trans h, hk.tb, hM' _ hk.hdr, hM' _ hk.up, hk.ch.off hb fun g hg => hn g (OwnC.lt hk.ch g hg).2 (by rw [hk.tc g hg]; omega), hk.tc⟩
end
/-- both: the document's box has a great tag, its rows have none -/
structure Both (w0 : World) (B : Nat) (T : Nat → Nat) (W : World) (cb cr : Nat) (C D : List Blk) : Prop where
 real : ChR B T W cb C
 tag : T cr = 2000000
 doc : ∃ rb cap G, RefC w0 W cr rb cap G D ∧ T rb = 0
 le : w0.heap.size ≤ B
section
variable {w0 W W' : World} {B : Nat} {T : Nat → Nat} {cb cr : Nat} {C D : List Blk}
theorem Both.keep (h : Both w0 B T W cb cr C D) (hb : Below W.heap.size W W') : Both w0 B T W' cb cr C D := by
 obtain ⟨rb, cap, G, hR, h0⟩ := h.doc
 exact ⟨h.real.keep hb, h.tag, ⟨rb, cap, G, hR.keep hb, h0⟩, h.le⟩
/-- a block more, by the chain -/
theorem Both.addReal (h : Both w0 B T W cb cr C D) {C' : List Blk} {T' : Nat → Nat} (hC : ChR B T' W' cb C') (hT : ∀ k, k < W.heap.size → T' k = T k) (hA : Asd (MutS T) W W') : Both w0 B T' W' cb cr C' D := by
 obtain ⟨rb, cap, G, hR, h0⟩ := h.doc
 refine ⟨hC, (hT _ hR.cbW).trans h.tag, ⟨rb, cap, G, hR.off hA (fun k hk => ?_) (fun hk => ?_) (fun hk => ?_), (hT _ hR.lt).trans h0⟩, h.le⟩
 ·rcases Nat.lt_or_ge k W.heap.size with hlt | hge
  ·exact Nat.le_trans h.le (h.real.tB k hlt hk.1)
  ·exact Nat.le_trans hR.bel.size hge
 ·have := hk.2
  rw [h.tag] at this
  omega
 ·exact hk.1 h0
/-- a block more, by the document (rb: where its rows lay) -/
theorem Both.addDoc (h : Both w0 B T W cb cr C D) (hl : C.length ≤ 100000) {D' : List Blk} {rb : Nat} (hrb : T rb = 0) (hD : ∃ rb' cap G, (rb' = rb ∨ W.heap.size ≤ rb') ∧ RefC w0 W' cr rb' cap G D') (hA : Asd (fun k => k = cr) W W') : ∃ T', Both w0 B T' W' cb cr C D' ∧ ∀ k, k < W.heap.size → T' k = T k := by
 obtain ⟨_, _, _, hR, -⟩ := h.doc
 obtain ⟨rb', cap', G', hn, hR'⟩ := hD
 have hT : ∀ k, k < W.heap.size → (if k < W.heap.size then T k else 0) = T k := fun k hk => if_pos hk
 refine ⟨fun k => if k < W.heap.size then T k else 0, ⟨(h.real.retag (T' := fun k => if k < W.heap.size then T k else 0) hT).offBig hl hA (fun k hk e => ?_) (fun k hk => if_neg (by omega)), ?_, ⟨rb', cap', G', hR', ?_⟩, h.le⟩, hT⟩
 ·have e' : k = cr := e
  show 1000000 ≤ (if k < W.heap.size then T k else 0)
  rw [if_pos hk, e', h.tag]
  omega
 ·show (if cr < W.heap.size then T cr else 0) = 2000000
  rw [if_pos hR.cbW]
  exact h.tag
 ·show (if rb' < W.heap.size then T rb' else 0) = 0
  rcases hn with q | q
  ·rw [q, hrb]
   simp
  ·rw [if_neg (by omega)]
/-- a header more, by the document: a contract -/
theorem Both.docAdd (h : Both w0 B T W cb cr C D) (hl : C.length ≤ 100000) (hok : ChnOk D) {g : GHeader} {hd : Hdr} (hr : HdrR w0 g hd) (hops : hd.ops.length ≤ 1000000) :
  Calls Tryz.prog 9 #[ptrV cr, .agg (headerA g)] W fun r w' => r = .returned (.tuple #[.agg (pointA (chCheck D hd).1), .int .i64 (chCheck D hd).2]) ∧ (∃ T', Both w0 B T' w' cb cr C (chAdd D hd) ∧ ∀ k, k < W.heap.size → T' k = T k) ∧ Asd (fun k => k = cr) W w' := by
 obtain ⟨rb, cap, G, hR, h0⟩ := h.doc
 refine (radd_c hR hok hr hops).mono ?_
 rintro r w' ⟨e, hD, hA⟩
 exact ⟨e, h.addDoc hl h0 hD hA, hA⟩
/-- a header more, by the chain: a contract -/
theorem Both.realAdd (h : Both w0 B T W cb cr C D) (hok : ChnOk C) {g : GHeader} {hd : Hdr} (hr : HdrR W g hd) (hf : HdrFits hd) :
  Calls Tryz.prog 8 #[ptrV cb, .agg (headerA g)] W fun r w' => r = .returned (.tuple #[.agg (pointA (chCheck C hd).1), .int .i64 (chCheck C hd).2]) ∧ (∃ T', Both w0 B T' w' cb cr (chAdd C hd) D ∧ ∀ k, k < W.heap.size → T' k = T k) ∧ Asd (MutS T) W w' := by
 refine (chadd_c h.real hok hr hf).mono ?_
 rintro r w' ⟨e, ⟨T', hC, hT⟩, hA⟩
 exact ⟨e, ⟨T', h.addReal hC hT hA, hT⟩, hA⟩
end
end Go.Proofs.YthdjhbiigmcecaaGreat

/- Acts, plainly: what chain they make. -/
namespace Go.Proofs.YthdjhbiigmcecaaGreat
open Go.RowKit

/-- the place that a number names, of n places -/
def pickI (x : Int) (n : Nat) : Int := (x.tmod n + n).tmod n
theorem pickI_lt (x : Int) {n : Nat} (hn : 0 < n) : 0 ≤ pickI x n ∧ pickI x n < n := by
 have hp : (0 : Int) < n := by omega
 have h1 : -(n : Int) < x.tmod n := by
  have := Int.lt_tmod_of_pos x hp
  omega
 have h2 : x.tmod n < n := Int.tmod_lt_of_pos x hp
 unfold pickI
 have h3 : 0 ≤ x.tmod n + n := by omega
 exact ⟨Int.tmod_nonneg _ h3, Int.tmod_lt_of_pos _ hp⟩
def pickN (x : Int) (n : Nat) : Nat := (pickI x n).toNat
theorem pickN_lt (x : Int) {n : Nat} (hn : 0 < n) : pickN x n < n := by
 have := pickI_lt x hn
 unfold pickN
 omega
theorem chAdd_len (C : List Blk) (h : Hdr) : (chAdd C h).length ≤ C.length + 1 := by
 unfold chAdd
 split <;> simp
end Go.Proofs.YthdjhbiigmcecaaGreat

/- landmarklaw10.do: what it calls, over both chains. -/
namespace Go.Proofs.YthdjhbiigmcecaaGreat
open Go.RowKit

theorem ChR.under_c {B : Nat} {T : Nat → Nat} {W : World} {cb : Nat} {C : List Blk} (h : ChR B T W cb C) (hok : ChnOk C) (n a : Hash) :
  Calls Tryz.prog 25 #[ptrV cb, .agg (hashA n), .agg (hashA a)] W fun e w' => e = .returned (.bool (chUnder C n a)) ∧ Below W.heap.size W w' := by
 obtain ⟨sA, mb, G, hM⟩ := h
 obtain ⟨ab, -, -, hv⟩ := hM.view hok.pos
 exact Go.Proofs.YthdjhbiigmcecaaGreat.under_c hv hok n a
section
variable {w0 W : World} {B : Nat} {T : Nat → Nat} {cb cr : Nat} {C D : List Blk}
end
theorem splice_header_parent (o : GHeader) (n : Hash) : splice (headerA o) 0 (hashA n) = headerA { o with parent := n } := by
 have h := splice_mid #[] (hashA o.parent) (hashA n) #[.int .u64 (o.epoch.toNat : Int), o.ops.v] 0 rfl (by simp)
 rw [Array.empty_append, Array.empty_append] at h
 exact h
/-- a place's name leads to the place -/
theorem chAt_self {C : List Blk} (hok : ChnOk C) {i : Nat} (hi : i < C.length) : chAt C C[i].p.name = some i := by
 refine chAt_hit hi (fun j b hj hb e => ?_) rfl
 have hjl : j < C.length := by omega
 have hb' : C[j] = b := by
  rw [List.getElem?_eq_getElem hjl] at hb
  injection hb
 have hnd := hok.names
 have h1 := List.pairwise_iff_getElem.1 hnd j i (by simpa using hjl) (by simpa using hi) hj
 simp only [List.getElem_map] at h1
 exact h1 (by rw [hb', e])
/-- both say the same of ancestors -/
theorem under_same {C : List Blk} (hok : ChnOk C) {i j : Nat} (hi : i < C.length) (hj : j < C.length) : chUnder C C[i].p.name C[j].p.name = rUnder C (some i) (some j) := by
 unfold chUnder rUnder
 rw [chAt_self hok hi, chAt_self hok hj]
end Go.Proofs.YthdjhbiigmcecaaGreat
