/- Texts of this proof, one behind the other: DoW, UndP, ClaP, ClaR, ClaF, ZfMapPts. -/
import Derived.Test.YthdjhbiigmcecaaGreatCAW
import Derived.Test.YthdjhbiigmcecaaGreatCAQ
import Derived.Test.YthdjhbiigmcecaaGreatCAI
import Derived.BigQuiet
import Derived.Deep.CutRange
import Derived.Test.YthdjhbiigmcecaaGreatCAX
import Derived.Deep.CutBlock
import Derived.OwnWalk
import Derived.Test.YthdjhbiigmcecaaGreatCAC
import Derived.Test.YthdjhbiigmcecaaGreatCAG
import Derived.DeepKeys3
import Derived.WideKeyRuns
set_option linter.unusedVariables false
set_option linter.unusedSimpArgs false
/- The walk of landmarklaw10.do. -/
namespace Go.Proofs.YthdjhbiigmcecaaGreat
open Go.RowKit

theorem Both.bel {w0 W : World} {B : Nat} {T : Nat → Nat} {cb cr : Nat} {C D : List Blk} (h : Both w0 B T W cb cr C D) : Below w0.heap.size w0 W := by
 obtain ⟨rb, cap, G, hR, -⟩ := h.doc
 exact hR.bel
/-- what is not made yet has a tag of its own -/
theorem Both.fresh {w0 W : World} {B : Nat} {T : Nat → Nat} {cb cr : Nat} {C D : List Blk} (h : Both w0 B T W cb cr C D) : ∃ T', Both w0 B T' W cb cr C D ∧ (∀ k, W.heap.size ≤ k → T' k = 2500000) ∧ ∀ k, k < W.heap.size → T' k = T k := by
 obtain ⟨rb, cap, G, hR, h0⟩ := h.doc
 refine ⟨fun k => if k < W.heap.size then T k else 2500000, ⟨h.real.retag fun k hk => if_pos hk, ?_, ⟨rb, cap, G, hR, ?_⟩, h.le⟩, fun k hk => if_neg (by omega), fun k hk => if_pos hk⟩
 ·show (if cr < W.heap.size then T cr else 2500000) = 2000000
  rw [if_pos hR.cbW]
  exact h.tag
 ·show (if rb < W.heap.size then T rb else 2500000) = 0
  rw [if_pos hR.lt]
  exact h0
/-- a block of that tag is written -/
theorem Both.put {w0 W : World} {B : Nat} {T : Nat → Nat} {cb cr : Nat} {C D : List Blk} (h : Both w0 B T W cb cr C D) (hl : C.length ≤ 100000) {b : Nat} (hb : b < W.heap.size) (ht : T b = 2500000) (off : Nat) (xs : Array Value) :
  ∃ T', Both w0 B T' (putRow W b off xs) cb cr C D ∧ ∀ k, k < W.heap.size → T' k = T k := by
 obtain ⟨rb, cap, G, hR, h0⟩ := h.doc
 have hT : ∀ k, k < W.heap.size → (if k < W.heap.size then T k else 0) = T k := fun k hk => if_pos hk
 refine ⟨fun k => if k < W.heap.size then T k else 0, ⟨(h.real.retag (T' := fun k => if k < W.heap.size then T k else 0) hT).offBig hl (asd_put W b off xs) (fun k hk e => ?_) (fun k hk => if_neg (by omega)), (hT _ hR.cbW).trans h.tag, ⟨rb, cap, G, hR.off (asd_put W b off xs) (fun k e => ?_) (fun e => ?_) (fun e => ?_), (hT _ hR.lt).trans h0⟩, h.le⟩, hT⟩
 ·have e' : k = b := e
  show 1000000 ≤ (if k < W.heap.size then T k else 0)
  rw [if_pos hk, e', ht]
  omega
 ·have e' : k = b := e
  rw [e']
  exact Nat.le_trans h.le (h.real.tB b hb (by omega))
 ·have e' : cr = b := e
  have := h.tag
  rw [e', ht] at this
  omega
 ·have e' : rb = b := e
  rw [e', ht] at h0
  omega
theorem Both.retag {w0 W : World} {B : Nat} {T T' : Nat → Nat} {cb cr : Nat} {C D : List Blk} (h : Both w0 B T W cb cr C D) (hT : ∀ k, k < W.heap.size → T' k = T k) : Both w0 B T' W cb cr C D := by
 obtain ⟨rb, cap, G, hR, h0⟩ := h.doc
 exact ⟨h.real.retag hT, (hT _ hR.cbW).trans h.tag, ⟨rb, cap, G, hR, (hT _ hR.lt).trans h0⟩, h.le⟩
theorem t10_point_guard : Tryz.prog.eqGuardType Tryz.prog.depth 26 = false := by kernel_rfl
theorem pick_in (x : Int) (n : Nat) (hn : 0 < n) (hb : n ≤ 100000) : 0 ≤ (x.tmod n + n).tmod n ∧ (x.tmod n + n).tmod n < n ∧ -100000 < x.tmod n ∧ x.tmod n < 100000 := by
 have h1 := Int.tmod_lt_of_pos x (show (0 : Int) < n by omega)
 have h2 : -(n : Int) < x.tmod n := Int.lt_tmod_of_pos x (by omega)
 have h3 : 0 ≤ x.tmod n + n := by omega
 exact ⟨Int.tmod_nonneg _ h3, Int.tmod_lt_of_pos _ (by omega), by omega, by omega⟩
/-- what is tagged as another's, or not at all, stays -/
def Fr (T : Nat → Nat) (W : World) (T' : Nat → Nat) (W' : World) : Prop := W.heap.size ≤ W'.heap.size ∧ ∀ k, k < W.heap.size → T' k = T k ∧ (T k = 0 ∨ T k = 3000000 → W'.heap[k]? = W.heap[k]?)
theorem Fr.refl (T : Nat → Nat) (W : World) : Fr T W T W := ⟨Nat.le_refl _, fun _ _ => ⟨rfl, fun _ => rfl⟩⟩
theorem Fr.below {T T1 : Nat → Nat} {W W1 W2 : World} (h : Fr T W T1 W1) (hb : Below W1.heap.size W1 W2) : Fr T W T1 W2 :=
 ⟨Nat.le_trans h.1 hb.size, fun k hk => ⟨(h.2 k hk).1, fun ht => (hb.block k (Nat.lt_of_lt_of_le hk h.1)).trans ((h.2 k hk).2 ht)⟩⟩
/-- the parent is put: done, or not yet -/
def HDo7 (w : World) (b : Nat) (h : Hash) (L : List Bool) (_V : List Value) (W : World) : Prop := (L.getD 0 false = false → W = w.drew) ∧ (L.getD 0 false = true → W = putRow w.drew b 0 (hashA h))
theorem pickN_int (x : Int) {n : Nat} (hn : 0 < n) : ((pickN x n : Nat) : Int) = (x.tmod n + n).tmod n := by
 have := pickI_lt x hn
 unfold pickN
 rw [Int.toNat_of_nonneg this.1]
 rfl
theorem do_name {W : World} {b o : Nat} {p : Pt} {g : GHeader} {q : Option Nat} (h : row? W b o 68 = some (rblkA p g q)) : row? W b (o + 1) 32 = some (hashA p.name) := (rblk_cells h).2.1
end Go.Proofs.YthdjhbiigmcecaaGreat

/- What the laws of chain read: the document's rows, paths, what stands at an epoch; helpers of their walks. -/
namespace Go.Proofs.YthdjhbiigmcecaaGreat
open Go.RowKit

/-- the document's chain, as it is read -/
structure DocV (W : World) (cr rb cap : Nat) (C : List Blk) : Prop where
 c0 : W.cell? ⟨cr, 0, none⟩ = some (.slice (some ⟨rb, 0, none⟩) C.length cap)
 lt : rb < W.heap.size
 row : ∀ i (hi : i < C.length), row? W rb (i * 68) 68 = some (rblkA C[i].p ⟨C[i].h.parent, C[i].h.epoch, ⟨none, 0, 0⟩⟩ none) ∨ ∃ g q, row? W rb (i * 68) 68 = some (rblkA C[i].p g q)
theorem DocV.clt {W : World} {cr rb cap : Nat} {C : List Blk} (h : DocV W cr rb cap C) : cr < W.heap.size := lt_of_cell h.c0
theorem DocV.keep {W W' : World} {cr rb cap : Nat} {C : List Blk} (h : DocV W cr rb cap C) (hb : Below W.heap.size W W') : DocV W' cr rb cap C :=
 ⟨(hb.cell (p := ⟨cr, 0, none⟩) h.clt).trans h.c0, Nat.lt_of_lt_of_le h.lt hb.size, fun i hi => by
  rw [row?_below _ _ _ hb h.lt]
  exact h.row i hi⟩
theorem DocV.at {W : World} {cr rb cap : Nat} {C : List Blk} (h : DocV W cr rb cap C) {i : Nat} (hi : i < C.length) :
  row? W rb (i * 68) 33 = some (pointA C[i].p) ∧ row? W rb (i * 68 + 1) 32 = some (hashA C[i].p.name) ∧ W.cell? ⟨rb, i * 68, none⟩ = some (.int .u64 (C[i].p.epoch.toNat : Int)) := by
 rcases h.row i hi with q | ⟨g, q, hq⟩
 ·obtain ⟨h1, h2, h3, -⟩ := rblk_cells q
  exact ⟨h1, h2, h3⟩
 ·obtain ⟨h1, h2, h3, -⟩ := rblk_cells hq
  exact ⟨h1, h2, h3⟩
theorem Both.view {w0 B W} {T : Nat → Nat} {cb cr : Nat} {C D : List Blk} (h : Both w0 B T W cb cr C D) : ∃ rb cap, DocV W cr rb cap D := by
 obtain ⟨rb, cap, G, hR, -⟩ := h.doc
 refine ⟨rb, cap, hR.c0, hR.lt, fun i hi => ?_⟩
 obtain ⟨x, -, hrw, -⟩ := hR.at hi
 exact .inr ⟨_, _, hrw⟩
theorem Both.start {w0 W W' : World} {B : Nat} {T : Nat → Nat} {cb cr rb cap : Nat} {G : List GHeader} {C D : List Blk} (h : ChR B T W cb C) (hb : Below W.heap.size W W') (hR : RefC w0 W' cr rb cap G D) (h1 : W.heap.size ≤ cr) (h2 : W.heap.size ≤ rb) (hle : w0.heap.size ≤ B) : ∃ T', Both w0 B T' W' cb cr C D := by
 refine ⟨fun k => if k < W.heap.size then T k else if k = cr then 2000000 else 0, (h.retag fun k hk => if_pos hk).keep hb, ?_, ⟨rb, cap, G, hR, ?_⟩, hle⟩
 ·show (if cr < W.heap.size then T cr else if cr = cr then 2000000 else 0) = 2000000
  rw [if_neg (by omega), if_pos rfl]
 ·show (if rb < W.heap.size then T rb else if rb = cr then 2000000 else 0) = 0
  rw [if_neg (by omega), if_neg (fun e => hR.ne e.symm)]
/-- a call, a box, what comes of the call put into the box -/
structure HAt (W0 : World) (p : Pt) (L : List Bool) (V : List Value) (w : World) : Prop where
 bel : Below W0.heap.size W0 w
 box : L.getD 1 false = true → ∃ b, V.getD 1 undef = .pointer (some ⟨b, 0, none⟩) ∧ W0.heap.size ≤ b ∧ b < w.heap.size ∧ there w b 0 33 ∧ (L.getD 2 false = true → row? w b 0 33 = some (pointA p))
section
variable {W0 w w' : World} {p : Pt} {l0 l1 l2 : Bool} {v0 v1 v2 : Value}
end
end Go.Proofs.YthdjhbiigmcecaaGreat

/- FfgClash, plainly: the first two of a list of checkpoints that clash. -/
namespace Go.Proofs.YthdjhbiigmcecaaGreat
open Go.RowKit

theorem ptD {l : List Pt} {i : Nat} (h : i < l.length) : l.getD i zeroPt = l[i] := by
 rw [List.getD_eq_getElem?_getD, List.getElem?_eq_getElem h, Option.getD_some]
/-- do two checkpoints clash, as places tell? -/
def clPt (C : List Blk) (p q : Pt) : Bool := chKnows C p && chKnows C q && !rUnder C (chAt C p.name) (chAt C q.name) && !rUnder C (chAt C q.name) (chAt C p.name)
def clP (C : List Blk) (l : List Pt) (i k : Nat) : Bool := clPt C (l.getD i zeroPt) (l.getD k zeroPt)
theorem clP_of {C : List Blk} {l : List Pt} {i k : Nat} (hi : i < l.length) (hk : k < l.length) : clP C l i k = clPt C l[i] l[k] := by
 unfold clP
 rw [ptD hi, ptD hk]
/-- none that is ahead of (i, k) clashes -/
def ClNo (C : List Blk) (l : List Pt) (i k : Nat) : Prop := ∀ a b, a < b → b < l.length → (a < i ∨ a = i ∧ b < k) → clP C l a b = false
theorem ClNo.zero (C : List Blk) (l : List Pt) : ClNo C l 0 1 := fun a b h _ h2 => by omega
theorem ClNo.more {C : List Blk} {l : List Pt} {i k : Nat} (h : ClNo C l i k) (hk : clP C l i k = false) : ClNo C l i (k + 1) := fun a b h1 h2 h3 => by
 by_cases q : a = i ∧ b = k
 ·rw [q.1, q.2]
  exact hk
 ·exact h a b h1 h2 (by omega)
theorem ClNo.next {C : List Blk} {l : List Pt} {i : Nat} (h : ClNo C l i l.length) : ClNo C l (i + 1) (i + 1 + 1) := fun a b h1 h2 h3 => h a b h1 h2 (by omega)
/-- the first two that clash -/
def ClFirst (C : List Blk) (l : List Pt) : Option (Nat × Nat) → Prop
 | none => ∀ a b, a < b → b < l.length → clP C l a b = false
 | some x => x.1 < x.2 ∧ x.2 < l.length ∧ clP C l x.1 x.2 = true ∧ ClNo C l x.1 x.2
theorem ClNo.done {C : List Blk} {l : List Pt} {k : Nat} (h : ClNo C l l.length k) : ClFirst C l none := fun a b h1 h2 => h a b h1 h2 (by omega)
theorem ClNo.found {C : List Blk} {l : List Pt} {i k : Nat} (h : ClNo C l i k) (hik : i < k) (hk : k < l.length) (hc : clP C l i k = true) : ClFirst C l (some (i, k)) := ⟨hik, hk, hc, h⟩
theorem ClFirst.one {C : List Blk} {l : List Pt} {x y : Option (Nat × Nat)} (hx : ClFirst C l x) (hy : ClFirst C l y) : x = y := by
 cases x with
 | none =>
  cases y with
  | none => rfl
  | some y =>
   have h := hx y.1 y.2 hy.1 hy.2.1
   rw [hy.2.2.1] at h
   cases h
 | some x =>
  cases y with
  | none =>
   have h := hy x.1 x.2 hx.1 hx.2.1
   rw [hx.2.2.1] at h
   cases h
  | some y =>
   obtain ⟨a, b⟩ := x
   obtain ⟨c, d⟩ := y
   obtain ⟨x1, x2, x3, x4⟩ := hx
   obtain ⟨y1, y2, y3, y4⟩ := hy
   simp only at x1 x2 x3 x4 y1 y2 y3 y4
   rcases Nat.lt_trichotomy a c with h | h | h
   ·have := y4 a b x1 x2 (.inl h)
    rw [x3] at this
    cases this
   ·subst h
    rcases Nat.lt_trichotomy b d with h | h | h
    ·have := y4 a b x1 x2 (.inr ⟨rfl, h⟩)
     rw [x3] at this
     cases this
    ·rw [h]
    ·have := x4 a d y1 y2 (.inr ⟨rfl, h⟩)
     rw [y3] at this
     cases this
   ·have := x4 c d y1 y2 (.inl h)
    rw [y3] at this
    cases this
theorem chKnows_iff {C : List Blk} {p : Pt} (h : chKnows C p = true) : ∃ i, ∃ hi : i < C.length, chAt C p.name = some i ∧ C[i].p = p := by
 unfold chKnows at h
 cases hi : chAt C p.name with
 | none => rw [hi] at h; cases h
 | some i =>
  rw [hi] at h
  have hl := chAt_lt hi
  have h' := of_decide_eq_true h
  rw [List.getElem?_eq_getElem hl] at h'
  injection h' with h'
  exact ⟨i, hl, rfl, h'⟩
/-- the program's question -/
theorem clPt_real {C : List Blk} (hok : ChnOk C) (p q : Pt) : clPt C p q = (chKnows C p && chKnows C q && !chUnder C p.name q.name && !chUnder C q.name p.name) := by
 unfold clPt
 cases hp : chKnows C p
 ·rfl
 cases hq : chKnows C q
 ·rfl
 obtain ⟨i, hi, ei, rfl⟩ := chKnows_iff hp
 obtain ⟨j, hj, ej, rfl⟩ := chKnows_iff hq
 rw [under_same hok hi hj, under_same hok hj hi, ei, ej]
end Go.Proofs.YthdjhbiigmcecaaGreat

/- landmarkref10.(*Chain).Knows, landmarkref13.Clash. -/
namespace Go.Proofs.YthdjhbiigmcecaaGreat
open Go.RowKit

set_option maxRecDepth 100000 in
set_option maxHeartbeats 1600000 in
theorem rknows_c {w0 W : World} {cb rb cap : Nat} {G : List GHeader} {C : List Blk} (h : RefC w0 W cb rb cap G C) (hl : C.length ≤ 1000000) (p : Pt) :
  Calls Tryz.prog 22 #[ptrV cb, .agg (pointA p)] W fun e w' => e = .returned (.bool (chKnows C p)) ∧ Below W.heap.size W w' := by
 have hB0 : Below W.heap.size W (W.alloc (.cells (pointA p) 26)) := bel_a _ _
 have hz0 : (W.alloc (.cells (pointA p) 26)).heap.size = W.heap.size + 1 := by simp
 have hrow0 : row? (W.alloc (.cells (pointA p) 26)) W.heap.size 0 33 = some (pointA p) := by rw [row?_new]; simp
 have hrown : row? (W.alloc (.cells (pointA p) 26)) W.heap.size 1 32 = some (hashA p.name) := by rw [row?_new]; simp
 have h1 := Lib.hid (h.keep hB0)
 have HA := rat_c h1.out hl p.name
 obtain ⟨o, ho⟩ : ∃ o, o = chAt C p.name := ⟨_, rfl⟩
 rw [← ho] at HA
 obtain ⟨kv, hkv⟩ : ∃ b, b = chKnows C p := ⟨_, rfl⟩
 rw [← hkv]
 replace hkv := Lib.hid hkv
 replace ho := Lib.hid ho
 clear h
 unfold ptrV at HA ⊢
 go_enter Tryz.func22, Tryz.ntmps22
 go_upto_region 1 with fail
 generalize W.alloc (.cells (pointA p) 26) = w1 at *
 go_wp2_with fail
 (with_reducible refine HA.mono ?_)
 clear HA
 rintro e w2 ⟨rfl, hb2⟩
 have hB2 := hB0.trans (hb2.mono (by omega))
 have hr2 := (row?_below _ _ _ hb2 (show W.heap.size < w1.heap.size by omega)).trans hrow0
 have h2 := Lib.hid (h1.out.keep hb2)
 clear hb2 hB0 hrow0 hrown h1
 cases o with
 | none =>
  obtain rfl : kv = false := by rw [hkv.out]; unfold chKnows; rw [← ho.out]
  clear hr2
  simp only [parI]
  go_upto_region 2 with fail
  go_quiet (fail)
  go_wp2_with fail
  go_ret
  exact ⟨rfl, below_drewN hB2 _⟩
 | some i =>
  have hil := chAt_lt ho.out.symm
  have hk2 := Lib.hid (show kv = decide (C[i].p = p) by rw [hkv.out]; unfold chKnows; rw [← ho.out]; simp [hil])
  clear hkv
  simp only [parI]
  obtain ⟨x, -, hrw, -⟩ := h2.out.at hil
  obtain ⟨hpr, -, -, -⟩ := rblk_cells hrw
  have c02 := h2.out.c0
  generalize C[i].p = q at *
  have f1 := fun k => show row? (w2.drewN k) W.heap.size 0 33 = _ from hr2
  have f2 := fun k => show row? (w2.drewN k) rb (i * 68) 33 = _ from hpr
  have f3 := fun k => show (w2.drewN k).cell? ⟨cb, 0, none⟩ = _ from c02
  have i0 : (0 : Int) ≤ (i : Int) := by omega
  have i1 : (i : Int) < (C.length : Int) := by omega
  clear hrw hpr c02 hr2 h2
  go_upto_region 2 with fail
  go_quiet (fail)
  go_wp2_with fail
  go_ret
  exact ⟨by rw [hk2.out]; rfl, below_drewN hB2 _⟩
/-- the places that are told -/
def clFst : Option (Nat × Nat) → Nat | none => 0 | some x => x.1
def clSnd : Option (Nat × Nat) → Nat | none => 0 | some x => x.2
set_option maxRecDepth 100000 in
set_option maxHeartbeats 3200000 in
theorem rclash_c {w0 wI : World} {cr rb cap : Nat} {G : List GHeader} {C : List Blk} (h : RefC w0 wI cr rb cap G C) (hok : ChnOk C) {s : Sl} {l : List Pt} (hs : PtsR wI s l) (hl : l.length ≤ 1000) :
  Calls Tryz.prog 10 #[ptrV cr, s.v] wI fun e w' => ∃ x, ClFirst C l x ∧ e = .returned (.tuple #[.int .i64 (clFst x : Int), .int .i64 (clSnd x : Int), .bool x.isSome]) ∧ Below wI.heap.size wI w' := by
 have hclen : C.length ≤ 1000000 := Nat.le_trans hok.len (by decide)
 obtain ⟨sa, sn, sc⟩ := s
 obtain rfl : sn = l.length := hs.1
 have hss := Lib.hid hs
 have hRo := Lib.hid h
 have hoo := Lib.hid hok
 clear h hs hok
 dsimp only [Sl.v]
 unfold ptrV
 go_enter Tryz.func10, Tryz.ntmps10
 go_wp2_with fail
 go_loopw [7] (fun x W' => ∃ i : Nat, i ≤ l.length ∧ x = .int .i64 i ∧ Hid (ClNo C l i (i + 1)) ∧ Hid (Below wI.heap.size wI W')) (fun x _ => l.length - (intOf x).toNat)
 case atStart => exact ⟨0, Nat.zero_le _, rfl, Lib.hid (ClNo.zero C l), Lib.hid (Below.refl _ _)⟩
 case round =>
  obtain ⟨i, hi, rfl, hN, hB⟩ := hrel
  by_cases hix : i < l.length
  ·have i0 : (0 : Int) ≤ (i : Int) := by omega
   have i1 : (i : Int) < (l.length : Int) := by omega
   have hix2 := Lib.hid hix
   obtain ⟨pb, po, e1, hpb, hpr⟩ := SlR.at hss.out (by omega)
   have e2 := congrArg Sl.a e1
   simp only at e2
   subst e2
   clear e1
   replace hpr := Lib.hid hpr
   go_upto_region 5 with fail
   go_loopw [8] (fun y W' => ∃ k : Nat, i < k ∧ k ≤ l.length ∧ y = .int .i64 k ∧ Hid (ClNo C l i k) ∧ Hid (Below wI.heap.size wI W')) (fun y _ => l.length - (intOf y).toNat)
   case atStart => exact ⟨i + 1, by omega, by omega, by go_num, hN, hB⟩
   case round =>
    clear hN hB
    obtain ⟨k, hik, hk, rfl, hN, hB⟩ := hrel
    by_cases hkx : k < l.length
    ·have k0 : (0 : Int) ≤ (k : Int) := by omega
     have k1 : (k : Int) < (l.length : Int) := by omega
     have hR := hRo.out.keep hB.out
     obtain ⟨csi, hri, hqi⟩ := hpr.out i hix
     obtain ⟨csk, hrk, hqk⟩ := hpr.out k hkx
     subst hqi hqk
     have hri := (row?_below _ _ _ hB.out hpb).trans hri
     have hrk := (row?_below _ _ _ hB.out hpb).trans hrk
     have hcl := Lib.hid (clP_of (C := C) hix hkx)
     have hNm := Lib.hid (fun hc => hN.out.more hc)
     have hNf := Lib.hid (fun hc => hN.out.found hik hkx hc)
     generalize l[i] = a at *
     generalize l[k] = b at *
     have HK := fun W' (hb : Below wr.heap.size wr W') p => rknows_c (hR.keep hb) hclen p
     have HA := fun W' (hb : Below wr.heap.size wr W') n => rat_c (hR.keep hb) hclen n
     have HU := fun W' (hb : Below wr.heap.size wr W') x y (hx : x < C.length) => runder_c (hR.keep hb) hoo.out (some x) (some y) (fun j hj => by cases hj; exact hx)
     unfold ptrV at HK HA HU
     have hkx2 := Lib.hid hkx
     have hik2 := Lib.hid hik
     have hpw : pb < wr.heap.size := Nat.lt_of_lt_of_le hpb hB.out.size
     clear hN hR
     have HK1 := HK wr (Below.refl _ _) a
     go_wp2_with fail
     (with_reducible refine HK1.mono ?_)
     clear HK1
     rintro e w1 ⟨rfl, hb1⟩
     have hri1 := (row?_below _ _ _ hb1 hpw).trans hri
     have hrk1 := (row?_below _ _ _ hb1 hpw).trans hrk
     have hB1 := Lib.hid (hB.out.trans (hb1.mono hB.out.size))
     cases ka : chKnows C a
     ·have hno := Lib.hid (hNm.out (by rw [hcl.out]; unfold clPt; rw [ka]; rfl))
      clear hri hrk hri1 hrk1 HK HA HU hb1 hNm hNf hcl ka
      go_wp2_with fail
      go_roundw
      case rel => exact ⟨k + 1, by have := hik2.out; omega, by have := hkx2.out; omega, by go_num, hno, hB1⟩
      case measure => have := hkx2.out; simp [intOf]; omega
     have HK2 := HK w1 hb1 b
     clear hri hrk
     go_wp2_with fail
     (with_reducible refine HK2.mono ?_)
     clear HK2
     rintro e w2 ⟨rfl, hb2⟩
     have hb12 := hb1.trans (hb2.mono hb1.size)
     have hB2 := Lib.hid (hB.out.trans (hb12.mono hB.out.size))
     have hpw1 : pb < w1.heap.size := Nat.lt_of_lt_of_le hpw hb1.size
     have hri2 := (row?_below _ _ _ hb2 hpw1).trans hri1
     have hrk2 := (row?_below _ _ _ hb2 hpw1).trans hrk1
     clear hri1 hrk1 HK hB1
     cases kb : chKnows C b
     ·have hno := Lib.hid (hNm.out (by rw [hcl.out]; unfold clPt; rw [ka, kb]; rfl))
      clear hri2 hrk2 HA HU hb1 hb2 hb12 hNm hNf hcl ka kb
      go_wp2_with fail
      go_roundw
      case rel => exact ⟨k + 1, by have := hik2.out; omega, by have := hkx2.out; omega, by go_num, hno, hB2⟩
      case measure => have := hkx2.out; simp [intOf]; omega
     obtain ⟨ia, hia, eia, -⟩ := chKnows_iff ka
     obtain ⟨ib, hib, eib, -⟩ := chKnows_iff kb
     have hpw2 : pb < w2.heap.size := Nat.lt_of_lt_of_le hpw1 hb2.size
     obtain ⟨na, hnae⟩ : ∃ n, n = a.name := ⟨_, rfl⟩
     obtain ⟨nb, hnbe⟩ : ∃ n, n = b.name := ⟨_, rfl⟩
     have hna := row_part hri2 1 32 (by omega)
     rw [pointA_name, ← hnae] at hna
     have hnb := row_part hrk2 1 32 (by omega)
     rw [pointA_name, ← hnbe] at hnb
     have HAi := fun W' (hb : Below w2.heap.size w2 W') => HA W' (hb12.trans (hb.mono hb12.size)) na
     have HAk := fun W' (hb : Below w2.heap.size w2 W') => HA W' (hb12.trans (hb.mono hb12.size)) nb
     rw [show chAt C na = some ia by rw [hnae]; exact eia] at HAi
     rw [show chAt C nb = some ib by rw [hnbe]; exact eib] at HAk
     simp only [parI] at HAi HAk
     have hU1 := Lib.hid (fun W' (hb : Below w2.heap.size w2 W') => HU W' (hb12.trans (hb.mono hb12.size)) ia ib hia)
     have hU2 := Lib.hid (fun W' (hb : Below w2.heap.size w2 W') => HU W' (hb12.trans (hb.mono hb12.size)) ib ia hib)
     have hcl2 := Lib.hid (show clP C l i k = (!rUnder C (some ia) (some ib) && !rUnder C (some ib) (some ia)) by rw [hcl.out]; unfold clPt; rw [ka, kb, eia, eib]; rfl)
     replace hnae := Lib.hid hnae
     replace hnbe := Lib.hid hnbe
     clear HA HU hri2 hrk2 hb1 hb2 hb12 ka kb eia eib hcl hB
     go_upto_region 8 with fail
     refine wp_region_freeG_l (fun W W' => Below W.heap.size W W') (by kernel_rfl) [41, 42, 43, 44, 45, 46, 47, 48, 49, 50, 51, 52, 53, 54, 9, 10]
      [Is (.pointer (some ⟨cr, 0, none⟩)), Is (.slice (some ⟨pb, po, none⟩) l.length sc), Is (.int .i64 (i : Int)), Is (.pointer (some ⟨pb, po + i * 33, none⟩)), Is (.pointer (some ⟨pb, po + i * 33 + 1, none⟩)), Is (.agg (hashA na)), Is (.int .i64 (ia : Int)), Is (.pointer (some ⟨cr, 0, none⟩)), Is (.slice (some ⟨pb, po, none⟩) l.length sc), Is (.int .i64 (k : Int)), Is (.pointer (some ⟨pb, po + k * 33, none⟩)), Is (.pointer (some ⟨pb, po + k * 33 + 1, none⟩)), Is (.agg (hashA nb)), Is (.int .i64 (ib : Int)), Is (.int .i64 (ia : Int)), Is (.int .i64 (ib : Int))]
      (by kernel_rfl) (fun W W' h hb => hb.trans (h.mono hb.size)) ?_ ?_ ?_
     ·intro f hf
      simp only [List.mem_cons, List.not_mem_nil, or_false] at hf
      rcases hf with rfl | rfl | rfl | rfl | rfl | rfl | rfl | rfl | rfl | rfl | rfl | rfl | rfl | rfl | rfl | rfl <;> intro x W W' h hr <;> first | exact h
     ·refine ⟨?_, ?_, ?_, ?_, ?_, ?_, ?_, ?_, ?_, ?_, ?_, ?_, ?_, ?_, ?_, ?_, trivial⟩
      ·intro L ax W hf hd
       try simp [Region.binds] at hd
       have e0 : ax.tmps[0]?.getD undef = .pointer (some ⟨cr, 0, none⟩) := hf.out 0 (by decide) rfl
       refine ⟨fun _ => ?_, fun h => absurd trivial h⟩
       refine free_run (v := .pointer (some ⟨cr, 0, none⟩)) (W' := W) rfl ?_ rfl (Below.refl _ _)
       go_simp
      ·intro L ax W hf hd
       try simp [Region.binds] at hd
       have e1 : ax.tmps[1]?.getD undef = .slice (some ⟨pb, po, none⟩) l.length sc := hf.out 1 (by decide) rfl
       refine ⟨fun _ => ?_, fun h => absurd trivial h⟩
       refine free_run (v := .slice (some ⟨pb, po, none⟩) l.length sc) (W' := W) rfl ?_ rfl (Below.refl _ _)
       go_simp
      ·intro L ax W hf hd
       try simp [Region.binds] at hd
       have e7 : ax.tmps[7]?.getD undef = .int .i64 (i : Int) := hf.out 7 (by decide) rfl
       refine ⟨fun _ => ?_, fun h => absurd trivial h⟩
       refine free_run (v := .int .i64 (i : Int)) (W' := W) rfl ?_ rfl (Below.refl _ _)
       go_simp
      ·intro L ax W hf hd
       simp [Region.binds] at hd
       have e42 : ax.tmps[42]?.getD undef = .slice (some ⟨pb, po, none⟩) l.length sc := slv (hf.got 1 (by decide) (by simp [hd]))
       have e43 : ax.tmps[43]?.getD undef = .int .i64 (i : Int) := slv (hf.got 2 (by decide) (by simp [hd]))
       refine ⟨fun _ => ?_, fun h => absurd trivial h⟩
       refine free_run (v := .pointer (some ⟨pb, po + i * 33, none⟩)) (W' := W) rfl ?_ rfl (Below.refl _ _)
       go_simp
      ·intro L ax W hf hd
       simp [Region.binds] at hd
       have e44 : ax.tmps[44]?.getD undef = .pointer (some ⟨pb, po + i * 33, none⟩) := slv (hf.got 3 (by decide) (by simp [hd]))
       refine ⟨fun _ => ?_, fun h => absurd trivial h⟩
       refine free_run (v := .pointer (some ⟨pb, po + i * 33 + 1, none⟩)) (W' := W) rfl ?_ rfl (Below.refl _ _)
       go_simp
      ·intro L ax W hf hd
       simp [Region.binds] at hd
       have e45 : ax.tmps[45]?.getD undef = .pointer (some ⟨pb, po + i * 33 + 1, none⟩) := slv (hf.got 4 (by decide) (by simp [hd]))
       refine ⟨fun _ => ?_, fun h => absurd trivial h⟩
       have h1 := (row?_below _ _ _ hf.below hpw2).trans hna
       refine free_run (v := .agg (hashA na)) (W' := W) rfl ?_ rfl (Below.refl _ _)
       go_simp
      ·intro L ax W hf hd
       simp [Region.binds] at hd
       have e41 : ax.tmps[41]?.getD undef = .pointer (some ⟨cr, 0, none⟩) := slv (hf.got 0 (by decide) (by simp [hd]))
       have e46 : ax.tmps[46]?.getD undef = .agg (hashA na) := slv (hf.got 5 (by decide) (by simp [hd]))
       refine ⟨fun _ => ?_, fun h => absurd trivial h⟩
       refine free_call (f := 21) (args := #[.pointer (some ⟨cr, 0, none⟩), .agg (hashA na)]) rfl (by go_simp) ?_
       refine (HAi W hf.below).mono ?_
       rintro e w' ⟨rfl, hb⟩
       exact ⟨_, rfl, rfl, hb⟩
      ·intro L ax W hf hd
       try simp [Region.binds] at hd
       have e0 : ax.tmps[0]?.getD undef = .pointer (some ⟨cr, 0, none⟩) := hf.out 0 (by decide) rfl
       refine ⟨fun _ => ?_, fun h => absurd trivial h⟩
       refine free_run (v := .pointer (some ⟨cr, 0, none⟩)) (W' := W) rfl ?_ rfl (Below.refl _ _)
       go_simp
      ·intro L ax W hf hd
       try simp [Region.binds] at hd
       have e1 : ax.tmps[1]?.getD undef = .slice (some ⟨pb, po, none⟩) l.length sc := hf.out 1 (by decide) rfl
       refine ⟨fun _ => ?_, fun h => absurd trivial h⟩
       refine free_run (v := .slice (some ⟨pb, po, none⟩) l.length sc) (W' := W) rfl ?_ rfl (Below.refl _ _)
       go_simp
      ·intro L ax W hf hd
       try simp [Region.binds] at hd
       have e8 : ax.tmps[8]?.getD undef = .int .i64 (k : Int) := hf.out 8 (by decide) rfl
       refine ⟨fun _ => ?_, fun h => absurd trivial h⟩
       refine free_run (v := .int .i64 (k : Int)) (W' := W) rfl ?_ rfl (Below.refl _ _)
       go_simp
      ·intro L ax W hf hd
       simp [Region.binds] at hd
       have e49 : ax.tmps[49]?.getD undef = .slice (some ⟨pb, po, none⟩) l.length sc := slv (hf.got 8 (by decide) (by simp [hd]))
       have e50 : ax.tmps[50]?.getD undef = .int .i64 (k : Int) := slv (hf.got 9 (by decide) (by simp [hd]))
       refine ⟨fun _ => ?_, fun h => absurd trivial h⟩
       refine free_run (v := .pointer (some ⟨pb, po + k * 33, none⟩)) (W' := W) rfl ?_ rfl (Below.refl _ _)
       go_simp
      ·intro L ax W hf hd
       simp [Region.binds] at hd
       have e51 : ax.tmps[51]?.getD undef = .pointer (some ⟨pb, po + k * 33, none⟩) := slv (hf.got 10 (by decide) (by simp [hd]))
       refine ⟨fun _ => ?_, fun h => absurd trivial h⟩
       refine free_run (v := .pointer (some ⟨pb, po + k * 33 + 1, none⟩)) (W' := W) rfl ?_ rfl (Below.refl _ _)
       go_simp
      ·intro L ax W hf hd
       simp [Region.binds] at hd
       have e52 : ax.tmps[52]?.getD undef = .pointer (some ⟨pb, po + k * 33 + 1, none⟩) := slv (hf.got 11 (by decide) (by simp [hd]))
       refine ⟨fun _ => ?_, fun h => absurd trivial h⟩
       have h1 := (row?_below _ _ _ hf.below hpw2).trans hnb
       refine free_run (v := .agg (hashA nb)) (W' := W) rfl ?_ rfl (Below.refl _ _)
       go_simp
      ·intro L ax W hf hd
       simp [Region.binds] at hd
       have e48 : ax.tmps[48]?.getD undef = .pointer (some ⟨cr, 0, none⟩) := slv (hf.got 7 (by decide) (by simp [hd]))
       have e53 : ax.tmps[53]?.getD undef = .agg (hashA nb) := slv (hf.got 12 (by decide) (by simp [hd]))
       refine ⟨fun _ => ?_, fun h => absurd trivial h⟩
       refine free_call (f := 21) (args := #[.pointer (some ⟨cr, 0, none⟩), .agg (hashA nb)]) rfl (by go_simp) ?_
       refine (HAk W hf.below).mono ?_
       rintro e w' ⟨rfl, hb⟩
       exact ⟨_, rfl, rfl, hb⟩
      ·intro L ax W hf hd
       simp [Region.binds] at hd
       have e47 : ax.tmps[47]?.getD undef = .int .i64 (ia : Int) := slv (hf.got 6 (by decide) (by simp [hd]))
       refine ⟨fun _ => ?_, fun h => absurd trivial h⟩
       refine free_run (v := .int .i64 (ia : Int)) (W' := W) rfl ?_ rfl (Below.refl _ _)
       go_simp
      ·intro L ax W hf hd
       simp [Region.binds] at hd
       have e54 : ax.tmps[54]?.getD undef = .int .i64 (ib : Int) := slv (hf.got 13 (by decide) (by simp [hd]))
       refine ⟨fun _ => ?_, fun h => absurd trivial h⟩
       refine free_run (v := .int .i64 (ib : Int)) (W' := W) rfl ?_ rfl (Below.refl _ _)
       go_simp
     ·intro vs w3 hl' hF' hb3
      obtain ⟨g', hg1, hg2⟩ := vs_lit vs hl' hF'
      have e14 : g' 14 = .int .i64 (ia : Int) := hg2 14 (by decide)
      have e15 : g' 15 = .int .i64 (ib : Int) := hg2 15 (by decide)
      rw [hg1]
      simp only [List.length_cons, List.length_nil, Nat.reduceAdd, show List.range 16 = [0, 1, 2, 3, 4, 5, 6, 7, 8, 9, 10, 11, 12, 13, 14, 15] from rfl, List.map_cons, List.map_nil, putL, List.zip_cons_cons, List.zip_nil_right, List.setIfInBounds_toArray, List.set_cons_succ, List.set_cons_zero, e14, e15]
      have HU1 := hU1.out w3 hb3
      have HU2 := fun W' (hb : Below w3.heap.size w3 W') => hU2.out W' (hb3.trans (hb.mono hb3.size))
      have hB3 := Lib.hid (hB2.out.trans (hb3.mono hB2.out.size))
      simp only [parI] at HU1 HU2
      clear hg1 hg2 hF' hl' hb3 HAi HAk hna hnb hU1 hU2 hB2
      go_wp2_with fail
      (with_reducible refine HU1.mono ?_)
      clear HU1
      rintro e w4 ⟨rfl, hb4⟩
      have hB4 := Lib.hid (hB3.out.trans (hb4.mono hB3.out.size))
      cases u1 : rUnder C (some ia) (some ib)
      ·have HU2 := HU2 w4 hb4
       go_wp2_with fail
       (with_reducible refine HU2.mono ?_)
       clear HU2
       rintro e w5 ⟨rfl, hb5⟩
       have hB5 := Lib.hid (hB4.out.trans (hb5.mono hB4.out.size))
       cases u2 : rUnder C (some ib) (some ia)
       ·have hfin := Lib.hid (hNf.out (by rw [hcl2.out, u1, u2]; rfl))
        clear u1 u2 hb4 hb5 hNm hNf hcl2
        go_wp2_with fail
        go_ret3
        exact ⟨_, hfin.out, rfl, hB5.out⟩
       ·have hno := Lib.hid (hNm.out (by rw [hcl2.out, u1, u2]; rfl))
        clear u1 u2 hb4 hb5 hNm hNf hcl2
        go_wp2_with fail
        go_roundw
        case rel => exact ⟨k + 1, by have := hik2.out; omega, by have := hkx2.out; omega, by go_num, hno, hB5⟩
        case measure => have := hkx2.out; simp [intOf]; omega
      ·have hno := Lib.hid (hNm.out (by rw [hcl2.out, u1]; rfl))
       clear u1 hb4 hNm hNf hcl2 HU2
       go_wp2_with fail
       go_roundw
       case rel => exact ⟨k + 1, by have := hik2.out; omega, by have := hkx2.out; omega, by go_num, hno, hB4⟩
       case measure => have := hkx2.out; simp [intOf]; omega
    ·obtain rfl : k = l.length := by omega
     have hkn : ¬ (l.length : Int) < (l.length : Int) := by omega
     have hN2 := Lib.hid hN.out.next
     clear hN
     go_wp2_with fail
     go_roundw
     case rel => exact ⟨i + 1, by have := hix2.out; omega, by go_num, hN2, hB⟩
     case measure => have := hix2.out; simp [intOf]; omega
  ·obtain rfl : i = l.length := by omega
   have hin : ¬ (l.length : Int) < (l.length : Int) := by omega
   have hfin := Lib.hid hN.out.done
   clear hN
   go_wp2_with fail
   go_ret3
   exact ⟨none, hfin.out, rfl, hB.out⟩
end Go.Proofs.YthdjhbiigmcecaaGreat

/- landmark/ffg.Clash over a chain. -/
namespace Go.Proofs.YthdjhbiigmcecaaGreat
open Go.RowKit

theorem results_row3 {P : Program} {t : TypeId} {n : Nat} (hA : ∀ w, (isAgg t).run P w = .ok true w) (hS : ∀ w, (Go.sizeOf t).run P w = .ok n w) {fn : Func} {p q u : Tmp} (hf : fn.results = #[.cell p t, .cell q t, .tmp u]) (tmps : Array Value) (w : World) (b c : Nat)
  (hp : tmps.getD p undef = .pointer (some ⟨b, 0, none⟩)) (hq : tmps.getD q undef = .pointer (some ⟨c, 0, none⟩)) (h : (row? w b 0 n).isSome = true) (h' : (row? w c 0 n).isSome = true) :
  (results fn tmps).run P w = .ok (.tuple #[.agg ((row? w b 0 n).getD #[]), .agg ((row? w c 0 n).getD #[]), tmps.getD u undef]) w := by
 have hp' : tmps[p]?.getD undef = .pointer (some ⟨b, 0, none⟩) := by simpa using hp
 have hq' : tmps[q]?.getD undef = .pointer (some ⟨c, 0, none⟩) := by simpa using hq
 simp [results, hf, hp', hq', asAddr, Sem.run_bind, run_loadVar_agg hA hS w b 0 h, run_loadVar_agg hA hS w c 0 h']
theorem ret_row3 {P : Program} {t : TypeId} {n : Nat} (hA : ∀ w, (isAgg t).run P w = .ok true w) (hS : ∀ w, (Go.sizeOf t).run P w = .ok n w) {fn : Func} {p q u : Tmp} (hf : fn.results = #[.cell p t, .cell q t, .tmp u]) {R : Ending → World → Prop} {a : Go.Act} {w : World} {x y z : Value} (b c : Nat)
  (hx : a.tmps.getD p undef = x) (hp : x = .pointer (some ⟨b, 0, none⟩)) (hy : a.tmps.getD q undef = y) (hq : y = .pointer (some ⟨c, 0, none⟩)) (hz : a.tmps.getD u undef = z) (h : (row? w b 0 n).isSome = true) (h' : (row? w c 0 n).isSome = true) (hd : a.defers = [])
  (hR : R (.returned (.tuple #[.agg ((row? w b 0 n).getD #[]), .agg ((row? w c 0 n).getD #[]), z])) w) : bodyPost P fn R .ret a w := by
 subst hz
 exact bodyPost_ret (results_row3 hA hS hf _ _ b c (hx.trans hp) (hy.trans hq) h h') hd hR
theorem clash_res : Tryz.f11.results = #[.cell 4 26, .cell 5 26, .tmp 6] := by kernel_rfl
/-- l[k:] -/
def slcPt (x : Value) (k : Value) : Sem Value := Instr.sliceAt 49 x (some k) none none
theorem fold_slcPt (x : Value) (k : Value) : Instr.sliceAt 49 x (some k) none none = slcPt x k := rfl
theorem run_slcPt (a : Option Addr) (n c k : Nat) (hk : k ≤ n) (hn : n ≤ c) (W : World) : (slcPt (.slice a n c) (.int .i64 (k : Int))).run Tryz.prog W = .ok (.slice (if c = k then a else a.map (·.add (k * 33))) (n - k) (c - k)) W := by
 have h0 : (0 : Int) ≤ (k : Int) := by omega
 have h1 : (k : Int) ≤ (n : Int) := by omega
 have h2 : (n : Int) ≤ (c : Int) := by omega
 unfold slcPt
 go_simp
theorem slcPt_at (b o n c k : Nat) (hk : k ≤ n) (hn : n ≤ c) : ∃ a', (∀ W, (slcPt (.slice (some ⟨b, o, none⟩) n c) (.int .i64 (k : Int))).run Tryz.prog W = .ok (.slice a' (n - k) (c - k)) W) ∧ (0 < n - k → a' = some ⟨b, o + k * 33, none⟩) := by
 refine ⟨_, fun W => run_slcPt _ n c k hk hn W, fun h => ?_⟩
 rw [if_neg (by omega), Option.map_some]
 unfold Addr.add
 split <;> simp_all
/-- the two are told: done, or not yet -/
structure HCl (W0 wk : World) (b4 b5 b8 b10 : Nat) (p q : Pt) (L : List Bool) (_V : List Value) (W : World) : Prop where
 bel : Below W0.heap.size W0 W
 size : wk.heap.size ≤ W.heap.size
 r8 : row? W b8 0 33 = some (pointA p)
 r10 : row? W b10 0 33 = some (pointA q)
 t4 : there W b4 0 33
 t5 : there W b5 0 33
 d4 : L.getD 0 false = true → row? W b4 0 33 = some (pointA p)
 d5 : L.getD 1 false = true → row? W b5 0 33 = some (pointA q)
section
variable {W0 wk W : World} {b4 b5 b8 b10 : Nat} {p q : Pt} {l0 l1 : Bool} {v0 v1 : Value}
theorem HCl.put4 (h : HCl W0 wk b4 b5 b8 b10 p q [l0, l1] [v0, v1] W) (h0 : W0.heap.size ≤ b4) (n5 : b5 ≠ b4) (n8 : b8 ≠ b4) (n10 : b10 ≠ b4) : HCl W0 wk b4 b5 b8 b10 p q [true, l1] [undef, v1] (putRow W b4 0 (pointA p)) :=
 ⟨below_put h.bel h0 _ _, by rw [size_put]; exact h.size, (row?_put_far _ _ _ _ _ _ _ n8).trans h.r8, (row?_put_far _ _ _ _ _ _ _ n10).trans h.r10, there_put _ _ _ _ _ _ _ h.t4, there_put _ _ _ _ _ _ _ h.t5, fun _ => row?_put_same _ _ _ _ _ (by simp) (by omega) h.t4, fun r => (row?_put_far _ _ _ _ _ _ _ n5).trans (h.d5 r)⟩
theorem HCl.put5 (h : HCl W0 wk b4 b5 b8 b10 p q [l0, l1] [v0, v1] W) (h0 : W0.heap.size ≤ b5) (n4 : b4 ≠ b5) (n8 : b8 ≠ b5) (n10 : b10 ≠ b5) : HCl W0 wk b4 b5 b8 b10 p q [l0, true] [v0, undef] (putRow W b5 0 (pointA q)) :=
 ⟨below_put h.bel h0 _ _, by rw [size_put]; exact h.size, (row?_put_far _ _ _ _ _ _ _ n8).trans h.r8, (row?_put_far _ _ _ _ _ _ _ n10).trans h.r10, there_put _ _ _ _ _ _ _ h.t4, there_put _ _ _ _ _ _ _ h.t5, fun r => (row?_put_far _ _ _ _ _ _ _ n4).trans (h.d4 r), fun _ => row?_put_same _ _ _ _ _ (by simp) (by omega) h.t5⟩
end
/-- what is told -/
def clFa (l : List Pt) : Option (Nat × Nat) → Pt | none => zeroPt | some x => l.getD x.1 zeroPt
def clFb (l : List Pt) : Option (Nat × Nat) → Pt | none => zeroPt | some x => l.getD x.2 zeroPt
attribute [local go_sem ↓] fold_slcPt
set_option maxRecDepth 100000 in
set_option maxHeartbeats 3200000 in
theorem fclash_c {B : Nat} {T : Nat → Nat} {wI : World} {cb : Nat} {C : List Blk} (h : ChR B T wI cb C) (hok : ChnOk C) {s : Sl} {l : List Pt} (hs : PtsR wI s l) (hl : l.length ≤ 1000) :
  Calls Tryz.prog 11 #[ptrV cb, s.v] wI fun e w' => ∃ x, ClFirst C l x ∧ e = .returned (.tuple #[.agg (pointA (clFa l x)), .agg (pointA (clFb l x)), .bool x.isSome]) ∧ Below wI.heap.size wI w' := by
 obtain ⟨sa, sn, sc⟩ := s
 obtain rfl : sn = l.length := hs.1
 have hsc : l.length ≤ sc := hs.2.1
 have hss := Lib.hid hs
 have hRo := Lib.hid h
 have hoo := Lib.hid hok
 have hB0 : Below wI.heap.size wI ((wI.alloc (.cells (pointA zeroPt) 26)).alloc (.cells (pointA zeroPt) 26)) := by (repeat' (first | (with_reducible first | exact Below.refl _ _ | assumption | refine bel_trans (by assumption) ?_ ?_ | refine bel_grown (by assumption) ?_ ?_ ?_ | refine Below.alloc ?_ ?_ _ | refine Below.drew ?_ | refine below_drewN ?_ _ | refine Below.setCell ?_ ?_ _ | refine below_put ?_ ?_ _ _ | exact Nat.le_refl _) | omega | (with_reducible first | refine Nat.le_trans ?_ (Below.size (by assumption)) | refine Nat.le_trans ?_ (World.grownBy.size (by assumption))) | (simp only [World.size_alloc, World.size_setCell, World.size_drew, size_drewN]; omega) | (simp only [World.size_alloc, World.size_setCell, World.size_drew, size_drewN, size_put]; omega) | (intro k hk; simp [Value.ownBlock] at hk; first | done | omega) | (simp [size_drewN] at *; omega)))
 have ht0 : there ((wI.alloc (.cells (pointA zeroPt) 26)).alloc (.cells (pointA zeroPt) 26)) wI.heap.size 0 33 := there_old _ _ _ _ _ (by simp) (there_new _ _ _ _ _ (by simp))
 have ht1 : there ((wI.alloc (.cells (pointA zeroPt) 26)).alloc (.cells (pointA zeroPt) 26)) (wI.heap.size + 1) 0 33 := by
  have := there_new (wI.alloc (.cells (pointA zeroPt) 26)) (pointA zeroPt) 26 0 33 (by simp)
  simpa using this
 have hz0 : ((wI.alloc (.cells (pointA zeroPt) 26)).alloc (.cells (pointA zeroPt) 26)).heap.size = wI.heap.size + 2 := by simp
 clear h hs hok
 dsimp only [Sl.v]
 unfold ptrV
 go_enter Tryz.func11, Tryz.ntmps11
 go_upto_region 1 with fail
 generalize (wI.alloc (.cells (pointA zeroPt) 26)).alloc (.cells (pointA zeroPt) 26) = w0 at *
 replace hB0 := Lib.hid hB0
 replace ht0 := Lib.hid ht0
 replace ht1 := Lib.hid ht1
 replace hz0 := Lib.hid hz0
 go_wp2_with fail
 go_loopw [13] (fun x W' => ∃ i : Nat, i ≤ l.length ∧ x = .int .i64 i ∧ Hid (ClNo C l i (i + 1)) ∧ Hid (Below w0.heap.size w0 W')) (fun x _ => l.length - (intOf x).toNat)
 case atStart => exact ⟨0, Nat.zero_le _, rfl, Lib.hid (ClNo.zero C l), Lib.hid (Below.refl _ _)⟩
 case round =>
  obtain ⟨i, hi, rfl, hN, hB⟩ := hrel
  by_cases hix : i < l.length
  ·have i0 : (0 : Int) ≤ (i : Int) := by omega
   have i1 : (i : Int) < (l.length : Int) := by omega
   have hix2 := Lib.hid hix
   obtain ⟨pb, po, e1, hpb, hpr⟩ := SlR.at hss.out (by omega)
   have e2 := congrArg Sl.a e1
   simp only at e2
   subst e2
   clear e1
   obtain ⟨csi, hri, hqi⟩ := hpr i hix
   subst hqi
   have hBw := hB0.out.trans (hB.out.mono hB0.out.size)
   have hri := (row?_below _ _ _ hBw hpb).trans hri
   replace hpr := Lib.hid hpr
   have hcl := Lib.hid (fun k hk => clP_of (C := C) (i := i) (k := k) hix hk)
   have hgi := Lib.hid (show l.getD i zeroPt = l[i] from ptD hix)
   generalize l[i] = a at *
   generalize wr = wo at *
   clear hBw
   go_upto_region 4 with fail
   obtain ⟨w1, hw1, hr8, -, hb8, hz8⟩ := box_row wo (pointA zeroPt) (pointA a) 26 33 (by omega) (by simp) (by simp)
   rw [← hw1]
   obtain ⟨b8, hb8e⟩ : ∃ b, b = wo.heap.size := ⟨_, rfl⟩
   rw [← hb8e] at hr8 ⊢
   have hl8 : b8 < w1.heap.size := by omega
   have hB1 := Lib.hid (hB.out.trans (hb8.mono hB.out.size))
   obtain ⟨a', hsl, ha'⟩ := slcPt_at pb po l.length sc (i + 1) (by omega) hsc
   rw [show ((i + 1 : Nat) : Int) = (i : Int) + 1 by omega] at hsl
   obtain ⟨m, hm⟩ : ∃ m, m = l.length - (i + 1) := ⟨_, rfl⟩
   obtain ⟨c1, hc1⟩ : ∃ c, c = sc - (i + 1) := ⟨_, rfl⟩
   rw [← hm, ← hc1] at hsl
   rw [← hm] at ha'
   have h8W : wI.heap.size + 2 ≤ b8 := by have := hB.out.size; have := hz0.out; omega
   replace hm := Lib.hid hm
   replace hc1 := Lib.hid hc1
   replace hb8e := Lib.hid hb8e
   replace hz8 := Lib.hid hz8
   replace ha' := Lib.hid ha'
   have hx1 : IntKind.i64.wrap ((i : Int) + 1) = (i : Int) + 1 := IntWalk.i64_in _ (by omega)
   clear hw1 hb8 hri
   go_upto_region 5 with fail
   go_loopw [23] (fun y W' => ∃ j : Nat, j ≤ m ∧ y = .int .i64 j ∧ Hid (ClNo C l i (i + 1 + j)) ∧ Hid (Below w1.heap.size w1 W')) (fun y _ => m - (intOf y).toNat)
   case atStart => exact ⟨0, Nat.zero_le _, rfl, hN, Lib.hid (Below.refl _ _)⟩
   case round =>
    clear hN hB
    obtain ⟨j, hj, rfl, hN, hBj⟩ := hrel
    by_cases hjx : j < m
    ·have j0 : (0 : Int) ≤ (j : Int) := by omega
     have j1 : (j : Int) < (m : Int) := by omega
     have hkl : i + 1 + j < l.length := by have := hm.out; omega
     obtain rfl : a' = some ⟨pb, po + (i + 1) * 33, none⟩ := ha'.out (by omega)
     have hB2 := Lib.hid (hB1.out.trans (hBj.out.mono hB1.out.size))
     have hBw := Lib.hid (hB0.out.trans (hB2.out.mono hB0.out.size))
     obtain ⟨csk, hrk, hqk⟩ := hpr.out (i + 1 + j) hkl
     subst hqk
     have hrk := (row?_below _ _ _ hBw.out hpb).trans hrk
     rw [show po + (i + 1 + j) * 33 = po + (i + 1) * 33 + j * 33 by omega] at hrk
     have hr8 := (row?_below _ _ _ hBj.out hl8).trans hr8
     have hcl1 := Lib.hid (hcl.out (i + 1 + j) hkl)
     have hNm := Lib.hid (fun hc => hN.out.more hc)
     have hNf := Lib.hid (fun hc => hN.out.found (by omega) hkl hc)
     have hgk := Lib.hid (show l.getD (i + 1 + j) zeroPt = l[i + 1 + j] from ptD hkl)
     generalize l[i + 1 + j] = b at *
     have HK := fun W' (hb : Below wI.heap.size wI W') p => (hRo.out.keep hb).knows_c hoo.out p
     have HU := fun W' (hb : Below wI.heap.size wI W') n m => (hRo.out.keep hb).under_c hoo.out n m
     unfold ptrV at HK HU
     have hjx2 := Lib.hid hjx
     have hl8 : b8 < wr.heap.size := Nat.lt_of_lt_of_le hl8 hBj.out.size
     clear hN
     generalize wr = wq at *
     go_upto_region 7 with fail
     obtain ⟨w2, hw2, hr10, -, hb10, hz10⟩ := box_row wq (pointA zeroPt) (pointA b) 26 33 (by omega) (by simp) (by simp)
     rw [← hw2]
     obtain ⟨b10, hb10e⟩ : ∃ b, b = wq.heap.size := ⟨_, rfl⟩
     rw [← hb10e] at hr10 ⊢
     have hl10 : b10 < w2.heap.size := by omega
     have h810 : b8 < b10 := by omega
     have hr8 := (row?_below _ _ _ hb10 hl8).trans hr8
     have hl8 : b8 < w2.heap.size := by omega
     have hbj2 := Lib.hid (hBj.out.trans (hb10.mono hBj.out.size))
     have hbw2 := Lib.hid (hBw.out.trans (hb10.mono hBw.out.size))
     have hX := Lib.hid (show ∀ W', Below w2.heap.size w2 W' → row? W' b8 0 33 = some (pointA a) ∧ row? W' b10 0 33 = some (pointA b) ∧ row? W' b8 1 32 = some (hashA a.name) ∧ row? W' b10 1 32 = some (hashA b.name) from fun W' hb => by
      have x1 := (row?_below _ _ _ hb hl8).trans hr8
      have x2 := (row?_below _ _ _ hb hl10).trans hr10
      have x3 := row_part x1 1 32 (by omega)
      rw [pointA_name, Nat.zero_add] at x3
      have x4 := row_part x2 1 32 (by omega)
      rw [pointA_name, Nat.zero_add] at x4
      exact ⟨x1, x2, x3, x4⟩)
     replace hb10e := Lib.hid hb10e
     replace hz10 := Lib.hid hz10
     clear hw2 hb10 hrk
     have hno := Lib.hid (fun (W' : World) (hb : Below w2.heap.size w2 W') (hc : clPt C a b = false) => show ∃ q : Nat, q ≤ m ∧ Value.int .i64 ((j + 1 : Nat) : Int) = .int .i64 (q : Int) ∧ Hid (ClNo C l i (i + 1 + q)) ∧ Hid (Below w1.heap.size w1 W') from
      ⟨j + 1, by have := hjx2.out; omega, rfl, Lib.hid (hNm.out (by rw [hcl1.out]; exact hc)), Lib.hid (hbj2.out.trans (hb.mono hbj2.out.size))⟩)
     have hcr := Lib.hid (clPt_real hoo.out a b)
     have HK1 := HK w2 hbw2.out a
     clear hr8 hr10
     obtain ⟨x1, x2, x3, x4⟩ := hX.out w2 (Below.refl _ _)
     go_wp2_with fail
     (with_reducible refine HK1.mono ?_)
     clear HK1
     rintro e w3 ⟨rfl, hb3⟩
     clear x1 x2 x3 x4
     cases ka : chKnows C a
     ·have hno := Lib.hid (hno.out w3 hb3 (by rw [hcr.out, ka]; rfl))
      clear HK HU hb3 hNm hNf hcl1 ka hcr
      go_wp2_with fail
      go_roundw
      case rel => exact hno.out
      case measure => have := hjx2.out; simp [intOf]; omega
     obtain ⟨x1, x2, x3, x4⟩ := hX.out w3 hb3
     have HK2 := HK w3 (hbw2.out.trans (hb3.mono hbw2.out.size)) b
     go_wp2_with fail
     (with_reducible refine HK2.mono ?_)
     clear HK2
     rintro e w4 ⟨rfl, hb4⟩
     replace hb4 := hb3.trans (hb4.mono hb3.size)
     clear x1 x2 x3 x4 hb3
     cases kb : chKnows C b
     ·have hno := Lib.hid (hno.out w4 hb4 (by rw [hcr.out, ka, kb]; rfl))
      clear HK HU hb4 hNm hNf hcl1 ka kb hcr
      go_wp2_with fail
      go_roundw
      case rel => exact hno.out
      case measure => have := hjx2.out; simp [intOf]; omega
     obtain ⟨x1, x2, x3, x4⟩ := hX.out w4 hb4
     have HU1 := HU w4 (hbw2.out.trans (hb4.mono hbw2.out.size)) a.name b.name
     clear HK
     go_wp2_with fail
     (with_reducible refine HU1.mono ?_)
     clear HU1
     rintro e w5 ⟨rfl, hb5⟩
     replace hb5 := hb4.trans (hb5.mono hb4.size)
     clear x1 x2 x3 x4 hb4
     cases u1 : chUnder C a.name b.name
     ·obtain ⟨x1, x2, x3, x4⟩ := hX.out w5 hb5
      have HU2 := HU w5 (hbw2.out.trans (hb5.mono hbw2.out.size)) b.name a.name
      clear HU
      go_wp2_with fail
      (with_reducible refine HU2.mono ?_)
      clear HU2
      rintro e w6 ⟨rfl, hb6⟩
      replace hb6 := hb5.trans (hb6.mono hb5.size)
      clear x1 x2 x3 x4 hb5
      cases u2 : chUnder C b.name a.name
      ·have hfin := Lib.hid (hNf.out (by rw [hcl1.out, hcr.out, ka, kb, u1, u2]; rfl))
       have hBf := hbw2.out.trans (hb6.mono hbw2.out.size)
       have hB0f := hbj2.out.trans (hb6.mono hbj2.out.size)
       have hB1f := hB1.out.trans (hB0f.mono hB1.out.size)
       have ht4 := there_below hB1f (show wI.heap.size < w0.heap.size by have := hz0.out; omega) ht0.out
       have ht5 := there_below hB1f (show wI.heap.size + 1 < w0.heap.size by have := hz0.out; omega) ht1.out
       obtain ⟨x1, x2, -, -⟩ := hX.out w6 hb6
       have hH0 := Lib.hid (show ∀ V, HCl wI w6 wI.heap.size (wI.heap.size + 1) b8 b10 a b [false, false] V w6.drew from fun V => ⟨hBf.drew, Nat.le_refl _, x1, x2, ht4, ht5, fun q => (by cases q), fun q => (by cases q)⟩)
       have n8 : b8 ≠ wI.heap.size := by omega
       have n8' : b8 ≠ wI.heap.size + 1 := by omega
       have n10 : b10 ≠ wI.heap.size := by omega
       have n10' : b10 ≠ wI.heap.size + 1 := by omega
       replace h8W := Lib.hid h8W
       clear u1 u2 ka kb hb6 hNm hNf hcl1 hcr hBf hB0f hB1f ht4 ht5 x1 x2 hno
       generalize w6 = wk at *
       go_upto_region 8 with fail
       refine wp_region_freeI_l (by kernel_rfl) [53, 54, 61, 62, 6]
        [(fun v => v = .agg (pointA a)), (fun v => v = .agg (pointA b)), (fun _ => True), (fun _ => True), (fun v => v = .bool true)]
        [2, 3] (HCl wI wk wI.heap.size (wI.heap.size + 1) b8 b10 a b) [[2], [3], [], [], []] (by kernel_rfl) (by kernel_rfl) ?_ ?_ ?_
       ·show HCl wI wk wI.heap.size (wI.heap.size + 1) b8 b10 a b [false, false] [_, _] _
        exact hH0.out _
       ·refine ⟨?_, ?_, ?_, ?_, ?_, trivial⟩
        ·intro L ax W hf hLi hno hd
         try simp [Region.binds] at hd
         have e8 : ax.tmps[8]?.getD undef = .pointer (some ⟨b8, 0, none⟩) := hf.out 8 (by decide) rfl
         refine ⟨fun _ => ?_, fun h => absurd trivial h⟩
         have hG : HCl wI wk wI.heap.size (wI.heap.size + 1) b8 b10 a b [L 2, L 3] [sl ax 61, sl ax 62] W := hf.glob
         have h1 := hG.r8
         refine freeI_run (v := .agg (pointA a)) rfl hf (by decide) ?_ rfl
         go_simp
        ·intro L ax W hf hLi hno hd
         try simp [Region.binds] at hd
         have e10 : ax.tmps[10]?.getD undef = .pointer (some ⟨b10, 0, none⟩) := hf.out 10 (by decide) rfl
         refine ⟨fun _ => ?_, fun h => absurd trivial h⟩
         have hG : HCl wI wk wI.heap.size (wI.heap.size + 1) b8 b10 a b [L 2, L 3] [sl ax 61, sl ax 62] W := hf.glob
         have h1 := hG.r10
         refine freeI_run (v := .agg (pointA b)) rfl hf (by decide) ?_ rfl
         go_simp
        ·intro L ax W hf hLi hno hd
         simp [Region.binds] at hd
         have e4 : ax.tmps[4]?.getD undef = .pointer (some ⟨wI.heap.size, 0, none⟩) := hf.out 4 (by decide) rfl
         have e53 : ax.tmps[53]?.getD undef = .agg (pointA a) := slv (hf.got 0 (by decide) (by simp [hd]))
         refine ⟨fun _ => ?_, fun h => absurd trivial h⟩
         have hG : HCl wI wk wI.heap.size (wI.heap.size + 1) b8 b10 a b [L 2, L 3] [sl ax 61, sl ax 62] W := hf.glob
         have hS := store_point W wI.heap.size 0 (pointA a) (by simp) (onesPoint a) hG.t4
         refine freeI_store (W' := putRow W wI.heap.size 0 (pointA a)) rfl ?_ trivial (hG.put4 (Nat.le_refl _) (by omega) n8 n10)
         go_simp
        ·intro L ax W hf hLi hno hd
         simp [Region.binds] at hd
         have e5 : ax.tmps[5]?.getD undef = .pointer (some ⟨wI.heap.size + 1, 0, none⟩) := hf.out 5 (by decide) rfl
         have e54 : ax.tmps[54]?.getD undef = .agg (pointA b) := slv (hf.got 1 (by decide) (by simp [hd]))
         refine ⟨fun _ => ?_, fun h => absurd trivial h⟩
         have hG : HCl wI wk wI.heap.size (wI.heap.size + 1) b8 b10 a b [L 2, L 3] [sl ax 61, sl ax 62] W := hf.glob
         have hS := store_point W (wI.heap.size + 1) 0 (pointA b) (by simp) (onesPoint b) hG.t5
         refine freeI_store (W' := putRow W (wI.heap.size + 1) 0 (pointA b)) rfl ?_ trivial (hG.put5 (by omega) (by omega) n8' n10')
         go_simp
        ·intro L ax W hf hLi hno hd
         try simp [Region.binds] at hd
         refine ⟨fun _ => ?_, fun h => absurd trivial h⟩
         refine freeI_run (v := .bool true) rfl hf (by decide) ?_ rfl
         go_simp
       ·intro vs w7 hl' hF' hG
        obtain ⟨g', hg1, hg2⟩ := vs_litI vs hl' hF'
        have e4 : g' 4 = .bool true := hg2 4 (by decide)
        have hr4 := hG.d4 rfl
        have hr5 := hG.d5 rfl
        have hBz := Lib.hid hG.bel
        rw [hg1]
        simp only [List.length_cons, List.length_nil, Nat.reduceAdd, show List.range 5 = [0, 1, 2, 3, 4] from rfl, List.map_cons, List.map_nil, slotsIn, putL, List.setIfInBounds_toArray, List.set_cons_succ, List.set_cons_zero, List.size_toArray, Nat.reduceLT, if_true, if_false, e4]
        clear hg1 hg2 hG hF' hl'
        go_wp2_with (with_reducible refine at_end ?_)
        show bodyPost _ _ _ _ _ _
        refine ret_row3 Tryz.isAgg26 Tryz.sizeOf26 clash_res (x := .pointer (some ⟨wI.heap.size, 0, none⟩)) (y := .pointer (some ⟨wI.heap.size + 1, 0, none⟩)) (z := .bool true) (wI.heap.size) (wI.heap.size + 1) ?hx (Eq.refl _) ?hy (Eq.refl _) ?hz ?h ?h' rfl ?hR
        case hx => simp only [Array.getD_eq_getD_getElem?, List.getElem?_toArray, List.getElem?_cons_succ, List.getElem?_cons_zero, Option.getD_some]
        case hy => simp only [Array.getD_eq_getD_getElem?, List.getElem?_toArray, List.getElem?_cons_succ, List.getElem?_cons_zero, Option.getD_some]
        case hz => simp only [Array.getD_eq_getD_getElem?, List.getElem?_toArray, List.getElem?_cons_succ, List.getElem?_cons_zero, Option.getD_some]
        case h => rw [hr4]; rfl
        case h' => rw [hr5]; rfl
        case hR =>
         rw [hr4, hr5]
         exact ⟨_, hfin.out, by show _ = Ending.returned (.tuple #[.agg (pointA (l.getD i zeroPt)), .agg (pointA (l.getD (i + 1 + j) zeroPt)), .bool true]); rw [hgi.out, hgk.out]; rfl, hBz.out⟩
      ·have hno := Lib.hid (hno.out w6 hb6 (by rw [hcr.out, ka, kb, u1, u2]; rfl))
       clear hb6 hNm hNf hcl1 ka kb hcr u1 u2
       go_wp2_with fail
       go_roundw
       case rel => exact hno.out
       case measure => have := hjx2.out; simp [intOf]; omega
     ·have hno := Lib.hid (hno.out w5 hb5 (by rw [hcr.out, ka, kb, u1]; rfl))
      clear HU hb5 hNm hNf hcl1 ka kb hcr u1
      go_wp2_with fail
      go_roundw
      case rel => exact hno.out
      case measure => have := hjx2.out; simp [intOf]; omega
    ·obtain rfl : j = m := by omega
     have hkn : ¬ (j : Int) < (j : Int) := by omega
     have hN2 := Lib.hid (show ClNo C l (i + 1) (i + 1 + 1) from by
      have h := hN.out
      rw [show i + 1 + j = l.length by have := hm.out; have := hix2.out; omega] at h
      exact h.next)
     have hB2 := Lib.hid (hB1.out.trans (hBj.out.mono hB1.out.size))
     clear hN
     go_wp2_with fail
     go_roundw
     case rel => exact ⟨i + 1, by have := hix2.out; omega, by go_num, hN2, hB2⟩
     case measure => have := hix2.out; simp [intOf]; omega
  ·obtain rfl : i = l.length := by omega
   have hin : ¬ (l.length : Int) < (l.length : Int) := by omega
   have hfin := Lib.hid hN.out.done
   have hBw := Lib.hid (hB0.out.trans (hB.out.mono hB0.out.size))
   have hta := there_below hB.out (show wI.heap.size < w0.heap.size by have := hz0.out; omega) ht0.out
   have htb := there_below hB.out (show wI.heap.size + 1 < w0.heap.size by have := hz0.out; omega) ht1.out
   have htb2 : there (putRow wr wI.heap.size 0 (pointA zeroPt)) (wI.heap.size + 1) 0 33 := there_put _ _ _ _ _ _ _ htb
   have hrr1 : row? (putRow (putRow wr wI.heap.size 0 (pointA zeroPt)) (wI.heap.size + 1) 0 (pointA zeroPt)) wI.heap.size 0 33 = some (pointA zeroPt) := (row?_put_far _ _ _ _ _ _ _ (by omega)).trans (row?_put_same _ _ _ _ _ (by simp) (by omega) hta)
   have hrr2 : row? (putRow (putRow wr wI.heap.size 0 (pointA zeroPt)) (wI.heap.size + 1) 0 (pointA zeroPt)) (wI.heap.size + 1) 0 33 = some (pointA zeroPt) := row?_put_same _ _ _ _ _ (by simp) (by omega) htb2
   have hBz : Below wI.heap.size wI (putRow (putRow wr wI.heap.size 0 (pointA zeroPt)) (wI.heap.size + 1) 0 (pointA zeroPt)) := below_put (below_put hBw.out (by omega) _ _) (by omega) _ _
   replace hBz := Lib.hid hBz
   have hS1 : (storeAgg 26 (.pointer (some ⟨wI.heap.size, 0, none⟩)) (.agg (pointA zeroPt))).run Tryz.prog wr = .ok () (putRow wr wI.heap.size 0 (pointA zeroPt)) := by go_simp
   have hS2 : (storeAgg 26 (.pointer (some ⟨wI.heap.size + 1, 0, none⟩)) (.agg (pointA zeroPt))).run Tryz.prog (putRow wr wI.heap.size 0 (pointA zeroPt)) = .ok () (putRow (putRow wr wI.heap.size 0 (pointA zeroPt)) (wI.heap.size + 1) 0 (pointA zeroPt)) := by go_simp
   clear hN hta htb htb2
   go_wp2_with (with_reducible refine at_end ?_)
   show bodyPost _ _ _ _ _ _
   refine ret_row3 Tryz.isAgg26 Tryz.sizeOf26 clash_res (x := .pointer (some ⟨wI.heap.size, 0, none⟩)) (y := .pointer (some ⟨wI.heap.size + 1, 0, none⟩)) (z := .bool false) (wI.heap.size) (wI.heap.size + 1) ?hx (Eq.refl _) ?hy (Eq.refl _) ?hz ?h ?h' rfl ?hR
   case hx => simp only [Array.getD_eq_getD_getElem?, List.getElem?_toArray, List.getElem?_cons_succ, List.getElem?_cons_zero, Option.getD_some]
   case hy => simp only [Array.getD_eq_getD_getElem?, List.getElem?_toArray, List.getElem?_cons_succ, List.getElem?_cons_zero, Option.getD_some]
   case hz => simp only [Array.getD_eq_getD_getElem?, List.getElem?_toArray, List.getElem?_cons_succ, List.getElem?_cons_zero, Option.getD_some]
   case h => rw [hrr1]; rfl
   case h' => rw [hrr2]; rfl
   case hR =>
    rw [hrr1, hrr2]
    exact ⟨none, hfin.out, rfl, hBz.out⟩
end Go.Proofs.YthdjhbiigmcecaaGreat

/- Maps from checkpoints to struct{is bool}{true}: lookup, store, range. -/
namespace Go.Proofs.YthdjhbiigmcecaaGreat.F13
open Go.RowKit

/-- {true} -/
def yes : Value := .agg #[.bool true]
def ptV (p : Pt) : Value := .agg (pointA p)
/-- block b is a map that has these, each once -/
def MapPts (w : World) (b : Nat) (ks : List Pt) : Prop := ∃ es clock, w.heap[b]? = some (.map es clock) ∧ es.toList.map (fun e => (e.key, e.val)) = ks.map (fun p => (ptV p, yes)) ∧ ks.Nodup ∧ (es.toList.map (·.born)).Nodup ∧ ∀ e ∈ es.toList, e.born < clock
theorem pointA_inj {p q : Pt} (h : pointA p = pointA q) : p = q := by
 have h0 := congrArg (fun a => a[0]?) h
 have h1 := congrArg (fun a => a.extract 1 33) h
 simp only [pointA_epoch, pointA_name] at h0 h1
 cases p; cases q
 simp only [Pt.mk.injEq]
 refine ⟨UInt64.toNat_inj.1 (by simp at h0; omega), Subtype.ext ?_⟩
 have := congrArg Array.toList h1
 simp only [hashA] at this
 exact List.map_inj_right (f := byteV) (fun a b h => by simp [byteV] at h; exact UInt8.toNat_inj.1 (by omega)) |>.1 this
theorem ptV_inj {p q : Pt} (h : ptV p = ptV q) : p = q := pointA_inj (by injection h)
theorem MapPts.lt {w : World} {b : Nat} {ks : List Pt} (h : MapPts w b ks) : b < w.heap.size := by
 obtain ⟨es, clock, hb, _⟩ := h
 exact (Array.getElem?_eq_some_iff.1 hb).1
theorem MapPts.of_block {w w' : World} {b : Nat} {ks : List Pt} (h : MapPts w b ks) (hb : w'.heap[b]? = w.heap[b]?) : MapPts w' b ks := by
 obtain ⟨es, clock, h1, r⟩ := h
 exact ⟨es, clock, hb.trans h1, r⟩
theorem MapPts.keep {B : Nat} {w w' : World} {b : Nat} {ks : List Pt} (h : MapPts w b ks) (hb : Below B w w') (hl : b < B) : MapPts w' b ks := h.of_block (hb.block b hl)
theorem eqv_point (w : World) (p q : Pt) : (Op.equal 26 (ptV p) (ptV q)).run Tryz.prog w = .ok (decide (p = q)) w := eq_point w p q
theorem find_pts (w : World) (p : Pt) : ∀ (es : List MapEntry) (ks : List Pt) (i : Nat), es.map (fun e => (e.key, e.val)) = ks.map (fun p => (ptV p, yes)) →
  (p ∉ ks ∧ (Instr.findAsking 26 (ptV p) es i).run Tryz.prog w = .ok none w) ∨ (∃ j, ks[j]? = some p ∧ (Instr.findAsking 26 (ptV p) es i).run Tryz.prog w = .ok (some (i + j, yes)) w)
 | [], [], i, _ => .inl ⟨by simp, by simp [Instr.findAsking]⟩
 | [], _ :: _, _, h => by simp at h
 | _ :: _, [], _, h => by simp at h
 | e :: es, q :: ks, i, h => by
  simp only [List.map_cons, List.cons.injEq, Prod.mk.injEq] at h
  obtain ⟨⟨h1, h2⟩, h3⟩ := h
  have he := eqv_point w p q
  by_cases hpq : p = q
  ·right
   refine ⟨0, by simp [hpq], ?_⟩
   rw [hpq] at he ⊢
   simp [Instr.findAsking, h1, he, h2]
  ·rcases find_pts w p es ks (i + 1) h3 with ⟨a, b⟩ | ⟨j, a, b⟩
   ·left
    exact ⟨by simp [hpq, a], by simp [Instr.findAsking, h1, he, hpq, b]⟩
   ·right
    exact ⟨j + 1, by simpa using a, by simp [Instr.findAsking, h1, he, hpq, b, Nat.add_assoc, Nat.add_comm 1 j]⟩
theorem findKey_pts (w : World) (p : Pt) (es : List MapEntry) (ks : List Pt) (h : es.map (fun e => (e.key, e.val)) = ks.map (fun p => (ptV p, yes))) :
  (p ∉ ks ∧ (Instr.findKey 26 (ptV p) es).run Tryz.prog w = .ok none w) ∨ (∃ j, ks[j]? = some p ∧ (Instr.findKey 26 (ptV p) es).run Tryz.prog w = .ok (some (j, yes)) w) := by
 rw [run_findKey_eq (P := Tryz.prog) w (k := 26) (by rw [Tryz.underlying26])]
 have := find_pts w p es ks 0 h
 simpa using this

theorem key_plain {P : Program} {t : TypeId} {k : IntKind} (n : Nat) (e : Bool) (x : Int) (ht : P.underlying t = some (.int k)) (w : World) : (Instr.checkKey e (n + 1) t (.int k x)).run P w = .ok () w := by
 simp [Instr.checkKey, run_underlying ht]
theorem forIn_ok {P : Program} {α : Type} (w : World) (f : α → PUnit → Sem (ForInStep PUnit)) : ∀ (l : List α), (∀ a ∈ l, (f a ⟨⟩).run P w = .ok (.yield ⟨⟩) w) → (forIn l PUnit.unit f).run P w = .ok ⟨⟩ w
 | [], _ => by simp
 | a :: l, h => by
  rw [List.forIn_cons]
  simp only [Sem.run_bind, h a (by simp), Result.andThen_ok]
  exact forIn_ok w f l (fun b hb => h b (by simp [hb]))
theorem forIn_ok' {P : Program} {α : Type} (w : World) (f : α → PUnit → Sem (ForInStep PUnit)) (l : List α) (h : ∀ a ∈ l, (f a ⟨⟩).run P w = .ok (.yield ⟨⟩) w) : (((forIn l PUnit.unit f).run P w).andThen fun _ w' => Sem.run P (pure ()) w') = .ok () w := by
 rw [forIn_ok w f l h]; simp
theorem key_hash {P : Program} {t e : TypeId} (n : Nat) (em : Bool) (h : Hash) (ht : P.underlying t = some (.array 32 e)) (he : P.underlying e = some (.int .u8)) (hs : ∀ w, (Go.sizeOf e).run P w = .ok 1 w) (w : World) : (Instr.checkKey em (n + 2) t (.agg (hashA h))).run P w = .ok () w := by
 rw [Instr.checkKey]
 simp only [Sem.run_bind, run_underlying ht, Result.andThen_ok]
 simp only [Std.Legacy.Range.forIn_eq_forIn_range', Std.Legacy.Range.size, Nat.sub_zero, Nat.add_one_sub_one, Nat.div_one]
 refine forIn_ok' w _ _ fun i hi => ?_
 have hi' : i < 32 := by simpa using hi
 have hx : (hashA h)[i * 1]? = some (.int .u8 ((h.1[i]'(by rw [h.2]; exact hi')).toNat : Int)) := getElem_bytes h.1 i (by rw [h.2]; exact hi')
 have hA : ∀ w, (isAgg e).run P w = .ok false w := fun _ => by simp [isAgg, run_underlying he]
 simp only [Sem.run_bind, hs, Result.andThen_ok, part_one w hA _ _ _ hx, key_plain n em _ he, Sem.run_pure]
theorem u8_size : ∀ w, (Go.sizeOf 5).run Tryz.prog w = .ok 1 w := fun w => by
 obtain ⟨i, hi⟩ := u8_info
 rw [run_sizeOf w hi, u8_cells]
theorem fields_eq : Tryz.prog.underlying 26 = some (.struct (Tryz.prog.fieldsOf 26)) := by kernel_rfl
theorem key_point (em : Bool) (p : Pt) (w : World) : (Instr.checkKey em 10000 26 (ptV p)).run Tryz.prog w = .ok () w := by
 obtain ⟨f0, f1, hf, h0, h1, t0, t1, o0, o1⟩ := fields2 point_fields
 rw [show (10000 : Nat) = 9997 + 3 from rfl, Instr.checkKey]
 unfold ptV
 simp only [Sem.run_bind, run_underlying fields_eq, Result.andThen_ok]
 rw [← Array.forIn_toList, hf]
 refine forIn_ok' w _ _ fun f hm => ?_
 simp only [List.mem_cons, List.not_mem_nil, or_false] at hm
 have hA : ∀ w, (isAgg 22).run Tryz.prog w = .ok false w := fun _ => by simp [isAgg, run_underlying Tryz.underlying22]
 rcases hm with rfl | rfl
 ·have hp := part_one (P := Tryz.prog) w hA (pointA p) 0 _ (pointA_epoch p)
  simp only [h0, t0, o0]
  rw [if_pos (by decide)]
  simp only [Sem.run_bind, Sem.run_pure]
  rw [hp, Result.andThen_ok, key_plain 9998 em _ Tryz.underlying22]
  rfl
 ·have hp := part_agg (P := Tryz.prog) w Tryz.isAgg24 Tryz.sizeOf24 (pointA p) (off := 1) (by simp)
  simp only [Nat.reduceAdd, pointA_name] at hp
  simp only [h1, t1, o1]
  rw [if_pos (by decide)]
  simp only [Sem.run_bind, Sem.run_pure]
  rw [hp, Result.andThen_ok, key_hash 9997 em p.name Tryz.underlying24 Tryz.underlying5 u8_size]
  rfl

theorem elem_zero (w : World) : (zeroValue 81).run Tryz.prog w = .ok (.agg #[.bool false]) w := by
 obtain ⟨i, hi, hz, _⟩ := info_parts (show (Tryz.prog.info? 81).map (fun i => (i.zero, i.size, i.bytes)) = some (some (.agg #[.bool false]), 1, 1) by kernel_rfl)
 simp [zeroValue, typeInfo, hi, hz]
theorem look_pts {w : World} {b : Nat} {ks : List Pt} (h : MapPts w b ks) (p : Pt) :
  (Instr.lookup 82 (.map (some b)) (ptV p) false).run Tryz.prog w = .ok (.agg #[.bool (decide (p ∈ ks))]) w := by
 obtain ⟨es, clock, hb, hes, hnd, _, _⟩ := h
 have hk := key_point es.isEmpty p w
 have hf := findKey_pts w p es.toList ks hes
 unfold Instr.lookup
 simp only [Sem.run_bind, run_underlying Tryz.underlying82, Result.andThen_ok, Go.MapKept.run_getObj_map hb, Sem.run_pure]
 rw [hk]
 simp only [Result.andThen_ok]
 rcases hf with ⟨hn, hr⟩ | ⟨j, hj, hr⟩
 ·rw [hr]
  simp [elem_zero, hn]
 ·rw [hr]
  have : p ∈ ks := List.mem_of_getElem? hj
  simp [this, yes]

/-- block b anew -/
def putB (w : World) (b : Nat) (o : Obj) : World := { w with heap := w.heap.setIfInBounds b o }
theorem putB_at {w : World} {b : Nat} {o o' : Obj} (h : w.heap[b]? = some o) : (putB w b o').heap[b]? = some o' := by
 have := (Array.getElem?_eq_some_iff.1 h).1
 simp [putB, this]
theorem putB_far (w : World) (b : Nat) (o : Obj) (k : Nat) (h : k ≠ b) : (putB w b o).heap[k]? = w.heap[k]? := by
 simp [putB, Array.getElem?_setIfInBounds_ne (Ne.symm h)]
theorem putB_grown (w : World) (b : Nat) (o : Obj) : w.grownBy (putB w b o) (some b) := ⟨rfl, rfl, rfl, by simp [putB], fun k _ hk => putB_far w b o k (fun e => hk (by rw [e]))⟩
theorem sameBits_pt (p : Pt) : Instr.sameBits 10000 (ptV p) (ptV p) = true := by
 have key : ∀ v ∈ (pointA p).toList, Instr.sameBits 9999 v v = true := by
  intro v hv
  obtain ⟨i, hi, rfl⟩ := List.mem_iff_getElem.1 hv
  by_cases h0 : i = 0
  ·subst h0
   simp [pointA, Instr.sameBits]
  ·have : (pointA p).toList = .int .u64 (p.epoch.toNat : Int) :: p.name.1.map byteV := by simp [pointA, hashA]
   simp only [this]
   obtain ⟨j, rfl⟩ : ∃ j, i = j + 1 := ⟨i - 1, by omega⟩
   simp [byteV, Instr.sameBits]
 show Instr.sameBits (9999 + 1) (.agg (pointA p)) (.agg (pointA p)) = true
 simp only [Instr.sameBits, beq_self_eq_true, Bool.true_and, List.all_eq_true]
 intro x hx
 obtain ⟨i, hi, rfl⟩ := List.mem_iff_getElem.1 hx
 simp only [List.getElem_zip]
 exact key _ (List.getElem_mem _)
def addPt (ks : List Pt) (p : Pt) : List Pt := if p ∈ ks then ks else ks ++ [p]
theorem update_pts {w : World} {b : Nat} {ks : List Pt} (h : MapPts w b ks) (p : Pt) :
  ∃ w', (Instr.mapUpdate 82 (.map (some b)) (ptV p) yes).run Tryz.prog w = .ok () w' ∧ MapPts w' b (addPt ks p) ∧ w.grownBy w' (some b) := by
 obtain ⟨es, clock, hb, hes, hnd, hborn, hclock⟩ := h
 have hk := key_point false p w
 have hf := findKey_pts w p es.toList ks hes
 rcases hf with ⟨hn, hr⟩ | ⟨j, hj, hr⟩
 ·refine ⟨putB w b (.map (es.push { key := ptV p, val := yes, born := clock }) (clock + 1)), ?_, ⟨_, _, putB_at hb, ?_, ?_, ?_, ?_⟩, putB_grown _ _ _⟩
  ·unfold Instr.mapUpdate
   simp only [Sem.run_bind, run_underlying Tryz.underlying82, Result.andThen_ok, Go.MapKept.run_getObj_map hb, Sem.run_pure]
   rw [hk]
   simp only [Result.andThen_ok]
   rw [hr]
   simp [Go.MapKept.run_setObj_map _ hb, putB]
  ·simp [addPt, hn, hes]
  ·simp only [addPt, hn, if_false]
   exact List.nodup_append.2 ⟨hnd, by simp, fun a ha c hc e => by (simp at hc; subst hc; subst e; exact hn ha)⟩
  ·simp only [Array.toList_push, List.map_append, List.map_cons, List.map_nil]
   refine List.nodup_append.2 ⟨hborn, by simp, ?_⟩
   intro a ha c hc e
   obtain ⟨m, hm, rfl⟩ := List.mem_map.1 ha
   simp at hc
   have := hclock m hm
   omega
  ·intro e he
   simp only [Array.toList_push, List.mem_append, List.mem_singleton] at he
   rcases he with he | rfl
   ·have := hclock e he; omega
   ·simp
 ·have hp : p ∈ ks := List.mem_of_getElem? hj
  have hlen : es.toList.length = ks.length := by have := congrArg List.length hes; simpa using this
  have hjl : j < es.toList.length := by rw [hlen]; exact (List.getElem?_eq_some_iff.1 hj).1
  have hej : (es.toList[j].key, es.toList[j].val) = (ptV p, yes) := by
   have h1 := congrArg (fun l => l[j]?) hes
   simp only [List.getElem?_map, hj, List.getElem?_eq_getElem hjl, Option.map_some, Option.some.injEq] at h1
   exact h1
  have hmod : (es.modify j fun e => { e with key := ptV p, val := yes }) = es := by
   apply Array.ext'
   rw [Array.toList_modify]
   apply List.ext_getElem?
   intro i
   rw [List.getElem?_modify]
   by_cases hij : j = i
   ·subst hij
    rw [List.getElem?_eq_getElem hjl]
    simp only [Prod.mk.injEq] at hej
    rw [← hej.1, ← hej.2]
    simp
   ·simp [hij]
  refine ⟨putB w b (.map es clock), ?_, ⟨es, clock, putB_at hb, ?_, ?_, hborn, hclock⟩, putB_grown _ _ _⟩
  ·unfold Instr.mapUpdate
   simp only [Sem.run_bind, run_underlying Tryz.underlying82, Result.andThen_ok, Go.MapKept.run_getObj_map hb, Sem.run_pure]
   rw [hk]
   simp only [Result.andThen_ok]
   rw [hr]
   have hg : (Option.map (·.key) es[j]?).getD (ptV p) = ptV p := by
    rw [← Array.getElem?_toList, List.getElem?_eq_getElem hjl]
    simp only [Prod.mk.injEq] at hej
    simpa using hej.1
   simp only [hg, Instr.keyThatStays, sameBits_pt, if_true, Sem.run_pure, Result.andThen_ok, Sem.run_bind]
   rw [hmod]
   exact Go.MapKept.run_setObj_map _ hb
  ·simp [addPt, hp, hes]
  ·simp [addPt, hp, hnd]
end Go.Proofs.YthdjhbiigmcecaaGreat.F13
