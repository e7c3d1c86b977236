/- Texts of this proof, one behind the other: PlayW. -/
import Derived.Test.YthdjhbiigmcecaaPAU
import Derived.Test.YthdjhbiigmcecaaPAT
import Derived.Deep.CutBlock
set_option linter.unusedVariables false
set_option linter.unusedSimpArgs false
/- The walk of ChainPlays. -/
namespace Go.Proofs.Ythdjhbiigmcecaa
open Go.RowKit Go.Shelf

theorem load_rblk_s (x : Value) : Instr.loadAt 71 x = loadAgg 71 x := rfl
theorem load_rblk (w : World) (b off : Nat) (h : (row? w b off 68).isSome = true) : (loadAgg 71 (.pointer (some ⟨b, off, none⟩))).run Try.prog w = .ok (.agg ((row? w b off 68).getD #[])) w := run_loadAgg Try.isAgg71 Try.sizeOf71 w b off h
theorem store_rblk_s (x v : Value) : Instr.storeAt 71 x v = storeAgg 71 x v := rfl
theorem info_rblk_n : (Try.prog.info? 71).map (·.size) = some 68 := by kernel_rfl
theorem store_rblk (w : World) (b off : Nat) (xs : Array Value) (hn : xs.size = 68) (h1 : oneCells xs) (ht : there w b off 68) : (storeAgg 71 (.pointer (some ⟨b, off, none⟩)) (.agg xs)).run Try.prog w = .ok () (putRow w b off xs) := run_storeAgg info_rblk_n w b off xs hn h1 ht
theorem onesRblk (p : Pt) (g : GHeader) (o : Option Nat) : oneCells (rblkA p g o) := by
 have h : ∀ u ∈ (rblkA p g o).toList, u.oneCell' = true := rA_one (p, g, o)
 unfold oneCells
 rw [← Array.all_toList, List.all_eq_true]
 exact h
attribute [local go_sem ↓] load_rblk_s store_rblk_s
attribute [local go_sem] load_rblk store_rblk onesRblk zero_rblk rblkA_size
/-- what the parent's answers are -/
def eParI : Option Nat → Int | none => 6 | some _ => 0
def nParH (C : List Blk) : Option Nat → Hash | none => zeroHash | some j => (ptAt C j).name
theorem plays_res : Try.f9.results = #[.cell 4 4] := by kernel_rfl
theorem run_bldPtE (e : UInt64) (n : Hash) (W : World) : (bldPt #[(0, .int .u64 (e.toNat : Int)), (1, .agg (hashA n))]).run Try.prog W = .ok (.agg (pointA ⟨e, n⟩)) W := by
 unfold bldPt
 go_simp
 rw [if_neg (fun h => by have := congrArg Array.size h; simp at this)]
 first | rfl | (rw [pointA_set_epoch zeroPt e, splice_point_name]; rfl)
theorem hash_guard_p : Try.prog.eqGuardType Try.prog.depth 24 = false := by kernel_rfl
attribute [local go_sem ↓] fold_bldPt
theorem run_eql_fn2 (W : World) (f : Fn) (xs ys : Array Value) : (binOp .eql 112 (.func f xs ys) Value.nilFunc).run Try.prog W = .ok (.bool false) W := by
 have h : ∀ d, (Op.equalIn (d + 1) 112 (.func f xs ys) .nilFunc).run Try.prog W = .ok false W := fun d => by
  simp [Op.equalIn, run_underlying Try.underlying112]
 simp only [binOp]
 simp [Op.equal, Op.maxDepth, h 9999]
theorem stop_region {F : Fence} {id n : Nat} {ops : Array Oper} {P : Program} {Q : Exit → Go.Act → World → Prop} {a : Go.Act} {w : World} (h : Hid ((Code.region id ops true).wpIn F n P Q a w)) : (Code.region id ops true).wpIn F n P Q a w := h.out
theorem below_putObj {B : Nat} {w W : World} (h : Below B w W) {l : Nat} (hl : B ≤ l) (hB : B ≤ w.heap.size) (o : Obj) : Below B w (W.putObj l o) :=
 h.grown (grownBy_putObj' W l o) (Nat.le_trans hB h.size) (fun k e => by cases e; exact hl)
/-- the last store: known, then the result put -/
structure H57 (w : World) (b4 : Nat) (L : List Bool) (_V : List Value) (W : World) : Prop where
 no : L.getD 0 false = false → W = w.drew
 yes : L.getD 0 false = true → L.getD 2 false = false → Below w.heap.size w W
 fin : L.getD 2 false = true → ∃ W0, Below w.heap.size w W0 ∧ W = W0.setCell ⟨b4, 0, none⟩ (.bool true)
 a1 : L.getD 1 false = true → L.getD 0 false = true
section
variable {w W W' : World} {b4 : Nat} {l0 l1 l2 : Bool} {v0 v1 v2 : Value}
theorem H57.zero (V : List Value) : H57 w b4 [false, false, false] V w.drew := ⟨fun _ => rfl, fun q => (by cases q), fun q => (by cases q), fun q => (by cases q)⟩
theorem H57.call (h : H57 w b4 [l0, l1, l2] [v0, v1, v2] W) (hb : Below w.drew.heap.size w.drew W') (h2 : l2 = false) (v : Value) : H57 w b4 [true, l1, l2] [v, v1, v2] W' := by
 subst h2
 exact ⟨fun q => (by cases q), fun _ _ => (Below.refl _ w).drew.trans hb, fun q => (by cases q), fun _ => rfl⟩
theorem H57.by1 {u0 u1 u2 : Value} (h : H57 w b4 [l0, l1, l2] [v0, v1, v2] W) (h0 : l0 = true) : H57 w b4 [l0, true, l2] [u0, u1, u2] W := ⟨h.no, h.yes, h.fin, fun _ => h0⟩
theorem H57.tell (h : H57 w b4 [l0, l1, l2] [v0, v1, v2] W) (h1 : l1 = true) (h2 : l2 = false) (hF : ∀ W, Below w.heap.size w W → W.cell? ⟨b4, 0, none⟩ = some (.bool false) ∧ W.frozen? ⟨b4, 0, none⟩ = false) :
  W.cell? ⟨b4, 0, none⟩ = some (.bool false) ∧ W.frozen? ⟨b4, 0, none⟩ = false ∧ ∀ u2, H57 w b4 [l0, l1, true] [v0, v1, u2] (W.setCell ⟨b4, 0, none⟩ (.bool true)) := by
 have h0 := h.a1 h1
 have hb := h.yes h0 h2
 obtain ⟨c, f⟩ := hF W hb
 refine ⟨c, f, fun u2 => ⟨fun q => ?_, fun _ q => (by cases q), fun _ => ⟨W, hb, rfl⟩, h.a1⟩⟩
 rw [show l0 = true from h0] at q
 cases q
end
/-- between two rounds over the headers -/
structure RndP (wr w26 : World) (b25 lb : Nat) (s : Sl) (G : List GB) (k : Nat) (W : World) : Prop where
 bel : Below wr.heap.size wr W
 size : w26.heap.size ≤ W.heap.size
 c25 : W.cell? ⟨b25, 0, none⟩ = some (.int .i64 (k : Int))
 f25 : W.frozen? ⟨b25, 0, none⟩ = false
 clb : W.cell? ⟨lb, 0, none⟩ = some s.v
 ptr : ∀ (i : Nat) (x : GB), G[i + 1]? = some x → ∃ b, s.a = some ⟨b, 0, none⟩ ∧ b < w26.heap.size ∧ b ≠ b25 ∧ W.cell? ⟨b, i, none⟩ = some (ptrV x.b)
theorem RndP.off {wr w26 W W' : World} {b25 lb : Nat} {s : Sl} {G : List GB} {k k' : Nat} (h : RndP wr w26 b25 lb s G k W) (hb : Below wr.heap.size wr W') (hs : W.heap.size ≤ W'.heap.size) (hk : ∀ q, q < w26.heap.size → q ≠ b25 → W'.heap[q]? = W.heap[q]?) (hl : lb < w26.heap.size) (hlb : lb ≠ b25) (c : W'.cell? ⟨b25, 0, none⟩ = some (.int .i64 (k' : Int))) (f : W'.frozen? ⟨b25, 0, none⟩ = false) : RndP wr w26 b25 lb s G k' W' :=
 ⟨hb, Nat.le_trans h.size hs, c, f, (World.cell?_of_block (a := ⟨lb, 0, none⟩) (hk lb hl hlb)).trans h.clb, fun i x hx => by
  obtain ⟨b, h1, h2, h3, h4⟩ := h.ptr i x hx
  exact ⟨b, h1, h2, h3, (World.cell?_of_block (a := ⟨b, i, none⟩) (hk b h2 h3)).trans h4⟩⟩
theorem RndP.keep {wr w26 W W' : World} {b25 lb : Nat} {s : Sl} {G : List GB} {k : Nat} (h : RndP wr w26 b25 lb s G k W) (hb : Below W.heap.size W W') (h25 : b25 < w26.heap.size) (hl : lb < w26.heap.size) (hlb : lb ≠ b25) : RndP wr w26 b25 lb s G k W' := by
 have hsz := h.size
 exact h.off (h.bel.trans (hb.mono h.bel.size)) hb.size (fun x hx _ => hb.block x (by omega)) hl hlb ((hb.cell (p := ⟨b25, 0, none⟩) (by show b25 < W.heap.size; omega)).trans h.c25) ((World.frozen?_of_block (a := ⟨b25, 0, none⟩) (hb.block b25 (by omega))).trans h.f25)
theorem RndP.put {wr w26 W : World} {b25 lb : Nat} {s : Sl} {G : List GB} {k q : Nat} (h : RndP wr w26 b25 lb s G k W) (o : Obj) (hq : w26.heap.size ≤ q) (hw : wr.heap.size ≤ w26.heap.size) (h25 : b25 < w26.heap.size) (hl : lb < w26.heap.size) (hlb : lb ≠ b25) : RndP wr w26 b25 lb s G k (W.putObj q o) := by
 have hsz := h.size
 have hn : b25 ≠ q := by omega
 exact h.off (below_putObj h.bel (by omega) (Nat.le_refl _) o) (by simp [World.putObj]) (fun x hx _ => World.putObj_heap_other (by omega)) hl hlb ((World.cell?_of_block (a := ⟨b25, 0, none⟩) (World.putObj_heap_other hn)).trans h.c25) ((World.frozen?_of_block (a := ⟨b25, 0, none⟩) (World.putObj_heap_other hn)).trans h.f25)
theorem RndP.more {wr w26 W : World} {b25 lb : Nat} {s : Sl} {G : List GB} {k k' : Nat} (h : RndP wr w26 b25 lb s G k W) (hw : wr.heap.size ≤ b25) (hl : lb < w26.heap.size) (hlb : lb ≠ b25) (hk : k' = k + 1) : RndP wr w26 b25 lb s G (k + 1) (W.setCell ⟨b25, 0, none⟩ (.int .i64 (k' : Int))) := by
 subst hk
 exact h.off (h.bel.setCell (p := ⟨b25, 0, none⟩) hw _) (by simp [World.setCell]) (fun x _ hx => Below.heap_setCell _ _ _ _ hx) hl hlb (World.cell?_setCell_same _ _ _ h.c25) ((World.frozen?_setCell _ _ _ _).trans h.f25)
theorem keeps_below {B : Nat} {W W' : World} (h : Below W.heap.size W W') : KeepsFrom B W W' := ⟨h.size, fun k _ _ hk _ => (h.block k (Array.getElem?_eq_some_iff.1 hk).1).trans hk⟩
attribute [local go_sem] Oper.semAt_some
/-- the function's end, without a range behind it -/
theorem plays_end {w W : World} {tmps : Array Value} {b4 : Nat} (h4 : tmps[4]?.getD undef = .pointer (some ⟨b4, 0, none⟩)) (c4 : W.cell? ⟨b4, 0, none⟩ = some (.bool true)) (hB : Below w.heap.size w W) :
  bodyPostM Fence.wide 10 Try.prog Try.f9 (fun e w' => e = .returned (.bool true) ∧ Below w.heap.size w w') .ret { tmps := tmps, defers := [] } W := by
 refine ⟨.bool true, ?_, rfl, hB⟩
 unfold results
 rw [plays_res]
 go_simp
set_option maxRecDepth 100000 in
set_option maxHeartbeats 3200000 in
theorem plays_walk (p : Pt) (s : Sl) (l : List Act) (w : World) (ha : ActsR w s l) (hl : l.length ≤ 9223372036854775807) :
  Calls Try.prog 9 #[.agg (pointA p), s.v] w fun e w' => e = .returned (.bool true) ∧ Below w.heap.size w w' := by
 obtain ⟨w1, hw1⟩ : ∃ W, W = (w.alloc (.cells (pointA p) 26)).alloc (.cells #[.bool false] 4) := ⟨_, rfl⟩
 have hB1 : Below w.heap.size w w1 := by rw [hw1]; (repeat' (first | (with_reducible first | exact Below.refl _ _ | assumption | refine bel_trans (by assumption) ?_ ?_ | refine bel_grown (by assumption) ?_ ?_ ?_ | refine Below.alloc ?_ ?_ _ | refine Below.drew ?_ | refine below_drewN ?_ _ | refine Below.setCell ?_ ?_ _ | refine below_put ?_ ?_ _ _ | exact Nat.le_refl _) | omega | (with_reducible first | refine Nat.le_trans ?_ (Below.size (by assumption)) | refine Nat.le_trans ?_ (World.grownBy.size (by assumption))) | (simp only [World.size_alloc, World.size_setCell, World.size_drew, size_drewN]; omega) | (simp only [World.size_alloc, World.size_setCell, World.size_drew, size_drewN, size_put]; omega) | (intro k hk; simp [Value.ownBlock] at hk; first | done | omega) | (simp [size_drewN] at *; omega)))
 have hz1 : w1.heap.size = w.heap.size + 2 := by rw [hw1]; simp
 have hr2 : row? w1 w.heap.size 0 33 = some (pointA p) := by rw [hw1, row?_old _ _ _ _ _ (by simp), row?_new]; simp
 have h4b : w1.heap[w.heap.size + 1]? = some (.cells #[.bool false] 4 (0, 0)) := by
  have h := heap_alloc_new (w.alloc (.cells (pointA p) 26)) (.cells #[.bool false] 4)
  rw [show (w.alloc (.cells (pointA p) 26)).heap.size = w.heap.size + 1 by simp, ← hw1] at h
  exact h
 have ha1 := Lib.hid (ha.keep' hB1)
 have hF := fewA_c ha1.out hl 40
 obtain ⟨m, hm⟩ : ∃ m, m = fewA l 40 := ⟨_, rfl⟩
 rw [← hm] at hF
 obtain ⟨sa, sn, sc⟩ := s
 obtain rfl : sn = l.length := ha.1
 obtain ⟨b2, hb2⟩ : ∃ b, b = w.heap.size := ⟨_, rfl⟩
 obtain ⟨b4, hb4⟩ : ∃ b, b = w.heap.size + 1 := ⟨_, rfl⟩
 rw [← hb2] at hr2
 rw [← hb4] at h4b
 have hl2 : b2 < w1.heap.size := by omega
 have hl4 : b4 < w1.heap.size := by omega
 have hc2 := cell_of_row? hr2 0 (by omega)
 have hc2' : w1.cell? ⟨b2, 0, none⟩ = some (.int .u64 (p.epoch.toNat : Int)) := by simpa using hc2
 have hF4 := Lib.hid (show ∀ W, Below w1.heap.size w1 W → W.cell? ⟨b4, 0, none⟩ = some (.bool false) ∧ W.frozen? ⟨b4, 0, none⟩ = false ∧ b4 < W.heap.size from fun W hb => by
  have h := (hb.block b4 hl4).trans h4b
  refine ⟨by rw [cell_of_row _ _ _ _ _ _ h]; rfl, frozen_of_row _ _ _ _ _ h, Nat.lt_of_lt_of_le hl4 hb.size⟩)
 clear hc2 ha h4b
 dsimp only [Sl.v] at hF ⊢
 replace hb2 := Lib.hid hb2
 replace hb4 := Lib.hid hb4
 replace hm := Lib.hid hm
 replace hz1 := Lib.hid hz1
 have HK := fun W => known10_c W
 have hwb4 : w.heap.size ≤ b4 := by have := hb4.out; omega
 refine callsIn_wide.1 (callsIn_of_wp_marks (n := 10) Try.func9 rfl trivial ?_ rfl)
 simp only [Try.ntmps9, List.size_toArray, List.length_cons, List.length_nil, Nat.reduceAdd, Nat.reduceSub, Array.replicate_succ, Array.replicate_zero, List.push_toArray, List.append_toArray, List.nil_append, List.cons_append]
 refine wpIn_wide.2 ?_
 go_upto_region 1 with fail
 rw [← hw1, ← hb4.out, ← hb2.out]
 clear hw1
 go_wp2_with fail
 (with_reducible refine hF.mono ?_)
 clear hF
 rintro e w2 ⟨rfl, hb12⟩
 have hB2 := Lib.hid (hB1.trans (hb12.mono (by have := hz1.out; omega)))
 cases m
 ·go_wp2_with fail
  (with_reducible refine (HK _).mono ?_)
  rintro e w3 ⟨rfl, hb3⟩
  obtain ⟨c4, f4, -⟩ := hF4.out w3 (hb12.trans (hb3.mono hb12.size))
  have hB3 := (hB2.out.trans (hb3.mono hB2.out.size)).setCell (p := ⟨b4, 0, none⟩) hwb4 (.bool true)
  clear hb12 hb3
  go_wp2_with fail
  exact plays_end rfl (World.cell?_setCell_same _ _ _ c4) hB3
 have hr22 := (row?_below _ _ _ hb12 hl2).trans hr2
 have hc22 := (hb12.cell (p := ⟨b2, 0, none⟩) hl2).trans hc2'
 by_cases hep : 4611686018427387904 < p.epoch.toNat
 ·have hei : (4611686018427387904 : Int) < (p.epoch.toNat : Int) := by omega
  have HN := chnew_bad p w2 hep
  go_wp2_with fail
  (with_reducible refine HN.mono ?_)
  clear HN
  rintro e w3 ⟨rfl, hb3⟩
  have hc23 := (hb3.cell (p := ⟨b2, 0, none⟩) (Nat.lt_of_lt_of_le hl2 hb12.size)).trans hc22
  have hb13 := hb12.trans (hb3.mono hb12.size)
  have hB3 := hB1.trans (hb13.mono hB1.size)
  clear hr22 hc22
  go_wp2_with fail
  (with_reducible refine (HK _).mono ?_)
  rintro e w4 ⟨rfl, hb4'⟩
  obtain ⟨c4, f4, -⟩ := hF4.out w4 (hb13.trans (hb4'.mono hb13.size))
  have hB4 := (hB3.trans (hb4'.mono hB3.size)).setCell (p := ⟨b4, 0, none⟩) hwb4 (.bool true)
  clear hb12 hb3 hb4' hb13 hB3 hc23
  go_wp2_with fail
  exact plays_end rfl (World.cell?_setCell_same _ _ _ c4) hB4
 have hei : ¬ (4611686018427387904 : Int) < (p.epoch.toNat : Int) := by omega
 have HN := chnew_c p w2 (by omega)
 unfold ptrV at HN
 go_wp2_with fail
 (with_reducible refine HN.mono ?_)
 clear HN
 rintro e w3 ⟨cb, rfl, hcb, ⟨T0, hC0⟩, hb3⟩
 have hB13 : Below w1.heap.size w1 w3 := hb12.trans (hb3.mono hb12.size)
 have hr23 := (row?_below _ _ _ hB13 hl2).trans hr2
 have hc23 := (hB13.cell (p := ⟨b2, 0, none⟩) hl2).trans hc2'
 have HR := rnew_c w1 w3 hB13 p
 unfold ptrV at HR
 clear hr22 hc22
 go_wp2_with fail
 (with_reducible refine HR.mono ?_)
 clear HR
 rintro e w4 ⟨cr, rb0, rfl, hcr, hrb, hR0, hb4'⟩
 obtain ⟨T1', hB4'⟩ := Both.start hC0 hb4' hR0 hcr hrb hb12.size
 obtain ⟨T1, hB4, hT1⟩ := hB4'.zero
 obtain ⟨hfa, hl40⟩ := fewA_out hm.out.symm
 clear hB4' hC0 hR0 hcr hrb hcb hr23 hc23
 go_upto_region 7 with fail
 obtain ⟨w5, hw5⟩ : ∃ W, W = w4.alloc (.cells #[.pointer (some ⟨cr, 0, none⟩)] 63) := ⟨_, rfl⟩
 have hb45 : Below w4.heap.size w4 w5 := by rw [hw5]; exact bel_a _ _
 have c7 : w5.cell? ⟨w4.heap.size, 0, none⟩ = some (.pointer (some ⟨cr, 0, none⟩)) := by rw [hw5, cell_of_row _ _ _ _ _ _ (heap_alloc_new w4 _)]; rfl
 have hz5 : w5.heap.size = w4.heap.size + 1 := by rw [hw5]; simp
 rw [← hw5]
 obtain ⟨b7, hb7⟩ : ∃ b, b = w4.heap.size := ⟨_, rfl⟩
 rw [← hb7] at c7 ⊢
 have hB5 := hB4.keep hb45
 have hB15 := Lib.hid hB5.bel
 have hl7 : b7 < w5.heap.size := by omega
 have ht7 := Lib.hid (hT1 b7 (by omega))
 obtain ⟨B0, hB0⟩ : ∃ B, B = w2.heap.size := ⟨_, rfl⟩
 rw [← hB0] at hB5
 have HD := actdo_c (hB5.keep (Below.refl w5.heap.size w5).drew) (chNew_ok p) ha1.out (by omega) hfa
 have hok := Lib.hid (doA_ok (chNew_ok p) l)
 have hC0e := Lib.hid (doA_head (chNew_ok p) l)
 have hAn := fun W (h : ∃ T', Both w1 B0 T' W cb cr (doA (chNew p) l) (doA (chNew p) l)) => show Calls Try.prog 47 #[ptrV cb] W fun e w' => e = .returned (.agg (pointA p)) ∧ Below W.heap.size W w' from by
  obtain ⟨T', hB'⟩ := h
  obtain ⟨sA, mb, G, hM⟩ := hB'.real
  obtain ⟨ab, -, -, hv⟩ := hM.view hok.out.pos
  exact chanchor_c hv (b := ⟨p, zeroHdr, none⟩) hC0e.out
 have hlen : (doA (chNew p) l).length ≤ 41 := by
  have := doA_len (chNew p) l
  have h1 : (chNew p).length = 1 := rfl
  omega
 unfold ptrV at HD hAn
 dsimp only [Sl.v] at HD
 replace hb7 := Lib.hid hb7
 replace hz5 := Lib.hid hz5
 replace hB0 := Lib.hid hB0
 clear hw5 hb45 hB4 hb4' hT1 hb3 hB13 hb12 hc2' hfa
 refine wp_region_freeI_l (by kernel_rfl) [52, 53, 54, 55, 56, 57, 58, 59, 60, 61, 62, 63, 64, 65, 66]
  [(fun v => v = .int .i64 0), (fun v => v = .bool false), (fun v => v = .bool false), (fun v => v = .pointer (some ⟨cb, 0, none⟩)), (fun v => v = .pointer (some ⟨cr, 0, none⟩)), (fun v => v = .slice sa l.length sc), (fun v => v = .bool true), (fun v => v = .bool false), (fun v => v = .bool false), (fun v => v = .bool false), (fun v => v = .pointer (some ⟨cb, 0, none⟩)), (fun v => v = .agg (pointA p)), (fun v => v = .agg (pointA p)), (fun v => v = .bool false), (fun v => v = .bool false)]
  [6, 7, 8, 9, 11] (HPl w1 B0 T1 w5 cb cr (doA (chNew p) l)) [[1, 2, 3, 4, 5, 6, 7, 8, 9, 10, 11, 12, 13, 14], [2, 3, 4, 5, 6, 7, 8, 9, 10, 11, 12, 13, 14], [3, 4, 5, 6, 7, 8, 9, 10, 11, 12, 13, 14], [6, 7, 8, 9, 10, 11, 12, 13, 14], [6, 7, 8, 9, 10, 11, 12, 13, 14], [6, 7, 8, 9, 10, 11, 12, 13, 14], [7, 8, 9, 10, 11, 12, 13, 14], [8, 9, 10, 11, 12, 13, 14], [9, 10, 11, 12, 13, 14], [10, 11, 12, 13, 14], [11, 13, 14], [13, 14], [13, 14], [14], []] (by kernel_rfl) (by kernel_rfl) ?_ ?_ ?_
 ·show HPl w1 B0 T1 w5 cb cr (doA (chNew p) l) [false, false, false, false, false] [_, _, _, _, _] _
  exact HPl.zero _
 ·refine ⟨?_, ?_, ?_, ?_, ?_, ?_, ?_, ?_, ?_, ?_, ?_, ?_, ?_, ?_, ?_, trivial⟩
  ·intro L ax W hf hLi hno hd
   try simp [Region.binds] at hd
   have e6 : ax.tmps[6]?.getD undef = .int .i64 0 := hf.out 6 (by decide) rfl
   refine ⟨fun _ => ?_, fun h => absurd trivial h⟩
   refine freeI_run (v := .int .i64 0) rfl hf (by decide) ?_ rfl
   go_simp
  ·intro L ax W hf hLi hno hd
   simp [Region.binds] at hd
   have e52 : ax.tmps[52]?.getD undef = .int .i64 0 := slv (hf.got 0 (by decide) (by simp [hd]))
   refine ⟨fun _ => ?_, fun h => absurd trivial h⟩
   refine freeI_run (v := .bool false) rfl hf (by decide) ?_ rfl
   go_simp
  ·intro L ax W hf hLi hno hd
   simp [Region.binds] at hd
   have e53 : ax.tmps[53]?.getD undef = .bool false := slv (hf.got 1 (by decide) (by simp [hd]))
   refine ⟨fun _ => ?_, fun h => absurd trivial h⟩
   refine freeI_run (v := .bool false) rfl hf (by decide) ?_ rfl
   go_simp
  ·intro L ax W hf hLi hno hd
   simp [Region.binds] at hd
   have e5 : ax.tmps[5]?.getD undef = .pointer (some ⟨cb, 0, none⟩) := hf.out 5 (by decide) rfl
   have g0 : sl ax 54 = .bool false := hf.got 2 (by decide) (by simp [hd])
   refine ⟨fun hh => ?_, fun hh => ?_⟩
   ·first
     | (exact absurd (g0.symm.trans hh) (undef_ne _))
     | (exact absurd (g0.symm.trans hh) (bool_ne (by decide)))
     | (exfalso; revert hh; simp [Held, g0, *]; done)
     | (refine freeI_run (v := .pointer (some ⟨cb, 0, none⟩)) rfl hf (by decide) ?_ rfl; go_simp)
   ·first
     | (exact absurd g0 hh)
     | (exfalso; revert hh; simp [Held, g0, *]; done)
     | (refine ⟨?_, by rw [updB_map (by decide), updV_map (by decide)]; exact hf.glob⟩; show undef = _; first | rfl | (simp [*]; done))
  ·intro L ax W hf hLi hno hd
   simp [Region.binds] at hd
   have e7 : ax.tmps[7]?.getD undef = .pointer (some ⟨b7, 0, none⟩) := hf.out 7 (by decide) rfl
   have g0 : sl ax 54 = .bool false := hf.got 2 (by decide) (by simp [hd])
   refine ⟨fun hh => ?_, fun hh => ?_⟩
   ·first
     | (exact absurd (g0.symm.trans hh) (undef_ne _))
     | (exact absurd (g0.symm.trans hh) (bool_ne (by decide)))
     | (exfalso; revert hh; simp [Held, g0, *]; done)
     | ((have hG : HPl w1 B0 T1 w5 cb cr (doA (chNew p) l) [L 6, L 7, L 8, L 9, L 11] [sl ax 58, sl ax 59, sl ax 60, sl ax 61, sl ax 63] W := hf.glob); (have hW : W = w5.drew := hG.no (hno 6 (by decide))); subst hW; (have h1 : w5.drew.cell? ⟨b7, 0, none⟩ = _ := c7); refine freeI_run (v := .pointer (some ⟨cr, 0, none⟩)) rfl hf (by decide) ?_ rfl; go_simp)
   ·first
     | (exact absurd g0 hh)
     | (exfalso; revert hh; simp [Held, g0, *]; done)
     | (refine ⟨?_, by rw [updB_map (by decide), updV_map (by decide)]; exact hf.glob⟩; show undef = _; first | rfl | (simp [*]; done))
  ·intro L ax W hf hLi hno hd
   simp [Region.binds] at hd
   have e1 : ax.tmps[1]?.getD undef = .slice sa l.length sc := hf.out 1 (by decide) rfl
   have g0 : sl ax 54 = .bool false := hf.got 2 (by decide) (by simp [hd])
   refine ⟨fun hh => ?_, fun hh => ?_⟩
   ·first
     | (exact absurd (g0.symm.trans hh) (undef_ne _))
     | (exact absurd (g0.symm.trans hh) (bool_ne (by decide)))
     | (exfalso; revert hh; simp [Held, g0, *]; done)
     | (refine freeI_run (v := .slice sa l.length sc) rfl hf (by decide) ?_ rfl; go_simp)
   ·first
     | (exact absurd g0 hh)
     | (exfalso; revert hh; simp [Held, g0, *]; done)
     | (refine ⟨?_, by rw [updB_map (by decide), updV_map (by decide)]; exact hf.glob⟩; show undef = _; first | rfl | (simp [*]; done))
  ·intro L ax W hf hLi hno hd
   simp [Region.binds] at hd
   have e55 : ax.tmps[55]?.getD undef = .pointer (some ⟨cb, 0, none⟩) := slv (hf.got 3 (by decide) (by simp [hd]))
   have e56 : ax.tmps[56]?.getD undef = .pointer (some ⟨cr, 0, none⟩) := slv (hf.got 4 (by decide) (by simp [hd]))
   have e57 : ax.tmps[57]?.getD undef = .slice sa l.length sc := slv (hf.got 5 (by decide) (by simp [hd]))
   have g0 : sl ax 54 = .bool false := hf.got 2 (by decide) (by simp [hd])
   refine ⟨fun hh => ?_, fun hh => ?_⟩
   ·first
     | (exact absurd (g0.symm.trans hh) (undef_ne _))
     | (exact absurd (g0.symm.trans hh) (bool_ne (by decide)))
     | (exfalso; revert hh; simp [Held, g0, *]; done)
     | ((have hG : HPl w1 B0 T1 w5 cb cr (doA (chNew p) l) [L 6, L 7, L 8, L 9, L 11] [sl ax 58, sl ax 59, sl ax 60, sl ax 61, sl ax 63] W := hf.glob); (have hW : W = w5.drew := hG.no hLi); subst hW; refine freeI_call (f := 34) (args := #[.pointer (some ⟨cb, 0, none⟩), .pointer (some ⟨cr, 0, none⟩), .slice sa l.length sc]) rfl (by go_simp) ?_; refine HD.mono ?_; rintro e w' ⟨rfl, T, hB, hFr⟩; exact ⟨_, rfl, rfl, HPl.did hB hFr hG⟩)
   ·first
     | (exact absurd g0 hh)
     | (exfalso; revert hh; simp [Held, g0, *]; done)
     | (refine ⟨?_, by rw [updB_map (by decide), updV_map (by decide)]; exact hf.glob⟩; show undef = _; first | rfl | (simp [*]; done))
  ·intro L ax W hf hLi hno hd
   simp [Region.binds] at hd
   have f58 : (fun v => v = .bool true) (sl ax 58) := hf.got 6 (by decide) (by simp [hd])
   have g0 : sl ax 54 = .bool false := hf.got 2 (by decide) (by simp [hd])
   refine ⟨fun hh => ?_, fun hh => ?_⟩
   ·first
     | (exact absurd (g0.symm.trans hh) (undef_ne _))
     | (exact absurd (g0.symm.trans hh) (bool_ne (by decide)))
     | (exfalso; revert hh; simp [Held, g0, *]; done)
     | ((have hG : HPl w1 B0 T1 w5 cb cr (doA (chNew p) l) [L 6, L 7, L 8, L 9, L 11] [sl ax 58, sl ax 59, sl ax 60, sl ax 61, sl ax 63] W := hf.glob); (have e58 := slv f58); refine freeI_val (v := .bool false) (W' := W) rfl ?_ rfl (HPl.by1 hG (by simp [updB, hd])); go_simp)
   ·first
     | (exact absurd g0 hh)
     | (exfalso; revert hh; simp [Held, g0, *]; done)
     | (refine ⟨?_, by rw [updB_map (by decide), updV_map (by decide)]; exact hf.glob⟩; show undef = _; first | rfl | (simp [*]; done))
  ·intro L ax W hf hLi hno hd
   simp [Region.binds] at hd
   have e54 : ax.tmps[54]?.getD undef = .bool false := slv (hf.got 2 (by decide) (by simp [hd]))
   have f59 : (fun v => v = .bool false) (sl ax 59) := hf.got 7 (by decide) (by simp [hd])
   refine ⟨fun _ => ?_, fun h => absurd trivial h⟩
   have hG : HPl w1 B0 T1 w5 cb cr (doA (chNew p) l) [L 6, L 7, L 8, L 9, L 11] [sl ax 58, sl ax 59, sl ax 60, sl ax 61, sl ax 63] W := hf.glob
   have e59 := slv f59
   refine freeI_val (v := .bool false) (W' := W) rfl ?_ rfl (HPl.by2 hG (by simp [updB, hd]))
   go_simp
  ·intro L ax W hf hLi hno hd
   simp [Region.binds] at hd
   have f60 : (fun v => v = .bool false) (sl ax 60) := hf.got 8 (by decide) (by simp [hd])
   refine ⟨fun _ => ?_, fun h => absurd trivial h⟩
   have hG : HPl w1 B0 T1 w5 cb cr (doA (chNew p) l) [L 6, L 7, L 8, L 9, L 11] [sl ax 58, sl ax 59, sl ax 60, sl ax 61, sl ax 63] W := hf.glob
   have e60 := slv f60
   refine freeI_val (v := .bool false) (W' := W) rfl ?_ rfl (HPl.by3 hG (by simp [updB, hd]))
   go_simp
  ·intro L ax W hf hLi hno hd
   simp [Region.binds] at hd
   have e5 : ax.tmps[5]?.getD undef = .pointer (some ⟨cb, 0, none⟩) := hf.out 5 (by decide) rfl
   have g0 : sl ax 61 = .bool false := hf.got 9 (by decide) (by simp [hd])
   refine ⟨fun hh => ?_, fun hh => ?_⟩
   ·first
     | (exact absurd (g0.symm.trans hh) (undef_ne _))
     | (exact absurd (g0.symm.trans hh) (bool_ne (by decide)))
     | (exfalso; revert hh; simp [Held, g0, *]; done)
     | (refine freeI_run (v := .pointer (some ⟨cb, 0, none⟩)) rfl hf (by decide) ?_ rfl; go_simp)
   ·first
     | (exact absurd g0 hh)
     | (exfalso; revert hh; simp [Held, g0, *]; done)
     | (refine ⟨?_, by rw [updB_map (by decide), updV_map (by decide)]; exact hf.glob⟩; show undef = _; first | rfl | (simp [*]; done))
  ·intro L ax W hf hLi hno hd
   simp [Region.binds] at hd
   have e62 : ax.tmps[62]?.getD undef = .pointer (some ⟨cb, 0, none⟩) := slv (hf.got 10 (by decide) (by simp [hd]))
   have g0 : sl ax 61 = .bool false := hf.got 9 (by decide) (by simp [hd])
   refine ⟨fun hh => ?_, fun hh => ?_⟩
   ·first
     | (exact absurd (g0.symm.trans hh) (undef_ne _))
     | (exact absurd (g0.symm.trans hh) (bool_ne (by decide)))
     | (exfalso; revert hh; simp [Held, g0, *]; done)
     | ((have hG : HPl w1 B0 T1 w5 cb cr (doA (chNew p) l) [L 6, L 7, L 8, L 9, L 11] [sl ax 58, sl ax 59, sl ax 60, sl ax 61, sl ax 63] W := hf.glob); obtain ⟨T', hB', -⟩ := hG.tell (by simp [hd]); refine freeI_call (f := 47) (args := #[.pointer (some ⟨cb, 0, none⟩)]) rfl (by go_simp) ?_; refine (hAn W ⟨T', hB'⟩).mono ?_; rintro e w' ⟨rfl, hb⟩; exact ⟨_, rfl, rfl, HPl.keep hG hb (by simp [updB, hd])⟩)
   ·first
     | (exact absurd g0 hh)
     | (exfalso; revert hh; simp [Held, g0, *]; done)
     | (refine ⟨?_, by rw [updB_map (by decide), updV_map (by decide)]; exact hf.glob⟩; show undef = _; first | rfl | (simp [*]; done))
  ·intro L ax W hf hLi hno hd
   simp [Region.binds] at hd
   have e2 : ax.tmps[2]?.getD undef = .pointer (some ⟨b2, 0, none⟩) := hf.out 2 (by decide) rfl
   have g0 : sl ax 61 = .bool false := hf.got 9 (by decide) (by simp [hd])
   refine ⟨fun hh => ?_, fun hh => ?_⟩
   ·first
     | (exact absurd (g0.symm.trans hh) (undef_ne _))
     | (exact absurd (g0.symm.trans hh) (bool_ne (by decide)))
     | (exfalso; revert hh; simp [Held, g0, *]; done)
     | ((have hG : HPl w1 B0 T1 w5 cb cr (doA (chNew p) l) [L 6, L 7, L 8, L 9, L 11] [sl ax 58, sl ax 59, sl ax 60, sl ax 61, sl ax 63] W := hf.glob); (have h2 := (row?_below _ _ _ (hG.bel hB15.out) hl2).trans hr2); refine freeI_run (v := .agg (pointA p)) rfl hf (by decide) ?_ rfl; go_simp)
   ·first
     | (exact absurd g0 hh)
     | (exfalso; revert hh; simp [Held, g0, *]; done)
     | (refine ⟨?_, by rw [updB_map (by decide), updV_map (by decide)]; exact hf.glob⟩; show undef = _; first | rfl | (simp [*]; done))
  ·intro L ax W hf hLi hno hd
   simp [Region.binds] at hd
   have f63 : (fun v => v = .agg (pointA p)) (sl ax 63) := hf.got 11 (by decide) (by simp [hd])
   have e64 : ax.tmps[64]?.getD undef = .agg (pointA p) := slv (hf.got 12 (by decide) (by simp [hd]))
   have g0 : sl ax 61 = .bool false := hf.got 9 (by decide) (by simp [hd])
   refine ⟨fun hh => ?_, fun hh => ?_⟩
   ·first
     | (exact absurd (g0.symm.trans hh) (undef_ne _))
     | (exact absurd (g0.symm.trans hh) (bool_ne (by decide)))
     | (exfalso; revert hh; simp [Held, g0, *]; done)
     | ((have hG : HPl w1 B0 T1 w5 cb cr (doA (chNew p) l) [L 6, L 7, L 8, L 9, L 11] [sl ax 58, sl ax 59, sl ax 60, sl ax 61, sl ax 63] W := hf.glob); (have e63 := slv f63); refine freeI_run (v := .bool false) rfl hf (by decide) ?_ rfl; go_simp)
   ·first
     | (exact absurd g0 hh)
     | (exfalso; revert hh; simp [Held, g0, *]; done)
     | (refine ⟨?_, by rw [updB_map (by decide), updV_map (by decide)]; exact hf.glob⟩; show undef = _; first | rfl | (simp [*]; done))
  ·intro L ax W hf hLi hno hd
   simp [Region.binds] at hd
   have f61 : (fun v => v = .bool false) (sl ax 61) := hf.got 9 (by decide) (by simp [hd])
   have e65 : ax.tmps[65]?.getD undef = .bool false := slv (hf.got 13 (by decide) (by simp [hd]))
   refine ⟨fun _ => ?_, fun h => absurd trivial h⟩
   have hG : HPl w1 B0 T1 w5 cb cr (doA (chNew p) l) [L 6, L 7, L 8, L 9, L 11] [sl ax 58, sl ax 59, sl ax 60, sl ax 61, sl ax 63] W := hf.glob
   have e61 := slv f61
   refine freeI_run (v := .bool false) rfl hf (by decide) ?_ rfl
   go_simp
 ·intro vs w6 hl' hF' hG
  obtain ⟨g', hg1, hg2⟩ := vs_litI vs hl' hF'
  have e14 : g' 14 = .bool false := hg2 14 (by decide)
  obtain ⟨T6, hB6, hF6⟩ := hG.yes rfl
  rw [hg1]
  simp only [List.length_cons, List.length_nil, Nat.reduceAdd, show List.range 15 = [0, 1, 2, 3, 4, 5, 6, 7, 8, 9, 10, 11, 12, 13, 14] from rfl, List.map_cons, List.map_nil, slotsIn, putL, List.setIfInBounds_toArray, List.set_cons_succ, List.set_cons_zero, List.size_toArray, Nat.reduceLT, if_true, if_false, e14]
  generalize doA (chNew p) l = C at *
  have hBo := Lib.hid hB6
  have c7 : w6.cell? ⟨b7, 0, none⟩ = some (.pointer (some ⟨cr, 0, none⟩)) := (World.cell?_of_block (a := ⟨b7, 0, none⟩) ((hF6.2 b7 hl7).2 (.inl ht7.out))).trans c7
  have hl76 : b7 < w6.heap.size := Nat.lt_of_lt_of_le hl7 hF6.1
  have hB16 := Lib.hid hB6.bel
  obtain ⟨rb, cap, hDw⟩ := hB6.docw
  have hDo := Lib.hid hDw
  have hpos := hok.out.pos
  clear hg1 hg2 hG hF' hl' hF6 HD hAn hB6 hDw hB5
  have HTp := show Calls Try.prog 53 #[ptrV cb] w6 fun e w' => ∃ s : Sl, e = .returned s.v ∧ PtsR w' s ((tipsI C).map (ptAt C)) ∧ Below w6.heap.size w6 w' from by
   obtain ⟨sA, mb, G, hM⟩ := hBo.out.real
   obtain ⟨ab, -, -, hv⟩ := hM.view hok.out.pos
   exact chtips_c hv hok.out
  unfold ptrV at HTp
  go_wp2_with fail
  (with_reducible refine HTp.mono ?_)
  clear HTp
  rintro e w8 ⟨⟨ta, tn, tc⟩, he, hTs, hb8⟩
  replace he : e = .returned (.slice ta tn tc) := he
  subst he
  obtain ⟨htn, hTs⟩ : tn = (tipsI C).length ∧ Hid (PtsR w8 ⟨ta, tn, tc⟩ ((tipsI C).map (ptAt C))) := ⟨by have := hTs.1; rwa [List.length_map] at this, Lib.hid hTs⟩
  subst htn
  have hF8 := Lib.hid (show ∀ W, Below w8.heap.size w8 W → W.cell? ⟨b7, 0, none⟩ = some (.pointer (some ⟨cr, 0, none⟩)) ∧ b7 < W.heap.size ∧ DocW w1 W cr rb cap C ∧ Both w1 B0 T6 W cb cr C C ∧ Below w1.heap.size w1 W from fun W hb => by
   have h6 : Below w6.heap.size w6 W := hb8.trans (hb.mono hb8.size)
   exact ⟨(h6.cell (p := ⟨b7, 0, none⟩) hl76).trans c7, Nat.lt_of_lt_of_le hl76 h6.size, hDo.out.keep h6, hBo.out.keep h6, hB16.out.trans (h6.mono hB16.out.size)⟩)
  obtain ⟨c78, -, hD8, -, -⟩ := hF8.out w8 (Below.refl _ _)
  have c0q := hD8.c0
  have htl : (tipsI C).length ≤ C.length := filt_le _ _
  obtain ⟨tl, htle⟩ : ∃ n, n = (tipsI C).length := ⟨_, rfl⟩
  rw [← htle] at hTs htl ⊢
  replace htle := Lib.hid htle
  clear hb8 c7 hD8 hDo
  go_upto_region 12 with fail
  go_loopw [8, 10] (fun u x W' => ∃ i : Nat, i ≤ C.length ∧ x = .int .i64 i ∧ u = .int .i64 (((List.range i).filter (tipP C)).length : Nat) ∧ Hid (Below w8.heap.size w8 W')) (fun _ x _ => C.length - (intOf x).toNat)
  case atStart => exact ⟨0, Nat.zero_le _, rfl, rfl, Lib.hid (Below.refl _ _)⟩
  case round =>
   obtain ⟨i, hi, rfl, rfl, hBi⟩ := hrel
   clear c0q c78
   obtain ⟨c7, hl7w, hDi, -, -⟩ := hF8.out wr hBi.out
   have c0q := hDi.c0
   by_cases hix : i < C.length
   ·have i0 : (0 : Int) ≤ (i : Int) := by omega
    have i1 : (i : Int) < (C.length : Int) := by omega
    -- DEV<
    obtain ⟨gi, hri⟩ := hDi.row i hix
    obtain ⟨bi, hbi⟩ : ∃ b, b = C[i] := ⟨_, rfl⟩
    rw [← hbi] at hri
    obtain ⟨pi, hpi⟩ : ∃ q, q = bi.p := ⟨_, rfl⟩
    obtain ⟨qi, hqi⟩ : ∃ q, q = bi.par := ⟨_, rfl⟩
    rw [← hpi, ← hqi] at hri
    have hcr := hDi.clt
    have hrb := hDi.lt
    replace hbi := Lib.hid hbi
    replace hpi := Lib.hid hpi
    replace hqi := Lib.hid hqi
    have hix2 := Lib.hid hix
    clear hDi
    generalize wr = wo at *
    go_upto_region 15 with fail
    obtain ⟨w11, hw11, hr11, -, hb11, hz11⟩ := box_row wo (rblkA zeroPt zeroG3 (some 0)) (rblkA pi gi qi) 71 68 (by omega) (rblkA_size _ _ _) (rblkA_size _ _ _)
    rw [← hw11]
    obtain ⟨b11, hb11e⟩ : ∃ b, b = wo.heap.size := ⟨_, rfl⟩
    rw [← hb11e] at hr11 ⊢
    have hl11 : b11 < w11.heap.size := by omega
    have hB11 := Lib.hid (hBi.out.trans (hb11.mono hBi.out.size))
    have hat := Lib.hid (show chAt C pi.name = some i by rw [hpi.out, hbi.out]; exact chAt_self hok.out hix)
    have hgi := Lib.hid (show C[i]? = some bi by rw [hbi.out]; exact List.getElem?_eq_getElem hix)
    have hqa := Lib.hid (show parAt C i = qi by rw [parAt_of hgi.out]; exact hqi.out.symm)
    have hX := Lib.hid (show ∀ W, Below w11.heap.size w11 W → row? W b11 0 33 = some (pointA pi) ∧ row? W b11 1 32 = some (hashA pi.name) ∧ W.cell? ⟨b11, 0, none⟩ = some (.int .u64 (pi.epoch.toNat : Int)) ∧ W.cell? ⟨b11, 67, none⟩ = some (.int .i64 (parI qi)) ∧ b11 < W.heap.size ∧ W.cell? ⟨b7, 0, none⟩ = some (.pointer (some ⟨cr, 0, none⟩)) ∧ b7 < W.heap.size ∧ DocW w1 W cr rb cap C ∧ Both w1 B0 T6 W cb cr C C from fun W hb => by
     obtain ⟨x1, x2, x3, x4⟩ := rblk_cells ((row?_below _ _ _ hb hl11).trans hr11)
     rw [Nat.zero_add] at x2 x4
     obtain ⟨y1, y2, y3, y4, -⟩ := hF8.out W (hB11.out.trans (hb.mono hB11.out.size))
     exact ⟨x1, x2, x3, x4, Nat.lt_of_lt_of_le hl11 hb.size, y1, y2, y3, y4⟩)
    have hVw := Lib.hid (show ∀ W, Below w11.heap.size w11 W → ∃ ab ac mb G, ChV W cb ab ac mb G C from fun W hb => by
     obtain ⟨-, -, -, -, -, -, -, -, hBB⟩ := hX.out W hb
     obtain ⟨sA, mb, G, hM⟩ := hBB.real
     obtain ⟨ab, -, -, hv⟩ := hM.view hok.out.pos
     exact ⟨ab, _, mb, G, hv⟩)
    obtain ⟨-, rn, -, -, -, -, -, -, -⟩ := hX.out w11 (Below.refl _ _)
    have HE := show Calls Try.prog 52 #[ptrV cb, .agg (hashA pi.name)] w11 fun e w' => e = .returned (.tuple #[.int .u64 (pi.epoch.toNat : Int), .int .i64 0]) ∧ Below w11.heap.size w11 w' from by
     obtain ⟨ab, ac, mb, G, hv⟩ := hVw.out w11 (Below.refl _ _)
     have h := chepoch_some hv hat.out hgi.out
     rw [← hpi.out] at h
     exact h
    unfold ptrV at HE
    replace hb11e := Lib.hid hb11e
    replace hz11 := Lib.hid hz11
    clear hw11 hr11 hb11 c7 hl7w hri hcr hrb c0q
    go_wp2_with fail
    (with_reducible refine HE.mono ?_)
    clear HE
    rintro e w12 ⟨rfl, hb12⟩
    have hB12 := Lib.hid hb12
    obtain ⟨-, rn, -, -, -, -, -, -, -⟩ := hX.out w12 hB12.out
    have HP := show Calls Try.prog 54 #[ptrV cb, .agg (hashA pi.name)] w12 fun e w' => ∃ s : Sl, e = .returned (.tuple #[s.v, .int .i64 0]) ∧ PtsR w' s ((pth C i).reverse.map (ptAt C)) ∧ Below w12.heap.size w12 w' from by
     obtain ⟨ab, ac, mb, G, hv⟩ := hVw.out w12 hB12.out
     exact chpath_some hv hok.out hat.out
    unfold ptrV at HP
    clear hb12
    go_wp2_with fail
    (with_reducible refine HP.mono ?_)
    clear HP
    rintro e w13 ⟨⟨pa, pn, pc⟩, he, hPs, hb13⟩
    replace he : e = .returned (.tuple #[.slice pa pn pc, .int .i64 0]) := he
    subst he
    have hB13 := Lib.hid (hB12.out.trans (hb13.mono hB12.out.size))
    have hpin := Lib.hid (show ∀ n ∈ (pth C i).reverse, n < C.length from fun n hn => pth_lt hix2.out (List.mem_reverse.1 hn))
    have hpl0 : 0 < (pth C i).reverse.length := by
     rw [List.length_reverse]
     exact List.length_pos_of_mem (pth_self C i)
    have hpl1 : (pth C i).reverse.length ≤ 41 := by
     have := pth_length (C := C) i
     rw [List.length_reverse]
     omega
    have HW := fun W (hb : Below w11.heap.size w11 W) => (hX.out W hb).2.2.2.2.2.2.2.2.docPath hok.out i hix2.out
    generalize (pth C i).reverse = ps at *
    obtain rfl : pn = ps.length := by have := hPs.1; rwa [List.length_map] at this
    replace hPs := Lib.hid hPs
    obtain ⟨-, rn, -, -, -, -, -, -, -⟩ := hX.out w13 hB13.out
    obtain ⟨eP, hePe⟩ : ∃ e : Int, e = eParI qi := ⟨_, rfl⟩
    obtain ⟨nP, hnPe⟩ : ∃ n : Hash, n = nParH C qi := ⟨_, rfl⟩
    replace hePe := Lib.hid hePe
    replace hnPe := Lib.hid hnPe
    have HQ := show Calls Try.prog 55 #[ptrV cb, .agg (hashA pi.name)] w13 fun e w' => e = .returned (.tuple #[.agg (hashA nP), .int .i64 eP]) ∧ Below w13.heap.size w13 w' from by
     obtain ⟨ab, ac, mb, G, hv⟩ := hVw.out w13 hB13.out
     rw [hePe.out, hnPe.out]
     cases qi with
     | none =>
      exact chparent_root hv hok.out hat.out hqa.out
     | some j =>
      have hj := (parAt_some hok.out hqa.out).1
      have hjl : j < C.length := by have := hix2.out; omega
      rw [show nParH C (some j) = (ptAt C j).name from rfl, ptAt_of (List.getElem?_eq_getElem hjl)]
      exact chparent_some hv hok.out hat.out hqa.out (List.getElem?_eq_getElem hjl)
    unfold ptrV at HQ HW
    clear hb13
    go_wp2_with fail
    (with_reducible refine HQ.mono ?_)
    clear HQ
    rintro e w14 ⟨rfl, hb14⟩
    go_upto_region 18 with fail
    obtain ⟨w15, hw15, hr16, -, hb15, hz15⟩ := box_row w14 (hashA zeroHash) (hashA nP) 24 32 (by omega) (by simp) (by simp)
    rw [← hw15]
    obtain ⟨b16, hb16⟩ : ∃ b, b = w14.heap.size := ⟨_, rfl⟩
    rw [← hb16] at hr16 ⊢
    have hl16 : b16 < w15.heap.size := by omega
    have hB15' := Lib.hid (hB13.out.trans ((hb14.trans (hb15.mono hb14.size)).mono hB13.out.size))
    have hPs := Lib.hid (hPs.out.keep' (hb14.trans (hb15.mono hb14.size)))
    obtain ⟨-, rn, -, -, -, -, -, -, -⟩ := hX.out w15 hB15'.out
    have HH := show Calls Try.prog 50 #[ptrV cb, .agg (hashA pi.name)] w15 fun e w' => ∃ g', e = .returned (.tuple #[.agg (headerA g'), .int .i64 eP]) ∧ (qi ≠ none → HdrAt w15.heap.size w' g' bi.h) ∧ Below w15.heap.size w15 w' from by
     obtain ⟨ab, ac, mb, G, hv⟩ := hVw.out w15 hB15'.out
     rw [hePe.out]
     cases qi with
     | none =>
      exact (chheader_root hv hok.out hat.out hqa.out).mono fun e w' ⟨h1, h2⟩ => ⟨_, h1, fun h => absurd rfl h, h2⟩
     | some j =>
      have hj := (parAt_some hok.out hqa.out).1
      exact (chheader_some hv hok.out hat.out hgi.out (by omega)).mono fun e w' ⟨g', h1, h2, h3, _⟩ => ⟨g', h1, fun _ => h2, h3⟩
    unfold ptrV at HH
    replace hb16 := Lib.hid hb16
    replace hz15 := Lib.hid hz15
    clear hw15 hb14 hb15
    go_wp2_with fail
    (with_reducible refine HH.mono ?_)
    clear HH
    rintro e w16 ⟨gH, rfl, hgH, hb16'⟩
    go_upto_region 19 with fail
    obtain ⟨w17, hw17, hr18, -, hb17, hz17⟩ := box_row w16 (headerA ⟨zeroHash, 0, ⟨none, 0, 0⟩⟩) (headerA gH) 49 34 (by omega) (by simp) (by simp)
    rw [← hw17]
    obtain ⟨b18, hb18⟩ : ∃ b, b = w16.heap.size := ⟨_, rfl⟩
    rw [← hb18] at hr18 ⊢
    have hl18 : b18 < w17.heap.size := by omega
    have hb1517 := hb16'.trans (hb17.mono hb16'.size)
    have hB17 := Lib.hid (hB15'.out.trans (hb1517.mono hB15'.out.size))
    have hr16 := (row?_below _ _ _ hb1517 hl16).trans hr16
    have hl16 : b16 < w17.heap.size := Nat.lt_of_lt_of_le hl16 hb1517.size
    have hPs := Lib.hid (hPs.out.keep' hb1517)
    have hgH := Lib.hid (fun hq => ((hgH hq).now).keep' hb17)
    obtain ⟨-, -, -, -, -, c7, -, -, -⟩ := hX.out w17 hB17.out
    have HW := HW w17 hB17.out
    replace hb18 := Lib.hid hb18
    replace hz17 := Lib.hid hz17
    clear hw17 hb16' hb17 hb1517 rn
    go_wp2_with fail
    (with_reducible refine HW.mono ?_)
    clear HW
    rintro e w18 ⟨⟨wa, wn, wc⟩, he, hWs, hb18'⟩
    replace he : e = .returned (.slice wa wn wc) := he
    subst he
    obtain rfl : wn = ps.length := hWs.1
    have hB18 := Lib.hid (hB17.out.trans (hb18'.mono hB17.out.size))
    have hr16 := (row?_below _ _ _ hb18' hl16).trans hr16
    have hr18 := (row?_below _ _ _ hb18' hl18).trans hr18
    have hl16 : b16 < w18.heap.size := Nat.lt_of_lt_of_le hl16 hb18'.size
    have hl18 : b18 < w18.heap.size := Nat.lt_of_lt_of_le hl18 hb18'.size
    have hPs := Lib.hid (hPs.out.keep' hb18')
    have hgH := Lib.hid (fun hq => (hgH.out hq).keep' hb18')
    replace hWs := Lib.hid hWs
    obtain ⟨rp, rn, ce, -, -, -, -, -, hBB⟩ := hX.out w18 hB18.out
    have HK1 := hBB.real.knows_c hok.out pi
    rw [show chKnows C pi = true by rw [hpi.out, hbi.out]; exact chKnows_self hok.out hix2.out] at HK1
    unfold ptrV at HK1
    clear hb18' c7 hBB
    go_wp2_with fail
    (with_reducible refine HK1.mono ?_)
    clear HK1
    rintro e w19 ⟨rfl, hb19⟩
    have hB19 := Lib.hid (hB18.out.trans (hb19.mono hB18.out.size))
    obtain ⟨rp, rn, ce, -, -, -, -, -, hBB⟩ := hX.out w19 hB19.out
    have HK2 := hBB.real.knows_c hok.out ⟨pi.epoch + 1, pi.name⟩
    rw [show chKnows C ⟨pi.epoch + 1, pi.name⟩ = false by rw [hpi.out, hbi.out]; exact chKnows_later hok.out hix2.out] at HK2
    unfold ptrV at HK2
    obtain ⟨en, hen⟩ : ∃ e, e = pi.epoch + 1 := ⟨_, rfl⟩
    have hadd := u64_more pi.epoch
    rw [← hen] at HK2 hadd
    have hbe := run_bldPtE en pi.name
    replace hen := Lib.hid hen
    have hb819 := Lib.hid hb19
    clear hb19 hBB
    go_wp2_with fail
    (with_reducible refine HK2.mono ?_)
    clear HK2
    rintro e w20 ⟨rfl, hb20⟩
    have hb1820 := hb819.out.trans (hb20.mono hb819.out.size)
    have hB20 := Lib.hid (hB18.out.trans (hb1820.mono hB18.out.size))
    have hr16 := Lib.hid ((row?_below _ _ _ hb1820 hl16).trans hr16)
    have hr18 := Lib.hid ((row?_below _ _ _ hb1820 hl18).trans hr18)
    have hl16 : b16 < w20.heap.size := Nat.lt_of_lt_of_le hl16 hb1820.size
    have hl18 : b18 < w20.heap.size := Nat.lt_of_lt_of_le hl18 hb1820.size
    have hPs := hPs.out.keep' hb1820
    have hgH := Lib.hid (fun hq => (hgH.out hq).keep' hb1820)
    have hWs : IntsR w20 ⟨wa, ps.length, wc⟩ ps := SlR.keep hWs.out hb1820 fun _ _ h => h
    obtain ⟨pb, po, e1, hpb, hpr⟩ := SlR.at hPs (by rw [List.length_map]; exact hpl0)
    have e2 := congrArg Sl.a e1
    simp only at e2
    subst e2
    clear e1
    obtain ⟨wb, wo', e1, hwb, hwr⟩ := ints_at hWs hpl0
    have e2 := congrArg Sl.a e1
    simp only at e2
    subst e2
    clear e1
    have hpr := Lib.hid (show ∀ (n : Nat) (hn : n < ps.length), row? w20 pb (po + n * 33) 33 = some (pointA (ptAt C ps[n])) from fun n hn => by
     obtain ⟨cs, h1, h2⟩ := hpr n (by rw [List.length_map]; exact hn)
     rw [h1, h2, List.getElem_map])
    replace hwr := Lib.hid hwr
    replace hl16 := Lib.hid hl16
    replace hl18 := Lib.hid hl18
    clear hadd hbe rp rn ce hb20 hb1820 hPs hWs
    go_wp2_with fail
    go_loopw [21] (fun x W' => ∃ n : Nat, n ≤ ps.length ∧ x = .int .i64 n ∧ Hid (Below w20.heap.size w20 W')) (fun x _ => ps.length - (intOf x).toNat)
    case atStart => exact ⟨0, Nat.zero_le _, rfl, Lib.hid (Below.refl _ _)⟩
    case round =>
     obtain ⟨n, hn, rfl, hBn⟩ := hrel
     by_cases hnx : n < ps.length
     ·have n0 : (0 : Int) ≤ (n : Int) := by omega
      have n1 : (n : Int) < (ps.length : Int) := by omega
      have hml := hpin.out _ (List.getElem_mem hnx)
      have hp1 := (row?_below _ _ _ hBn.out hpb).trans (hpr.out n hnx)
      have hw1 := (hBn.out.cell (p := ⟨wb, wo' + n, none⟩) hwb).trans (hwr.out n hnx)
      obtain ⟨-, -, -, -, -, c7, -, hDn, -⟩ := hX.out wr (hB20.out.trans (hBn.out.mono hB20.out.size))
      have c0q := hDn.c0
      generalize ps[n] = m at *
      obtain ⟨gm, hrm⟩ := hDn.row m hml
      obtain ⟨hpm, -, -, -⟩ := rblk_cells hrm
      rw [ptAt_of (List.getElem?_eq_getElem hml)] at hp1
      generalize C[m].p = pm at *
      have m0 : (0 : Int) ≤ (m : Int) := by omega
      have m1 : (m : Int) < (C.length : Int) := by omega
      have f0 := fun k => (show row? (wr.drewN k) pb (po + n * 33) 33 = _ from hp1)
      have f1 := fun k => (show (wr.drewN k).cell? ⟨wb, wo' + n, none⟩ = _ from hw1)
      have f2 := fun k => (show (wr.drewN k).cell? ⟨b7, 0, none⟩ = _ from c7)
      have f3 := fun k => (show (wr.drewN k).cell? ⟨cr, 0, none⟩ = _ from c0q)
      have f4 := fun k => (show row? (wr.drewN k) rb (m * 68) 33 = _ from hpm)
      have hnx2 := Lib.hid hnx
      clear hDn hrm hp1 hw1 c7 c0q hpm hnx
      go_upto_region 25 with fail
      go_quiet (fail)
      go_wp2_with fail
      go_roundw
      case rel => exact ⟨n + 1, by have := hnx2.out; omega, by go_num, Lib.hid (below_drewN hBn.out _)⟩
      case measure => have := hnx2.out; simp [intOf]; omega
     ·have hnn : ¬ (n : Int) < (ps.length : Int) := by omega
      go_upto_if 182 with fail
      have hBw := Lib.hid (hB20.out.trans (hBn.out.mono hB20.out.size))
      generalize wr = wk at *
      go_cut [182] from 183 to 216 (fun _ W => Hid (Below wk.heap.size wk W))
      case first =>
       have hr16q := (row?_below _ _ _ hBn.out hl16.out).trans hr16.out
       have hr18q := (row?_below _ _ _ hBn.out hl18.out).trans hr18.out
       have hl16q : b16 < wk.heap.size := Nat.lt_of_lt_of_le hl16.out hBn.out.size
       have hl18q : b18 < wk.heap.size := Nat.lt_of_lt_of_le hl18.out hBn.out.size
       by_cases h0 : i = 0
       ·obtain rfl : qi = none := by
         have h := hqa.out
         rw [h0, hok.out.root] at h
         exact h.symm
        obtain rfl : eP = 6 := hePe.out
        subst h0
        clear hr16q hr18q
        go_wp2_with fail
        go_meet
        exact Lib.hid (Below.refl _ _)
       ·have h0i : ¬ (i : Int) = 0 := by omega
        obtain ⟨j, rfl⟩ : ∃ j, qi = some j := by
         cases qi with
         | none => exact absurd (parAt_none hok.out hix2.out hqa.out) h0
         | some j => exact ⟨j, rfl⟩
        obtain rfl : eP = 0 := hePe.out
        have hji := (parAt_some hok.out hqa.out).1
        have hjl : j < C.length := by have := hix2.out; omega
        obtain ⟨-, rn11, -, c67, hl11w, c7, hl7w, hDk, -⟩ := hX.out wk hBw.out
        have c0q := hDk.c0
        have hcrw := hDk.clt
        have hrbw := hDk.lt
        obtain ⟨gj, hrj⟩ := hDk.row j hjl
        obtain ⟨-, hnj, -, -⟩ := rblk_cells hrj
        rw [show C[j].p.name = nP by rw [hnPe.out]; show _ = (ptAt C j).name; rw [ptAt_of (List.getElem?_eq_getElem hjl)]] at hnj
        rw [show parI (some j) = (j : Int) from rfl] at c67
        have j0 : (0 : Int) ≤ (j : Int) := by omega
        have j1 : (j : Int) < (C.length : Int) := by omega
        have hhd := hok.out.hdr i bi hgi.out (by omega)
        have HNm := fun W (hb : Below wk.heap.size wk W) => show Calls Try.prog 51 #[.agg (headerA gH)] W fun e w' => e = .returned (.agg (hashA pi.name)) ∧ Below W.heap.size W w' from by
         have h := rname_c gH bi.h W ((hgH.out (by intro e; cases e)).keep' (hBn.out.trans (hb.mono hBn.out.size))) hhd.2
         rw [hpi.out, hhd.1]
         exact h
        have hg := hash_guard_p
        replace hhd := Lib.hid hhd
        clear h0 hrj hDk hji hjl
        go_upto_region 30 with fail
        refine wp_region_freeG_l (fun W W' => Below W.heap.size W W') (by kernel_rfl) [189, 190, 191, 192, 193, 194, 195, 196, 197, 198, 199, 200, 201, 202, 203, 204, 205, 206, 207, 208, 209, 210, 211, 212, 213, 214, 215, 216]
         [Is (.int .i64 0), Is (.bool false), Is (.bool false), Is (.int .i64 0), Is (.bool false), Is (.bool false), Is (.bool false), Is (.agg (hashA nP)), Is (.pointer (some ⟨cr, 0, none⟩)), Is (.pointer (some ⟨cr, 0, none⟩)), Is (.pointer (some ⟨cr, 0, none⟩)), Is (.slice (some ⟨rb, 0, none⟩) C.length cap), Is (.pointer (some ⟨b11, 67, none⟩)), Is (.int .i64 (j : Int)), Is (.pointer (some ⟨rb, j * 68, none⟩)), Is (.pointer (some ⟨rb, j * 68, none⟩)), Is (.pointer (some ⟨rb, j * 68 + 1, none⟩)), Is (.agg (hashA nP)), Is (.bool false), Is (.bool false), Is (.bool false), Is (.agg (headerA gH)), Is (.agg (hashA pi.name)), Is (.pointer (some ⟨b11, 0, none⟩)), Is (.pointer (some ⟨b11, 1, none⟩)), Is (.agg (hashA pi.name)), Is (.bool false), Is (.bool false)]
         (by kernel_rfl) (fun W W' h hb => hb.trans (h.mono hb.size)) ?_ ?_ ?_
        ·intro f hf
         simp only [List.mem_cons, List.not_mem_nil, or_false] at hf
         rcases hf with rfl | rfl | rfl | rfl | rfl | rfl | rfl | rfl | rfl | rfl | rfl | rfl | rfl | rfl | rfl | rfl | rfl | rfl | rfl | rfl | rfl | rfl | rfl | rfl | rfl | rfl | rfl | rfl <;> intro x W W' h hr <;> first | exact h
        ·refine ⟨?_, ?_, ?_, ?_, ?_, ?_, ?_, ?_, ?_, ?_, ?_, ?_, ?_, ?_, ?_, ?_, ?_, ?_, ?_, ?_, ?_, ?_, ?_, ?_, ?_, ?_, ?_, ?_, trivial⟩
         ·intro L ax W hf hd
          try simp [Region.binds] at hd
          have e17 : ax.tmps[17]?.getD undef = .int .i64 0 := hf.out 17 (by decide) rfl
          refine ⟨fun _ => ?_, fun h => absurd trivial h⟩
          refine free_run (v := .int .i64 0) (W' := W) rfl ?_ rfl (Below.refl _ _)
          go_simp
         ·intro L ax W hf hd
          simp [Region.binds] at hd
          have e189 : ax.tmps[189]?.getD undef = .int .i64 0 := slv (hf.got 0 (by decide) (by simp [hd]))
          refine ⟨fun _ => ?_, fun h => absurd trivial h⟩
          refine free_run (v := .bool false) (W' := W) rfl ?_ rfl (Below.refl _ _)
          go_simp
         ·intro L ax W hf hd
          simp [Region.binds] at hd
          have e190 : ax.tmps[190]?.getD undef = .bool false := slv (hf.got 1 (by decide) (by simp [hd]))
          refine ⟨fun _ => ?_, fun h => absurd trivial h⟩
          refine free_run (v := .bool false) (W' := W) rfl ?_ rfl (Below.refl _ _)
          go_simp
         ·intro L ax W hf hd
          simp [Region.binds] at hd
          have e19 : ax.tmps[19]?.getD undef = .int .i64 0 := hf.out 19 (by decide) rfl
          have g0 : sl ax 191 = .bool false := hf.got 2 (by decide) (by simp [hd])
          refine ⟨fun hh => ?_, fun hh => ?_⟩
          ·first
            | (exact absurd (g0.symm.trans hh) (undef_ne _))
            | (exact absurd (g0.symm.trans hh) (bool_ne (by decide)))
            | (exfalso; revert hh; simp [Held, g0, *]; done)
            | (refine free_run (v := .int .i64 0) (W' := W) rfl ?_ rfl (Below.refl _ _); go_simp)
          ·first
            | (exact absurd g0 hh)
            | (exfalso; revert hh; simp [Held, g0, *]; done)
            | (show undef = _; first | rfl | (simp [*]; done))
         ·intro L ax W hf hd
          simp [Region.binds] at hd
          have e192 : ax.tmps[192]?.getD undef = .int .i64 0 := slv (hf.got 3 (by decide) (by simp [hd]))
          have g0 : sl ax 191 = .bool false := hf.got 2 (by decide) (by simp [hd])
          refine ⟨fun hh => ?_, fun hh => ?_⟩
          ·first
            | (exact absurd (g0.symm.trans hh) (undef_ne _))
            | (exact absurd (g0.symm.trans hh) (bool_ne (by decide)))
            | (exfalso; revert hh; simp [Held, g0, *]; done)
            | (refine free_run (v := .bool false) (W' := W) rfl ?_ rfl (Below.refl _ _); go_simp)
          ·first
            | (exact absurd g0 hh)
            | (exfalso; revert hh; simp [Held, g0, *]; done)
            | (show undef = _; first | rfl | (simp [*]; done))
         ·intro L ax W hf hd
          simp [Region.binds] at hd
          have e191 : ax.tmps[191]?.getD undef = .bool false := slv (hf.got 2 (by decide) (by simp [hd]))
          have e193 : ax.tmps[193]?.getD undef = .bool false := slv (hf.got 4 (by decide) (by simp [hd]))
          refine ⟨fun _ => ?_, fun h => absurd trivial h⟩
          refine free_run (v := .bool false) (W' := W) rfl ?_ rfl (Below.refl _ _)
          go_simp
         ·intro L ax W hf hd
          simp [Region.binds] at hd
          have e194 : ax.tmps[194]?.getD undef = .bool false := slv (hf.got 5 (by decide) (by simp [hd]))
          refine ⟨fun _ => ?_, fun h => absurd trivial h⟩
          refine free_run (v := .bool false) (W' := W) rfl ?_ rfl (Below.refl _ _)
          go_simp
         ·intro L ax W hf hd
          simp [Region.binds] at hd
          have e16 : ax.tmps[16]?.getD undef = .pointer (some ⟨b16, 0, none⟩) := hf.out 16 (by decide) rfl
          have g0 : sl ax 195 = .bool false := hf.got 6 (by decide) (by simp [hd])
          refine ⟨fun hh => ?_, fun hh => ?_⟩
          ·first
            | (exact absurd (g0.symm.trans hh) (undef_ne _))
            | (exact absurd (g0.symm.trans hh) (bool_ne (by decide)))
            | (exfalso; revert hh; simp [Held, g0, *]; done)
            | ((have h1 := (row?_below _ _ _ hf.below hl16q).trans hr16q); refine free_run (v := .agg (hashA nP)) (W' := W) rfl ?_ rfl (Below.refl _ _); go_simp)
          ·first
            | (exact absurd g0 hh)
            | (exfalso; revert hh; simp [Held, g0, *]; done)
            | (show undef = _; first | rfl | (simp [*]; done))
         ·intro L ax W hf hd
          simp [Region.binds] at hd
          have e7 : ax.tmps[7]?.getD undef = .pointer (some ⟨b7, 0, none⟩) := hf.out 7 (by decide) rfl
          have g0 : sl ax 195 = .bool false := hf.got 6 (by decide) (by simp [hd])
          refine ⟨fun hh => ?_, fun hh => ?_⟩
          ·first
            | (exact absurd (g0.symm.trans hh) (undef_ne _))
            | (exact absurd (g0.symm.trans hh) (bool_ne (by decide)))
            | (exfalso; revert hh; simp [Held, g0, *]; done)
            | ((have h1 := (hf.below.cell (p := ⟨b7, 0, none⟩) hl7w).trans c7); refine free_run (v := .pointer (some ⟨cr, 0, none⟩)) (W' := W) rfl ?_ rfl (Below.refl _ _); go_simp)
          ·first
            | (exact absurd g0 hh)
            | (exfalso; revert hh; simp [Held, g0, *]; done)
            | (show undef = _; first | rfl | (simp [*]; done))
         ·intro L ax W hf hd
          simp [Region.binds] at hd
          have e197 : ax.tmps[197]?.getD undef = .pointer (some ⟨cr, 0, none⟩) := slv (hf.got 8 (by decide) (by simp [hd]))
          have g0 : sl ax 195 = .bool false := hf.got 6 (by decide) (by simp [hd])
          refine ⟨fun hh => ?_, fun hh => ?_⟩
          ·first
            | (exact absurd (g0.symm.trans hh) (undef_ne _))
            | (exact absurd (g0.symm.trans hh) (bool_ne (by decide)))
            | (exfalso; revert hh; simp [Held, g0, *]; done)
            | (refine free_run (v := .pointer (some ⟨cr, 0, none⟩)) (W' := W) rfl ?_ rfl (Below.refl _ _); go_simp)
          ·first
            | (exact absurd g0 hh)
            | (exfalso; revert hh; simp [Held, g0, *]; done)
            | (show undef = _; first | rfl | (simp [*]; done))
         ·intro L ax W hf hd
          simp [Region.binds] at hd
          have e198 : ax.tmps[198]?.getD undef = .pointer (some ⟨cr, 0, none⟩) := slv (hf.got 9 (by decide) (by simp [hd]))
          have g0 : sl ax 195 = .bool false := hf.got 6 (by decide) (by simp [hd])
          refine ⟨fun hh => ?_, fun hh => ?_⟩
          ·first
            | (exact absurd (g0.symm.trans hh) (undef_ne _))
            | (exact absurd (g0.symm.trans hh) (bool_ne (by decide)))
            | (exfalso; revert hh; simp [Held, g0, *]; done)
            | (refine free_run (v := .pointer (some ⟨cr, 0, none⟩)) (W' := W) rfl ?_ rfl (Below.refl _ _); go_simp)
          ·first
            | (exact absurd g0 hh)
            | (exfalso; revert hh; simp [Held, g0, *]; done)
            | (show undef = _; first | rfl | (simp [*]; done))
         ·intro L ax W hf hd
          simp [Region.binds] at hd
          have e199 : ax.tmps[199]?.getD undef = .pointer (some ⟨cr, 0, none⟩) := slv (hf.got 10 (by decide) (by simp [hd]))
          have g0 : sl ax 195 = .bool false := hf.got 6 (by decide) (by simp [hd])
          refine ⟨fun hh => ?_, fun hh => ?_⟩
          ·first
            | (exact absurd (g0.symm.trans hh) (undef_ne _))
            | (exact absurd (g0.symm.trans hh) (bool_ne (by decide)))
            | (exfalso; revert hh; simp [Held, g0, *]; done)
            | ((have h1 := (hf.below.cell (p := ⟨cr, 0, none⟩) hcrw).trans c0q); refine free_run (v := .slice (some ⟨rb, 0, none⟩) C.length cap) (W' := W) rfl ?_ rfl (Below.refl _ _); go_simp)
          ·first
            | (exact absurd g0 hh)
            | (exfalso; revert hh; simp [Held, g0, *]; done)
            | (show undef = _; first | rfl | (simp [*]; done))
         ·intro L ax W hf hd
          simp [Region.binds] at hd
          have e11 : ax.tmps[11]?.getD undef = .pointer (some ⟨b11, 0, none⟩) := hf.out 11 (by decide) rfl
          have g0 : sl ax 195 = .bool false := hf.got 6 (by decide) (by simp [hd])
          refine ⟨fun hh => ?_, fun hh => ?_⟩
          ·first
            | (exact absurd (g0.symm.trans hh) (undef_ne _))
            | (exact absurd (g0.symm.trans hh) (bool_ne (by decide)))
            | (exfalso; revert hh; simp [Held, g0, *]; done)
            | (refine free_run (v := .pointer (some ⟨b11, 67, none⟩)) (W' := W) rfl ?_ rfl (Below.refl _ _); go_simp)
          ·first
            | (exact absurd g0 hh)
            | (exfalso; revert hh; simp [Held, g0, *]; done)
            | (show undef = _; first | rfl | (simp [*]; done))
         ·intro L ax W hf hd
          simp [Region.binds] at hd
          have e201 : ax.tmps[201]?.getD undef = .pointer (some ⟨b11, 67, none⟩) := slv (hf.got 12 (by decide) (by simp [hd]))
          have g0 : sl ax 195 = .bool false := hf.got 6 (by decide) (by simp [hd])
          refine ⟨fun hh => ?_, fun hh => ?_⟩
          ·first
            | (exact absurd (g0.symm.trans hh) (undef_ne _))
            | (exact absurd (g0.symm.trans hh) (bool_ne (by decide)))
            | (exfalso; revert hh; simp [Held, g0, *]; done)
            | ((have h1 := (hf.below.cell (p := ⟨b11, 67, none⟩) hl11w).trans c67); refine free_run (v := .int .i64 (j : Int)) (W' := W) rfl ?_ rfl (Below.refl _ _); go_simp)
          ·first
            | (exact absurd g0 hh)
            | (exfalso; revert hh; simp [Held, g0, *]; done)
            | (show undef = _; first | rfl | (simp [*]; done))
         ·intro L ax W hf hd
          simp [Region.binds] at hd
          have e200 : ax.tmps[200]?.getD undef = .slice (some ⟨rb, 0, none⟩) C.length cap := slv (hf.got 11 (by decide) (by simp [hd]))
          have e202 : ax.tmps[202]?.getD undef = .int .i64 (j : Int) := slv (hf.got 13 (by decide) (by simp [hd]))
          have g0 : sl ax 195 = .bool false := hf.got 6 (by decide) (by simp [hd])
          refine ⟨fun hh => ?_, fun hh => ?_⟩
          ·first
            | (exact absurd (g0.symm.trans hh) (undef_ne _))
            | (exact absurd (g0.symm.trans hh) (bool_ne (by decide)))
            | (exfalso; revert hh; simp [Held, g0, *]; done)
            | (refine free_run (v := .pointer (some ⟨rb, j * 68, none⟩)) (W' := W) rfl ?_ rfl (Below.refl _ _); go_simp)
          ·first
            | (exact absurd g0 hh)
            | (exfalso; revert hh; simp [Held, g0, *]; done)
            | (show undef = _; first | rfl | (simp [*]; done))
         ·intro L ax W hf hd
          simp [Region.binds] at hd
          have e203 : ax.tmps[203]?.getD undef = .pointer (some ⟨rb, j * 68, none⟩) := slv (hf.got 14 (by decide) (by simp [hd]))
          have g0 : sl ax 195 = .bool false := hf.got 6 (by decide) (by simp [hd])
          refine ⟨fun hh => ?_, fun hh => ?_⟩
          ·first
            | (exact absurd (g0.symm.trans hh) (undef_ne _))
            | (exact absurd (g0.symm.trans hh) (bool_ne (by decide)))
            | (exfalso; revert hh; simp [Held, g0, *]; done)
            | (refine free_run (v := .pointer (some ⟨rb, j * 68, none⟩)) (W' := W) rfl ?_ rfl (Below.refl _ _); go_simp)
          ·first
            | (exact absurd g0 hh)
            | (exfalso; revert hh; simp [Held, g0, *]; done)
            | (show undef = _; first | rfl | (simp [*]; done))
         ·intro L ax W hf hd
          simp [Region.binds] at hd
          have e204 : ax.tmps[204]?.getD undef = .pointer (some ⟨rb, j * 68, none⟩) := slv (hf.got 15 (by decide) (by simp [hd]))
          have g0 : sl ax 195 = .bool false := hf.got 6 (by decide) (by simp [hd])
          refine ⟨fun hh => ?_, fun hh => ?_⟩
          ·first
            | (exact absurd (g0.symm.trans hh) (undef_ne _))
            | (exact absurd (g0.symm.trans hh) (bool_ne (by decide)))
            | (exfalso; revert hh; simp [Held, g0, *]; done)
            | (refine free_run (v := .pointer (some ⟨rb, j * 68 + 1, none⟩)) (W' := W) rfl ?_ rfl (Below.refl _ _); go_simp)
          ·first
            | (exact absurd g0 hh)
            | (exfalso; revert hh; simp [Held, g0, *]; done)
            | (show undef = _; first | rfl | (simp [*]; done))
         ·intro L ax W hf hd
          simp [Region.binds] at hd
          have e205 : ax.tmps[205]?.getD undef = .pointer (some ⟨rb, j * 68 + 1, none⟩) := slv (hf.got 16 (by decide) (by simp [hd]))
          have g0 : sl ax 195 = .bool false := hf.got 6 (by decide) (by simp [hd])
          refine ⟨fun hh => ?_, fun hh => ?_⟩
          ·first
            | (exact absurd (g0.symm.trans hh) (undef_ne _))
            | (exact absurd (g0.symm.trans hh) (bool_ne (by decide)))
            | (exfalso; revert hh; simp [Held, g0, *]; done)
            | ((have h1 := (row?_below _ _ _ hf.below hrbw).trans hnj); refine free_run (v := .agg (hashA nP)) (W' := W) rfl ?_ rfl (Below.refl _ _); go_simp)
          ·first
            | (exact absurd g0 hh)
            | (exfalso; revert hh; simp [Held, g0, *]; done)
            | (show undef = _; first | rfl | (simp [*]; done))
         ·intro L ax W hf hd
          simp [Region.binds] at hd
          have e196 : ax.tmps[196]?.getD undef = .agg (hashA nP) := slv (hf.got 7 (by decide) (by simp [hd]))
          have e206 : ax.tmps[206]?.getD undef = .agg (hashA nP) := slv (hf.got 17 (by decide) (by simp [hd]))
          have g0 : sl ax 195 = .bool false := hf.got 6 (by decide) (by simp [hd])
          refine ⟨fun hh => ?_, fun hh => ?_⟩
          ·first
            | (exact absurd (g0.symm.trans hh) (undef_ne _))
            | (exact absurd (g0.symm.trans hh) (bool_ne (by decide)))
            | (exfalso; revert hh; simp [Held, g0, *]; done)
            | (refine free_run (v := .bool false) (W' := W) rfl ?_ rfl (Below.refl _ _); go_simp)
          ·first
            | (exact absurd g0 hh)
            | (exfalso; revert hh; simp [Held, g0, *]; done)
            | (show undef = _; first | rfl | (simp [*]; done))
         ·intro L ax W hf hd
          simp [Region.binds] at hd
          have e195 : ax.tmps[195]?.getD undef = .bool false := slv (hf.got 6 (by decide) (by simp [hd]))
          have e207 : ax.tmps[207]?.getD undef = .bool false := slv (hf.got 18 (by decide) (by simp [hd]))
          refine ⟨fun _ => ?_, fun h => absurd trivial h⟩
          refine free_run (v := .bool false) (W' := W) rfl ?_ rfl (Below.refl _ _)
          go_simp
         ·intro L ax W hf hd
          simp [Region.binds] at hd
          have e208 : ax.tmps[208]?.getD undef = .bool false := slv (hf.got 19 (by decide) (by simp [hd]))
          refine ⟨fun _ => ?_, fun h => absurd trivial h⟩
          refine free_run (v := .bool false) (W' := W) rfl ?_ rfl (Below.refl _ _)
          go_simp
         ·intro L ax W hf hd
          simp [Region.binds] at hd
          have e18 : ax.tmps[18]?.getD undef = .pointer (some ⟨b18, 0, none⟩) := hf.out 18 (by decide) rfl
          have g0 : sl ax 209 = .bool false := hf.got 20 (by decide) (by simp [hd])
          refine ⟨fun hh => ?_, fun hh => ?_⟩
          ·first
            | (exact absurd (g0.symm.trans hh) (undef_ne _))
            | (exact absurd (g0.symm.trans hh) (bool_ne (by decide)))
            | (exfalso; revert hh; simp [Held, g0, *]; done)
            | ((have h1 := (row?_below _ _ _ hf.below hl18q).trans hr18q); refine free_run (v := .agg (headerA gH)) (W' := W) rfl ?_ rfl (Below.refl _ _); go_simp)
          ·first
            | (exact absurd g0 hh)
            | (exfalso; revert hh; simp [Held, g0, *]; done)
            | (show undef = _; first | rfl | (simp [*]; done))
         ·intro L ax W hf hd
          simp [Region.binds] at hd
          have e210 : ax.tmps[210]?.getD undef = .agg (headerA gH) := slv (hf.got 21 (by decide) (by simp [hd]))
          have g0 : sl ax 209 = .bool false := hf.got 20 (by decide) (by simp [hd])
          refine ⟨fun hh => ?_, fun hh => ?_⟩
          ·first
            | (exact absurd (g0.symm.trans hh) (undef_ne _))
            | (exact absurd (g0.symm.trans hh) (bool_ne (by decide)))
            | (exfalso; revert hh; simp [Held, g0, *]; done)
            | (refine free_call (f := 51) (args := #[.agg (headerA gH)]) rfl (by go_simp) ?_; refine (HNm W hf.below).mono ?_; rintro e w' ⟨rfl, hb⟩; exact ⟨_, rfl, rfl, hb⟩)
          ·first
            | (exact absurd g0 hh)
            | (exfalso; revert hh; simp [Held, g0, *]; done)
            | (show undef = _; first | rfl | (simp [*]; done))
         ·intro L ax W hf hd
          simp [Region.binds] at hd
          have e11 : ax.tmps[11]?.getD undef = .pointer (some ⟨b11, 0, none⟩) := hf.out 11 (by decide) rfl
          have g0 : sl ax 209 = .bool false := hf.got 20 (by decide) (by simp [hd])
          refine ⟨fun hh => ?_, fun hh => ?_⟩
          ·first
            | (exact absurd (g0.symm.trans hh) (undef_ne _))
            | (exact absurd (g0.symm.trans hh) (bool_ne (by decide)))
            | (exfalso; revert hh; simp [Held, g0, *]; done)
            | (refine free_run (v := .pointer (some ⟨b11, 0, none⟩)) (W' := W) rfl ?_ rfl (Below.refl _ _); go_simp)
          ·first
            | (exact absurd g0 hh)
            | (exfalso; revert hh; simp [Held, g0, *]; done)
            | (show undef = _; first | rfl | (simp [*]; done))
         ·intro L ax W hf hd
          simp [Region.binds] at hd
          have e212 : ax.tmps[212]?.getD undef = .pointer (some ⟨b11, 0, none⟩) := slv (hf.got 23 (by decide) (by simp [hd]))
          have g0 : sl ax 209 = .bool false := hf.got 20 (by decide) (by simp [hd])
          refine ⟨fun hh => ?_, fun hh => ?_⟩
          ·first
            | (exact absurd (g0.symm.trans hh) (undef_ne _))
            | (exact absurd (g0.symm.trans hh) (bool_ne (by decide)))
            | (exfalso; revert hh; simp [Held, g0, *]; done)
            | (refine free_run (v := .pointer (some ⟨b11, 1, none⟩)) (W' := W) rfl ?_ rfl (Below.refl _ _); go_simp)
          ·first
            | (exact absurd g0 hh)
            | (exfalso; revert hh; simp [Held, g0, *]; done)
            | (show undef = _; first | rfl | (simp [*]; done))
         ·intro L ax W hf hd
          simp [Region.binds] at hd
          have e213 : ax.tmps[213]?.getD undef = .pointer (some ⟨b11, 1, none⟩) := slv (hf.got 24 (by decide) (by simp [hd]))
          have g0 : sl ax 209 = .bool false := hf.got 20 (by decide) (by simp [hd])
          refine ⟨fun hh => ?_, fun hh => ?_⟩
          ·first
            | (exact absurd (g0.symm.trans hh) (undef_ne _))
            | (exact absurd (g0.symm.trans hh) (bool_ne (by decide)))
            | (exfalso; revert hh; simp [Held, g0, *]; done)
            | ((have h1 := (row?_below _ _ _ hf.below hl11w).trans rn11); refine free_run (v := .agg (hashA pi.name)) (W' := W) rfl ?_ rfl (Below.refl _ _); go_simp)
          ·first
            | (exact absurd g0 hh)
            | (exfalso; revert hh; simp [Held, g0, *]; done)
            | (show undef = _; first | rfl | (simp [*]; done))
         ·intro L ax W hf hd
          simp [Region.binds] at hd
          have e211 : ax.tmps[211]?.getD undef = .agg (hashA pi.name) := slv (hf.got 22 (by decide) (by simp [hd]))
          have e214 : ax.tmps[214]?.getD undef = .agg (hashA pi.name) := slv (hf.got 25 (by decide) (by simp [hd]))
          have g0 : sl ax 209 = .bool false := hf.got 20 (by decide) (by simp [hd])
          refine ⟨fun hh => ?_, fun hh => ?_⟩
          ·first
            | (exact absurd (g0.symm.trans hh) (undef_ne _))
            | (exact absurd (g0.symm.trans hh) (bool_ne (by decide)))
            | (exfalso; revert hh; simp [Held, g0, *]; done)
            | (refine free_run (v := .bool false) (W' := W) rfl ?_ rfl (Below.refl _ _); go_simp)
          ·first
            | (exact absurd g0 hh)
            | (exfalso; revert hh; simp [Held, g0, *]; done)
            | (show undef = _; first | rfl | (simp [*]; done))
         ·intro L ax W hf hd
          simp [Region.binds] at hd
          have e209 : ax.tmps[209]?.getD undef = .bool false := slv (hf.got 20 (by decide) (by simp [hd]))
          have e215 : ax.tmps[215]?.getD undef = .bool false := slv (hf.got 26 (by decide) (by simp [hd]))
          refine ⟨fun _ => ?_, fun h => absurd trivial h⟩
          refine free_run (v := .bool false) (W' := W) rfl ?_ rfl (Below.refl _ _)
          go_simp
        ·intro vs W' hl' hF' hb
         obtain ⟨g', hg1, hg2⟩ := vs_lit vs hl' hF'
         have e27 : g' 27 = .bool false := hg2 27 (by decide)
         rw [hg1]
         simp only [List.length_cons, List.length_nil, Nat.reduceAdd, show List.range 28 = [0, 1, 2, 3, 4, 5, 6, 7, 8, 9, 10, 11, 12, 13, 14, 15, 16, 17, 18, 19, 20, 21, 22, 23, 24, 25, 26, 27] from rfl, List.map_cons, List.map_nil, putL, List.zip_cons_cons, List.zip_nil_right, List.setIfInBounds_toArray, List.set_cons_succ, List.set_cons_zero, e27]
         go_wp2_with fail
         go_meet
         exact Lib.hid hb
      case rest =>
       have hBc := Lib.hid (hBw.out.trans (hcut.out.mono hBw.out.size))
       clear hcut hBw hBn hr16 hr18 hl16 hl18 hgH hn hnn
       generalize wc = w21 at *
       obtain ⟨-, rn, -, -, -, -, -, -, -⟩ := hX.out w21 hBc.out
       have HCh := show Calls Try.prog 58 #[ptrV cb, .agg (hashA pi.name)] w21 fun e w' => ∃ s : Sl, e = .returned s.v ∧ PtsR w' s ((chs C i).map (ptAt C)) ∧ Below w21.heap.size w21 w' from by
        obtain ⟨ab, ac, mb, G, hv⟩ := hVw.out w21 hBc.out
        exact chchildren_some hv hok.out hat.out
       unfold ptrV at HCh
       go_wp2_with fail
       (with_reducible refine HCh.mono ?_)
       clear HCh
       rintro e w22 ⟨⟨ka, kn, kc⟩, he, hKs, hb22⟩
       replace he : e = .returned (.slice ka kn kc) := he
       subst he
       have hB22 := Lib.hid (hBc.out.trans (hb22.mono hBc.out.size))
       obtain ⟨kl, hkl⟩ : ∃ n, n = (chs C i).length := ⟨_, rfl⟩
       obtain rfl : kn = kl := by have := hKs.1; rw [List.length_map, ← hkl] at this; exact this
       have hklC : kn ≤ C.length := by rw [hkl]; exact chs_length C i
       replace hKs := Lib.hid hKs
       replace hkl := Lib.hid hkl
       obtain ⟨-, -, -, -, -, c7, -, hD22, -⟩ := hX.out w22 hB22.out
       have c0q := hD22.c0
       clear hb22 rn hD22
       go_wp2_with fail
       go_loopw [23, 24] (fun u x W' => ∃ j : Nat, j ≤ C.length ∧ x = .int .i64 j ∧ u = .int .i64 (((List.range j).filter (kidP C i)).length : Nat) ∧ Hid (Below w22.heap.size w22 W')) (fun _ x _ => C.length - (intOf x).toNat)
       case atStart => exact ⟨0, Nat.zero_le _, rfl, rfl, Lib.hid (Below.refl _ _)⟩
       case round =>
        obtain ⟨j, hj, rfl, rfl, hBj⟩ := hrel
        clear c7 c0q
        have hBjw := Lib.hid (hB22.out.trans (hBj.out.mono hB22.out.size))
        obtain ⟨rp, -, -, -, hl11w, c7, hl7w, hDj, -⟩ := hX.out wr hBjw.out
        have c0q := hDj.c0
        obtain ⟨cn, hcn⟩ : ∃ n, n = ((List.range j).filter (kidP C i)).length := ⟨_, rfl⟩
        have hcnj : cn ≤ j := by rw [hcn]; exact filt_le _ _
        rw [← hcn]
        by_cases hjx : j < C.length
        ·have j0 : (0 : Int) ≤ (j : Int) := by omega
         have j1 : (j : Int) < (C.length : Int) := by omega
         obtain ⟨gj, hrj⟩ := hDj.row j hjx
         obtain ⟨hpj, -, -, c67⟩ := rblk_cells hrj
         have hpa := parAt_of (List.getElem?_eq_getElem hjx)
         have hpt := ptAt_of (List.getElem?_eq_getElem hjx)
         have hjx2 := Lib.hid hjx
         have hsu := filt_succ (kidP C i) j
         rw [← hcn] at hsu
         by_cases hk : parAt C j = some i
         ·have hkp : kidP C i j = true := decide_eq_true hk
          rw [if_pos hkp] at hsu
          have hgt := filt_get (kidP C i) hjx hkp
          rw [← chs_kid, ← hcn] at hgt
          have hck : cn < kn := by rw [hkl.out]; exact (List.getElem?_eq_some_iff.1 hgt).1
          rw [← hpa, hk] at c67
          rw [show parI (some i) = (i : Int) from rfl] at c67
          obtain ⟨kb, ko, e1, hkb, hkr⟩ := SlR.at hKs.out (by rw [List.length_map, ← hkl.out]; omega)
          have e2 := congrArg Sl.a e1
          simp only at e2
          subst e2
          clear e1
          obtain ⟨cs, hk1, hk2⟩ := hkr cn (by rw [List.length_map, ← hkl.out]; exact hck)
          rw [List.getElem_map, show (chs C i)[cn]'(by rw [← hkl.out]; exact hck) = j from (List.getElem?_eq_some_iff.1 hgt).2, hpt] at hk2
          subst hk2
          have hk3 := (row?_below _ _ _ hBj.out hkb).trans hk1
          have n0 : (0 : Int) ≤ (cn : Int) := by omega
          have n1 : (cn : Int) < (kn : Int) := by omega
          have n2 : ¬ (kn : Int) ≤ (cn : Int) := by omega
          have n3 : ¬ kn ≤ cn := by omega
          generalize C[j].p = pj at *
          have f0 := fun k => (show row? (wr.drewN k) kb (ko + cn * 33) 33 = _ from hk3)
          have f2 := fun k => (show (wr.drewN k).cell? ⟨b7, 0, none⟩ = _ from c7)
          have f3 := fun k => (show (wr.drewN k).cell? ⟨cr, 0, none⟩ = _ from c0q)
          have f4 := fun k => (show row? (wr.drewN k) rb (j * 68) 33 = _ from hpj)
          have hcnj2 := Lib.hid hcnj
          replace hcn := Lib.hid hcn
          replace hsu := Lib.hid hsu
          clear hDj hrj hk hkp hgt hkr hk1 hk3 hpt hpa hjx rp
          go_upto_region 38 with fail
          go_quiet (fail)
          go_wp2_with fail
          go_roundw
          case rel => exact ⟨j + 1, by have := hjx2.out; omega, by go_num, by rw [hsu.out]; have := hcnj2.out; have := hjx2.out; go_num, Lib.hid (below_drewN hBj.out _)⟩
          case measure => have := hjx2.out; simp [intOf]; omega
         ·have hkp : ¬ kidP C i j = true := by
           intro h
           exact hk (of_decide_eq_true h)
          rw [if_neg hkp, Nat.add_zero] at hsu
          have hpne : ¬ parI C[j].par = (i : Int) := by
           intro h
           apply hk
           rw [hpa]
           cases hq : C[j].par with
           | none =>
            rw [hq] at h
            have h' : (-1 : Int) = (i : Int) := h
            omega
           | some q =>
            rw [hq] at h
            have h' : (q : Int) = (i : Int) := h
            congr 1
            omega
          generalize parI C[j].par = pv at *
          replace hcn := Lib.hid hcn
          replace hsu := Lib.hid hsu
          clear hDj hrj hk hkp hpt hpa hjx rp hpj
          go_wp2_with fail
          go_roundw
          case rel => exact ⟨j + 1, by have := hjx2.out; omega, by go_num, by rw [hsu.out]; rfl, hBj⟩
          case measure => have := hjx2.out; simp [intOf]; omega
        ·obtain rfl : j = C.length := by omega
         have hjn : ¬ (C.length : Int) < (C.length : Int) := by omega
         obtain rfl : cn = kn := by rw [hcn, hkl.out, chs_kid]
         have htp := filt_succ (tipP C) i
         have htle' := filt_le (tipP C) i
         have hBend := Lib.hid (hB11.out.trans (hBjw.out.mono hB11.out.size))
         replace hcn := Lib.hid hcn
         by_cases hk0 : cn = 0
         ·subst hk0
          have hki : tipP C i = true := decide_eq_true hkl.out.symm
          rw [if_pos hki] at htp
          have hgt := filt_get (tipP C) hix2.out hki
          rw [← tips_tip] at hgt
          obtain ⟨tp, htpe⟩ : ∃ n, n = ((List.range i).filter (tipP C)).length := ⟨_, rfl⟩
          rw [← htpe] at htp hgt htle' ⊢
          have htl2 : tp < tl := by rw [htle.out]; exact (List.getElem?_eq_some_iff.1 hgt).1
          obtain ⟨tb, tof, e1, htb, htr⟩ := SlR.at hTs.out (by rw [List.length_map, ← htle.out]; omega)
          have e2 := congrArg Sl.a e1
          simp only at e2
          subst e2
          clear e1
          obtain ⟨cs, hk1, hk2⟩ := htr tp (by rw [List.length_map, ← htle.out]; exact htl2)
          rw [List.getElem_map, show (tipsI C)[tp]'(by rw [← htle.out]; exact htl2) = i from (List.getElem?_eq_some_iff.1 hgt).2, ptAt_of hgi.out, ← hpi.out] at hk2
          subst hk2
          have hk3 := (row?_below _ _ _ hBend.out htb).trans hk1
          have n0 : (0 : Int) ≤ (tp : Int) := by omega
          have n1 : (tp : Int) < (tl : Int) := by omega
          have n2 : ¬ (tl : Int) ≤ (tp : Int) := by omega
          have n3 : ¬ tl ≤ tp := by omega
          have f0 := fun k => (show row? (wr.drewN k) tb (tof + tp * 33) 33 = _ from hk3)
          have f1 := fun k => (show row? (wr.drewN k) b11 0 33 = _ from rp)
          replace htpe := Lib.hid htpe
          replace htp := Lib.hid htp
          clear hDj hgt htr hk1 hk3 hki
          go_upto_region 44 with fail
          go_quiet (fail)
          go_wp2_with fail
          go_roundw
          case rel => exact ⟨i + 1, by have := hix2.out; omega, by go_num, by rw [htp.out]; have := hix2.out; go_num, Lib.hid (below_drewN hBend.out _)⟩
          case measure => have := hix2.out; simp [intOf]; omega
         ·have hk0i : ¬ (cn : Int) = 0 := by omega
          have hki : ¬ tipP C i = true := by
           intro h
           have := of_decide_eq_true h
           rw [← hkl.out] at this
           exact hk0 this
          rw [if_neg hki, Nat.add_zero] at htp
          replace htp := Lib.hid htp
          clear hDj hki rp
          go_wp2_with fail
          go_roundw
          case rel => exact ⟨i + 1, by have := hix2.out; omega, by go_num, by rw [htp.out]; rfl, hBend⟩
          case measure => have := hix2.out; simp [intOf]; omega
    -- DEV>
   ·obtain rfl : i = C.length := by omega
    have hin : ¬ (C.length : Int) < (C.length : Int) := by omega
    rw [← tips_tip, ← htle.out]
    have hR := Lib.hid (hF8.out wr hBi.out)
    obtain ⟨sA, mb, G, hM⟩ := hR.out.2.2.2.1.real
    obtain ⟨ab, -, -, hv0⟩ := hM.view hok.out.pos
    have hv := Lib.hid hv0
    clear hM hv0 hDi hl7w
    go_upto_region 48 with fail
    clear c0q c7
    obtain ⟨w25, hw25⟩ : ∃ W, W = wr.alloc (.cells #[.int .i64 0] 3) := ⟨_, rfl⟩
    have hb25 : Below wr.heap.size wr w25 := by rw [hw25]; exact bel_a wr _
    have hz25 : w25.heap.size = wr.heap.size + 1 := by rw [hw25]; simp
    have c25 : w25.cell? ⟨wr.heap.size, 0, none⟩ = some (.int .i64 0) := by
     rw [hw25, cell_of_row _ _ _ _ _ _ (heap_alloc_new wr _)]
     rfl
    have f25 : w25.frozen? ⟨wr.heap.size, 0, none⟩ = false := by
     rw [hw25]
     exact frozen_of_row _ _ _ _ _ (heap_alloc_new wr _)
    rw [← hw25]
    obtain ⟨b25, hb25e⟩ : ∃ b, b = wr.heap.size := ⟨_, rfl⟩
    rw [← hb25e] at c25 f25 ⊢
    have HL := chall_c (hv.out.keep hb25) hok.out
    unfold ptrV at HL
    have hlt25 : b25 < w25.heap.size := by omega
    replace hz25 := Lib.hid hz25
    replace hb25e := Lib.hid hb25e
    have hfe := run_eql_fn2
    clear hw25
    go_wp2_with fail
    (with_reducible refine HL.mono ?_)
    clear HL
    rintro e w26 ⟨lb, sq, rfl, hlb, hlbl, hlbg, hos, hb26⟩
    have hb026 := hb25.trans (hb26.mono hb25.size)
    have hI0 : RndP wr w26 b25 lb sq G 0 w26 := ⟨hb026, Nat.le_refl _, (hb26.cell (p := ⟨b25, 0, none⟩) hlt25).trans c25, (World.frozen?_of_block (a := ⟨b25, 0, none⟩) (hb26.block b25 hlt25)).trans f25, hlb, fun i x hx => by
     have hi : i < (G.drop 1).length := by
      have := (List.getElem?_eq_some_iff.1 hx).1
      rw [List.length_drop]
      omega
     rcases hos.2 with ⟨-, h0⟩ | ⟨sb, cap, e, h1, h2, -, -, -, -, hcs⟩
     ·omega
     ·have e1 := congrArg (fun v => match v with | .slice a _ _ => a | _ => none) e
      refine ⟨sb, e1, h2, by omega, ?_⟩
      have hf := flatC_get ptrA ptrA_size (G.drop 1) i 0 hi (by omega)
      rw [Nat.mul_one, Nat.add_zero] at hf
      refine hcs i _ (hf.trans ?_)
      rw [List.getElem_drop]
      have hx' := (List.getElem?_eq_some_iff.1 hx).2
      simp only [Nat.add_comm 1 i, hx']
      rfl⟩
    have hsn : sq.n = C.length - 1 := by
     have h := (rows_of_own ptrA ptrA_size (by omega) (s := sq) hos).1
     rw [List.length_drop, hv.out.glen] at h
     exact h
    have hlb25 : lb ≠ b25 := by omega
    have hz26 := hb26.size
    have hBF := Lib.hid (show ∀ W, Below wr.heap.size wr W → W.cell? ⟨b7, 0, none⟩ = some (.pointer (some ⟨cr, 0, none⟩)) ∧ b7 < W.heap.size ∧ DocW w1 W cr rb cap C ∧ Below w1.heap.size w1 W from fun W hb => by
     obtain ⟨y1, y2, y3, -, y5⟩ := hF8.out W (hBi.out.trans (hb.mono hBi.out.size))
     exact ⟨y1, y2, y3, y5⟩)
    have hb25w : wr.heap.size ≤ b25 := Nat.le_of_eq hb25e.out.symm
    have hw26w := hb026.size
    have h25w : b25 < w26.heap.size := by omega
    clear hb26 hb25 c25 f25 hlb hos hb026
    go_wp2_with fail
    clear hfe
    refine (wpIn_wide (n := 10)).1 ?_
    refine rangeQ (by omega) (gf := 128) (lb := #[.pointer (some ⟨lb, 0, none⟩)]) rfl (enters_of Try.func128 (by kernel_rfl) rfl) (C.length - 1) (fun l k vs W => ItV C l k vs W) (fun l k vs W h => ?hVsz) (fun k W => RndP wr w26 b25 lb sq G k W) (fun k A B h hb => ?hbel) (fun k A q o hq h => ?hput) (fun q J W hW hJb hJI hY h0 => ?hseq) hI0 ?hround ?hdone
    case hVsz =>
     obtain ⟨g, b, E, e, -⟩ := h
     rw [e]
     rfl
    case hbel => exact h.keep hb h25w hlbl hlb25
    case hput => exact h.put o hq hw26w h25w hlbl hlb25
    case hseq =>
     exact chall1_in hv.out hok.out (10 - 1) q lb sq hsn J W hJb (fun k A h => ⟨(hJI k A h).1.bel, (hJI k A h).1.clb, fun i x hx => by obtain ⟨b, h1, -, -, h4⟩ := (hJI k A h).1.ptr i x hx; exact ⟨b, h1, h4⟩⟩) (fun k A h => (hJI k A h).2) hY h0
    case hround =>
     intro q k vs W K hq hqW hI hk hV hK
     obtain ⟨gI, bI, E, rfl, hbI, hgI, hqE⟩ := hV
     gi_wp2_with fail
     obtain ⟨wb, hwb, r28, -, hb28, hz28⟩ := box_row W (headerA ⟨zeroHash, 0, ⟨none, 0, 0⟩⟩) (headerA gI) 49 34 (by omega) (by simp) (by simp)
     rw [← hwb]
     obtain ⟨b28, hb28e⟩ : ∃ b, b = W.heap.size := ⟨_, rfl⟩
     rw [← hb28e] at r28 ⊢
     refine hK _ _ (keeps_below hb28) (hI.keep hb28 h25w hlbl hlb25) fun o => ?_
     have hI3 := (hI.keep hb28 h25w hlbl hlb25).put o hq hw26w h25w hlbl hlb25
     have hAq : Asd (fun x => some q = some x) wb (wb.putObj q o) := asd_grown (grownBy_putObj' wb q o)
     have r28' := hAq.row (b := b28) (by intro e; injection e with e; omega) r28
     have q28' : b28 < (wb.putObj q o).heap.size := Nat.lt_of_lt_of_le (show b28 < wb.heap.size by omega) hAq.size
     have hR2 := hgI (wb.putObj q o) ((below_fresh hb28 _).trans (hAq.mono fun x _ e => by injection e with e; omega))
     have hKq : KeepsFrom w26.heap.size (wb.putObj q o) (wb.putObj q o) := KeepsFrom.refl _ _
     generalize wb.putObj q o = W2 at *
     have hI4 := Lib.hid hI3
     obtain ⟨c7, q7, hDk, -⟩ := hBF.out W2 hI3.bel
     have c0q := hDk.c0
     have qcr := hDk.clt
     have qrb := hDk.lt
     have hkl : k + 1 < C.length := by omega
     obtain ⟨gk, hrk⟩ := hDk.row (k + 1) hkl
     obtain ⟨-, rnm, -, -⟩ := rblk_cells hrk
     have hbe : C[k + 1] = bI := by
      rw [List.getElem?_eq_getElem hkl] at hbI
      injection hbI
     rw [hbe] at rnm
     have hhd := hok.out.hdr (k + 1) bI hbI (by omega)
     have HNm := fun W (hb : Below W2.heap.size W2 W) => show Calls Try.prog 51 #[.agg (headerA gI)] W fun e w' => e = .returned (.agg (hashA bI.p.name)) ∧ Below W.heap.size W w' from by
      have h := rname_c gI bI.h W (hR2.keep' hb) hhd.2
      rw [hhd.1]
      exact h
     obtain ⟨nm, hnm⟩ : ∃ n, n = bI.p.name := ⟨_, rfl⟩
     rw [← hnm] at HNm rnm
     obtain ⟨k1, hk1⟩ : ∃ n, n = k + 1 := ⟨_, rfl⟩
     rw [← hk1] at rnm
     have k10 : (0 : Int) ≤ (k1 : Int) := by omega
     have k11 : (k1 : Int) < (C.length : Int) := by omega
     have hwk : IntKind.i64.wrap ((k : Int) + 1) = (k1 : Int) := (IntWalk.i64_in _ (by omega)).trans (by omega)
     have c25 := hI3.c25
     have f25 := hI3.f25
     have q25 : b25 < W2.heap.size := by have := hI3.size; omega
     have r28 := r28'
     have q28 := q28'
     have hg := hash_guard_p
     replace hnm := Lib.hid hnm
     replace hk1 := Lib.hid hk1
     replace hhd := Lib.hid hhd
     replace hbI := Lib.hid hbI
     replace hb28e := Lib.hid hb28e
     replace hz28 := Lib.hid hz28
     clear hwb hAq r28' q28' hgI hI hI3 hR2 hDk hrk hbe hb28 hK hqW hqE hkl hKq
     gi_wp2_with (with_reducible refine stop_region ?_)
     refine Lib.hid ?_
     refine wpIn_region_freeR_l (fun W W' => Below W.heap.size W W') (by rintro ⟨_, _, h⟩; exact h) (by kernel_rfl) (by kernel_rfl) [290, 291, 292, 293, 294, 295, 296, 297, 298, 299, 300, 301, 302, 303, 304, 305, 306, 307]
      [Is (.int .i64 (k : Int)), Is (.int .i64 (k : Int)), Is (.bool false), Is (.bool false), Is (.agg (headerA gI)), Is (.agg (hashA nm)), Is (.pointer (some ⟨cr, 0, none⟩)), Is (.pointer (some ⟨cr, 0, none⟩)), Is (.pointer (some ⟨cr, 0, none⟩)), Is (.slice (some ⟨rb, 0, none⟩) C.length cap), Is (.int .i64 (k : Int)), Is (.int .i64 (k1 : Int)), Is (.pointer (some ⟨rb, k1 * 68, none⟩)), Is (.pointer (some ⟨rb, k1 * 68, none⟩)), Is (.pointer (some ⟨rb, k1 * 68 + 1, none⟩)), Is (.agg (hashA nm)), Is (.bool false), Is (.bool false)]
      (by kernel_rfl) (fun W W' h hb => hb.trans (h.mono hb.size)) ?_ ?_ ?_
     ·intro f hf
      simp only [List.mem_cons, List.not_mem_nil, or_false] at hf
      rcases hf with rfl | rfl | rfl | rfl | rfl | rfl | rfl | rfl | rfl | rfl | rfl | rfl | rfl | rfl | rfl | rfl | rfl | rfl <;> intro x W W' h hr <;> first | exact h
     ·refine ⟨?_, ?_, ?_, ?_, ?_, ?_, ?_, ?_, ?_, ?_, ?_, ?_, ?_, ?_, ?_, ?_, ?_, ?_, trivial⟩
      ·intro L ax W hf hd
       try simp [Region.binds] at hd
       have e27 : ax.tmps[27]?.getD undef = .int .i64 (k : Int) := hf.out 27 (by decide) rfl
       refine ⟨fun _ => ?_, fun h => absurd trivial h⟩
       refine free_run (v := .int .i64 (k : Int)) (W' := W) rfl ?_ rfl (Below.refl _ _)
       go_simp
      ·intro L ax W hf hd
       try simp [Region.binds] at hd
       have e25 : ax.tmps[25]?.getD undef = .pointer (some ⟨b25, 0, none⟩) := hf.out 25 (by decide) rfl
       refine ⟨fun _ => ?_, fun h => absurd trivial h⟩
       have h1 := (hf.below.cell (p := ⟨b25, 0, none⟩) q25).trans c25
       refine free_run (v := .int .i64 (k : Int)) (W' := W) rfl ?_ rfl (Below.refl _ _)
       go_simp
      ·intro L ax W hf hd
       simp [Region.binds] at hd
       have e290 : ax.tmps[290]?.getD undef = .int .i64 (k : Int) := slv (hf.got 0 (by decide) (by simp [hd]))
       have e291 : ax.tmps[291]?.getD undef = .int .i64 (k : Int) := slv (hf.got 1 (by decide) (by simp [hd]))
       refine ⟨fun _ => ?_, fun h => absurd trivial h⟩
       refine free_run (v := .bool false) (W' := W) rfl ?_ rfl (Below.refl _ _)
       go_simp
      ·intro L ax W hf hd
       simp [Region.binds] at hd
       have e292 : ax.tmps[292]?.getD undef = .bool false := slv (hf.got 2 (by decide) (by simp [hd]))
       refine ⟨fun _ => ?_, fun h => absurd trivial h⟩
       refine free_run (v := .bool false) (W' := W) rfl ?_ rfl (Below.refl _ _)
       go_simp
      ·intro L ax W hf hd
       simp [Region.binds] at hd
       have e28 : ax.tmps[28]?.getD undef = .pointer (some ⟨b28, 0, none⟩) := hf.out 28 (by decide) rfl
       have g0 : sl ax 293 = .bool false := hf.got 3 (by decide) (by simp [hd])
       refine ⟨fun hh => ?_, fun hh => ?_⟩
       ·first
         | (exact absurd (g0.symm.trans hh) (undef_ne _))
         | (exact absurd (g0.symm.trans hh) (bool_ne (by decide)))
         | (exfalso; revert hh; simp [Held, g0, *]; done)
         | ((have h1 := (row?_below _ _ _ hf.below q28).trans r28); refine free_run (v := .agg (headerA gI)) (W' := W) rfl ?_ rfl (Below.refl _ _); go_simp)
       ·first
         | (exact absurd g0 hh)
         | (exfalso; revert hh; simp [Held, g0, *]; done)
         | (show undef = _; first | rfl | (simp [*]; done))
      ·intro L ax W hf hd
       simp [Region.binds] at hd
       have e294 : ax.tmps[294]?.getD undef = .agg (headerA gI) := slv (hf.got 4 (by decide) (by simp [hd]))
       have g0 : sl ax 293 = .bool false := hf.got 3 (by decide) (by simp [hd])
       refine ⟨fun hh => ?_, fun hh => ?_⟩
       ·first
         | (exact absurd (g0.symm.trans hh) (undef_ne _))
         | (exact absurd (g0.symm.trans hh) (bool_ne (by decide)))
         | (exfalso; revert hh; simp [Held, g0, *]; done)
         | (refine free_call (f := 51) (args := #[.agg (headerA gI)]) rfl (by go_simp) ?_; refine (HNm W hf.below).mono ?_; rintro e w' ⟨rfl, hb⟩; exact ⟨_, rfl, rfl, hb⟩)
       ·first
         | (exact absurd g0 hh)
         | (exfalso; revert hh; simp [Held, g0, *]; done)
         | (show undef = _; first | rfl | (simp [*]; done))
      ·intro L ax W hf hd
       simp [Region.binds] at hd
       have e7 : ax.tmps[7]?.getD undef = .pointer (some ⟨b7, 0, none⟩) := hf.out 7 (by decide) rfl
       have g0 : sl ax 293 = .bool false := hf.got 3 (by decide) (by simp [hd])
       refine ⟨fun hh => ?_, fun hh => ?_⟩
       ·first
         | (exact absurd (g0.symm.trans hh) (undef_ne _))
         | (exact absurd (g0.symm.trans hh) (bool_ne (by decide)))
         | (exfalso; revert hh; simp [Held, g0, *]; done)
         | ((have h1 := (hf.below.cell (p := ⟨b7, 0, none⟩) q7).trans c7); refine free_run (v := .pointer (some ⟨cr, 0, none⟩)) (W' := W) rfl ?_ rfl (Below.refl _ _); go_simp)
       ·first
         | (exact absurd g0 hh)
         | (exfalso; revert hh; simp [Held, g0, *]; done)
         | (show undef = _; first | rfl | (simp [*]; done))
      ·intro L ax W hf hd
       simp [Region.binds] at hd
       have e296 : ax.tmps[296]?.getD undef = .pointer (some ⟨cr, 0, none⟩) := slv (hf.got 6 (by decide) (by simp [hd]))
       have g0 : sl ax 293 = .bool false := hf.got 3 (by decide) (by simp [hd])
       refine ⟨fun hh => ?_, fun hh => ?_⟩
       ·first
         | (exact absurd (g0.symm.trans hh) (undef_ne _))
         | (exact absurd (g0.symm.trans hh) (bool_ne (by decide)))
         | (exfalso; revert hh; simp [Held, g0, *]; done)
         | (refine free_run (v := .pointer (some ⟨cr, 0, none⟩)) (W' := W) rfl ?_ rfl (Below.refl _ _); go_simp)
       ·first
         | (exact absurd g0 hh)
         | (exfalso; revert hh; simp [Held, g0, *]; done)
         | (show undef = _; first | rfl | (simp [*]; done))
      ·intro L ax W hf hd
       simp [Region.binds] at hd
       have e297 : ax.tmps[297]?.getD undef = .pointer (some ⟨cr, 0, none⟩) := slv (hf.got 7 (by decide) (by simp [hd]))
       have g0 : sl ax 293 = .bool false := hf.got 3 (by decide) (by simp [hd])
       refine ⟨fun hh => ?_, fun hh => ?_⟩
       ·first
         | (exact absurd (g0.symm.trans hh) (undef_ne _))
         | (exact absurd (g0.symm.trans hh) (bool_ne (by decide)))
         | (exfalso; revert hh; simp [Held, g0, *]; done)
         | (refine free_run (v := .pointer (some ⟨cr, 0, none⟩)) (W' := W) rfl ?_ rfl (Below.refl _ _); go_simp)
       ·first
         | (exact absurd g0 hh)
         | (exfalso; revert hh; simp [Held, g0, *]; done)
         | (show undef = _; first | rfl | (simp [*]; done))
      ·intro L ax W hf hd
       simp [Region.binds] at hd
       have e298 : ax.tmps[298]?.getD undef = .pointer (some ⟨cr, 0, none⟩) := slv (hf.got 8 (by decide) (by simp [hd]))
       have g0 : sl ax 293 = .bool false := hf.got 3 (by decide) (by simp [hd])
       refine ⟨fun hh => ?_, fun hh => ?_⟩
       ·first
         | (exact absurd (g0.symm.trans hh) (undef_ne _))
         | (exact absurd (g0.symm.trans hh) (bool_ne (by decide)))
         | (exfalso; revert hh; simp [Held, g0, *]; done)
         | ((have h1 := (hf.below.cell (p := ⟨cr, 0, none⟩) qcr).trans c0q); refine free_run (v := .slice (some ⟨rb, 0, none⟩) C.length cap) (W' := W) rfl ?_ rfl (Below.refl _ _); go_simp)
       ·first
         | (exact absurd g0 hh)
         | (exfalso; revert hh; simp [Held, g0, *]; done)
         | (show undef = _; first | rfl | (simp [*]; done))
      ·intro L ax W hf hd
       simp [Region.binds] at hd
       have e27 : ax.tmps[27]?.getD undef = .int .i64 (k : Int) := hf.out 27 (by decide) rfl
       have g0 : sl ax 293 = .bool false := hf.got 3 (by decide) (by simp [hd])
       refine ⟨fun hh => ?_, fun hh => ?_⟩
       ·first
         | (exact absurd (g0.symm.trans hh) (undef_ne _))
         | (exact absurd (g0.symm.trans hh) (bool_ne (by decide)))
         | (exfalso; revert hh; simp [Held, g0, *]; done)
         | (refine free_run (v := .int .i64 (k : Int)) (W' := W) rfl ?_ rfl (Below.refl _ _); go_simp)
       ·first
         | (exact absurd g0 hh)
         | (exfalso; revert hh; simp [Held, g0, *]; done)
         | (show undef = _; first | rfl | (simp [*]; done))
      ·intro L ax W hf hd
       simp [Region.binds] at hd
       have e300 : ax.tmps[300]?.getD undef = .int .i64 (k : Int) := slv (hf.got 10 (by decide) (by simp [hd]))
       have g0 : sl ax 293 = .bool false := hf.got 3 (by decide) (by simp [hd])
       refine ⟨fun hh => ?_, fun hh => ?_⟩
       ·first
         | (exact absurd (g0.symm.trans hh) (undef_ne _))
         | (exact absurd (g0.symm.trans hh) (bool_ne (by decide)))
         | (exfalso; revert hh; simp [Held, g0, *]; done)
         | (refine free_run (v := .int .i64 (k1 : Int)) (W' := W) rfl ?_ rfl (Below.refl _ _); go_simp)
       ·first
         | (exact absurd g0 hh)
         | (exfalso; revert hh; simp [Held, g0, *]; done)
         | (show undef = _; first | rfl | (simp [*]; done))
      ·intro L ax W hf hd
       simp [Region.binds] at hd
       have e299 : ax.tmps[299]?.getD undef = .slice (some ⟨rb, 0, none⟩) C.length cap := slv (hf.got 9 (by decide) (by simp [hd]))
       have e301 : ax.tmps[301]?.getD undef = .int .i64 (k1 : Int) := slv (hf.got 11 (by decide) (by simp [hd]))
       have g0 : sl ax 293 = .bool false := hf.got 3 (by decide) (by simp [hd])
       refine ⟨fun hh => ?_, fun hh => ?_⟩
       ·first
         | (exact absurd (g0.symm.trans hh) (undef_ne _))
         | (exact absurd (g0.symm.trans hh) (bool_ne (by decide)))
         | (exfalso; revert hh; simp [Held, g0, *]; done)
         | (refine free_run (v := .pointer (some ⟨rb, k1 * 68, none⟩)) (W' := W) rfl ?_ rfl (Below.refl _ _); go_simp)
       ·first
         | (exact absurd g0 hh)
         | (exfalso; revert hh; simp [Held, g0, *]; done)
         | (show undef = _; first | rfl | (simp [*]; done))
      ·intro L ax W hf hd
       simp [Region.binds] at hd
       have e302 : ax.tmps[302]?.getD undef = .pointer (some ⟨rb, k1 * 68, none⟩) := slv (hf.got 12 (by decide) (by simp [hd]))
       have g0 : sl ax 293 = .bool false := hf.got 3 (by decide) (by simp [hd])
       refine ⟨fun hh => ?_, fun hh => ?_⟩
       ·first
         | (exact absurd (g0.symm.trans hh) (undef_ne _))
         | (exact absurd (g0.symm.trans hh) (bool_ne (by decide)))
         | (exfalso; revert hh; simp [Held, g0, *]; done)
         | (refine free_run (v := .pointer (some ⟨rb, k1 * 68, none⟩)) (W' := W) rfl ?_ rfl (Below.refl _ _); go_simp)
       ·first
         | (exact absurd g0 hh)
         | (exfalso; revert hh; simp [Held, g0, *]; done)
         | (show undef = _; first | rfl | (simp [*]; done))
      ·intro L ax W hf hd
       simp [Region.binds] at hd
       have e303 : ax.tmps[303]?.getD undef = .pointer (some ⟨rb, k1 * 68, none⟩) := slv (hf.got 13 (by decide) (by simp [hd]))
       have g0 : sl ax 293 = .bool false := hf.got 3 (by decide) (by simp [hd])
       refine ⟨fun hh => ?_, fun hh => ?_⟩
       ·first
         | (exact absurd (g0.symm.trans hh) (undef_ne _))
         | (exact absurd (g0.symm.trans hh) (bool_ne (by decide)))
         | (exfalso; revert hh; simp [Held, g0, *]; done)
         | (refine free_run (v := .pointer (some ⟨rb, k1 * 68 + 1, none⟩)) (W' := W) rfl ?_ rfl (Below.refl _ _); go_simp)
       ·first
         | (exact absurd g0 hh)
         | (exfalso; revert hh; simp [Held, g0, *]; done)
         | (show undef = _; first | rfl | (simp [*]; done))
      ·intro L ax W hf hd
       simp [Region.binds] at hd
       have e304 : ax.tmps[304]?.getD undef = .pointer (some ⟨rb, k1 * 68 + 1, none⟩) := slv (hf.got 14 (by decide) (by simp [hd]))
       have g0 : sl ax 293 = .bool false := hf.got 3 (by decide) (by simp [hd])
       refine ⟨fun hh => ?_, fun hh => ?_⟩
       ·first
         | (exact absurd (g0.symm.trans hh) (undef_ne _))
         | (exact absurd (g0.symm.trans hh) (bool_ne (by decide)))
         | (exfalso; revert hh; simp [Held, g0, *]; done)
         | ((have h1 := (row?_below _ _ _ hf.below qrb).trans rnm); refine free_run (v := .agg (hashA nm)) (W' := W) rfl ?_ rfl (Below.refl _ _); go_simp)
       ·first
         | (exact absurd g0 hh)
         | (exfalso; revert hh; simp [Held, g0, *]; done)
         | (show undef = _; first | rfl | (simp [*]; done))
      ·intro L ax W hf hd
       simp [Region.binds] at hd
       have e295 : ax.tmps[295]?.getD undef = .agg (hashA nm) := slv (hf.got 5 (by decide) (by simp [hd]))
       have e305 : ax.tmps[305]?.getD undef = .agg (hashA nm) := slv (hf.got 15 (by decide) (by simp [hd]))
       have g0 : sl ax 293 = .bool false := hf.got 3 (by decide) (by simp [hd])
       refine ⟨fun hh => ?_, fun hh => ?_⟩
       ·first
         | (exact absurd (g0.symm.trans hh) (undef_ne _))
         | (exact absurd (g0.symm.trans hh) (bool_ne (by decide)))
         | (exfalso; revert hh; simp [Held, g0, *]; done)
         | (refine free_run (v := .bool false) (W' := W) rfl ?_ rfl (Below.refl _ _); go_simp)
       ·first
         | (exact absurd g0 hh)
         | (exfalso; revert hh; simp [Held, g0, *]; done)
         | (show undef = _; first | rfl | (simp [*]; done))
      ·intro L ax W hf hd
       simp [Region.binds] at hd
       have e293 : ax.tmps[293]?.getD undef = .bool false := slv (hf.got 3 (by decide) (by simp [hd]))
       have e306 : ax.tmps[306]?.getD undef = .bool false := slv (hf.got 16 (by decide) (by simp [hd]))
       refine ⟨fun _ => ?_, fun h => absurd trivial h⟩
       refine free_run (v := .bool false) (W' := W) rfl ?_ rfl (Below.refl _ _)
       go_simp
     ·intro vs W' hl' hF' hb
      obtain ⟨g', hg1, hg2⟩ := vs_lit vs hl' hF'
      have e17 : g' 17 = .bool false := hg2 17 (by decide)
      rw [hg1]
      simp only [List.length_cons, List.length_nil, Nat.reduceAdd, show List.range 18 = [0, 1, 2, 3, 4, 5, 6, 7, 8, 9, 10, 11, 12, 13, 14, 15, 16, 17] from rfl, List.map_cons, List.map_nil, putL, List.zip_cons_cons, List.zip_nil_right, List.setIfInBounds_toArray, List.set_cons_succ, List.set_cons_zero, e17]
      have hI5 := Lib.hid (hI4.out.keep hb h25w hlbl hlb25)
      have c25 := hI5.out.c25
      have f25 := hI5.out.f25
      have hkb := Lib.hid (keeps_below (B := w26.heap.size) hb)
      clear hF' hg1 hg2 hl' hb HNm r28 q28 rnm c0q c7 hg
      gi_wp2
      exact ⟨hkb.out.trans ((KeepsOthers.setCell _ _ _).from _), hI5.out.more hb25w hlbl hlb25 hk1.out⟩
    case hdone =>
     intro D w9 hD hI hKD
     obtain ⟨N1, hN1⟩ : ∃ n, n = C.length - 1 := ⟨_, rfl⟩
     rw [← hN1] at hI
     have c25 := hI.c25
     have hN1i : (C.length : Int) - 1 = (N1 : Int) := by omega
     obtain ⟨c7, q7, hDk, hB19⟩ := hBF.out w9 hI.bel
     have c0q := hDk.c0
     have hF9 := Lib.hid (show ∀ W, Below w9.heap.size w9 W → W.cell? ⟨b4, 0, none⟩ = some (.bool false) ∧ W.frozen? ⟨b4, 0, none⟩ = false from fun W hb => by
      obtain ⟨h1, h2, -⟩ := hF4.out W (hB19.trans (hb.mono hB19.size))
      exact ⟨h1, h2⟩)
     have hD9 : D < w9.heap.size := (Array.getElem?_eq_some_iff.1 hKD).1
     have hBw9 := Lib.hid (hB1.trans (hB19.mono hB1.size))
     have hDb4 : D ≠ b4 := by have := hR.out.2.2.2.2.size; omega
     replace hKD := Lib.hid hKD
     replace hN1 := Lib.hid hN1
     replace hI := Lib.hid hI
     have hwl : IntKind.i64.wrap (N1 : Int) = (N1 : Int) := IntWalk.i64_in _ (by have := hN1.out; omega)
     clear hDk hB19
     go_upto_region 57 with fail
     refine wp_region_freeI_l (by kernel_rfl) [310, 311, 312, 313, 314, 315, 316, 317, 318, 319, 320, 321, 322, 323, 324, 325, 326, 344]
      [(fun v => v = .int .i64 (N1 : Int)), (fun v => v = .pointer (some ⟨cr, 0, none⟩)), (fun v => v = .pointer (some ⟨cr, 0, none⟩)), (fun v => v = .pointer (some ⟨cr, 0, none⟩)), (fun v => v = .slice (some ⟨rb, 0, none⟩) C.length cap), (fun v => v = .int .i64 (C.length : Int)), (fun v => v = .int .i64 (N1 : Int)), (fun v => v = .bool true), (fun v => v = .bool true), (fun v => v = .int .i64 (tl : Int)), (fun v => v = .slice ta tl tc), (fun v => v = .int .i64 (tl : Int)), (fun v => v = .bool true), (fun v => v = .bool true), (fun v => v = .bool true), (fun v => v = .bool true), (fun v => v = .bool true), (fun _ => True)]
      [15, 16, 17] (H57 w9 b4) [[7, 8, 9, 10, 11, 12, 13, 14, 15, 16, 17], [2, 3, 4, 5, 6, 7, 8, 9, 10, 11, 12, 13, 14, 15, 16, 17], [3, 4, 5, 6, 7, 8, 9, 10, 11, 12, 13, 14, 15, 16, 17], [4, 5, 6, 7, 8, 9, 10, 11, 12, 13, 14, 15, 16, 17], [5, 6, 7, 8, 9, 10, 11, 12, 13, 14, 15, 16, 17], [6, 7, 8, 9, 10, 11, 12, 13, 14, 15, 16, 17], [7, 8, 9, 10, 11, 12, 13, 14, 15, 16, 17], [8, 9, 10, 11, 12, 13, 14, 15, 16, 17], [9, 10, 11, 12, 13, 14, 15, 16, 17], [12, 13, 14, 15, 16, 17], [11, 12, 13, 14, 15, 16, 17], [12, 13, 14, 15, 16, 17], [13, 14, 15, 16, 17], [14, 15, 16, 17], [15, 16, 17], [16, 17], [17], []] (by kernel_rfl) (by kernel_rfl) ?_ ?_ ?_
     ·show H57 w9 b4 [false, false, false] [_, _, _] _
      exact H57.zero _
     ·refine ⟨?_, ?_, ?_, ?_, ?_, ?_, ?_, ?_, ?_, ?_, ?_, ?_, ?_, ?_, ?_, ?_, ?_, ?_, trivial⟩
      ·intro L ax W hf hLi hno hd
       try simp [Region.binds] at hd
       have e25 : ax.tmps[25]?.getD undef = .pointer (some ⟨b25, 0, none⟩) := hf.out 25 (by decide) rfl
       refine ⟨fun _ => ?_, fun h => absurd trivial h⟩
       have hG : H57 w9 b4 [L 15, L 16, L 17] [sl ax 325, sl ax 326, sl ax 344] W := hf.glob
       have hW : W = w9.drew := hG.no (hno 15 (by decide))
       subst hW
       have h1 : w9.drew.cell? ⟨b25, 0, none⟩ = _ := c25
       refine freeI_run (v := .int .i64 (N1 : Int)) rfl hf (by decide) ?_ rfl
       go_simp
      ·intro L ax W hf hLi hno hd
       try simp [Region.binds] at hd
       have e7 : ax.tmps[7]?.getD undef = .pointer (some ⟨b7, 0, none⟩) := hf.out 7 (by decide) rfl
       refine ⟨fun _ => ?_, fun h => absurd trivial h⟩
       have hG : H57 w9 b4 [L 15, L 16, L 17] [sl ax 325, sl ax 326, sl ax 344] W := hf.glob
       have hW : W = w9.drew := hG.no (hno 15 (by decide))
       subst hW
       have h1 : w9.drew.cell? ⟨b7, 0, none⟩ = _ := c7
       refine freeI_run (v := .pointer (some ⟨cr, 0, none⟩)) rfl hf (by decide) ?_ rfl
       go_simp
      ·intro L ax W hf hLi hno hd
       simp [Region.binds] at hd
       have e311 : ax.tmps[311]?.getD undef = .pointer (some ⟨cr, 0, none⟩) := slv (hf.got 1 (by decide) (by simp [hd]))
       refine ⟨fun _ => ?_, fun h => absurd trivial h⟩
       refine freeI_run (v := .pointer (some ⟨cr, 0, none⟩)) rfl hf (by decide) ?_ rfl
       go_simp
      ·intro L ax W hf hLi hno hd
       simp [Region.binds] at hd
       have e312 : ax.tmps[312]?.getD undef = .pointer (some ⟨cr, 0, none⟩) := slv (hf.got 2 (by decide) (by simp [hd]))
       refine ⟨fun _ => ?_, fun h => absurd trivial h⟩
       refine freeI_run (v := .pointer (some ⟨cr, 0, none⟩)) rfl hf (by decide) ?_ rfl
       go_simp
      ·intro L ax W hf hLi hno hd
       simp [Region.binds] at hd
       have e313 : ax.tmps[313]?.getD undef = .pointer (some ⟨cr, 0, none⟩) := slv (hf.got 3 (by decide) (by simp [hd]))
       refine ⟨fun _ => ?_, fun h => absurd trivial h⟩
       have hG : H57 w9 b4 [L 15, L 16, L 17] [sl ax 325, sl ax 326, sl ax 344] W := hf.glob
       have hW : W = w9.drew := hG.no (hno 15 (by decide))
       subst hW
       have h1 : w9.drew.cell? ⟨cr, 0, none⟩ = _ := c0q
       refine freeI_run (v := .slice (some ⟨rb, 0, none⟩) C.length cap) rfl hf (by decide) ?_ rfl
       go_simp
      ·intro L ax W hf hLi hno hd
       simp [Region.binds] at hd
       have e314 : ax.tmps[314]?.getD undef = .slice (some ⟨rb, 0, none⟩) C.length cap := slv (hf.got 4 (by decide) (by simp [hd]))
       refine ⟨fun _ => ?_, fun h => absurd trivial h⟩
       refine freeI_run (v := .int .i64 (C.length : Int)) rfl hf (by decide) ?_ rfl
       go_simp
      ·intro L ax W hf hLi hno hd
       simp [Region.binds] at hd
       have e315 : ax.tmps[315]?.getD undef = .int .i64 (C.length : Int) := slv (hf.got 5 (by decide) (by simp [hd]))
       refine ⟨fun _ => ?_, fun h => absurd trivial h⟩
       refine freeI_run (v := .int .i64 (N1 : Int)) rfl hf (by decide) ?_ rfl
       go_simp
      ·intro L ax W hf hLi hno hd
       simp [Region.binds] at hd
       have e310 : ax.tmps[310]?.getD undef = .int .i64 (N1 : Int) := slv (hf.got 0 (by decide) (by simp [hd]))
       have e316 : ax.tmps[316]?.getD undef = .int .i64 (N1 : Int) := slv (hf.got 6 (by decide) (by simp [hd]))
       refine ⟨fun _ => ?_, fun h => absurd trivial h⟩
       refine freeI_run (v := .bool true) rfl hf (by decide) ?_ rfl
       go_simp
      ·intro L ax W hf hLi hno hd
       simp [Region.binds] at hd
       have e317 : ax.tmps[317]?.getD undef = .bool true := slv (hf.got 7 (by decide) (by simp [hd]))
       refine ⟨fun _ => ?_, fun h => absurd trivial h⟩
       refine freeI_run (v := .bool true) rfl hf (by decide) ?_ rfl
       go_simp
      ·intro L ax W hf hLi hno hd
       simp [Region.binds] at hd
       have e8 : ax.tmps[8]?.getD undef = .int .i64 (tl : Int) := hf.out 8 (by decide) rfl
       have g0 : sl ax 318 = .bool true := hf.got 8 (by decide) (by simp [hd])
       refine ⟨fun hh => ?_, fun hh => ?_⟩
       ·first
         | (exact absurd (g0.symm.trans hh) (undef_ne _))
         | (exact absurd (g0.symm.trans hh) (bool_ne (by decide)))
         | (exfalso; revert hh; simp [Held, g0, *]; done)
         | (refine freeI_run (v := .int .i64 (tl : Int)) rfl hf (by decide) ?_ rfl; go_simp)
       ·first
         | (exact absurd g0 hh)
         | (exfalso; revert hh; simp [Held, g0, *]; done)
         | (refine ⟨?_, by rw [updB_map (by decide), updV_map (by decide)]; exact hf.glob⟩; show undef = _; first | rfl | (simp [*]; done))
      ·intro L ax W hf hLi hno hd
       simp [Region.binds] at hd
       have e9 : ax.tmps[9]?.getD undef = .slice ta tl tc := hf.out 9 (by decide) rfl
       have g0 : sl ax 318 = .bool true := hf.got 8 (by decide) (by simp [hd])
       refine ⟨fun hh => ?_, fun hh => ?_⟩
       ·first
         | (exact absurd (g0.symm.trans hh) (undef_ne _))
         | (exact absurd (g0.symm.trans hh) (bool_ne (by decide)))
         | (exfalso; revert hh; simp [Held, g0, *]; done)
         | (refine freeI_run (v := .slice ta tl tc) rfl hf (by decide) ?_ rfl; go_simp)
       ·first
         | (exact absurd g0 hh)
         | (exfalso; revert hh; simp [Held, g0, *]; done)
         | (refine ⟨?_, by rw [updB_map (by decide), updV_map (by decide)]; exact hf.glob⟩; show undef = _; first | rfl | (simp [*]; done))
      ·intro L ax W hf hLi hno hd
       simp [Region.binds] at hd
       have e320 : ax.tmps[320]?.getD undef = .slice ta tl tc := slv (hf.got 10 (by decide) (by simp [hd]))
       have g0 : sl ax 318 = .bool true := hf.got 8 (by decide) (by simp [hd])
       refine ⟨fun hh => ?_, fun hh => ?_⟩
       ·first
         | (exact absurd (g0.symm.trans hh) (undef_ne _))
         | (exact absurd (g0.symm.trans hh) (bool_ne (by decide)))
         | (exfalso; revert hh; simp [Held, g0, *]; done)
         | (refine freeI_run (v := .int .i64 (tl : Int)) rfl hf (by decide) ?_ rfl; go_simp)
       ·first
         | (exact absurd g0 hh)
         | (exfalso; revert hh; simp [Held, g0, *]; done)
         | (refine ⟨?_, by rw [updB_map (by decide), updV_map (by decide)]; exact hf.glob⟩; show undef = _; first | rfl | (simp [*]; done))
      ·intro L ax W hf hLi hno hd
       simp [Region.binds] at hd
       have e319 : ax.tmps[319]?.getD undef = .int .i64 (tl : Int) := slv (hf.got 9 (by decide) (by simp [hd]))
       have e321 : ax.tmps[321]?.getD undef = .int .i64 (tl : Int) := slv (hf.got 11 (by decide) (by simp [hd]))
       have g0 : sl ax 318 = .bool true := hf.got 8 (by decide) (by simp [hd])
       refine ⟨fun hh => ?_, fun hh => ?_⟩
       ·first
         | (exact absurd (g0.symm.trans hh) (undef_ne _))
         | (exact absurd (g0.symm.trans hh) (bool_ne (by decide)))
         | (exfalso; revert hh; simp [Held, g0, *]; done)
         | (refine freeI_run (v := .bool true) rfl hf (by decide) ?_ rfl; go_simp)
       ·first
         | (exact absurd g0 hh)
         | (exfalso; revert hh; simp [Held, g0, *]; done)
         | (refine ⟨?_, by rw [updB_map (by decide), updV_map (by decide)]; exact hf.glob⟩; show undef = _; first | rfl | (simp [*]; done))
      ·intro L ax W hf hLi hno hd
       simp [Region.binds] at hd
       have e318 : ax.tmps[318]?.getD undef = .bool true := slv (hf.got 8 (by decide) (by simp [hd]))
       have e322 : ax.tmps[322]?.getD undef = .bool true := slv (hf.got 12 (by decide) (by simp [hd]))
       refine ⟨fun _ => ?_, fun h => absurd trivial h⟩
       refine freeI_run (v := .bool true) rfl hf (by decide) ?_ rfl
       go_simp
      ·intro L ax W hf hLi hno hd
       simp [Region.binds] at hd
       have e323 : ax.tmps[323]?.getD undef = .bool true := slv (hf.got 13 (by decide) (by simp [hd]))
       refine ⟨fun _ => ?_, fun h => absurd trivial h⟩
       refine freeI_run (v := .bool true) rfl hf (by decide) ?_ rfl
       go_simp
      ·intro L ax W hf hLi hno hd
       simp [Region.binds] at hd
       have g0 : sl ax 324 = .bool true := hf.got 14 (by decide) (by simp [hd])
       refine ⟨fun hh => ?_, fun hh => ?_⟩
       ·first
         | (exact absurd (g0.symm.trans hh) (undef_ne _))
         | (exact absurd (g0.symm.trans hh) (bool_ne (by decide)))
         | (exfalso; revert hh; simp [Held, g0, *]; done)
         | ((have hG : H57 w9 b4 [L 15, L 16, L 17] [sl ax 325, sl ax 326, sl ax 344] W := hf.glob); (have hW : W = w9.drew := hG.no hLi); subst hW; refine freeI_call (f := 31) (args := #[]) rfl (by go_simp) ?_; refine (HK w9.drew).mono ?_; rintro e w' ⟨rfl, hb⟩; exact ⟨_, rfl, rfl, hG.call hb (hno 17 (by decide)) _⟩)
       ·first
         | (exact absurd g0 hh)
         | (exfalso; revert hh; simp [Held, g0, *]; done)
         | (refine ⟨?_, by rw [updB_map (by decide), updV_map (by decide)]; exact hf.glob⟩; show undef = _; first | rfl | (simp [*]; done))
      ·intro L ax W hf hLi hno hd
       simp [Region.binds] at hd
       have e324 : ax.tmps[324]?.getD undef = .bool true := slv (hf.got 14 (by decide) (by simp [hd]))
       have f325 : (fun v => v = .bool true) (sl ax 325) := hf.got 15 (by decide) (by simp [hd])
       refine ⟨fun _ => ?_, fun h => absurd trivial h⟩
       have hG : H57 w9 b4 [L 15, L 16, L 17] [sl ax 325, sl ax 326, sl ax 344] W := hf.glob
       have e325 := slv f325
       refine freeI_val (v := .bool true) (W' := W) rfl ?_ rfl (H57.by1 hG (by simp [updB, hd]))
       go_simp
      ·intro L ax W hf hLi hno hd
       simp [Region.binds] at hd
       have e4 : ax.tmps[4]?.getD undef = .pointer (some ⟨b4, 0, none⟩) := hf.out 4 (by decide) rfl
       have f326 : (fun v => v = .bool true) (sl ax 326) := hf.got 16 (by decide) (by simp [hd])
       refine ⟨fun _ => ?_, fun h => absurd trivial h⟩
       have hG : H57 w9 b4 [L 15, L 16, L 17] [sl ax 325, sl ax 326, sl ax 344] W := hf.glob
       have e326 := slv f326
       obtain ⟨x1, x2, x3⟩ := hG.tell (by simp [hd]) hLi hF9.out
       refine freeI_store (W' := W.setCell ⟨b4, 0, none⟩ (.bool true)) rfl ?_ trivial (x3 _)
       go_simp
     ·intro vs wz hl' hF' hG
      obtain ⟨g', hg1, hg2⟩ := vs_litI vs hl' hF'
      obtain ⟨W0, hbW, rfl⟩ := hG.fin rfl
      rw [hg1]
      simp only [List.length_cons, List.length_nil, Nat.reduceAdd, show List.range 18 = [0, 1, 2, 3, 4, 5, 6, 7, 8, 9, 10, 11, 12, 13, 14, 15, 16, 17] from rfl, List.map_cons, List.map_nil, slotsIn, putL, List.setIfInBounds_toArray, List.set_cons_succ, List.set_cons_zero, List.size_toArray, Nat.reduceLT, if_true, if_false]
      have hbz := Lib.hid hbW
      clear hg1 hg2 hF' hl' hG hbW
      go_wp2_with fail
      have hK10 : (W0.setCell ⟨b4, 0, none⟩ (.bool true)).heap[D]? = some (.deferred (some [])) := (Below.heap_setCell _ _ _ _ hDb4).trans ((hbz.out.block D hD9).trans hKD.out)
      obtain ⟨c4z, -⟩ := hF9.out W0 hbz.out
      have c6 : (W0.setCell ⟨b4, 0, none⟩ (.bool true)).cell? ⟨b4, 0, none⟩ = some (.bool true) := World.cell?_setCell_same _ _ _ c4z
      have hB6 : Below w.heap.size w (W0.setCell ⟨b4, 0, none⟩ (.bool true)) := (hBw9.out.trans (hbz.out.mono hBw9.out.size)).setCell (p := ⟨b4, 0, none⟩) hwb4 _
      have hDw : w.heap.size ≤ D := by have := hR.out.2.2.2.2.size; omega
      generalize W0.setCell ⟨b4, 0, none⟩ (.bool true) = w6 at *
      refine ⟨by simp, .inl ⟨_, _, rfl, run_takeDeferred hK10, ?_⟩⟩
      have c8 : (w6.putObj D (.deferred none)).cell? ⟨b4, 0, none⟩ = some (.bool true) := by
       rw [World.cell?_of_block (a := ⟨b4, 0, none⟩) (World.putObj_heap_other (Ne.symm hDb4))]
       exact c6
      refine ⟨.bool true, ?_, rfl, hB6.trans (belowK_b (Nat.le_refl _) _ D _ _ hDw hK10 rfl rfl)⟩
      generalize w6.putObj D (.deferred none) = w8 at *
      unfold results
      rw [plays_res]
      go_simp
end Go.Proofs.Ythdjhbiigmcecaa
