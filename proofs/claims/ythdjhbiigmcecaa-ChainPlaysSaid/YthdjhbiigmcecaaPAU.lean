/- Texts of this proof, one behind the other: ChnT, ChnS, PlayP, ChnU, FreeR, RanQ. -/
import Derived.Test.YthdjhbiigmcecaaPAS
import Derived.Test.YthdjhbiigmcecaaPAT
import Derived.Test.YthdjhbiigmcecaaPAM
import Derived.Test.YthdjhbiigmcecaaPAJ
import Derived.RangeFuncNested
import Derived.RangeFuncBound
import Derived.RangeFuncCalls
import Derived.RangeFuncLeaves
import Derived.RangeFuncBox
import Derived.Shelf.Abstract
import Derived.Shelf.RegionOpen
import Derived.WalkKit
import Derived.OwnWalkIn
import Derived.TacticsInMore
import Derived.LoopNIn
import Derived.LoopIn
import Derived.Test.YthdjhbiigmcecaaPAG
import Derived.OrdersIn
import Derived.TacticsIn
import Derived.Test.YthdjhbiigmcecaaPAA
set_option linter.unusedVariables false
set_option linter.unusedSimpArgs false
/- A chain's answers Parent and Children at names that are there, and Tips. -/
namespace Go.Proofs.Ythdjhbiigmcecaa
open Go.RowKit

section
variable {W : World} {cb ab ac mb : Nat} {G : List GB} {C : List Blk}
set_option maxRecDepth 100000 in
set_option maxHeartbeats 1600000 in
theorem chparent_root (h : ChV W cb ab ac mb G C) (hok : ChnOk C) {n : Hash} {i : Nat} (hi : chAt C n = some i) (hpi : parAt C i = none) :
  Calls Try.prog 55 #[ptrV cb, .agg (hashA n)] W fun e w' => e = .returned (.tuple #[.agg (hashA zeroHash), .int .i64 6]) ∧ Below W.heap.size W w' := by
 have hil := chAt_lt hi
 obtain ⟨b, hb⟩ : ∃ b, C[i]? = some b := ⟨_, List.getElem?_eq_getElem hil⟩
 have hB0 : Below W.heap.size W ((W.alloc (.cells (hashA n) 24)).alloc (.cells (hashA zeroHash) 24)) := by (repeat' (first | (with_reducible first | exact Below.refl _ _ | assumption | refine bel_trans (by assumption) ?_ ?_ | refine bel_grown (by assumption) ?_ ?_ ?_ | refine Below.alloc ?_ ?_ _ | refine Below.drew ?_ | refine below_drewN ?_ _ | refine Below.setCell ?_ ?_ _ | refine below_put ?_ ?_ _ _ | exact Nat.le_refl _) | omega | (with_reducible first | refine Nat.le_trans ?_ (Below.size (by assumption)) | refine Nat.le_trans ?_ (World.grownBy.size (by assumption))) | (simp only [World.size_alloc, World.size_setCell, World.size_drew, size_drewN]; omega) | (simp only [World.size_alloc, World.size_setCell, World.size_drew, size_drewN, size_put]; omega) | (intro k hk; simp [Value.ownBlock] at hk; first | done | omega) | (simp [size_drewN] at *; omega)))
 have hz0 : ((W.alloc (.cells (hashA n) 24)).alloc (.cells (hashA zeroHash) 24)).heap.size = W.heap.size + 2 := by simp
 have hrow0 : row? ((W.alloc (.cells (hashA n) 24)).alloc (.cells (hashA zeroHash) 24)) W.heap.size 0 32 = some (hashA n) := by rw [row?_old _ _ _ _ _ (by simp), row?_new]; simp
 have hrow1 : row? ((W.alloc (.cells (hashA n) 24)).alloc (.cells (hashA zeroHash) 24)) (W.heap.size + 1) 0 32 = some (hashA zeroHash) := by rw [row?_new_at _ _ _ _ _ _ (by simp)]; simp
 have hth : there ((W.alloc (.cells (hashA n) 24)).alloc (.cells (hashA zeroHash) 24)) (W.heap.size + 1) 0 32 := there_new_at _ _ _ _ _ _ (by simp) (by simp)
 have h0 := h.keep hB0
 obtain ⟨x, hx⟩ := h.box hb
 have HT := chfind_some h0 hi hx
 have hun := (ups_nil hok hil).2 hpi
 clear h
 unfold ptrV at HT ⊢
 go_enter Try.func55, Try.ntmps55
 go_upto_region 1 with fail
 generalize (W.alloc (.cells (hashA n) 24)).alloc (.cells (hashA zeroHash) 24) = w0 at *
 go_wp2_with fail
 refine HT.mono ?_
 clear HT
 rintro e w1 ⟨rfl, hb1⟩
 have h1 := h0.keep hb1
 have hB1 := hB0.trans (hb1.mono (by omega))
 have hrow11 := (row?_below _ _ _ hb1 (by omega)).trans hrow1
 have hth1 := there_below hb1 (show W.heap.size + 1 < w0.heap.size by omega) hth
 have hU := (h1.up i x b hx hb).1
 obtain ⟨-, c67, -, -, -, -⟩ := h1.cells hx hb
 rw [hun] at hU
 obtain ⟨xb, xg, ⟨ua, un, uc⟩, xc⟩ := x
 dsimp only [Sl.v] at c67 hU
 subst hU
 clear h0 h1 hb1 hB0 hrow0 hrow1 hth hun hok hi hil hb
 go_wp2_with (with_reducible refine ret_row2 Try.isAgg24 Try.sizeOf24 parent_res (x := .pointer (some ⟨W.heap.size + 1, 0, none⟩)) (y := .int .i64 6) (W.heap.size + 1) 0 ?rrhx (Eq.refl _) ?rrhy ?rrh ?rrhd ?rrhR; (case rrhx => simp only [Array.getD_eq_getD_getElem?, List.getElem?_toArray, List.getElem?_cons_succ, List.getElem?_cons_zero, Option.getD_some]); (case rrhy => simp only [Array.getD_eq_getD_getElem?, List.getElem?_toArray, List.getElem?_cons_succ, List.getElem?_cons_zero, Option.getD_some]); (case rrhd => exact rfl); (case rrh => go_simp); (case rrhR => ((refine ⟨?_, ?_⟩; (case refine_1 => (go_simp; done)); (case refine_2 => ((repeat' (first | (with_reducible first | exact Below.refl _ _ | assumption | refine bel_trans (by assumption) ?_ ?_ | refine bel_grown (by assumption) ?_ ?_ ?_ | refine Below.alloc ?_ ?_ _ | refine Below.drew ?_ | refine below_drewN ?_ _ | refine Below.setCell ?_ ?_ _ | refine below_put ?_ ?_ _ _ | exact Nat.le_refl _) | omega | (with_reducible first | refine Nat.le_trans ?_ (Below.size (by assumption)) | refine Nat.le_trans ?_ (World.grownBy.size (by assumption))) | (simp only [World.size_alloc, World.size_setCell, World.size_drew, size_drewN]; omega) | (simp only [World.size_alloc, World.size_setCell, World.size_drew, size_drewN, size_put]; omega) | (intro k hk; simp [Value.ownBlock] at hk; first | done | omega) | (simp [size_drewN] at *; omega)))))))))
set_option maxRecDepth 100000 in
set_option maxHeartbeats 1600000 in
theorem chparent_some (h : ChV W cb ab ac mb G C) (hok : ChnOk C) {n : Hash} {i j : Nat} (hi : chAt C n = some i) (hpi : parAt C i = some j) {c : Blk} (hc : C[j]? = some c) :
  Calls Try.prog 55 #[ptrV cb, .agg (hashA n)] W fun e w' => e = .returned (.tuple #[.agg (hashA c.p.name), .int .i64 0]) ∧ Below W.heap.size W w' := by
 have hil := chAt_lt hi
 obtain ⟨b, hb⟩ : ∃ b, C[i]? = some b := ⟨_, List.getElem?_eq_getElem hil⟩
 have hB0 : Below W.heap.size W ((W.alloc (.cells (hashA n) 24)).alloc (.cells (hashA zeroHash) 24)) := by (repeat' (first | (with_reducible first | exact Below.refl _ _ | assumption | refine bel_trans (by assumption) ?_ ?_ | refine bel_grown (by assumption) ?_ ?_ ?_ | refine Below.alloc ?_ ?_ _ | refine Below.drew ?_ | refine below_drewN ?_ _ | refine Below.setCell ?_ ?_ _ | refine below_put ?_ ?_ _ _ | exact Nat.le_refl _) | omega | (with_reducible first | refine Nat.le_trans ?_ (Below.size (by assumption)) | refine Nat.le_trans ?_ (World.grownBy.size (by assumption))) | (simp only [World.size_alloc, World.size_setCell, World.size_drew, size_drewN]; omega) | (simp only [World.size_alloc, World.size_setCell, World.size_drew, size_drewN, size_put]; omega) | (intro k hk; simp [Value.ownBlock] at hk; first | done | omega) | (simp [size_drewN] at *; omega)))
 have hz0 : ((W.alloc (.cells (hashA n) 24)).alloc (.cells (hashA zeroHash) 24)).heap.size = W.heap.size + 2 := by simp
 have hrow0 : row? ((W.alloc (.cells (hashA n) 24)).alloc (.cells (hashA zeroHash) 24)) W.heap.size 0 32 = some (hashA n) := by rw [row?_old _ _ _ _ _ (by simp), row?_new]; simp
 have hrow1 : row? ((W.alloc (.cells (hashA n) 24)).alloc (.cells (hashA zeroHash) 24)) (W.heap.size + 1) 0 32 = some (hashA zeroHash) := by rw [row?_new_at _ _ _ _ _ _ (by simp)]; simp
 have hth : there ((W.alloc (.cells (hashA n) 24)).alloc (.cells (hashA zeroHash) 24)) (W.heap.size + 1) 0 32 := there_new_at _ _ _ _ _ _ (by simp) (by simp)
 have h0 := h.keep hB0
 obtain ⟨x, hx⟩ := h.box hb
 obtain ⟨y, hy⟩ := h.box hc
 have HT := chfind_some h0 hi hx
 have hun := ups_nil hok hil
 have hup := ups_pos hok hil
 rw [hpi] at hun hup
 have hjl : j < C.length := (List.getElem?_eq_some_iff.1 hc).1
 obtain ⟨u, hu⟩ : ∃ u, u = (ups C).getD i [] := ⟨_, rfl⟩
 rw [← hu] at hun hup
 have hune : 0 < u.length := by
  rcases Nat.eq_zero_or_pos u.length with e | e
  ·cases hun.1 e
  ·exact e
 clear h
 unfold ptrV at HT ⊢
 go_enter Try.func55, Try.ntmps55
 go_upto_region 1 with fail
 generalize (W.alloc (.cells (hashA n) 24)).alloc (.cells (hashA zeroHash) 24) = w0 at *
 go_wp2_with fail
 refine HT.mono ?_
 clear HT
 rintro e w1 ⟨rfl, hb1⟩
 have h1 := h0.keep hb1
 have hB1 := hB0.trans (hb1.mono (by omega))
 have hrow11 := (row?_below _ _ _ hb1 (by omega)).trans hrow1
 have hth1 := there_below hb1 (show W.heap.size + 1 < w0.heap.size by omega) hth
 have hU := h1.up i x b hx hb
 rw [← hu] at hU
 obtain ⟨-, c67, -, -, -, -⟩ := h1.cells hx hb
 obtain ⟨-, -, -, -, nm, -⟩ := h1.cells hy hc
 have c0 := h1.c0
 have ca := h1.arr j y hy
 unfold ptrV at ca
 obtain ⟨ub, uo, hus, -, huc⟩ := ints_at hU hune
 have hc0 := huc 0 hune
 have hu0 : u[0] = j := by
  rw [List.getElem?_eq_getElem hune] at hup
  injection hup
 rw [hu0, Nat.add_zero] at hc0
 obtain ⟨xb, xg, ⟨xua, xun, xuc⟩, xc⟩ := x
 dsimp only at c67 hus
 rw [hus] at c67
 dsimp only [Sl.v] at c67
 have i0 : (0 : Int) ≤ (j : Int) := by omega
 have i1 : (j : Int) < (C.length : Int) := by omega
 have i2 : (0 : Int) < (u.length : Int) := by omega
 have i3 : ¬ (u.length : Int) = 0 := by omega
 have i4 : u.length ≠ 0 := by omega
 obtain ⟨ul, hule⟩ : ∃ n, n = u.length := ⟨_, rfl⟩
 rw [← hule] at c67 i2 i3 i4
 obtain ⟨b4, hb4⟩ : ∃ b, b = W.heap.size + 1 := ⟨_, rfl⟩
 rw [← hb4] at hth1 hrow11
 have hfin : Hid (Below W.heap.size W (putRow w1.drew b4 0 (hashA c.p.name))) := Lib.hid (below_put hB1.drew (by omega) _ _)
 replace hb4 := Lib.hid hb4
 clear h0 h1 hb1 hB0 hrow0 hrow1 hth hun hok hi hil hb hup hu0 hu hU huc hus hune hjl hx hy hule
 go_upto_region 6 with fail
 rw [← hb4.out]
 refine wp_region_freeI_l (by kernel_rfl) [27, 28, 29, 30, 31, 32, 33, 34, 35, 36, 37, 38, 39, 40, 41, 42, 59, 5]
  [(fun v => v = .pointer (some ⟨cb, 0, none⟩)), (fun v => v = .pointer (some ⟨cb, 0, none⟩)), (fun v => v = .pointer (some ⟨cb, 0, none⟩)), (fun v => v = .slice (some ⟨ab, 0, none⟩) C.length ac), (fun v => v = .pointer (some ⟨xb, 0, none⟩)), (fun v => v = .pointer (some ⟨xb, 0, none⟩)), (fun v => v = .pointer (some ⟨xb, 67, none⟩)), (fun v => v = .slice (some ⟨ub, uo, none⟩) ul xuc), (fun v => v = .pointer (some ⟨ub, uo, none⟩)), (fun v => v = .int .i64 (j : Int)), (fun v => v = .pointer (some ⟨ab, j, none⟩)), (fun v => v = .pointer (some ⟨y.b, 0, none⟩)), (fun v => v = .pointer (some ⟨y.b, 0, none⟩)), (fun v => v = .pointer (some ⟨y.b, 0, none⟩)), (fun v => v = .pointer (some ⟨y.b, 1, none⟩)), (fun v => v = .agg (hashA c.p.name)), (fun _ => True), (fun v => v = .int .i64 0)]
  [16] (HPut w1 b4 (hashA c.p.name)) [[1, 2, 3, 10, 11, 12, 13, 14, 15, 16], [2, 3, 10, 11, 12, 13, 14, 15, 16], [3, 10, 11, 12, 13, 14, 15, 16], [10, 11, 12, 13, 14, 15, 16], [5, 6, 7, 8, 9, 10, 11, 12, 13, 14, 15, 16], [6, 7, 8, 9, 10, 11, 12, 13, 14, 15, 16], [7, 8, 9, 10, 11, 12, 13, 14, 15, 16], [8, 9, 10, 11, 12, 13, 14, 15, 16], [9, 10, 11, 12, 13, 14, 15, 16], [10, 11, 12, 13, 14, 15, 16], [11, 12, 13, 14, 15, 16], [12, 13, 14, 15, 16], [13, 14, 15, 16], [14, 15, 16], [15, 16], [16], [], []] (by kernel_rfl) (by kernel_rfl) ?_ ?_ ?_
 ·show HPut w1 b4 (hashA c.p.name) [false] [_] _
  exact ⟨fun _ => rfl, fun q => (by cases q)⟩
 ·refine ⟨?_, ?_, ?_, ?_, ?_, ?_, ?_, ?_, ?_, ?_, ?_, ?_, ?_, ?_, ?_, ?_, ?_, ?_, trivial⟩
  ·intro L ax W hf hLi hno hd
   try simp [Region.binds] at hd
   have e0 : ax.tmps[0]?.getD undef = .pointer (some ⟨cb, 0, none⟩) := hf.out 0 (by decide) rfl
   refine ⟨fun _ => ?_, fun h => absurd trivial h⟩
   refine freeI_run (v := .pointer (some ⟨cb, 0, none⟩)) rfl hf (by decide) ?_ rfl
   go_simp
  ·intro L ax W hf hLi hno hd
   simp [Region.binds] at hd
   have e27 : ax.tmps[27]?.getD undef = .pointer (some ⟨cb, 0, none⟩) := slv (hf.got 0 (by decide) (by simp [hd]))
   refine ⟨fun _ => ?_, fun h => absurd trivial h⟩
   refine freeI_run (v := .pointer (some ⟨cb, 0, none⟩)) rfl hf (by decide) ?_ rfl
   go_simp
  ·intro L ax W hf hLi hno hd
   simp [Region.binds] at hd
   have e28 : ax.tmps[28]?.getD undef = .pointer (some ⟨cb, 0, none⟩) := slv (hf.got 1 (by decide) (by simp [hd]))
   refine ⟨fun _ => ?_, fun h => absurd trivial h⟩
   refine freeI_run (v := .pointer (some ⟨cb, 0, none⟩)) rfl hf (by decide) ?_ rfl
   go_simp
  ·intro L ax W hf hLi hno hd
   simp [Region.binds] at hd
   have e29 : ax.tmps[29]?.getD undef = .pointer (some ⟨cb, 0, none⟩) := slv (hf.got 2 (by decide) (by simp [hd]))
   refine ⟨fun _ => ?_, fun h => absurd trivial h⟩
   have hG : HPut w1 b4 (hashA c.p.name) [L 16] [sl ax 59] W := hf.glob
   have hW : W = w1.drew := hG.1 (hno 16 (by decide))
   subst hW
   have hc1 : w1.drew.cell? ⟨cb, 0, none⟩ = _ := c0
   refine freeI_run (v := .slice (some ⟨ab, 0, none⟩) C.length ac) rfl hf (by decide) ?_ rfl
   go_simp
  ·intro L ax W hf hLi hno hd
   try simp [Region.binds] at hd
   have e6 : ax.tmps[6]?.getD undef = .pointer (some ⟨xb, 0, none⟩) := hf.out 6 (by decide) rfl
   refine ⟨fun _ => ?_, fun h => absurd trivial h⟩
   refine freeI_run (v := .pointer (some ⟨xb, 0, none⟩)) rfl hf (by decide) ?_ rfl
   go_simp
  ·intro L ax W hf hLi hno hd
   simp [Region.binds] at hd
   have e31 : ax.tmps[31]?.getD undef = .pointer (some ⟨xb, 0, none⟩) := slv (hf.got 4 (by decide) (by simp [hd]))
   refine ⟨fun _ => ?_, fun h => absurd trivial h⟩
   refine freeI_run (v := .pointer (some ⟨xb, 0, none⟩)) rfl hf (by decide) ?_ rfl
   go_simp
  ·intro L ax W hf hLi hno hd
   simp [Region.binds] at hd
   have e32 : ax.tmps[32]?.getD undef = .pointer (some ⟨xb, 0, none⟩) := slv (hf.got 5 (by decide) (by simp [hd]))
   refine ⟨fun _ => ?_, fun h => absurd trivial h⟩
   refine freeI_run (v := .pointer (some ⟨xb, 67, none⟩)) rfl hf (by decide) ?_ rfl
   go_simp
  ·intro L ax W hf hLi hno hd
   simp [Region.binds] at hd
   have e33 : ax.tmps[33]?.getD undef = .pointer (some ⟨xb, 67, none⟩) := slv (hf.got 6 (by decide) (by simp [hd]))
   refine ⟨fun _ => ?_, fun h => absurd trivial h⟩
   have hG : HPut w1 b4 (hashA c.p.name) [L 16] [sl ax 59] W := hf.glob
   have hW : W = w1.drew := hG.1 (hno 16 (by decide))
   subst hW
   have hc1 : w1.drew.cell? ⟨xb, 67, none⟩ = _ := c67
   refine freeI_run (v := .slice (some ⟨ub, uo, none⟩) ul xuc) rfl hf (by decide) ?_ rfl
   go_simp
  ·intro L ax W hf hLi hno hd
   simp [Region.binds] at hd
   have e34 : ax.tmps[34]?.getD undef = .slice (some ⟨ub, uo, none⟩) ul xuc := slv (hf.got 7 (by decide) (by simp [hd]))
   refine ⟨fun _ => ?_, fun h => absurd trivial h⟩
   refine freeI_run (v := .pointer (some ⟨ub, uo, none⟩)) rfl hf (by decide) ?_ rfl
   go_simp
  ·intro L ax W hf hLi hno hd
   simp [Region.binds] at hd
   have e35 : ax.tmps[35]?.getD undef = .pointer (some ⟨ub, uo, none⟩) := slv (hf.got 8 (by decide) (by simp [hd]))
   refine ⟨fun _ => ?_, fun h => absurd trivial h⟩
   have hG : HPut w1 b4 (hashA c.p.name) [L 16] [sl ax 59] W := hf.glob
   have hW : W = w1.drew := hG.1 (hno 16 (by decide))
   subst hW
   have hc1 : w1.drew.cell? ⟨ub, uo, none⟩ = _ := hc0
   refine freeI_run (v := .int .i64 (j : Int)) rfl hf (by decide) ?_ rfl
   go_simp
  ·intro L ax W hf hLi hno hd
   simp [Region.binds] at hd
   have e30 : ax.tmps[30]?.getD undef = .slice (some ⟨ab, 0, none⟩) C.length ac := slv (hf.got 3 (by decide) (by simp [hd]))
   have e36 : ax.tmps[36]?.getD undef = .int .i64 (j : Int) := slv (hf.got 9 (by decide) (by simp [hd]))
   refine ⟨fun _ => ?_, fun h => absurd trivial h⟩
   refine freeI_run (v := .pointer (some ⟨ab, j, none⟩)) rfl hf (by decide) ?_ rfl
   go_simp
  ·intro L ax W hf hLi hno hd
   simp [Region.binds] at hd
   have e37 : ax.tmps[37]?.getD undef = .pointer (some ⟨ab, j, none⟩) := slv (hf.got 10 (by decide) (by simp [hd]))
   refine ⟨fun _ => ?_, fun h => absurd trivial h⟩
   have hG : HPut w1 b4 (hashA c.p.name) [L 16] [sl ax 59] W := hf.glob
   have hW : W = w1.drew := hG.1 (hno 16 (by decide))
   subst hW
   have hc1 : w1.drew.cell? ⟨ab, j, none⟩ = _ := ca
   refine freeI_run (v := .pointer (some ⟨y.b, 0, none⟩)) rfl hf (by decide) ?_ rfl
   go_simp
  ·intro L ax W hf hLi hno hd
   simp [Region.binds] at hd
   have e38 : ax.tmps[38]?.getD undef = .pointer (some ⟨y.b, 0, none⟩) := slv (hf.got 11 (by decide) (by simp [hd]))
   refine ⟨fun _ => ?_, fun h => absurd trivial h⟩
   refine freeI_run (v := .pointer (some ⟨y.b, 0, none⟩)) rfl hf (by decide) ?_ rfl
   go_simp
  ·intro L ax W hf hLi hno hd
   simp [Region.binds] at hd
   have e39 : ax.tmps[39]?.getD undef = .pointer (some ⟨y.b, 0, none⟩) := slv (hf.got 12 (by decide) (by simp [hd]))
   refine ⟨fun _ => ?_, fun h => absurd trivial h⟩
   refine freeI_run (v := .pointer (some ⟨y.b, 0, none⟩)) rfl hf (by decide) ?_ rfl
   go_simp
  ·intro L ax W hf hLi hno hd
   simp [Region.binds] at hd
   have e40 : ax.tmps[40]?.getD undef = .pointer (some ⟨y.b, 0, none⟩) := slv (hf.got 13 (by decide) (by simp [hd]))
   refine ⟨fun _ => ?_, fun h => absurd trivial h⟩
   refine freeI_run (v := .pointer (some ⟨y.b, 1, none⟩)) rfl hf (by decide) ?_ rfl
   go_simp
  ·intro L ax W hf hLi hno hd
   simp [Region.binds] at hd
   have e41 : ax.tmps[41]?.getD undef = .pointer (some ⟨y.b, 1, none⟩) := slv (hf.got 14 (by decide) (by simp [hd]))
   refine ⟨fun _ => ?_, fun h => absurd trivial h⟩
   have hG : HPut w1 b4 (hashA c.p.name) [L 16] [sl ax 59] W := hf.glob
   have hW : W = w1.drew := hG.1 (hno 16 (by decide))
   subst hW
   have hc2 : row? w1.drew y.b 1 32 = _ := nm
   refine freeI_run (v := .agg (hashA c.p.name)) rfl hf (by decide) ?_ rfl
   go_simp
  ·intro L ax W hf hLi hno hd
   simp [Region.binds] at hd
   have e4 : ax.tmps[4]?.getD undef = .pointer (some ⟨b4, 0, none⟩) := hf.out 4 (by decide) rfl
   have e42 : ax.tmps[42]?.getD undef = .agg (hashA c.p.name) := slv (hf.got 15 (by decide) (by simp [hd]))
   refine ⟨fun _ => ?_, fun h => absurd trivial h⟩
   have hG : HPut w1 b4 (hashA c.p.name) [L 16] [sl ax 59] W := hf.glob
   have hW : W = w1.drew := hG.1 hLi
   subst hW
   have hthd : there w1.drew b4 0 32 := hth1
   refine freeI_store (W' := putRow w1.drew b4 0 (hashA c.p.name)) rfl ?_ trivial ⟨fun q => (by cases q), fun _ => rfl⟩
   go_simp
  ·intro L ax W hf hLi hno hd
   try simp [Region.binds] at hd
   refine ⟨fun _ => ?_, fun h => absurd trivial h⟩
   refine freeI_run (v := .int .i64 0) rfl hf (by decide) ?_ rfl
   go_simp
 ·intro vs w2 hl' hF hG
  obtain ⟨g', hg1, hg2⟩ := vs_litI vs hl' hF
  have hw2 := hG.2 rfl
  have e17 : g' 17 = .int .i64 0 := hg2 17 (by decide)
  rw [hg1]
  simp only [List.length_cons, List.length_nil, Nat.reduceAdd, show List.range 18 = [0, 1, 2, 3, 4, 5, 6, 7, 8, 9, 10, 11, 12, 13, 14, 15, 16, 17] from rfl, List.map_cons, List.map_nil, slotsIn, putL, List.setIfInBounds_toArray, List.set_cons_succ, List.set_cons_zero, List.size_toArray, Nat.reduceLT, if_true, if_false, e17]
  have hr2 : row? w2 b4 0 32 = some (hashA c.p.name) := by
   rw [hw2]
   exact row?_put_same _ _ _ _ _ (by simp) (by omega) (show there w1.drew b4 0 32 from hth1)
  rw [← hw2] at hfin
  clear hg1 hg2 hG hF hl' hw2
  go_wp2_with fail
  (with_reducible refine ret_row2 Try.isAgg24 Try.sizeOf24 parent_res (x := .pointer (some ⟨b4, 0, none⟩)) (y := .int .i64 0) (b4) 0 ?rrhx (Eq.refl _) ?rrhy ?rrh ?rrhd ?rrhR; (case rrhx => simp only [Array.getD_eq_getD_getElem?, List.getElem?_toArray, List.getElem?_cons_succ, List.getElem?_cons_zero, Option.getD_some]); (case rrhy => simp only [Array.getD_eq_getD_getElem?, List.getElem?_toArray, List.getElem?_cons_succ, List.getElem?_cons_zero, Option.getD_some]); (case rrhd => exact rfl); (case rrh => go_simp); (case rrhR => ((rw [hr2]; exact ⟨rfl, hfin.out⟩))))
attribute [local go_sem ↓] fold_bsPt fold_appPt
set_option maxRecDepth 100000 in
set_option maxHeartbeats 1600000 in
theorem chchildren_some (h : ChV W cb ab ac mb G C) (hok : ChnOk C) {n : Hash} {i : Nat} (hi : chAt C n = some i) :
  Calls Try.prog 58 #[ptrV cb, .agg (hashA n)] W fun e w' => ∃ s : Sl, e = .returned s.v ∧ PtsR w' s ((chs C i).map (ptAt C)) ∧ Below W.heap.size W w' := by
 have hil := chAt_lt hi
 have hclen := hok.len
 obtain ⟨b, hb⟩ : ∃ b, C[i]? = some b := ⟨_, List.getElem?_eq_getElem hil⟩
 have hB0 : Below W.heap.size W (W.alloc (.cells (hashA n) 24)) := bel_a _ _
 have hz0 : (W.alloc (.cells (hashA n) 24)).heap.size = W.heap.size + 1 := by simp
 have hrow0 : row? (W.alloc (.cells (hashA n) 24)) W.heap.size 0 32 = some (hashA n) := by rw [row?_new]; simp
 have h0 := h.keep hB0
 obtain ⟨x, hx⟩ := h.box hb
 have HT := chfind_some h0 hi hx
 have hll := Lib.hid (show ∀ j ∈ chs C i, j < C.length from fun j hj => (parAt_some hok (chs_mem.1 hj)).2.1)
 have hln := chs_length C i
 have hI := Lib.hid h
 have hCh := h.ch i x b hx hb
 clear h hok
 generalize chs C i = l at *
 unfold ptrV at HT ⊢
 go_enter Try.func58, Try.ntmps58
 go_upto_region 1 with fail
 generalize W.alloc (.cells (hashA n) 24) = w0 at *
 go_wp2_with fail
 refine HT.mono ?_
 clear HT
 rintro e w1 ⟨rfl, hb1⟩
 have hz1 := hb1.size
 have hB1 := Lib.hid (hB0.trans (hb1.mono (by omega)))
 obtain ⟨-, -, c68, -, -, -⟩ := (h0.keep hb1).cells hx hb
 obtain ⟨xb, xg, xu, ⟨ca, cn, cc⟩⟩ := x
 obtain rfl : cn = l.length := hCh.1
 dsimp only [Sl.v] at c68
 replace hCh := Lib.hid hCh
 have hn0 := Lib.hid (OwnC.nil w1 W.heap.size 33)
 clear h0 hb1 hB0 hrow0 hx hb hi hil
 go_upto_region 6 with fail
 go_loopw [7, 23] (fun u v w' => ∃ (k : Nat) (s : Sl), k ≤ l.length ∧ v = .int .i64 k ∧ u = s.v ∧ Hid (OwnPt w' W.heap.size s.v ((l.take k).map (ptAt C))) ∧ Hid (Below W.heap.size W w')) (fun _ v _ => l.length - (intOf v).toNat)
 case atStart => exact ⟨0, ⟨none, 0, 0⟩, Nat.zero_le _, rfl, rfl, hn0, hB1⟩
 case round =>
  obtain ⟨k, s, hk, rfl, rfl, ho, hB⟩ := hrel
  have hlm : ((l.take k).map (ptAt C)).length = k := by rw [List.length_map, List.length_take]; omega
  have hsn : s.n = k := by
   have := (rows_of_own pointA ptA_size (by omega) ho.out).1
   rw [hlm] at this
   exact this
  by_cases hkl : k < l.length
  ·have k0 : (0 : Int) ≤ (k : Int) := by omega
   have k1 : (k : Int) < (l.length : Int) := by omega
   have hV' := hI.out.keep hB.out
   have hC' : IntsR wr ⟨ca, l.length, cc⟩ l := SlR.keep hCh.out hB.out fun _ _ h => h
   obtain ⟨bu, ou, e1, hbu, hcu⟩ := ints_at hC' (by omega)
   have e2 := congrArg Sl.a e1
   simp only at e2
   subst e2
   clear e1
   have hck := hcu k hkl
   clear hcu
   have hql : l[k] < C.length := hll.out _ (List.getElem_mem hkl)
   obtain ⟨q, hq⟩ : ∃ q, q = l[k] := ⟨_, rfl⟩
   rw [← hq] at hck hql
   obtain ⟨bq, hbq⟩ : ∃ b, C[q]? = some b := ⟨_, List.getElem?_eq_getElem hql⟩
   obtain ⟨yq, hyq⟩ := hV'.box hbq
   obtain ⟨-, -, -, rpq, -, -⟩ := hV'.cells hyq hbq
   have c0 := hV'.c0
   have ca' := hV'.arr q yq hyq
   unfold ptrV at ca'
   have hpq := ptAt_of hbq
   have q0 : (0 : Int) ≤ (q : Int) := by omega
   have q1 : (q : Int) < (C.length : Int) := by omega
   have hstep := Lib.hid (show (l.take (k + 1)).map (ptAt C) = (l.take k).map (ptAt C) ++ [bq.p] from by
    rw [List.take_succ_eq_append_getElem hkl, List.map_append, List.map_singleton, ← hq, hpq])
   have hbs := bsPt_one bq.p wr
   obtain ⟨s2, w5, hrun, ho2, hB5⟩ := run_appPt (W := wr) (s := s) (l := (l.take k).map (ptAt C)) (B := W.heap.size) ho.out hB.out.size (by rw [hlm]; omega) bq.p
   rw [← hstep.out] at ho2
   have ho3 := Lib.hid ho2
   have hB6 := Lib.hid (hB.out.trans hB5)
   have hkl2 := Lib.hid hkl
   clear hbq hyq hq hsn hlm hkl hV' hC' hpq ho2 hB5 hstep
   go_wp2_with fail
   go_roundw
   case rel => exact ⟨k + 1, s2, by have := hkl2.out; omega, by go_num, rfl, ho3, hB6⟩
   case measure => have := hkl2.out; simp [intOf]; omega
  ·have hk1 : ¬ (k : Int) < (l.length : Int) := by omega
   have hfin : l.take k = l := List.take_of_length_le (by omega)
   rw [hfin] at ho
   have hr := Lib.hid (OwnPt.reads ho.out)
   obtain ⟨sa, sn, sc⟩ := s
   dsimp only [Sl.v]
   clear ho hsn hlm hfin
   go_wp2_with fail
   go_ret
   exact ⟨⟨sa, sn, sc⟩, rfl, hr.out, hB.out⟩
/-- the places of those without children -/
def tipsI (C : List Blk) : List Nat := (List.range C.length).filter fun i => decide ((chs C i).length = 0)
set_option maxRecDepth 100000 in
set_option maxHeartbeats 1600000 in
theorem chtips_c (h : ChV W cb ab ac mb G C) (hok : ChnOk C) :
  Calls Try.prog 53 #[ptrV cb] W fun e w' => ∃ s : Sl, e = .returned s.v ∧ PtsR w' s ((tipsI C).map (ptAt C)) ∧ Below W.heap.size W w' := by
 have hclen := hok.len
 have hcpos := hok.pos
 have HT := cthere_c h hok.pos
 have hI := Lib.hid h
 clear h hok
 unfold ptrV at HT ⊢
 go_enter Try.func53, Try.ntmps53
 go_wp2_with fail
 refine HT.mono ?_
 clear HT
 rintro e w1 ⟨rfl, hb1⟩
 have hB1 := Lib.hid hb1
 have c0 := (hI.out.keep hb1).c0
 have hn0 := Lib.hid (OwnC.nil w1 W.heap.size 33)
 clear hb1
 go_upto_region 5 with fail
 go_loopw [3, 14] (fun u v w' => ∃ (k : Nat) (s : Sl), k ≤ C.length ∧ v = .int .i64 k ∧ u = s.v ∧ Hid (OwnPt w' W.heap.size s.v (((List.range k).filter fun i => decide ((chs C i).length = 0)).map (ptAt C))) ∧ Hid (Below W.heap.size W w')) (fun _ v _ => C.length - (intOf v).toNat)
 case atStart => exact ⟨0, ⟨none, 0, 0⟩, Nat.zero_le _, rfl, rfl, hn0, hB1⟩
 case round =>
  obtain ⟨k, s, hk, rfl, rfl, ho, hB⟩ := hrel
  clear c0
  by_cases hkl : k < C.length
  ·have k0 : (0 : Int) ≤ (k : Int) := by omega
   have k1 : (k : Int) < (C.length : Int) := by omega
   have hV' := hI.out.keep hB.out
   obtain ⟨bq, hbq⟩ : ∃ b, C[k]? = some b := ⟨_, List.getElem?_eq_getElem hkl⟩
   obtain ⟨yq, hyq⟩ := hV'.box hbq
   obtain ⟨-, -, c68, rpq, -, -⟩ := hV'.cells hyq hbq
   have c0 := hV'.abl
   have ca' := hV'.arr k yq hyq
   unfold ptrV at ca'
   have hpq := ptAt_of hbq
   have hn := (hV'.ch k yq bq hyq hbq).1
   have hlm : (((List.range k).filter fun i => decide ((chs C i).length = 0)).map (ptAt C)).length ≤ k := by
    rw [List.length_map]
    exact Nat.le_trans (List.length_filter_le _ _) (by rw [List.length_range]; exact Nat.le_refl _)
   have hst : (List.range (k + 1)).filter (fun i => decide ((chs C i).length = 0)) = (List.range k).filter (fun i => decide ((chs C i).length = 0)) ++ if (chs C k).length = 0 then [k] else [] := by
    rw [List.range_succ, List.filter_append]
    rw [List.filter_cons, List.filter_nil]
    by_cases h : (chs C k).length = 0
    ·rw [if_pos h, if_pos (decide_eq_true h)]
    ·rw [if_neg h, if_neg (by rw [decide_eq_false h]; exact Bool.false_ne_true)]
   obtain ⟨yb, yg, yu, ⟨ca, cn, cc⟩⟩ := yq
   dsimp only [Sl.v] at c68 hn
   have hkl2 := Lib.hid hkl
   by_cases hz : (chs C k).length = 0
   ·rw [hz] at hn
    subst hn
    rw [if_pos hz] at hst
    have hstep := Lib.hid (show ((List.range (k + 1)).filter fun i => decide ((chs C i).length = 0)).map (ptAt C) = (((List.range k).filter fun i => decide ((chs C i).length = 0)).map (ptAt C)) ++ [bq.p] from by
     rw [hst, List.map_append, List.map_singleton, hpq])
    have hbs := bsPt_one bq.p wr
    obtain ⟨s2, w5, hrun, ho2, hB5⟩ := run_appPt (W := wr) (s := s) (l := ((List.range k).filter fun i => decide ((chs C i).length = 0)).map (ptAt C)) (B := W.heap.size) ho.out hB.out.size (by omega) bq.p
    rw [← hstep.out] at ho2
    have ho3 := Lib.hid ho2
    have hB6 := Lib.hid (hB.out.trans hB5)
    clear hbq hyq hlm hkl hV' hpq ho2 hB5 hstep hst hz
    go_wp2_with fail
    go_roundw
    case rel => exact ⟨k + 1, s2, by have := hkl2.out; omega, by go_num, rfl, ho3, hB6⟩
    case measure => have := hkl2.out; simp [intOf]; omega
   ·have hz2 : ¬ ((chs C k).length : Int) = 0 := by omega
    have hcn : ¬ (cn : Int) = 0 := by rw [hn]; exact hz2
    rw [if_neg hz, List.append_nil] at hst
    have ho3 := ho
    rw [← hst] at ho3
    clear hbq hyq hlm hkl hV' hpq hst hz hz2 hn ho
    go_wp2_with fail
    go_roundw
    case rel => exact ⟨k + 1, s, by have := hkl2.out; omega, by go_num, rfl, ho3, hB⟩
    case measure => have := hkl2.out; simp [intOf]; omega
  ·have hk1 : ¬ (k : Int) < (C.length : Int) := by omega
   have hkC : k = C.length := by omega
   subst hkC
   have hr := Lib.hid (OwnPt.reads ho.out)
   obtain ⟨sa, sn, sc⟩ := s
   dsimp only [Sl.v]
   clear ho
   go_wp2_with fail
   go_ret
   exact ⟨⟨sa, sn, sc⟩, rfl, hr.out, hB.out⟩
end
end Go.Proofs.Ythdjhbiigmcecaa

/- The chain's answer Header, at a name that is there. -/
namespace Go.Proofs.Ythdjhbiigmcecaa
open Go.RowKit

set_option maxRecDepth 100000 in
set_option maxHeartbeats 1600000 in
theorem chheader_some {W : World} {cb ab ac mb : Nat} {G : List GB} {C : List Blk} (h : ChV W cb ab ac mb G C) (hok : ChnOk C) {n : Hash} {i : Nat} {b : Blk} (hi : chAt C n = some i) (hb : C[i]? = some b) (h0i : 0 < i) :
  Calls Try.prog 50 #[ptrV cb, .agg (hashA n)] W fun e w' => ∃ g', e = .returned (.tuple #[.agg (headerA g'), .int .i64 0]) ∧ HdrAt W.heap.size w' g' b.h ∧ Below W.heap.size W w' ∧ OpsT W.heap.size w' g'.ops := by
 have hil := chAt_lt hi
 have hB0 : Below W.heap.size W ((W.alloc (.cells (hashA n) 24)).alloc (.cells (headerA ⟨zeroHash, 0, ⟨none, 0, 0⟩⟩) 49)) := by (repeat' (first | (with_reducible first | exact Below.refl _ _ | assumption | refine bel_trans (by assumption) ?_ ?_ | refine bel_grown (by assumption) ?_ ?_ ?_ | refine Below.alloc ?_ ?_ _ | refine Below.drew ?_ | refine below_drewN ?_ _ | refine Below.setCell ?_ ?_ _ | refine below_put ?_ ?_ _ _ | exact Nat.le_refl _) | omega | (with_reducible first | refine Nat.le_trans ?_ (Below.size (by assumption)) | refine Nat.le_trans ?_ (World.grownBy.size (by assumption))) | (simp only [World.size_alloc, World.size_setCell, World.size_drew, size_drewN]; omega) | (simp only [World.size_alloc, World.size_setCell, World.size_drew, size_drewN, size_put]; omega) | (intro k hk; simp [Value.ownBlock] at hk; first | done | omega) | (simp [size_drewN] at *; omega)))
 have hz0 : ((W.alloc (.cells (hashA n) 24)).alloc (.cells (headerA ⟨zeroHash, 0, ⟨none, 0, 0⟩⟩) 49)).heap.size = W.heap.size + 2 := by simp
 have hrow0 : row? ((W.alloc (.cells (hashA n) 24)).alloc (.cells (headerA ⟨zeroHash, 0, ⟨none, 0, 0⟩⟩) 49)) W.heap.size 0 32 = some (hashA n) := by rw [row?_old _ _ _ _ _ (by simp), row?_new]; simp
 have hrow1 : row? ((W.alloc (.cells (hashA n) 24)).alloc (.cells (headerA ⟨zeroHash, 0, ⟨none, 0, 0⟩⟩) 49)) (W.heap.size + 1) 0 34 = some (headerA ⟨zeroHash, 0, ⟨none, 0, 0⟩⟩) := by rw [row?_new_at _ _ _ _ _ _ (by simp)]; simp
 have hth : there ((W.alloc (.cells (hashA n) 24)).alloc (.cells (headerA ⟨zeroHash, 0, ⟨none, 0, 0⟩⟩) 49)) (W.heap.size + 1) 0 34 := there_new_at _ _ _ _ _ _ (by simp) (by simp)
 have h0 := h.keep hB0
 obtain ⟨x, hx⟩ := h.box hb
 have HT := chfind_some h0 hi hx
 have hfit := Lib.hid (clnFits_may (hok.hdr i b hb h0i).2)
 have hun := ups_nil hok hil
 obtain ⟨j, c, hj, -⟩ := hok.par i b hb h0i
 rw [parAt_of hb, hj] at hun
 have hune : ((ups C).getD i []).length ≠ 0 := fun e => by cases hun.1 e
 clear h
 unfold ptrV at HT ⊢
 go_enter Try.func50, Try.ntmps50
 go_upto_region 1 with fail
 generalize (W.alloc (.cells (hashA n) 24)).alloc (.cells (headerA ⟨zeroHash, 0, ⟨none, 0, 0⟩⟩) 49) = w0 at *
 go_wp2_with fail
 refine HT.mono ?_
 clear HT
 rintro e w1 ⟨rfl, hb1⟩
 have hz1 := hb1.size
 have h1 := h0.keep hb1
 have hB1 := Lib.hid (hB0.trans (hb1.mono (by omega)))
 have hrow11 := (row?_below _ _ _ hb1 (by omega)).trans hrow1
 have hth1 := there_below hb1 (show W.heap.size + 1 < w0.heap.size by omega) hth
 have hH := h1.hdr i x b hx hb
 have hU := h1.up i x b hx hb
 obtain ⟨-, c67', -, -, -, hrh⟩ := h1.cells hx hb
 have hun1 := hU.1
 obtain ⟨u, hu⟩ : ∃ u, u = (ups C).getD i [] := ⟨_, rfl⟩
 rw [← hu] at hun1 hune
 have HC := hclone2_c hH hfit.out
 obtain ⟨xb, xg, ⟨ua, un, uc⟩, xc⟩ := x
 dsimp only [Sl.v] at c67' hun1 hrh HC
 subst hun1
 have hu0 : ¬ (u.length : Int) = 0 := by omega
 clear h0 hb1 hB0 hrow0 hrow1 hth h1 hH hU hun hu hj hok
 go_wp2_with fail
 refine HC.mono ?_
 clear HC
 rintro e w2 ⟨g', rfl, hg', hb2, hty⟩
 have hz2 := hb2.size
 have hrow12 := (row?_below _ _ _ hb2 (show W.heap.size + 1 < w1.heap.size by omega)).trans hrow11
 have hth2 := there_below hb2 (show W.heap.size + 1 < w1.heap.size by omega) hth1
 have hB2 : Below W.heap.size W w2 := hB1.out.trans (hb2.mono (by omega))
 have hfin : Hid (HdrAt W.heap.size (putRow w2 (W.heap.size + 1) 0 (headerA g')) g' b.h) := Lib.hid (hg'.step ((asd_put w2 (W.heap.size + 1) 0 (headerA g')).mono fun k _ e => by have e' : k = W.heap.size + 1 := e; omega) fun k _ e => by omega)
 have hty3 : Hid (OpsT W.heap.size (putRow w2 (W.heap.size + 1) 0 (headerA g')) g'.ops) := Lib.hid ((hty.kd (kd_off ((asd_put w2 (W.heap.size + 1) 0 (headerA g')).mono fun k _ e => by have e' : k = W.heap.size + 1 := e; omega))).more (by omega))
 replace hty := Lib.hid hty
 replace hg' := Lib.hid hg'
 clear hrow11 hth1 hrh c67' hb2 hz1
 go_wp2_with (with_reducible refine ret_row2 Try.isAgg49 Try.sizeOf49 header_res (x := .pointer (some ⟨W.heap.size + 1, 0, none⟩)) (y := .int .i64 0) (W.heap.size + 1) 0 ?rrhx (Eq.refl _) ?rrhy ?rrh ?rrhd ?rrhR; (case rrhx => simp only [Array.getD_eq_getD_getElem?, List.getElem?_toArray, List.getElem?_cons_succ, List.getElem?_cons_zero, Option.getD_some]); (case rrhy => simp only [Array.getD_eq_getD_getElem?, List.getElem?_toArray, List.getElem?_cons_succ, List.getElem?_cons_zero, Option.getD_some]); (case rrhd => exact rfl); (case rrh => go_simp); (case rrhR => ((rw [row?_put_same _ _ _ _ _ (headerA_size g') (by omega) hth2]; exact ⟨g', rfl, hfin.out, below_put hB2 (by omega) _ _, hty3.out⟩))))
end Go.Proofs.Ythdjhbiigmcecaa

/- ChainPlays: what its walk wants of the chain, and of plain lists. -/
namespace Go.Proofs.Ythdjhbiigmcecaa
open Go.RowKit

set_option maxRecDepth 100000 in
theorem chnew_bad (p : Pt) (w : World) (hp : 4611686018427387904 < p.epoch.toNat) :
  Calls Try.prog 32 #[.agg (pointA p)] w fun e w' => e = .returned (.tuple #[.pointer none, .int .i64 2]) ∧ Below w.heap.size w w' := by
 have hB0 : Below w.heap.size w (w.alloc (.cells (pointA p) 26)) := bel_a _ _
 have hrow : row? (w.alloc (.cells (pointA p) 26)) w.heap.size 0 33 = some (pointA p) := by rw [row?_new]; simp
 have hc := cell_of_row? hrow 0 (by omega)
 have hc' : (w.alloc (.cells (pointA p) 26)).cell? ⟨w.heap.size, 0, none⟩ = some (.int .u64 (p.epoch.toNat : Int)) := by simp
 have hpi : (4611686018427387904 : Int) < (p.epoch.toNat : Int) := by omega
 clear hc
 go_enter Try.func32, Try.ntmps32
 go_upto_region 1 with fail
 generalize w.alloc (.cells (pointA p) 26) = w0 at *
 go_wp2_with fail
 go_ret2
 exact ⟨rfl, hB0⟩
section
variable {W : World} {cb ab ac mb : Nat} {G : List GB} {C : List Blk}
set_option maxRecDepth 100000 in
theorem chheader_root (h : ChV W cb ab ac mb G C) (hok : ChnOk C) {n : Hash} {i : Nat} (hi : chAt C n = some i) (hpi : parAt C i = none) :
  Calls Try.prog 50 #[ptrV cb, .agg (hashA n)] W fun e w' => e = .returned (.tuple #[.agg (headerA ⟨zeroHash, 0, ⟨none, 0, 0⟩⟩), .int .i64 6]) ∧ Below W.heap.size W w' := by
 have hil := chAt_lt hi
 obtain ⟨b, hb⟩ : ∃ b, C[i]? = some b := ⟨_, List.getElem?_eq_getElem hil⟩
 have hB0 : Below W.heap.size W ((W.alloc (.cells (hashA n) 24)).alloc (.cells (headerA ⟨zeroHash, 0, ⟨none, 0, 0⟩⟩) 49)) := by (repeat' (first | (with_reducible first | exact Below.refl _ _ | assumption | refine bel_trans (by assumption) ?_ ?_ | refine bel_grown (by assumption) ?_ ?_ ?_ | refine Below.alloc ?_ ?_ _ | refine Below.drew ?_ | refine below_drewN ?_ _ | refine Below.setCell ?_ ?_ _ | refine below_put ?_ ?_ _ _ | exact Nat.le_refl _) | omega | (with_reducible first | refine Nat.le_trans ?_ (Below.size (by assumption)) | refine Nat.le_trans ?_ (World.grownBy.size (by assumption))) | (simp only [World.size_alloc, World.size_setCell, World.size_drew, size_drewN]; omega) | (simp only [World.size_alloc, World.size_setCell, World.size_drew, size_drewN, size_put]; omega) | (intro k hk; simp [Value.ownBlock] at hk; first | done | omega) | (simp [size_drewN] at *; omega)))
 have hz0 : ((W.alloc (.cells (hashA n) 24)).alloc (.cells (headerA ⟨zeroHash, 0, ⟨none, 0, 0⟩⟩) 49)).heap.size = W.heap.size + 2 := by simp
 have hrow0 : row? ((W.alloc (.cells (hashA n) 24)).alloc (.cells (headerA ⟨zeroHash, 0, ⟨none, 0, 0⟩⟩) 49)) W.heap.size 0 32 = some (hashA n) := by rw [row?_old _ _ _ _ _ (by simp), row?_new]; simp
 have hrow1 : row? ((W.alloc (.cells (hashA n) 24)).alloc (.cells (headerA ⟨zeroHash, 0, ⟨none, 0, 0⟩⟩) 49)) (W.heap.size + 1) 0 34 = some (headerA ⟨zeroHash, 0, ⟨none, 0, 0⟩⟩) := by rw [row?_new_at _ _ _ _ _ _ (by simp)]; simp
 have hth : there ((W.alloc (.cells (hashA n) 24)).alloc (.cells (headerA ⟨zeroHash, 0, ⟨none, 0, 0⟩⟩) 49)) (W.heap.size + 1) 0 34 := there_new_at _ _ _ _ _ _ (by simp) (by simp)
 have h0 := h.keep hB0
 obtain ⟨x, hx⟩ := h.box hb
 have HT := chfind_some h0 hi hx
 have hun := (ups_nil hok hil).2 hpi
 clear h
 unfold ptrV at HT ⊢
 go_enter Try.func50, Try.ntmps50
 go_upto_region 1 with fail
 generalize (W.alloc (.cells (hashA n) 24)).alloc (.cells (headerA ⟨zeroHash, 0, ⟨none, 0, 0⟩⟩) 49) = w0 at *
 go_wp2_with fail
 refine HT.mono ?_
 clear HT
 rintro e w1 ⟨rfl, hb1⟩
 have h1 := h0.keep hb1
 have hB1 := hB0.trans (hb1.mono (by omega))
 have hrow11 := (row?_below _ _ _ hb1 (by omega)).trans hrow1
 have hth1 := there_below hb1 (show W.heap.size + 1 < w0.heap.size by omega) hth
 have hU := (h1.up i x b hx hb).1
 obtain ⟨-, c67, -, -, -, -⟩ := h1.cells hx hb
 rw [hun] at hU
 obtain ⟨xb, xg, ⟨ua, un, uc⟩, xc⟩ := x
 dsimp only [Sl.v] at c67 hU
 subst hU
 clear h0 h1 hb1 hB0 hrow0 hrow1 hth hun hok hi hil hb
 go_wp2_with (with_reducible refine ret_row2 Try.isAgg49 Try.sizeOf49 header_res (x := .pointer (some ⟨W.heap.size + 1, 0, none⟩)) (y := .int .i64 6) (W.heap.size + 1) 0 ?rrhx (Eq.refl _) ?rrhy ?rrh ?rrhd ?rrhR; (case rrhx => simp only [Array.getD_eq_getD_getElem?, List.getElem?_toArray, List.getElem?_cons_succ, List.getElem?_cons_zero, Option.getD_some]); (case rrhy => simp only [Array.getD_eq_getD_getElem?, List.getElem?_toArray, List.getElem?_cons_succ, List.getElem?_cons_zero, Option.getD_some]); (case rrhd => exact rfl); (case rrh => go_simp); (case rrhR => ((refine ⟨?_, ?_⟩; (case refine_1 => (go_simp; done)); (case refine_2 => ((repeat' (first | (with_reducible first | exact Below.refl _ _ | assumption | refine bel_trans (by assumption) ?_ ?_ | refine bel_grown (by assumption) ?_ ?_ ?_ | refine Below.alloc ?_ ?_ _ | refine Below.drew ?_ | refine below_drewN ?_ _ | refine Below.setCell ?_ ?_ _ | refine below_put ?_ ?_ _ _ | exact Nat.le_refl _) | omega | (with_reducible first | refine Nat.le_trans ?_ (Below.size (by assumption)) | refine Nat.le_trans ?_ (World.grownBy.size (by assumption))) | (simp only [World.size_alloc, World.size_setCell, World.size_drew, size_drewN]; omega) | (simp only [World.size_alloc, World.size_setCell, World.size_drew, size_drewN, size_put]; omega) | (intro k hk; simp [Value.ownBlock] at hk; first | done | omega) | (simp [size_drewN] at *; omega)))))))))
end
/-- the document's chain, with parents, as it is read -/
structure DocW (w0 W : World) (cr rb cap : Nat) (C : List Blk) : Prop where
 c0 : W.cell? ⟨cr, 0, none⟩ = some (.slice (some ⟨rb, 0, none⟩) C.length cap)
 lt : rb < W.heap.size
 row : ∀ i (hi : i < C.length), ∃ g, row? W rb (i * 68) 68 = some (rblkA C[i].p g C[i].par)
theorem DocW.clt {w0 W : World} {cr rb cap : Nat} {C : List Blk} (h : DocW w0 W cr rb cap C) : cr < W.heap.size := lt_of_cell h.c0
theorem DocW.keep {w0 W W' : World} {cr rb cap : Nat} {C : List Blk} (h : DocW w0 W cr rb cap C) (hb : Below W.heap.size W W') : DocW w0 W' cr rb cap C :=
 ⟨(hb.cell (p := ⟨cr, 0, none⟩) h.clt).trans h.c0, Nat.lt_of_lt_of_le h.lt hb.size, fun i hi => by
  rw [row?_below _ _ _ hb h.lt]
  exact h.row i hi⟩
theorem Both.docw {w0 W : World} {B : Nat} {T : Nat → Nat} {cb cr : Nat} {C D : List Blk} (h : Both w0 B T W cb cr C D) : ∃ rb cap, DocW w0 W cr rb cap D := by
 obtain ⟨rb, cap, G, hR, -⟩ := h.doc
 refine ⟨rb, cap, hR.c0, hR.lt, fun i hi => ?_⟩
 have hg : i < G.length := by rw [hR.len]; exact hi
 exact ⟨_, (hR.row i _ _ (List.getElem?_eq_getElem hg) (List.getElem?_eq_getElem hi)).1⟩
/-- what is made next is no part of them -/
theorem Both.zero {w0 W : World} {B : Nat} {T : Nat → Nat} {cb cr : Nat} {C D : List Blk} (h : Both w0 B T W cb cr C D) : ∃ T', Both w0 B T' W cb cr C D ∧ ∀ k, W.heap.size ≤ k → T' k = 0 := by
 obtain ⟨rb, cap, G, hR, h0⟩ := h.doc
 refine ⟨fun k => if k < W.heap.size then T k else 0, ⟨h.real.retag fun k hk => if_pos hk, ?_, ⟨rb, cap, G, hR, ?_⟩, h.le⟩, fun k hk => if_neg (by omega)⟩
 ·show (if cr < W.heap.size then T cr else 0) = 2000000
  rw [if_pos hR.cbW]
  exact h.tag
 ·show (if rb < W.heap.size then T rb else 0) = 0
  rw [if_pos hR.lt]
  exact h0
/-- all acts are done by both: done, or not yet -/
structure HPl (w0 : World) (B : Nat) (T : Nat → Nat) (w : World) (cb cr : Nat) (D : List Blk) (L : List Bool) (_V : List Value) (W : World) : Prop where
 no : L.getD 0 false = false → W = w.drew
 yes : L.getD 0 false = true → ∃ T', Both w0 B T' W cb cr D D ∧ Fr T w.drew T' W
 a1 : L.getD 1 false = true → L.getD 0 false = true
 a2 : L.getD 2 false = true → L.getD 1 false = true
 a3 : L.getD 3 false = true → L.getD 2 false = true
section
variable {w0 : World} {B : Nat} {T : Nat → Nat} {w W W' : World} {cb cr : Nat} {D : List Blk} {l0 l1 l2 l3 l4 : Bool} {v0 v1 v2 v3 v4 u0 u1 u2 u3 u4 : Value}
theorem HPl.zero (V : List Value) : HPl w0 B T w cb cr D [false, false, false, false, false] V w.drew := ⟨fun _ => rfl, fun q => (by cases q), fun q => (by cases q), fun q => (by cases q), fun q => (by cases q)⟩
theorem HPl.tell (h : HPl w0 B T w cb cr D [l0, l1, l2, l3, l4] [v0, v1, v2, v3, v4] W) (h3 : l3 = true) : ∃ T', Both w0 B T' W cb cr D D ∧ Fr T w.drew T' W := h.yes (h.a1 (h.a2 (h.a3 h3)))
theorem HPl.keep (h : HPl w0 B T w cb cr D [l0, l1, l2, l3, l4] [v0, v1, v2, v3, v4] W) (hb : Below W.heap.size W W') (h3 : l3 = true) : HPl w0 B T w cb cr D [l0, l1, l2, l3, true] [u0, u1, u2, u3, u4] W' := by
 obtain ⟨T', k1, k2⟩ := h.tell h3
 refine ⟨fun q => ?_, fun _ => ⟨T', k1.keep hb, k2.below hb⟩, h.a1, h.a2, h.a3⟩
 have h0 := h.a1 (h.a2 (h.a3 h3))
 rw [show l0 = true from h0] at q
 cases q
theorem HPl.did {T' : Nat → Nat} (h1 : Both w0 B T' W' cb cr D D) (h2 : Fr T w.drew T' W') (h : HPl w0 B T w cb cr D [l0, l1, l2, l3, l4] [v0, v1, v2, v3, v4] W) : HPl w0 B T w cb cr D [true, l1, l2, l3, l4] [u0, u1, u2, u3, u4] W' := ⟨fun q => (by cases q), fun _ => ⟨T', h1, h2⟩, fun _ => rfl, h.a2, h.a3⟩
theorem HPl.by1 (h : HPl w0 B T w cb cr D [l0, l1, l2, l3, l4] [v0, v1, v2, v3, v4] W) (h0 : l0 = true) : HPl w0 B T w cb cr D [l0, true, l2, l3, l4] [u0, u1, u2, u3, u4] W := ⟨h.no, h.yes, fun _ => h0, fun _ => rfl, h.a3⟩
theorem HPl.by2 (h : HPl w0 B T w cb cr D [l0, l1, l2, l3, l4] [v0, v1, v2, v3, v4] W) (h1 : l1 = true) : HPl w0 B T w cb cr D [l0, l1, true, l3, l4] [u0, u1, u2, u3, u4] W := ⟨h.no, h.yes, h.a1, fun _ => h1, fun _ => rfl⟩
theorem HPl.by3 (h : HPl w0 B T w cb cr D [l0, l1, l2, l3, l4] [v0, v1, v2, v3, v4] W) (h2 : l2 = true) : HPl w0 B T w cb cr D [l0, l1, l2, true, l4] [u0, u1, u2, u3, u4] W := ⟨h.no, h.yes, h.a1, h.a2, fun _ => h2⟩
theorem HPl.bel (h : HPl w0 B T w cb cr D [l0, l1, l2, l3, l4] [v0, v1, v2, v3, v4] W) (hw : Below w0.heap.size w0 w) : Below w0.heap.size w0 W := by
 cases l0
 ·rw [h.no rfl]
  exact hw.drew
 ·obtain ⟨T', k1, -⟩ := h.yes rfl
  exact k1.bel
end
/-! plain -/
theorem chKnows_self {C : List Blk} (hok : ChnOk C) {i : Nat} (hi : i < C.length) : chKnows C C[i].p = true := by
 unfold chKnows
 rw [chAt_self hok hi]
 simp [List.getElem?_eq_getElem hi]
theorem u64_ne (e : UInt64) : e ≠ e + 1 := by
 intro h
 have h1 := congrArg UInt64.toNat h
 have h2 := e.toNat_lt
 rw [UInt64.toNat_add, show (1 : UInt64).toNat = 1 from rfl] at h1
 omega
theorem chKnows_later {C : List Blk} (hok : ChnOk C) {i : Nat} (hi : i < C.length) : chKnows C ⟨C[i].p.epoch + 1, C[i].p.name⟩ = false := by
 unfold chKnows
 rw [show (⟨C[i].p.epoch + 1, C[i].p.name⟩ : Pt).name = C[i].p.name from rfl, chAt_self hok hi]
 simp only [List.getElem?_eq_getElem hi, Option.map_some, decide_eq_false_iff_not]
 intro h
 injection h with h
 exact u64_ne _ (congrArg Pt.epoch h)
theorem filt_get (p : Nat → Bool) {n j : Nat} (hj : j < n) (hp : p j = true) : ((List.range n).filter p)[((List.range j).filter p).length]? = some j := by
 obtain ⟨m, rfl⟩ : ∃ m, n = j + (m + 1) := ⟨n - j - 1, by omega⟩
 rw [List.range_add, List.filter_append, List.getElem?_append_right (Nat.le_refl _), Nat.sub_self, List.range_succ_eq_map, List.map_cons, List.filter_cons_of_pos (by simpa using hp)]
 rfl
theorem filt_succ (p : Nat → Bool) (j : Nat) : ((List.range (j + 1)).filter p).length = ((List.range j).filter p).length + if p j = true then 1 else 0 := by
 rw [List.range_succ, List.filter_append, List.length_append]
 congr 1
 by_cases h : p j = true
 ·rw [if_pos h, List.filter_cons_of_pos h]
  rfl
 ·rw [if_neg h, List.filter_cons_of_neg h]
  rfl
theorem filt_le (p : Nat → Bool) (j : Nat) : ((List.range j).filter p).length ≤ j := by
 have := List.length_filter_le p (List.range j)
 rw [List.length_range] at this
 exact this
def kidP (C : List Blk) (i : Nat) : Nat → Bool := fun j => decide (parAt C j = some i)
def tipP (C : List Blk) : Nat → Bool := fun i => decide ((chs C i).length = 0)
theorem chs_kid (C : List Blk) (i : Nat) : chs C i = (List.range C.length).filter (kidP C i) := rfl
theorem tips_tip (C : List Blk) : tipsI C = (List.range C.length).filter (tipP C) := rfl
end Go.Proofs.Ythdjhbiigmcecaa

/- A chain's iterator: what All hands back, and what it hands over, round by round. -/
namespace Go.Proofs.Ythdjhbiigmcecaa
open Go.RowKit Go.Shelf

def clK_ren : Go.Shelf.Ren := ⟨fun | 41 => 127 | n => n, fun | 22 => 115 | 23 => 166 | 4 => 4 | n => n, fun | n => n⟩
theorem clK : Go.Proofs.SlLaysE0.n41 Try.prog clK_ren := {
 mixed := by kernel_rfl
 f41 := ⟨Try.f127.name, by decide, Try.func127.trans (congrArg some (by kernel_rfl))⟩
 t4 := Try.underlying4
 a4 := Try.isAgg4
 z4 := Try.sizeOf4
 v4 := Try.zeroValue4
 t22 := Try.underlying115
 a22 := Try.isAgg115
 z22 := Try.sizeOf115
 v22 := Try.zeroValue115 }
theorem info_pk : (Try.prog.info? 166).map (fun i => (i.zero, i.size, i.bytes)) = some (some (.pointer none), 1, 8) := by kernel_rfl
theorem pclone_c {w : World} {s : Sl} {l : List GB} (h : SlR 1 (fun cs x => cs = ptrA x) w s l) (hl : l.length ≤ 1000000) :
  Calls Try.prog 127 #[s.v] w fun e w' => ∃ s' : Sl, e = .returned s'.v ∧ OwnC w' w.heap.size 1 s'.v l.length (flatC ptrA l) ∧ Below w.heap.size w w' := by
 obtain ⟨i0, hi, hy0, hy1, hy2⟩ := info_parts info_pk
 exact clone_rows ptrA_size ptrA_one clK i0 _ 8 hi hy0 hy1 hy2 (by simp [Value.cells]) (by omega) (by omega) h hl
def slcP (x : Value) (k : Value) : Sem Value := Instr.sliceAt 115 x (some k) none none
theorem fold_slcP (x : Value) (k : Value) : Instr.sliceAt 115 x (some k) none none = slcP x k := rfl
theorem run_slcP (ab n c : Nat) (h1 : 1 ≤ n) (hn : n ≤ c) (W : World) : (slcP (.slice (some ⟨ab, 0, none⟩) n c) (.int .i64 1)).run Try.prog W = .ok (.slice (if c = 1 then some ⟨ab, 0, none⟩ else some ⟨ab, 1, none⟩) (n - 1) (c - 1)) W := by
 have q1 : (1 : Int) ≤ (n : Int) := by omega
 have q2 : (n : Int) ≤ (c : Int) := by omega
 unfold slcP
 by_cases hc : c = 1
 ·subst hc
  go_simp
 ·rw [if_neg hc]
  go_simp
section
variable {W : World} {cb ab ac mb : Nat} {G : List GB} {C : List Blk}
theorem ptrs_drop (h : ChV W cb ab ac mb G C) (hp : 0 < C.length) : SlR 1 (fun cs x => cs = ptrA x) W ⟨if ac = 1 then some ⟨ab, 0, none⟩ else some ⟨ab, 1, none⟩, C.length - 1, ac - 1⟩ (G.drop 1) := by
 have hg := h.glen
 have hle := h.le
 refine ⟨by rw [List.length_drop, hg], by show C.length - 1 ≤ ac - 1; omega, fun hne => ?_⟩
 have hl : 0 < (G.drop 1).length := List.length_pos_iff.2 hne
 rw [List.length_drop] at hl
 rw [if_neg (by omega)]
 refine ⟨ab, 1, rfl, fun i hi => ⟨_, ?_, rfl⟩⟩
 have hi' : 1 + i < G.length := by rw [List.length_drop] at hi; omega
 have hc := h.arr (1 + i) _ (List.getElem?_eq_getElem hi')
 rw [List.getElem_drop, Nat.mul_one]
 exact row_one hc
attribute [local go_sem ↓] fold_slcP
set_option maxRecDepth 100000 in
theorem chall_c (h : ChV W cb ab ac mb G C) (hok : ChnOk C) :
  Calls Try.prog 59 #[ptrV cb] W fun e w' => ∃ (lb : Nat) (s : Sl), e = .returned (.func (.func 128) #[] #[.pointer (some ⟨lb, 0, none⟩)]) ∧ w'.cell? ⟨lb, 0, none⟩ = some s.v ∧ lb < w'.heap.size ∧ W.heap.size ≤ lb ∧ OwnC w' W.heap.size 1 s.v (G.drop 1).length (flatC ptrA (G.drop 1)) ∧ Below W.heap.size W w' := by
 have hlen := hok.len
 have hpos := hok.pos
 have hB0 : Below W.heap.size W (W.alloc (.cells #[.slice none 0 0] 115)) := bel_a _ _
 have hz0 : (W.alloc (.cells #[.slice none 0 0] 115)).heap.size = W.heap.size + 1 := by simp
 have hc0 : (W.alloc (.cells #[.slice none 0 0] 115)).cell? ⟨W.heap.size, 0, none⟩ = some (.slice none 0 0) := by
  rw [cell_of_row _ _ _ _ _ _ (heap_alloc_new W _)]
  rfl
 have hf0 : (W.alloc (.cells #[.slice none 0 0] 115)).frozen? ⟨W.heap.size, 0, none⟩ = false := frozen_of_row _ _ _ _ _ (heap_alloc_new W _)
 have hV := h.keep hB0
 have HT := cthere_c hV hok.pos
 clear h
 obtain ⟨G1, hG1⟩ : ∃ g, g = G.drop 1 := ⟨_, rfl⟩
 rw [← hG1]
 replace hG1 := Lib.hid hG1
 unfold ptrV at HT ⊢
 go_enter Try.func59, Try.ntmps59
 go_upto_region 2 with fail
 generalize W.alloc (.cells #[.slice none 0 0] 115) = w0 at *
 go_wp2_with fail
 refine HT.mono ?_
 clear HT
 rintro e w1 ⟨rfl, hb1⟩
 have hB1 := hB0.trans (hb1.mono (by omega))
 have hB1' : W.heap.size ≤ w1.heap.size := hB1.size
 have hV1 := hV.keep hb1
 have c0 := hV1.c0
 have hP := pclone_c (ptrs_drop hV1 hpos) (by rw [List.length_drop, hV1.glen]; omega)
 rw [← hG1.out] at hP
 have hle := hV1.le
 have hrs := run_slcP ab C.length ac (by omega) hle w1
 generalize (if ac = 1 then some (⟨ab, 0, none⟩ : Addr) else some ⟨ab, 1, none⟩) = sa at *
 dsimp only [Sl.v] at hP
 have hc1 := (hb1.cell (p := ⟨W.heap.size, 0, none⟩) (show W.heap.size < w0.heap.size by omega)).trans hc0
 have hf1 := (World.frozen?_of_block (a := ⟨W.heap.size, 0, none⟩) (hb1.block W.heap.size (show W.heap.size < w0.heap.size by omega))).trans hf0
 have hz1 := hb1.size
 clear hV hV1 hb1 hB0 hc0 hf0 hle
 go_wp2_with fail
 (with_reducible refine hP.mono ?_)
 clear hP
 rintro e w2 ⟨⟨ta, tn, tc⟩, rfl, ho, hb2⟩
 have hc2 := (hb2.cell (p := ⟨W.heap.size, 0, none⟩) (show W.heap.size < w1.heap.size by omega)).trans hc1
 have hf2 := (World.frozen?_of_block (a := ⟨W.heap.size, 0, none⟩) (hb2.block W.heap.size (show W.heap.size < w1.heap.size by omega))).trans hf1
 have hB2 := hB1.trans (hb2.mono hB1.size)
 have hz2 := hb2.size
 clear hb2 hB1 hc1 hf1 hrs c0
 dsimp only [Sl.v]
 go_wp2_with fail
 go_ret
 refine ⟨W.heap.size, rfl, ⟨ta, tn, tc⟩, World.cell?_setCell_same _ _ _ hc2, by simp [World.setCell]; omega, Nat.le_refl _, (OwnC.off ho (asd_set w2 ⟨W.heap.size, 0, none⟩ _) fun g hg e => ?_).more hB1', hB2.setCell (p := ⟨W.heap.size, 0, none⟩) (Nat.le_refl _) _⟩
 have e' : g = W.heap.size := e
 have := (OwnC.lt ho g hg).1
 omega
end
/-- what a round is handed: its place, and a header in new memory -/
def ItV (C : List Blk) (l k : Nat) (vs : Array Value) (W : World) : Prop := ∃ (g : GHeader) (b : Blk) (E : Nat), vs = #[.int .i64 (k : Int), .agg (headerA g)] ∧ C[k + 1]? = some b ∧ HdrAt E W g b.h ∧ l < E
set_option maxRecDepth 100000 in
set_option maxHeartbeats 1600000 in
theorem chall1_in {wA : World} {cb ab ac mb : Nat} {G : List GB} {C : List Blk} (h : ChV wA cb ab ac mb G C) (hok : ChnOk C) (n l lb : Nat) (s : Sl) (hsn : s.n = C.length - 1) (J : Nat → World → Prop) (W : World)
  (hJb : ∀ k A B, J k A → Below A.heap.size A B → J k B)
  (hJI : ∀ k A, J k A → Below wA.heap.size wA A ∧ A.cell? ⟨lb, 0, none⟩ = some s.v ∧ ∀ (i : Nat) (x : GB), G[i + 1]? = some x → ∃ b, s.a = some ⟨b, 0, none⟩ ∧ A.cell? ⟨b, i, none⟩ = some (ptrV x.b))
  (hJl : ∀ k A, J k A → l < A.heap.size) (hY : ∀ k vs W1, J k W1 → k < C.length - 1 → ItV C l k vs W1 → YieldAt Fence.wide (n - 1) Try.prog l vs W1 fun e W' => e = .returned (.bool true) ∧ J (k + 1) W') (h0 : J 0 W) :
  CallsIn Fence.wide n Try.prog 128 #[.func (.yield l) #[] #[], .pointer (some ⟨lb, 0, none⟩)] W fun e W' => (∃ v, e = .returned v) ∧ J (C.length - 1) W' := by
 have hlen := hok.len
 have hpos := hok.pos
 obtain ⟨-, hm, -⟩ := hJI 0 W h0
 obtain ⟨sa, sn, sc⟩ := s
 dsimp only at hsn
 subst hsn
 dsimp only [Sl.v] at hm
 refine callsIn_of_wp Try.func128 rfl trivial ?_ rfl
 simp only [Try.ntmps128, List.size_toArray, List.length_cons, List.length_nil, Nat.reduceAdd, Nat.reduceSub, Array.replicate_succ, Array.replicate_zero, List.push_toArray, List.append_toArray, List.nil_append, List.cons_append]
 gi_wp2
 gi_loopw [7] (fun x wr => ∃ k : Nat, k ≤ C.length - 1 ∧ x = .int .i64 k ∧ Hid (J k wr)) (fun x _ => C.length - 1 - (intOf x).toNat)
 case atStart => exact ⟨0, Nat.zero_le _, rfl, Lib.hid h0⟩
 case round =>
  obtain ⟨k, hk, rfl, hJ⟩ := hrel
  clear hm
  by_cases hkn : k < C.length - 1
  ·have k0 : (0 : Int) ≤ (k : Int) := by omega
   have k1 : (k : Int) < ((C.length - 1 : Nat) : Int) := by omega
   obtain ⟨b, hb⟩ : ∃ b, C[k + 1]? = some b := ⟨_, List.getElem?_eq_getElem (by omega)⟩
   obtain ⟨x, hx⟩ := h.box hb
   obtain ⟨hbw, -, hp⟩ := hJI k wr hJ.out
   obtain ⟨sb, e1, cp⟩ := hp k x hx
   subst e1
   have hV := h.keep hbw
   obtain ⟨-, -, -, -, -, rh⟩ := hV.cells hx hb
   have HC := hclone_c (hV.hdr (k + 1) x b hx hb) (clnFits_may (hok.hdr (k + 1) b hb (by omega)).2)
   unfold ptrV at cp
   have hkn2 := Lib.hid hkn
   have hb2 := Lib.hid hb
   clear hV hp hbw hb hkn
   gi_wp2
   refine ⟨trivial, fun e => (by cases e), (callsIn_wide.2 HC).mono ?_⟩
   clear HC
   rintro e w2 ⟨g', rfl, hg, hbb⟩
   have hJ2 := hJb k wr w2 hJ.out hbb
   obtain ⟨fn, tmps, assign, body, hy, hR⟩ := hY k _ w2 hJ2 hkn2.out ⟨g', b, _, rfl, hb2.out, hg, hJl k wr hJ.out⟩
   clear hJ hJ2 hbb hg rh cp
   gi_wp2
   refine ⟨fun e => (by cases e), hR.mono ?_⟩
   rintro e W4 ⟨rfl, hJ4⟩
   replace hJ4 := Lib.hid hJ4
   gi_wp2
   go_roundw
   case rel => exact ⟨k + 1, by have := hkn2.out; omega, by go_num, hJ4⟩
   case measure => have := hkn2.out; simp [intOf]; omega
  ·have k1 : ¬ (k : Int) < ((C.length - 1 : Nat) : Int) := by omega
   obtain rfl : k = C.length - 1 := by omega
   gi_wp2
   go_end0
   exact ⟨⟨_, rfl⟩, hJ.out⟩
end Go.Proofs.Ythdjhbiigmcecaa

/- A region that draws its order, in a round of a range over a function: as FreeG. Over any program. -/
namespace Go.Proofs.Ythdjhbiigmcecaa
open Go.RowKit

theorem rows_round {n l : Nat} {P : Program} {row : String} {args : Array Value} {w : World} {R : Value → World → Prop} (h : Rows P row args w R) : RowsIn (Fence.wide.inRound l) n P row args w R := fun c cs _ => by
 obtain ⟨v, w', r, s⟩ := h c cs
 exact ⟨v, w', r, stepsIn_wide.2 s⟩
theorem oper_round {n l : Nat} {P : Program} {o : Oper} {a : Go.Act} {w : World} {K : Go.Act → World → Prop} {Q : Exit → Go.Act → World → Prop} (hd : ∀ c, o.op ≠ .defer c) (h : o.wp P a w K Q) : o.wpIn (Fence.wide.inRound l) n P a w K Q := by
 refine ⟨fun _ _ => trivial, ?_⟩
 rw [show (Fence.wide.inRound l).round = some l from rfl, Oper.semAt_some l a.eval o hd]
 unfold Oper.wp at h
 generalize (execOp a.eval o).run P w = r at *
 have hn : (Fence.wide.inRound l).depth.isSome = true → 1 ≤ n := fun e => by cases e
 cases r with
 | ok x w' =>
  cases x with
  | value v => exact h
  | skip => exact h
  | defer d => exact h
  | enter f args => exact ⟨hn, CallsIn.inRound l (callsIn_wide.2 h)⟩
  | row f args => exact ⟨hn, rows_round h⟩
  | _ => exact absurd h (by simp [Oper.upon])
 | halt x w' =>
  cases x with
  | panic v => exact h
  | _ => exact absurd h (by simp [Oper.upon])
theorem any_round {n l : Nat} {P : Program} {md : Region.Mode} {ops : Array Oper} {Q : Exit → Go.Act → World → Prop} (hd : ∀ (i : Nat) (o : Oper), ops[i]? = some o → ∀ c, o.op ≠ .defer c) (hQ : ¬ LetsOut Q) :
  ∀ (fuel : Nat) (listed : Array Bool) (a : Go.Act) (w : World), wpAny P md ops Q fuel listed a w → wpAnyIn (Fence.wide.inRound l) n P md ops Q fuel listed a w := by
 intro fuel
 induction fuel with
 | zero => exact fun _ _ _ h => h
 | succ fuel ih =>
  intro listed a w h
  refine ⟨h.1, fun i hi => ?_⟩
  have h2 := h.2 i hi
  unfold wpOp at h2
  unfold wpOpIn
  cases ho : ops[i]? with
  | none =>
   rw [ho] at h2
   exact ih _ _ _ h2
  | some o =>
   rw [ho] at h2
   simp only at h2 ⊢
   split
   ·rename_i hw
    rw [if_pos hw] at h2
    rcases h2 with h2 | ⟨_, h2⟩
    ·exact oper_round (hd i o ho) (Oper.wp_mono (fun a w q => ih _ a w q) h2)
    ·exact absurd h2 hQ
   ·rename_i hw
    rw [if_neg hw] at h2
    exact ⟨fun _ _ => trivial, ih _ _ _ h2⟩
def noDefer (o : Oper) : Bool := match o.op with | .defer _ => false | _ => true
theorem noDefer_out {o : Oper} (h : noDefer o = true) : ∀ c, o.op ≠ .defer c := by
 intro c e
 unfold noDefer at h
 rw [e] at h
 cases h
theorem wpIn_region_freeR_l (Rel : World → World → Prop) {P : Program} {id n l : Nat} {ops : List Oper} {Q : Exit → Go.Act → World → Prop} {a0 : Go.Act} {W0 : World} (hQ : ¬ LetsOut Q) (hnd : ops.all noDefer = true) (hm : P.follows .mixedOrders = true)
  (ds : List Nat) (Fs : List (Value → World → Prop)) (hok : regionOkG ops.toArray ds a0.tmps.size = true)
  (hrel : ∀ w w', Rel w w' → Below W0.heap.size W0 w → Below W0.heap.size W0 w')
  (hstable : ∀ f ∈ Fs, ∀ v w w', f v w → Rel w w' → f v w')
  (hstep : FreeStepsG Rel P ds.length (fun i => ds.getD i 0) (fun i => Fs.getD i fun _ _ => True) a0 W0 Q 0 ops)
  (hfin : ∀ (vs : List Value) w, vs.length = ds.length → (∀ i (hi : i < vs.length), Fs.getD i (fun _ _ => True) vs[i] w) → Below W0.heap.size W0 w → Q .normal ⟨putL a0.tmps (ds.zip vs), a0.defers⟩ w) :
  (Code.region id ops.toArray true).wpIn (Fence.wide.inRound l) n P Q a0 W0 :=
 wpIn_region_any hm (any_round (fun i o ho => noDefer_out (by
  have h := List.all_eq_true.1 hnd
  exact h o (List.mem_of_getElem? (by simpa using ho)))) hQ _ _ _ _ (freeG_any_l Rel ds Fs hok hrel hstable hstep hfin))
end Go.Proofs.Ythdjhbiigmcecaa

/- A range over a function whose iterator hands over what only memory tells of (a header's slices): each round is told what holds of what it is handed. The body goes on to its end, each time. Over any program. -/
namespace Go.Proofs.Ythdjhbiigmcecaa
open Go.RowKit

/-- how a round's body is left: at its end -/
def roundQ (B : Nat) (R : World → Prop) (W : World) : Exit → Go.Act → World → Prop
 | .normal, _, W' => KeepsFrom B W W' ∧ R W'
 | _, _, _ => False
theorem rangeQ {n : Nat} {P : Program} {g : Operand} {ps : Array Tmp} {assign body : Code} {Q : Exit → Go.Act → World → Prop} {a : Go.Act} {w : World} (h1 : 1 ≤ n) {gf : Nat} {lb : Array Value} (hg : a.eval g = .func (.func gf) #[] lb) (eg : ∀ args w, (callFunc gf args).run P w = .ok (.enter gf args) w)
  (N : Nat) (V : Nat → Nat → Array Value → World → Prop) (hV : ∀ l k vs W, V l k vs W → vs.size = ps.size) (I : Nat → World → Prop)
  (hIb : ∀ k A B, I k A → Below A.heap.size A B → I k B) (hIp : ∀ k A l o, w.heap.size ≤ l → I k A → I k (A.putObj l o))
  (hseq : ∀ (l : Nat) (J : Nat → World → Prop) (W : World), Below w.heap.size w W → (∀ k A B, J k A → Below A.heap.size A B → J k B) → (∀ k A, J k A → I k A ∧ l < A.heap.size) →
   (∀ k vs W1, J k W1 → k < N → V l k vs W1 → YieldAt Fence.wide (n - 1 - 1) P l vs W1 fun e W' => e = .returned (.bool true) ∧ J (k + 1) W') → J 0 W →
   CallsIn Fence.wide (n - 1) P gf (#[.func (.yield l) #[] #[]] ++ lb) W fun e W' => (∃ v, e = .returned v) ∧ J N W')
  (h0 : I 0 w)
  (hround : ∀ (l k : Nat) (vs : Array Value) (W : World) (K : Go.Act → World → Prop), w.heap.size ≤ l → l < W.heap.size → I k W → k < N → V l k vs W →
   (∀ a' W', KeepsFrom w.heap.size W W' → I k W' → (∀ o, body.wpIn (Fence.wide.inRound l) (n - 1 - 1) P (roundQ w.heap.size (I (k + 1)) (W'.putObj l o)) a' (W'.putObj l o)) → K a' W') →
   assign.wpIn (Fence.wide.inRound l) (n - 1 - 1) P (Exit.then K (fun _ _ _ => False)) { tmps := (ps.zip vs).foldl (fun t (p, v) => t.setIfInBounds p v) a.tmps, defers := [] } W)
  (hdone : ∀ (D : Nat) (W : World), w.heap.size ≤ D → I N W → W.heap[D]? = some (.deferred (some [])) → Q .normal { a with defers := { target := .collected D, args := #[] } :: a.defers } W) :
  (Code.rangeFunc g ps assign body).wpIn Fence.wide n P Q a w := by
 refine wpIn_rangeFunc fun fn hfn => ?_
 rw [show Fence.wide.round = none from rfl]
 obtain ⟨lp, hlp⟩ : ∃ lp : LoopState → Option Code → Loop, lp = fun st pe => { state := st, pending := pe, fn, tmps := a.tmps, params := ps, assign, body, defers := w.heap.size } := ⟨_, rfl⟩
 obtain ⟨Wa, hWa⟩ : ∃ Wa, Wa = (w.alloc (.deferred (some []))).alloc (.loop (lp .ready none)) := ⟨_, rfl⟩
 have hza : Wa.heap.size = w.heap.size + 2 := by rw [hWa]; simp
 have hba : Below w.heap.size w Wa := by rw [hWa]; exact (((Below.refl _ w).alloc (Nat.le_refl _) _).alloc (by simp) _)
 have hla : Wa.heap[w.heap.size + 1]? = some (.loop (lp .ready none)) := by
  have h := World.alloc_heap_new (w.alloc (.deferred (some []))) (.loop (lp .ready none))
  rw [World.size_alloc, ← hWa] at h
  exact h
 have hka : Wa.heap[w.heap.size]? = some (.deferred (some [])) := by
  rw [hWa]
  exact (Below.heap_alloc _ _ _ (by simp)).trans (World.alloc_heap_new w _)
 have hIa : I 0 Wa := hIb 0 w Wa h0 hba
 refine ⟨w.heap.size + 1, [{ target := .collected w.heap.size, args := #[] }], Wa, { target := .fn (.func gf) lb, args := #[.func (.yield (w.heap.size + 1)) #[] #[]] }, Wa, gf, #[.func (.yield (w.heap.size + 1)) #[] #[]] ++ lb, Wa, ?_, ?_, ?_, ?_, fun _ => h1, ?_⟩
 ·rw [hWa, hlp]
  exact run_enterLoop_outer _ _ _ _ _
 ·simp only [resolve, hg]
  simp [go_sem]
 ·intro f' _
  trivial
 ·simp [invoke, go_sem, eg]
 have hput : ∀ (A : World) (o o' : Obj), A.heap[w.heap.size + 1]? = some o → (A.putObj (w.heap.size + 1) o').heap[w.heap.size + 1]? = some o' ∧ (A.putObj (w.heap.size + 1) o').heap[w.heap.size]? = A.heap[w.heap.size]? :=
  fun A o o' h => ⟨World.putObj_heap_same (Array.getElem?_eq_some_iff.1 h).1, World.putObj_heap_other (by omega)⟩
 refine (hseq (w.heap.size + 1) (fun k W => I k W ∧ W.heap[w.heap.size + 1]? = some (.loop (lp .ready none)) ∧ W.heap[w.heap.size]? = some (.deferred (some []))) Wa hba ?_ (fun _ _ h => ⟨h.1, (Array.getElem?_eq_some_iff.1 h.2.1).1⟩) ?_ ⟨hIa, hla, hka⟩).mono ?_
 ·rintro k A B ⟨q1, q2, q3⟩ hb
  exact ⟨hIb k A B q1 hb, (hb.block _ (Array.getElem?_eq_some_iff.1 q2).1).trans q2, (hb.block _ (Array.getElem?_eq_some_iff.1 q3).1).trans q3⟩
 ·rintro k vs W ⟨q1, q2, q3⟩ hk hv
  have hy := run_yield (P := P) (args := vs) q2 (by rw [hlp]; exact hV _ k vs W hv)
  rw [hlp] at hy
  refine ⟨fn, _, assign, body, hy, roundIn_of_wpIn hfn (hround _ k vs W _ (Nat.le_succ _) (Array.getElem?_eq_some_iff.1 q2).1 q1 hk hv ?_)⟩
  intro a' Wb hkf _ hbd
  have l2 := hkf.same _ _ (Nat.le_succ _) q2 rfl
  have k2 := hkf.same _ _ (Nat.le_refl _) q3 rfl
  refine ⟨_, run_beginRound l2 (by rw [hlp]), ?_⟩
  obtain ⟨l3, k3⟩ := hput Wb _ (.loop { lp .ready none with state := .busy }) l2
  rw [k2] at k3
  refine wpIn_mono (hbd _) ?_
  rintro e a3 Wc hp
  cases e with
  | normal =>
   obtain ⟨hkc, hic⟩ := hp
   have l4 := hkc.same _ _ (Nat.le_succ _) l3 rfl
   have k4 := hkc.same _ _ (Nat.le_refl _) k3 rfl
   have hr := run_endRound (P := P) none l4
   obtain ⟨l5, k5⟩ := hput Wc _ (.loop (lp .ready none)) l4
   rw [k4] at k5
   rw [hlp] at hr l5 k5 ⊢
   exact ⟨_, _, hr, rfl, hIp (k + 1) Wc _ _ (Nat.le_succ _) hic, l5, k5⟩
  | _ => exact hp.elim
 ·rintro e Wd ⟨⟨v, rfl⟩, q1, q2, q3⟩
  have hr := run_endLoop (P := P) q2 (by rw [hlp]; simp)
  rw [hlp] at hr
  refine ⟨none, _, hr, hdone _ _ (Nat.le_refl _) (hIp N Wd _ _ (Nat.le_succ _) q1) ?_⟩
  exact (World.putObj_heap_other (by omega)).trans q3
end Go.Proofs.Ythdjhbiigmcecaa
