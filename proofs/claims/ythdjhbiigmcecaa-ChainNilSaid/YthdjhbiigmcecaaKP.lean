/- Texts of this proof, one behind the other: ChnZ, IterZ, NilW. -/
import Derived.Test.YthdjhbiigmcecaaKH
import Derived.Test.YthdjhbiigmcecaaKC
import Derived.RangeFuncNested
import Derived.RangeFuncBound
import Derived.RangeFuncCalls
import Derived.RangeFuncLeaves
import Derived.RangeFuncBox
import Derived.Shelf.Abstract
import Derived.Shelf.RegionOpen
import Derived.WalkKit
import Derived.OwnWalkIn
import Derived.TacticsInMore
import Derived.LoopNIn
import Derived.LoopIn
import Derived.Test.YthdjhbiigmcecaaKI
import Derived.LaidEqlPtr
set_option linter.unusedVariables false
set_option linter.unusedSimpArgs false
/- A chain that is not there, or a zero one: what its functions answer. -/
namespace Go.Proofs.Ythdjhbiigmcecaa
open Go.RowKit

/-- no chain, or a zero one -/
def ZeroCh (W : World) (p : Option Addr) : Prop := p = none ∨ ∃ zb, p = some ⟨zb, 0, none⟩ ∧ W.cell? ⟨zb, 0, none⟩ = some (.slice none 0 0) ∧ zb < W.heap.size
theorem ZeroCh.keep {W W' : World} {p : Option Addr} (h : ZeroCh W p) (hb : Below W.heap.size W W') : ZeroCh W' p := by
  rcases h with h | ⟨zb, h1, h2, h3⟩
  · exact .inl h
  · exact .inr ⟨zb, h1, (hb.cell (p := ⟨zb, 0, none⟩) h3).trans h2, Nat.lt_of_lt_of_le h3 hb.size⟩
section
variable {W : World} {p : Option Addr} (h : ZeroCh W p)
include h
set_option maxRecDepth 100000 in
theorem zthere_c : Calls Try.prog 104 #[.pointer p] W fun e w' => e = .returned (.bool false) ∧ Below W.heap.size W w' := by
  rcases h with rfl | ⟨zb, rfl, c0, -⟩
  · go_enter Try.func104, Try.ntmps104
    go_wp2_with fail
    go_ret
    exact ⟨rfl, by (repeat' (first | (with_reducible exact Below.refl _ _) | (with_reducible assumption) | (with_reducible refine bel_trans (by assumption) ?_ ?_) | (with_reducible refine bel_grown (by assumption) ?_ ?_ ?_) | (with_reducible refine Below.alloc ?_ ?_ _) | (with_reducible refine Below.drew ?_) | (with_reducible refine below_drewN ?_ _) | (with_reducible refine Below.setCell ?_ ?_ _) | (with_reducible refine below_put ?_ ?_ _ _) | (with_reducible exact Nat.le_refl _) | omega | (with_reducible refine Nat.le_trans ?_ (Below.size (by assumption))) | (with_reducible refine Nat.le_trans ?_ (World.grownBy.size (by assumption))) | (simp only [World.size_alloc, World.size_setCell, World.size_drew, size_drewN]; omega) | (simp only [World.size_alloc, World.size_setCell, World.size_drew, size_drewN, size_put]; omega) | (intro k hk; simp [Value.ownBlock] at hk; done) | (intro k hk; simp [Value.ownBlock] at hk; omega) | (simp [size_drewN] at *; omega)))⟩
  · go_enter Try.func104, Try.ntmps104
    go_wp2_with fail
    go_ret
    exact ⟨rfl, by (repeat' (first | (with_reducible exact Below.refl _ _) | (with_reducible assumption) | (with_reducible refine bel_trans (by assumption) ?_ ?_) | (with_reducible refine bel_grown (by assumption) ?_ ?_ ?_) | (with_reducible refine Below.alloc ?_ ?_ _) | (with_reducible refine Below.drew ?_) | (with_reducible refine below_drewN ?_ _) | (with_reducible refine Below.setCell ?_ ?_ _) | (with_reducible refine below_put ?_ ?_ _ _) | (with_reducible exact Nat.le_refl _) | omega | (with_reducible refine Nat.le_trans ?_ (Below.size (by assumption))) | (with_reducible refine Nat.le_trans ?_ (World.grownBy.size (by assumption))) | (simp only [World.size_alloc, World.size_setCell, World.size_drew, size_drewN]; omega) | (simp only [World.size_alloc, World.size_setCell, World.size_drew, size_drewN, size_put]; omega) | (intro k hk; simp [Value.ownBlock] at hk; done) | (intro k hk; simp [Value.ownBlock] at hk; omega) | (simp [size_drewN] at *; omega)))⟩
set_option maxRecDepth 100000 in
theorem zfind_c (n : Hash) : Calls Try.prog 105 #[.pointer p, .agg (hashA n)] W fun e w' => e = .returned (.tuple #[.pointer none, .int .i64 1]) ∧ Below W.heap.size W w' := by
  have hB0 : Below W.heap.size W (W.alloc (.cells (hashA n) 24)) := bel_a _ _
  have hz0 : (W.alloc (.cells (hashA n) 24)).heap.size = W.heap.size + 1 := by simp
  have HT := zthere_c (h.keep hB0)
  clear h
  go_enter Try.func105, Try.ntmps105
  go_upto_region 1 with fail
  generalize W.alloc (.cells (hashA n) 24) = w0 at *
  go_wp2_with fail
  refine HT.mono ?_
  clear HT
  rintro e w1 ⟨rfl, hb1⟩
  have hB1 := hB0.trans (hb1.mono (by omega))
  clear hb1 hB0
  go_wp2_with fail
  go_ret2
  exact ⟨rfl, hB1⟩
set_option maxRecDepth 100000 in
theorem ztips_c : Calls Try.prog 53 #[.pointer p] W fun e w' => e = .returned (.slice none 0 0) ∧ Below W.heap.size W w' := by
  have HT := zthere_c h
  clear h
  go_enter Try.func53, Try.ntmps53
  go_wp2_with fail
  refine HT.mono ?_
  clear HT
  rintro e w1 ⟨rfl, hb1⟩
  go_wp2_with fail
  go_ret
  exact ⟨rfl, hb1⟩
set_option maxRecDepth 100000 in
theorem zlen_c : Calls Try.prog 36 #[.pointer p] W fun e w' => e = .returned (.int .i64 0) ∧ Below W.heap.size W w' := by
  have HT := zthere_c h
  clear h
  go_enter Try.func36, Try.ntmps36
  go_wp2_with fail
  refine HT.mono ?_
  clear HT
  rintro e w1 ⟨rfl, hb1⟩
  go_wp2_with fail
  go_ret
  exact ⟨rfl, hb1⟩
set_option maxRecDepth 100000 in
theorem zcopy_c : Calls Try.prog 49 #[.pointer p] W fun e w' => e = .returned (.pointer none) ∧ Below W.heap.size W w' := by
  have HT := zthere_c h
  clear h
  go_enter Try.func49, Try.ntmps49
  go_wp2_with fail
  refine HT.mono ?_
  clear HT
  rintro e w1 ⟨rfl, hb1⟩
  go_wp2_with fail
  go_ret
  exact ⟨rfl, hb1⟩
set_option maxRecDepth 100000 in
theorem zanchor_c : Calls Try.prog 47 #[.pointer p] W fun e w' => e = .returned (.agg (pointA zeroPt)) ∧ Below W.heap.size W w' := by
  have hB0 : Below W.heap.size W (W.alloc (.cells (pointA zeroPt) 26)) := bel_a _ _
  have hz0 : (W.alloc (.cells (pointA zeroPt) 26)).heap.size = W.heap.size + 1 := by simp
  have hrow0 : row? (W.alloc (.cells (pointA zeroPt) 26)) W.heap.size 0 33 = some (pointA zeroPt) := by rw [row?_new]; simp
  have hth : there (W.alloc (.cells (pointA zeroPt) 26)) W.heap.size 0 33 := there_new _ _ _ _ _ (by simp)
  have HT := zthere_c (h.keep hB0)
  clear h
  go_enter Try.func47, Try.ntmps47
  go_upto_region 1 with fail
  generalize W.alloc (.cells (pointA zeroPt) 26) = w0 at *
  go_wp2_with fail
  refine HT.mono ?_
  clear HT
  rintro e w1 ⟨rfl, hb1⟩
  have hB1 := hB0.trans (hb1.mono (by omega))
  have hrow1 := (row?_below _ _ _ hb1 (by omega)).trans hrow0
  have hth1 := there_below hb1 (show W.heap.size < w0.heap.size by omega) hth
  clear hb1 hB0 hrow0 hth
  go_wp2_with (with_reducible refine ret_row Try.isAgg26 Try.sizeOf26 anchor_res (x := .pointer (some ⟨W.heap.size, 0, none⟩)) (W.heap.size) 0 ?rrhx (Eq.refl _) ?rrh ?rrhd ?rrhR; (case rrhx => simp only [Array.getD_eq_getD_getElem?, List.getElem?_toArray, List.getElem?_cons_succ, List.getElem?_cons_zero, Option.getD_some]); (case rrhd => exact rfl); (case rrh => go_simp); (case rrhR => ((refine ⟨?_, ?_⟩; (case refine_1 => (go_simp; done)); (case refine_2 => ((repeat' (first | (with_reducible exact Below.refl _ _) | (with_reducible assumption) | (with_reducible refine bel_trans (by assumption) ?_ ?_) | (with_reducible refine bel_grown (by assumption) ?_ ?_ ?_) | (with_reducible refine Below.alloc ?_ ?_ _) | (with_reducible refine Below.drew ?_) | (with_reducible refine below_drewN ?_ _) | (with_reducible refine Below.setCell ?_ ?_ _) | (with_reducible refine below_put ?_ ?_ _ _) | (with_reducible exact Nat.le_refl _) | omega | (with_reducible refine Nat.le_trans ?_ (Below.size (by assumption))) | (with_reducible refine Nat.le_trans ?_ (World.grownBy.size (by assumption))) | (simp only [World.size_alloc, World.size_setCell, World.size_drew, size_drewN]; omega) | (simp only [World.size_alloc, World.size_setCell, World.size_drew, size_drewN, size_put]; omega) | (intro k hk; simp [Value.ownBlock] at hk; done) | (intro k hk; simp [Value.ownBlock] at hk; omega) | (simp [size_drewN] at *; omega)))))))))
set_option maxRecDepth 100000 in
theorem zepoch_c (n : Hash) : Calls Try.prog 52 #[.pointer p, .agg (hashA n)] W fun e w' => e = .returned (.tuple #[.int .u64 0, .int .i64 1]) ∧ Below W.heap.size W w' := by
  have hB0 : Below W.heap.size W (W.alloc (.cells (hashA n) 24)) := bel_a _ _
  have hz0 : (W.alloc (.cells (hashA n) 24)).heap.size = W.heap.size + 1 := by simp
  have hrow0 : row? (W.alloc (.cells (hashA n) 24)) W.heap.size 0 32 = some (hashA n) := by rw [row?_new]; simp
  have HT := zfind_c (h.keep hB0) n
  clear h
  go_enter Try.func52, Try.ntmps52
  go_upto_region 1 with fail
  generalize W.alloc (.cells (hashA n) 24) = w0 at *
  go_wp2_with fail
  refine HT.mono ?_
  clear HT
  rintro e w1 ⟨rfl, hb1⟩
  have hB1 := hB0.trans (hb1.mono (by omega))
  clear hb1 hB0
  go_wp2_with fail
  go_ret2
  exact ⟨rfl, hB1⟩
set_option maxRecDepth 100000 in
theorem zpath_c (n : Hash) : Calls Try.prog 54 #[.pointer p, .agg (hashA n)] W fun e w' => e = .returned (.tuple #[.slice none 0 0, .int .i64 1]) ∧ Below W.heap.size W w' := by
  have hB0 : Below W.heap.size W (W.alloc (.cells (hashA n) 24)) := bel_a _ _
  have hz0 : (W.alloc (.cells (hashA n) 24)).heap.size = W.heap.size + 1 := by simp
  have hrow0 : row? (W.alloc (.cells (hashA n) 24)) W.heap.size 0 32 = some (hashA n) := by rw [row?_new]; simp
  have HT := zfind_c (h.keep hB0) n
  clear h
  go_enter Try.func54, Try.ntmps54
  go_upto_region 1 with fail
  generalize W.alloc (.cells (hashA n) 24) = w0 at *
  go_wp2_with fail
  refine HT.mono ?_
  clear HT
  rintro e w1 ⟨rfl, hb1⟩
  have hB1 := hB0.trans (hb1.mono (by omega))
  clear hb1 hB0
  go_wp2_with fail
  go_ret2
  exact ⟨rfl, hB1⟩
set_option maxRecDepth 100000 in
theorem zchildren_c (n : Hash) : Calls Try.prog 58 #[.pointer p, .agg (hashA n)] W fun e w' => e = .returned (.slice none 0 0) ∧ Below W.heap.size W w' := by
  have hB0 : Below W.heap.size W (W.alloc (.cells (hashA n) 24)) := bel_a _ _
  have hz0 : (W.alloc (.cells (hashA n) 24)).heap.size = W.heap.size + 1 := by simp
  have hrow0 : row? (W.alloc (.cells (hashA n) 24)) W.heap.size 0 32 = some (hashA n) := by rw [row?_new]; simp
  have HT := zfind_c (h.keep hB0) n
  clear h
  go_enter Try.func58, Try.ntmps58
  go_upto_region 1 with fail
  generalize W.alloc (.cells (hashA n) 24) = w0 at *
  go_wp2_with fail
  refine HT.mono ?_
  clear HT
  rintro e w1 ⟨rfl, hb1⟩
  have hB1 := hB0.trans (hb1.mono (by omega))
  clear hb1 hB0
  go_wp2_with fail
  go_ret
  exact ⟨rfl, hB1⟩
set_option maxRecDepth 100000 in
theorem zknows_c (q : Pt) : Calls Try.prog 57 #[.pointer p, .agg (pointA q)] W fun e w' => e = .returned (.bool false) ∧ Below W.heap.size W w' := by
  have hB0 : Below W.heap.size W (W.alloc (.cells (pointA q) 26)) := bel_a _ _
  have hz0 : (W.alloc (.cells (pointA q) 26)).heap.size = W.heap.size + 1 := by simp
  have hrow0 : row? (W.alloc (.cells (pointA q) 26)) W.heap.size 0 33 = some (pointA q) := by rw [row?_new]; simp
  have hrown : row? (W.alloc (.cells (pointA q) 26)) W.heap.size 1 32 = some (hashA q.name) := by rw [row?_new]; simp
  have HT := zfind_c (h.keep hB0) q.name
  clear h
  go_enter Try.func57, Try.ntmps57
  go_upto_region 1 with fail
  generalize W.alloc (.cells (pointA q) 26) = w0 at *
  go_wp2_with fail
  refine HT.mono ?_
  clear HT
  rintro e w1 ⟨rfl, hb1⟩
  have hB1 := hB0.trans (hb1.mono (by omega))
  clear hb1 hB0
  go_upto_region 2 with fail
  go_quiet (fail)
  go_wp2_with fail
  go_ret
  exact ⟨rfl, below_drewN hB1 _⟩
set_option maxRecDepth 100000 in
theorem zunder_c (n a : Hash) : Calls Try.prog 37 #[.pointer p, .agg (hashA n), .agg (hashA a)] W fun e w' => e = .returned (.bool false) ∧ Below W.heap.size W w' := by
  have hB0 : Below W.heap.size W ((W.alloc (.cells (hashA n) 24)).alloc (.cells (hashA a) 24)) := by (repeat' (first | (with_reducible exact Below.refl _ _) | (with_reducible assumption) | (with_reducible refine bel_trans (by assumption) ?_ ?_) | (with_reducible refine bel_grown (by assumption) ?_ ?_ ?_) | (with_reducible refine Below.alloc ?_ ?_ _) | (with_reducible refine Below.drew ?_) | (with_reducible refine below_drewN ?_ _) | (with_reducible refine Below.setCell ?_ ?_ _) | (with_reducible refine below_put ?_ ?_ _ _) | (with_reducible exact Nat.le_refl _) | omega | (with_reducible refine Nat.le_trans ?_ (Below.size (by assumption))) | (with_reducible refine Nat.le_trans ?_ (World.grownBy.size (by assumption))) | (simp only [World.size_alloc, World.size_setCell, World.size_drew, size_drewN]; omega) | (simp only [World.size_alloc, World.size_setCell, World.size_drew, size_drewN, size_put]; omega) | (intro k hk; simp [Value.ownBlock] at hk; done) | (intro k hk; simp [Value.ownBlock] at hk; omega) | (simp [size_drewN] at *; omega)))
  have hz0 : ((W.alloc (.cells (hashA n) 24)).alloc (.cells (hashA a) 24)).heap.size = W.heap.size + 2 := by simp
  have hrow0 : row? ((W.alloc (.cells (hashA n) 24)).alloc (.cells (hashA a) 24)) W.heap.size 0 32 = some (hashA n) := by rw [row?_old _ _ _ _ _ (by simp), row?_new]; simp
  have hrow1 : row? ((W.alloc (.cells (hashA n) 24)).alloc (.cells (hashA a) 24)) (W.heap.size + 1) 0 32 = some (hashA a) := by rw [row?_new_at _ _ _ _ _ _ (by simp)]; simp
  have h0 := h.keep hB0
  have HT := zfind_c h0 n
  clear h
  go_enter Try.func37, Try.ntmps37
  go_upto_region 1 with fail
  generalize (W.alloc (.cells (hashA n) 24)).alloc (.cells (hashA a) 24) = w0 at *
  go_wp2_with fail
  refine HT.mono ?_
  clear HT
  rintro e w1 ⟨rfl, hb1⟩
  have hB1 := hB0.trans (hb1.mono (by omega))
  have hrow11 := (row?_below _ _ _ hb1 (by omega)).trans hrow1
  have HT := zfind_c (h0.keep hb1) a
  clear h0 hb1 hB0 hrow0 hrow1
  go_wp2_with fail
  refine HT.mono ?_
  clear HT
  rintro e w2 ⟨rfl, hb2⟩
  have hB2 := hB1.trans (hb2.mono hB1.size)
  clear hb2 hB1 hrow11
  go_wp2_with fail
  go_ret
  exact ⟨rfl, hB2⟩
set_option maxRecDepth 100000 in
theorem zcheck_c (g : GHeader) : Calls Try.prog 60 #[.pointer p, .agg (headerA g)] W fun e w' => e = .returned (.tuple #[.agg (pointA zeroPt), .int .i64 1]) ∧ Below W.heap.size W w' := by
  have hB0 : Below W.heap.size W ((W.alloc (.cells (headerA g) 49)).alloc (.cells (pointA zeroPt) 26)) := by (repeat' (first | (with_reducible exact Below.refl _ _) | (with_reducible assumption) | (with_reducible refine bel_trans (by assumption) ?_ ?_) | (with_reducible refine bel_grown (by assumption) ?_ ?_ ?_) | (with_reducible refine Below.alloc ?_ ?_ _) | (with_reducible refine Below.drew ?_) | (with_reducible refine below_drewN ?_ _) | (with_reducible refine Below.setCell ?_ ?_ _) | (with_reducible refine below_put ?_ ?_ _ _) | (with_reducible exact Nat.le_refl _) | omega | (with_reducible refine Nat.le_trans ?_ (Below.size (by assumption))) | (with_reducible refine Nat.le_trans ?_ (World.grownBy.size (by assumption))) | (simp only [World.size_alloc, World.size_setCell, World.size_drew, size_drewN]; omega) | (simp only [World.size_alloc, World.size_setCell, World.size_drew, size_drewN, size_put]; omega) | (intro k hk; simp [Value.ownBlock] at hk; done) | (intro k hk; simp [Value.ownBlock] at hk; omega) | (simp [size_drewN] at *; omega)))
  have hz0 : ((W.alloc (.cells (headerA g) 49)).alloc (.cells (pointA zeroPt) 26)).heap.size = W.heap.size + 2 := by simp
  have hrow1 : row? ((W.alloc (.cells (headerA g) 49)).alloc (.cells (pointA zeroPt) 26)) (W.heap.size + 1) 0 33 = some (pointA zeroPt) := by rw [row?_new_at _ _ _ _ _ _ (by simp)]; simp
  have hth : there ((W.alloc (.cells (headerA g) 49)).alloc (.cells (pointA zeroPt) 26)) (W.heap.size + 1) 0 33 := there_new_at _ _ _ _ _ _ (by simp) (by simp)
  have HT := zthere_c (h.keep hB0)
  clear h
  go_enter Try.func60, Try.ntmps60
  go_upto_region 1 with fail
  generalize (W.alloc (.cells (headerA g) 49)).alloc (.cells (pointA zeroPt) 26) = w0 at *
  go_wp2_with fail
  refine HT.mono ?_
  clear HT
  rintro e w1 ⟨rfl, hb1⟩
  have hB1 := hB0.trans (hb1.mono (by omega))
  have hrow11 := (row?_below _ _ _ hb1 (by omega)).trans hrow1
  have hth1 := there_below hb1 (show W.heap.size + 1 < w0.heap.size by omega) hth
  clear hb1 hB0 hrow1 hth
  go_wp2_with (with_reducible refine ret_row2 Try.isAgg26 Try.sizeOf26 chcheck_res (x := .pointer (some ⟨W.heap.size + 1, 0, none⟩)) (y := .int .i64 1) (W.heap.size + 1) 0 ?rrhx (Eq.refl _) ?rrhy ?rrh ?rrhd ?rrhR; (case rrhx => simp only [Array.getD_eq_getD_getElem?, List.getElem?_toArray, List.getElem?_cons_succ, List.getElem?_cons_zero, Option.getD_some]); (case rrhy => simp only [Array.getD_eq_getD_getElem?, List.getElem?_toArray, List.getElem?_cons_succ, List.getElem?_cons_zero, Option.getD_some]); (case rrhd => exact rfl); (case rrh => go_simp); (case rrhR => ((refine ⟨?_, ?_⟩; (case refine_1 => (go_simp; done)); (case refine_2 => ((repeat' (first | (with_reducible exact Below.refl _ _) | (with_reducible assumption) | (with_reducible refine bel_trans (by assumption) ?_ ?_) | (with_reducible refine bel_grown (by assumption) ?_ ?_ ?_) | (with_reducible refine Below.alloc ?_ ?_ _) | (with_reducible refine Below.drew ?_) | (with_reducible refine below_drewN ?_ _) | (with_reducible refine Below.setCell ?_ ?_ _) | (with_reducible refine below_put ?_ ?_ _ _) | (with_reducible exact Nat.le_refl _) | omega | (with_reducible refine Nat.le_trans ?_ (Below.size (by assumption))) | (with_reducible refine Nat.le_trans ?_ (World.grownBy.size (by assumption))) | (simp only [World.size_alloc, World.size_setCell, World.size_drew, size_drewN]; omega) | (simp only [World.size_alloc, World.size_setCell, World.size_drew, size_drewN, size_put]; omega) | (intro k hk; simp [Value.ownBlock] at hk; done) | (intro k hk; simp [Value.ownBlock] at hk; omega) | (simp [size_drewN] at *; omega)))))))))
set_option maxRecDepth 100000 in
theorem zadd_c (g : GHeader) : Calls Try.prog 35 #[.pointer p, .agg (headerA g)] W fun e w' => e = .returned (.tuple #[.agg (pointA zeroPt), .int .i64 1]) ∧ Below W.heap.size W w' := by
  have hB0 : Below W.heap.size W ((W.alloc (.cells (headerA g) 49)).alloc (.cells (pointA zeroPt) 26)) := by (repeat' (first | (with_reducible exact Below.refl _ _) | (with_reducible assumption) | (with_reducible refine bel_trans (by assumption) ?_ ?_) | (with_reducible refine bel_grown (by assumption) ?_ ?_ ?_) | (with_reducible refine Below.alloc ?_ ?_ _) | (with_reducible refine Below.drew ?_) | (with_reducible refine below_drewN ?_ _) | (with_reducible refine Below.setCell ?_ ?_ _) | (with_reducible refine below_put ?_ ?_ _ _) | (with_reducible exact Nat.le_refl _) | omega | (with_reducible refine Nat.le_trans ?_ (Below.size (by assumption))) | (with_reducible refine Nat.le_trans ?_ (World.grownBy.size (by assumption))) | (simp only [World.size_alloc, World.size_setCell, World.size_drew, size_drewN]; omega) | (simp only [World.size_alloc, World.size_setCell, World.size_drew, size_drewN, size_put]; omega) | (intro k hk; simp [Value.ownBlock] at hk; done) | (intro k hk; simp [Value.ownBlock] at hk; omega) | (simp [size_drewN] at *; omega)))
  have hz0 : ((W.alloc (.cells (headerA g) 49)).alloc (.cells (pointA zeroPt) 26)).heap.size = W.heap.size + 2 := by simp
  have hrow0 : row? ((W.alloc (.cells (headerA g) 49)).alloc (.cells (pointA zeroPt) 26)) W.heap.size 0 34 = some (headerA g) := by rw [row?_old _ _ _ _ _ (by simp), row?_new]; simp
  have hrow1 : row? ((W.alloc (.cells (headerA g) 49)).alloc (.cells (pointA zeroPt) 26)) (W.heap.size + 1) 0 33 = some (pointA zeroPt) := by rw [row?_new_at _ _ _ _ _ _ (by simp)]; simp
  have hth : there ((W.alloc (.cells (headerA g) 49)).alloc (.cells (pointA zeroPt) 26)) (W.heap.size + 1) 0 33 := there_new_at _ _ _ _ _ _ (by simp) (by simp)
  have HT := zcheck_c (h.keep hB0) g
  clear h
  go_enter Try.func35, Try.ntmps35
  go_upto_region 1 with fail
  generalize (W.alloc (.cells (headerA g) 49)).alloc (.cells (pointA zeroPt) 26) = w0 at *
  go_wp2_with fail
  refine HT.mono ?_
  clear HT
  rintro e w1 ⟨rfl, hb1⟩
  have hB1 := hB0.trans (hb1.mono (by omega))
  have hrow11 := (row?_below _ _ _ hb1 (by omega)).trans hrow1
  have hth1 := there_below hb1 (show W.heap.size + 1 < w0.heap.size by omega) hth
  have hz1 := hb1.size
  clear hb1 hB0 hrow0 hrow1 hth
  go_upto_region 2 with fail
  obtain ⟨w2, hw2, hrow2, -, hb2, hz2⟩ := box_row w1 (pointA zeroPt) (pointA zeroPt) 26 33 (by omega) (by simp) (by simp)
  rw [← hw2]
  have hB2 := hB1.trans (hb2.mono hB1.size)
  have hrow12 := (row?_below _ _ _ hb2 (show W.heap.size + 1 < w1.heap.size by omega)).trans hrow11
  have hth2 := there_below hb2 (show W.heap.size + 1 < w1.heap.size by omega) hth1
  clear hw2 hb2 hrow11 hth1
  go_wp2_with (with_reducible refine ret_row2 Try.isAgg26 Try.sizeOf26 chadd_res (x := .pointer (some ⟨W.heap.size + 1, 0, none⟩)) (y := .int .i64 1) (W.heap.size + 1) 0 ?rrhx (Eq.refl _) ?rrhy ?rrh ?rrhd ?rrhR; (case rrhx => simp only [Array.getD_eq_getD_getElem?, List.getElem?_toArray, List.getElem?_cons_succ, List.getElem?_cons_zero, Option.getD_some]); (case rrhy => simp only [Array.getD_eq_getD_getElem?, List.getElem?_toArray, List.getElem?_cons_succ, List.getElem?_cons_zero, Option.getD_some]); (case rrhd => exact rfl); (case rrh => go_simp); (case rrhR => ((refine ⟨?_, ?_⟩; (case refine_1 => (go_simp; done)); (case refine_2 => ((repeat' (first | (with_reducible exact Below.refl _ _) | (with_reducible assumption) | (with_reducible refine bel_trans (by assumption) ?_ ?_) | (with_reducible refine bel_grown (by assumption) ?_ ?_ ?_) | (with_reducible refine Below.alloc ?_ ?_ _) | (with_reducible refine Below.drew ?_) | (with_reducible refine below_drewN ?_ _) | (with_reducible refine Below.setCell ?_ ?_ _) | (with_reducible refine below_put ?_ ?_ _ _) | (with_reducible exact Nat.le_refl _) | omega | (with_reducible refine Nat.le_trans ?_ (Below.size (by assumption))) | (with_reducible refine Nat.le_trans ?_ (World.grownBy.size (by assumption))) | (simp only [World.size_alloc, World.size_setCell, World.size_drew, size_drewN]; omega) | (simp only [World.size_alloc, World.size_setCell, World.size_drew, size_drewN, size_put]; omega) | (intro k hk; simp [Value.ownBlock] at hk; done) | (intro k hk; simp [Value.ownBlock] at hk; omega) | (simp [size_drewN] at *; omega)))))))))
set_option maxRecDepth 100000 in
theorem zall_c : Calls Try.prog 59 #[.pointer p] W fun e w' => ∃ lb, e = .returned (.func (.func 128) #[] #[.pointer (some ⟨lb, 0, none⟩)]) ∧ w'.cell? ⟨lb, 0, none⟩ = some (.slice none 0 0) ∧ lb < w'.heap.size ∧ Below W.heap.size W w' := by
  have hB0 : Below W.heap.size W (W.alloc (.cells #[.slice none 0 0] 115)) := bel_a _ _
  have hz0 : (W.alloc (.cells #[.slice none 0 0] 115)).heap.size = W.heap.size + 1 := by simp
  have hc0 : (W.alloc (.cells #[.slice none 0 0] 115)).cell? ⟨W.heap.size, 0, none⟩ = some (.slice none 0 0) := by
    rw [cell_of_row _ _ _ _ _ _ (heap_alloc_new W _)]
    rfl
  have HT := zthere_c (h.keep hB0)
  clear h
  go_enter Try.func59, Try.ntmps59
  go_upto_region 2 with fail
  generalize W.alloc (.cells #[.slice none 0 0] 115) = w0 at *
  go_wp2_with fail
  refine HT.mono ?_
  clear HT
  rintro e w1 ⟨rfl, hb1⟩
  have hB1 := hB0.trans (hb1.mono (by omega))
  have hc1 := (hb1.cell (p := ⟨W.heap.size, 0, none⟩) (show W.heap.size < w0.heap.size by omega)).trans hc0
  have hz1 := hb1.size
  clear hb1 hB0 hc0
  go_wp2_with fail
  go_ret
  exact ⟨_, rfl, hc1, by omega, hB1⟩
end
end Go.Proofs.Ythdjhbiigmcecaa

/- The iterator of a chain without headers. -/
namespace Go.Proofs.Ythdjhbiigmcecaa
open Go.RowKit Go.Shelf
attribute [local go_sem] Oper.semAt_some

abbrev ItX := Int × GHeader
def itE (x : ItX) : Array Value := #[.int .i64 x.1, .agg (headerA x.2)]
set_option maxRecDepth 100000 in
theorem zall1_in (F : Fence) (n : Nat) (hF : F.fn 128) (hro : F.round = none) (l lb : Nat) (J : List ItX → World → Prop) (W : World) (hm : W.cell? ⟨lb, 0, none⟩ = some (.slice none 0 0)) (h0 : J [] W) :
    CallsIn F n Try.prog 128 #[.func (.yield l) #[] #[], .pointer (some ⟨lb, 0, none⟩)] W fun e W' => (∃ v, e = .returned v) ∧ ((∃ xs, xs = [] ∧ J xs W') ∨ (∃ pre : List ItX, False ∧ J pre W')) := by
  refine callsIn_of_wp Try.func128 rfl hF ?_ hro
  simp only [Try.ntmps128, List.size_toArray, List.length_cons, List.length_nil, Nat.reduceAdd, Nat.reduceSub, Array.replicate_succ, Array.replicate_zero, List.push_toArray, List.append_toArray, List.nil_append, List.cons_append]
  gi_wp2
  gi_loopw [7] (fun x wr => x = .int .i64 0 ∧ J [] wr) (fun _ _ => 0)
  case atStart => exact ⟨rfl, h0⟩
  case round =>
    obtain ⟨rfl, hJ⟩ := hrel
    gi_wp2
    go_end0
    exact ⟨⟨_, rfl⟩, .inl ⟨[], rfl, hJ⟩⟩
theorem zall_stops (F : Fence) (n : Nat) (hF : F.fn 128) (hro : F.round = none) (n0 lb : Nat) (w : World) (hlb : lb < w.heap.size) (hm : w.cell? ⟨lb, 0, none⟩ = some (.slice none 0 0)) :
    SeqStopsK F n Try.prog 128 #[.pointer (some ⟨lb, 0, none⟩)] itE (Below n0) (fun xs => xs = []) (fun _ => False) 0 w := fun l J Jx W hW hJ _ hY h0 =>
  (zall1_in F n hF hro l lb J W ((hW.cell (p := ⟨lb, 0, none⟩) hlb).trans hm) h0).mono fun e W' ⟨h1, h2⟩ => ⟨h1, h2.imp_right fun ⟨pre, hf, _⟩ => hf.elim⟩
end Go.Proofs.Ythdjhbiigmcecaa

/- The walk of ChainNil. -/
namespace Go.Proofs.Ythdjhbiigmcecaa
open Go.RowKit Go.Shelf

theorem run_bldPtZ2 (W : World) : (bldPt #[]).run Try.prog W = .ok (.agg (pointA zeroPt)) W := by
  unfold bldPt
  go_simp
theorem run_bldNmZ (W : World) : (bldNm #[]).run Try.prog W = .ok (.agg (hashA zeroHash)) W := by
  unfold bldNm
  go_simp
theorem run_bldHd1 (W : World) : (bldHd #[(1, .int .u64 1)]).run Try.prog W = .ok (.agg (headerA ⟨zeroHash, 1, ⟨none, 0, 0⟩⟩)) W := by
  unfold bldHd
  go_simp
  have h := hdr_set_ep10 ⟨zeroHash, 0, ⟨none, 0, 0⟩⟩ 1
  rw [show (.int .u64 ((1 : UInt64).toNat : Int) : Value) = .int .u64 1 from rfl] at h
  rw [h]
theorem run_eql_fn (W : World) (f : Fn) (xs ys : Array Value) : (binOp .eql 112 (.func f xs ys) Value.nilFunc).run Try.prog W = .ok (.bool false) W := by
  have h : ∀ d, (Op.equalIn (d + 1) 112 (.func f xs ys) .nilFunc).run Try.prog W = .ok false W := fun d => by
    simp [Op.equalIn, run_underlying Try.underlying112]
  simp only [binOp]
  simp [Op.equal, Op.maxDepth, h 9999]
attribute [local go_sem ↓] fold_bldNm fold_bldPt fold_bldHd
theorem nil_res : Try.f10.results = #[.cell 0 4] := by kernel_rfl
set_option maxRecDepth 100000 in
set_option maxHeartbeats 3200000 in
theorem nil_walk (w : World) : Calls Try.prog 10 #[] w fun e w' => e = .returned (.bool true) ∧ Below w.heap.size w w' := by
  have HK := fun W => known10_c W
  have hend := Lib.hid (show ∀ W, Below w.heap.size w W → Calls Try.prog 31 #[] W fun e w' => e = .returned (.bool true) ∧ Below w.heap.size w w' from fun W hW => (HK W).mono fun e w' ⟨h1, h2⟩ => ⟨h1, hW.trans (h2.mono hW.size)⟩)
  clear HK
  refine callsIn_wide.1 (callsIn_of_wp_marks (n := 10) Try.func10 rfl trivial ?_ rfl)
  simp only [Try.ntmps10, List.size_toArray, List.length_cons, List.length_nil, Nat.reduceAdd, Nat.reduceSub, Array.size_empty, Nat.sub_zero, Array.empty_append, Array.replicate_succ, Array.replicate_zero, List.push_toArray, List.append_toArray, List.nil_append, List.cons_append]
  refine wpIn_wide.2 ?_
  go_upto_region 2 with fail
  obtain ⟨w1, hw1⟩ : ∃ W, W = (w.alloc (.cells #[.bool false] 4)).alloc (.cells #[.slice none 0 0, .map none] 118) := ⟨_, rfl⟩
  have hB1 : Below w.heap.size w w1 := by rw [hw1]; (repeat' (first | (with_reducible exact Below.refl _ _) | (with_reducible assumption) | (with_reducible refine bel_trans (by assumption) ?_ ?_) | (with_reducible refine bel_grown (by assumption) ?_ ?_ ?_) | (with_reducible refine Below.alloc ?_ ?_ _) | (with_reducible refine Below.drew ?_) | (with_reducible refine below_drewN ?_ _) | (with_reducible refine Below.setCell ?_ ?_ _) | (with_reducible refine below_put ?_ ?_ _ _) | (with_reducible exact Nat.le_refl _) | omega | (with_reducible refine Nat.le_trans ?_ (Below.size (by assumption))) | (with_reducible refine Nat.le_trans ?_ (World.grownBy.size (by assumption))) | (simp only [World.size_alloc, World.size_setCell, World.size_drew, size_drewN]; omega) | (simp only [World.size_alloc, World.size_setCell, World.size_drew, size_drewN, size_put]; omega) | (intro k hk; simp [Value.ownBlock] at hk; done) | (intro k hk; simp [Value.ownBlock] at hk; omega) | (simp [size_drewN] at *; omega)))
  have hz1 : w1.heap.size = w.heap.size + 2 := by rw [hw1]; simp
  have hc0 : w1.cell? ⟨w.heap.size, 0, none⟩ = some (.bool false) := by
    rw [hw1, World.cell?_alloc_lt _ _ _ (by simp), cell_of_row _ _ _ _ _ _ (heap_alloc_new w _)]
    rfl
  have hf0 : w1.frozen? ⟨w.heap.size, 0, none⟩ = false := by
    rw [hw1, World.frozen?_of_block (Below.heap_alloc _ _ _ (by simp))]
    exact frozen_of_row _ _ _ _ _ (heap_alloc_new w _)
  have hcz : w1.cell? ⟨w.heap.size + 1, 0, none⟩ = some (.slice none 0 0) := by
    have h := heap_alloc_new (w.alloc (.cells #[.bool false] 4)) (.cells #[.slice none 0 0, .map none] 118)
    rw [show (w.alloc (.cells #[.bool false] 4)).heap.size = w.heap.size + 1 by simp, ← hw1] at h
    rw [cell_of_row _ _ _ _ _ _ h]
    rfl
  obtain ⟨b0, hb0⟩ : ∃ b, b = w.heap.size := ⟨_, rfl⟩
  obtain ⟨zb, hzb⟩ : ∃ b, b = w.heap.size + 1 := ⟨_, rfl⟩
  rw [← hw1, ← hzb, ← hb0]
  rw [← hb0] at hc0 hf0
  rw [← hzb] at hcz
  have hl0 : b0 < w1.heap.size := by omega
  have hlz : zb < w1.heap.size := by omega
  replace hb0 := Lib.hid hb0
  replace hzb := Lib.hid hzb
  replace hz1 := Lib.hid hz1
  clear hw1
  go_upto_region 4 with fail
  obtain ⟨w2, hw2⟩ : ∃ W, W = w1.alloc (.cells #[.pointer none, .pointer (some ⟨zb, 0, none⟩)] 60) := ⟨_, rfl⟩
  rw [← hw2]
  have hb12 : Below w1.heap.size w1 w2 := by rw [hw2]; exact bel_a _ _
  have hB2 := Lib.hid (hB1.trans (hb12.mono hB1.size))
  have hz2 : w2.heap.size = w1.heap.size + 1 := by rw [hw2]; simp
  have hs0 : w2.cell? ⟨w1.heap.size, 0, none⟩ = some (.pointer none) := by rw [hw2, cell_of_row _ _ _ _ _ _ (heap_alloc_new w1 _)]; rfl
  have hs1 : w2.cell? ⟨w1.heap.size, 1, none⟩ = some (.pointer (some ⟨zb, 0, none⟩)) := by rw [hw2, cell_of_row _ _ _ _ _ _ (heap_alloc_new w1 _)]; rfl
  obtain ⟨sb, hsb⟩ : ∃ b, b = w1.heap.size := ⟨_, rfl⟩
  rw [← hsb] at hs0 hs1 ⊢
  have hls : sb < w2.heap.size := by omega
  have hF := Lib.hid (show ∀ W, Below w2.heap.size w2 W → ZeroCh W none ∧ ZeroCh W (some ⟨zb, 0, none⟩) ∧ W.cell? ⟨sb, 0, none⟩ = some (.pointer none) ∧ W.cell? ⟨sb, 1, none⟩ = some (.pointer (some ⟨zb, 0, none⟩)) ∧ W.cell? ⟨b0, 0, none⟩ = some (.bool false) ∧ W.frozen? ⟨b0, 0, none⟩ = false from fun W hb => by
    have hbW : Below w1.heap.size w1 W := hb12.trans (hb.mono hb12.size)
    exact ⟨.inl rfl, .inr ⟨zb, rfl, (hbW.cell (p := ⟨zb, 0, none⟩) hlz).trans hcz, Nat.lt_of_lt_of_le hlz hbW.size⟩, (hb.cell (p := ⟨sb, 0, none⟩) hls).trans hs0, (hb.cell (p := ⟨sb, 1, none⟩) hls).trans hs1, (hbW.cell (p := ⟨b0, 0, none⟩) hl0).trans hc0, (World.frozen?_of_block (a := ⟨b0, 0, none⟩) (hbW.block b0 hl0)).trans hf0⟩)
  have hb02 : b0 < w2.heap.size := by omega
  replace hsb := Lib.hid hsb
  replace hz2 := Lib.hid hz2
  have hR2 := Lib.hid (Below.refl w2.heap.size w2)
  have hbh := run_bldHd1
  have hbn := run_bldNmZ
  have hbp := run_bldPtZ2
  clear hw2 hB1 hc0 hf0 hcz hb12
  refine wp_loop_rounds 3 ?_
  rw [rounds_succ]
  have hZ1 := Lib.hid (fun W (hb : Below w2.heap.size w2 W) => ((hF.out W (hR2.out.trans (hb.mono hR2.out.size))).1))
  have HA := zadd_c (hZ1.out w2 (Below.refl _ _)) ⟨zeroHash, 1, ⟨none, 0, 0⟩⟩
  go_wp2_with fail
  (with_reducible refine HA.mono ?_)
  clear HA
  rintro e wa ⟨rfl, hba⟩
  go_upto_region 8 with fail
  obtain ⟨wb, hwb, -, -, hbb, -⟩ := box_row wa (pointA zeroPt) (pointA zeroPt) 26 33 (by omega) (by simp) (by simp)
  rw [← hwb]
  clear hwb
  have hB11 := Lib.hid (hba.trans (hbb.mono hba.size))
  have HC := zcheck_c (hZ1.out wb hB11.out) ⟨zeroHash, 1, ⟨none, 0, 0⟩⟩
  clear hba hbb
  go_wp2_with fail
  (with_reducible refine HC.mono ?_)
  clear HC
  rintro e wc ⟨rfl, hba⟩
  go_upto_region 9 with fail
  obtain ⟨wd, hwb, -, -, hbb, -⟩ := box_row wc (pointA zeroPt) (pointA zeroPt) 26 33 (by omega) (by simp) (by simp)
  rw [← hwb]
  clear hwb
  have hB12 := Lib.hid (hB11.out.trans ((hba.trans (hbb.mono hba.size)).mono hB11.out.size))
  have HE := zepoch_c (hZ1.out wd hB12.out) zeroHash
  clear hba hbb
  go_wp2_with fail
  (with_reducible refine HE.mono ?_)
  clear HE
  rintro e we ⟨rfl, hba⟩
  have hB13 := Lib.hid (hB12.out.trans (hba.mono hB12.out.size))
  have HP := zpath_c (hZ1.out we hB13.out) zeroHash
  clear hba
  go_wp2_with fail
  (with_reducible refine HP.mono ?_)
  clear HP
  rintro e wf ⟨rfl, hba⟩
  have hB14 := Lib.hid (hB13.out.trans (hba.mono hB13.out.size))
  have HL := zall_c (hZ1.out wf hB14.out)
  clear hba
  go_wp2_with fail
  (with_reducible refine HL.mono ?_)
  clear HL
  rintro e wg ⟨lb1, rfl, hlc1, hll1, hba⟩
  have hB15 := Lib.hid (hB14.out.trans (hba.mono hB14.out.size))
  have hz1 := Lib.hid (hZ1.out wg hB15.out)
  clear hba
  have HX := zanchor_c (hZ1.out wg hB15.out)
  go_wp2_with fail
  (with_reducible refine HX.mono ?_)
  clear HX
  rintro e wh ⟨rfl, hba⟩
  have hB16 := Lib.hid (hB15.out.trans (hba.mono hB15.out.size))
  have hlc1 := (hba.cell (p := ⟨lb1, 0, none⟩) hll1).trans hlc1
  have hll1 : lb1 < wh.heap.size := Nat.lt_of_lt_of_le hll1 hba.size
  clear hba
  generalize wh = wg at *
  have HX := zknows_c (hZ1.out wg hB16.out) zeroPt
  go_wp2_with fail
  (with_reducible refine HX.mono ?_)
  clear HX
  rintro e wh ⟨rfl, hba⟩
  have hB17 := Lib.hid (hB16.out.trans (hba.mono hB16.out.size))
  have hlc1 := (hba.cell (p := ⟨lb1, 0, none⟩) hll1).trans hlc1
  have hll1 : lb1 < wh.heap.size := Nat.lt_of_lt_of_le hll1 hba.size
  clear hba
  generalize wh = wg at *
  have HX := zunder_c (hZ1.out wg hB17.out) zeroHash zeroHash
  go_wp2_with fail
  (with_reducible refine HX.mono ?_)
  clear HX
  rintro e wh ⟨rfl, hba⟩
  have hB18 := Lib.hid (hB17.out.trans (hba.mono hB17.out.size))
  have hlc1 := (hba.cell (p := ⟨lb1, 0, none⟩) hll1).trans hlc1
  have hll1 : lb1 < wh.heap.size := Nat.lt_of_lt_of_le hll1 hba.size
  clear hba
  generalize wh = wg at *
  have HX := ztips_c (hZ1.out wg hB18.out)
  go_wp2_with fail
  (with_reducible refine HX.mono ?_)
  clear HX
  rintro e wh ⟨rfl, hba⟩
  have hB19 := Lib.hid (hB18.out.trans (hba.mono hB18.out.size))
  have hlc1 := (hba.cell (p := ⟨lb1, 0, none⟩) hll1).trans hlc1
  have hll1 : lb1 < wh.heap.size := Nat.lt_of_lt_of_le hll1 hba.size
  clear hba
  generalize wh = wg at *
  have HX := zchildren_c (hZ1.out wg hB19.out) zeroHash
  go_wp2_with fail
  (with_reducible refine HX.mono ?_)
  clear HX
  rintro e wh ⟨rfl, hba⟩
  have hB110 := Lib.hid (hB19.out.trans (hba.mono hB19.out.size))
  have hlc1 := (hba.cell (p := ⟨lb1, 0, none⟩) hll1).trans hlc1
  have hll1 : lb1 < wh.heap.size := Nat.lt_of_lt_of_le hll1 hba.size
  clear hba
  generalize wh = wg at *
  have HX := zlen_c (hZ1.out wg hB110.out)
  go_wp2_with fail
  (with_reducible refine HX.mono ?_)
  clear HX
  rintro e wh ⟨rfl, hba⟩
  have hB111 := Lib.hid (hB110.out.trans (hba.mono hB110.out.size))
  have hlc1 := (hba.cell (p := ⟨lb1, 0, none⟩) hll1).trans hlc1
  have hll1 : lb1 < wh.heap.size := Nat.lt_of_lt_of_le hll1 hba.size
  clear hba
  generalize wh = wg at *
  have HX := zcopy_c (hZ1.out wg hB111.out)
  go_wp2_with fail
  (with_reducible refine HX.mono ?_)
  clear HX
  rintro e wh ⟨rfl, hba⟩
  have hB112 := Lib.hid (hB111.out.trans (hba.mono hB111.out.size))
  have hlc1 := (hba.cell (p := ⟨lb1, 0, none⟩) hll1).trans hlc1
  have hll1 : lb1 < wh.heap.size := Nat.lt_of_lt_of_le hll1 hba.size
  clear hba
  generalize wh = wg at *
  have hfe := run_eql_fn
  go_wp2_with fail
  clear hfe
  refine (wpIn_wide (n := 10)).1 ?_
  refine wpIn_rangeFunc_ownH rfl (by omega) (gf := 128) (lb := #[.pointer (some ⟨lb1, 0, none⟩)]) rfl trivial (enters_of Try.func128 (by kernel_rfl) rfl) (zall_stops Fence.wide (10 - 1) trivial rfl wg.heap.size lb1 wg hll1 hlc1) belowK_t (belowK_b (Nat.le_refl _)) (Below.refl _ _) (fun _ => rfl) (fun _ W => Below wg.heap.size wg W) (fun _ _ _ => False) (ownFrom_below (Nat.le_refl _) (Nat.le_refl _)) (fun _ _ _ _ _ hs _ _ => hs.elim) (Below.refl _ _) (fun _ _ _ => True) (fun _ _ _ _ _ _ _ _ _ => trivial) ?assign1 ?body1 ?done1 ?stop1
  case assign1 =>
    intro l pre x W K hi hK
    gi_wp2
    exact hK _ _ (KeepsFrom.refl _ _) (Below.refl _ _) hi trivial
  case body1 => exact fun _ _ _ _ _ _ _ _ _ hlt => absurd hlt (Nat.not_lt_zero _)
  case stop1 => exact fun _ _ _ _ _ _ h _ => h.elim
  case done1 =>
    rintro D1 xs W hD1 - hi hK1
    have hR3 := Lib.hid (hB112.out.trans (hi.mono hB112.out.size))
    have hD1l : D1 < W.heap.size := (Array.getElem?_eq_some_iff.1 hK1).1
    have hK1' := Lib.hid hK1
    obtain ⟨-, -, -, hs1W, -, -⟩ := hF.out W hR3.out
    clear hlc1 hll1 hi hK1
    generalize W = w3 at *
    go_wp2_with fail
    rw [rounds_succ]
    have hZ2 := Lib.hid (fun W (hb : Below w3.heap.size w3 W) => ((hF.out W (hR3.out.trans (hb.mono hR3.out.size))).2.1))
    have HA := zadd_c (hZ2.out w3 (Below.refl _ _)) ⟨zeroHash, 1, ⟨none, 0, 0⟩⟩
    go_wp2_with fail
    (with_reducible refine HA.mono ?_)
    clear HA
    rintro e wa ⟨rfl, hba⟩
    go_upto_region 8 with fail
    obtain ⟨wb, hwb, -, -, hbb, -⟩ := box_row wa (pointA zeroPt) (pointA zeroPt) 26 33 (by omega) (by simp) (by simp)
    rw [← hwb]
    clear hwb
    have hB21 := Lib.hid (hba.trans (hbb.mono hba.size))
    have HC := zcheck_c (hZ2.out wb hB21.out) ⟨zeroHash, 1, ⟨none, 0, 0⟩⟩
    clear hba hbb
    go_wp2_with fail
    (with_reducible refine HC.mono ?_)
    clear HC
    rintro e wc ⟨rfl, hba⟩
    go_upto_region 9 with fail
    obtain ⟨wd, hwb, -, -, hbb, -⟩ := box_row wc (pointA zeroPt) (pointA zeroPt) 26 33 (by omega) (by simp) (by simp)
    rw [← hwb]
    clear hwb
    have hB22 := Lib.hid (hB21.out.trans ((hba.trans (hbb.mono hba.size)).mono hB21.out.size))
    have HE := zepoch_c (hZ2.out wd hB22.out) zeroHash
    clear hba hbb
    go_wp2_with fail
    (with_reducible refine HE.mono ?_)
    clear HE
    rintro e we ⟨rfl, hba⟩
    have hB23 := Lib.hid (hB22.out.trans (hba.mono hB22.out.size))
    have HP := zpath_c (hZ2.out we hB23.out) zeroHash
    clear hba
    go_wp2_with fail
    (with_reducible refine HP.mono ?_)
    clear HP
    rintro e wf ⟨rfl, hba⟩
    have hB24 := Lib.hid (hB23.out.trans (hba.mono hB23.out.size))
    have HL := zall_c (hZ2.out wf hB24.out)
    clear hba
    go_wp2_with fail
    (with_reducible refine HL.mono ?_)
    clear HL
    rintro e wg ⟨lb2, rfl, hlc2, hll2, hba⟩
    have hB25 := Lib.hid (hB24.out.trans (hba.mono hB24.out.size))
    have hz12 := Lib.hid (hZ2.out wg hB25.out)
    clear hba
    have HX := zanchor_c (hZ2.out wg hB25.out)
    go_wp2_with fail
    (with_reducible refine HX.mono ?_)
    clear HX
    rintro e wh ⟨rfl, hba⟩
    have hB26 := Lib.hid (hB25.out.trans (hba.mono hB25.out.size))
    have hlc2 := (hba.cell (p := ⟨lb2, 0, none⟩) hll2).trans hlc2
    have hll2 : lb2 < wh.heap.size := Nat.lt_of_lt_of_le hll2 hba.size
    clear hba
    generalize wh = wg at *
    have HX := zknows_c (hZ2.out wg hB26.out) zeroPt
    go_wp2_with fail
    (with_reducible refine HX.mono ?_)
    clear HX
    rintro e wh ⟨rfl, hba⟩
    have hB27 := Lib.hid (hB26.out.trans (hba.mono hB26.out.size))
    have hlc2 := (hba.cell (p := ⟨lb2, 0, none⟩) hll2).trans hlc2
    have hll2 : lb2 < wh.heap.size := Nat.lt_of_lt_of_le hll2 hba.size
    clear hba
    generalize wh = wg at *
    have HX := zunder_c (hZ2.out wg hB27.out) zeroHash zeroHash
    go_wp2_with fail
    (with_reducible refine HX.mono ?_)
    clear HX
    rintro e wh ⟨rfl, hba⟩
    have hB28 := Lib.hid (hB27.out.trans (hba.mono hB27.out.size))
    have hlc2 := (hba.cell (p := ⟨lb2, 0, none⟩) hll2).trans hlc2
    have hll2 : lb2 < wh.heap.size := Nat.lt_of_lt_of_le hll2 hba.size
    clear hba
    generalize wh = wg at *
    have HX := ztips_c (hZ2.out wg hB28.out)
    go_wp2_with fail
    (with_reducible refine HX.mono ?_)
    clear HX
    rintro e wh ⟨rfl, hba⟩
    have hB29 := Lib.hid (hB28.out.trans (hba.mono hB28.out.size))
    have hlc2 := (hba.cell (p := ⟨lb2, 0, none⟩) hll2).trans hlc2
    have hll2 : lb2 < wh.heap.size := Nat.lt_of_lt_of_le hll2 hba.size
    clear hba
    generalize wh = wg at *
    have HX := zchildren_c (hZ2.out wg hB29.out) zeroHash
    go_wp2_with fail
    (with_reducible refine HX.mono ?_)
    clear HX
    rintro e wh ⟨rfl, hba⟩
    have hB210 := Lib.hid (hB29.out.trans (hba.mono hB29.out.size))
    have hlc2 := (hba.cell (p := ⟨lb2, 0, none⟩) hll2).trans hlc2
    have hll2 : lb2 < wh.heap.size := Nat.lt_of_lt_of_le hll2 hba.size
    clear hba
    generalize wh = wg at *
    have HX := zlen_c (hZ2.out wg hB210.out)
    go_wp2_with fail
    (with_reducible refine HX.mono ?_)
    clear HX
    rintro e wh ⟨rfl, hba⟩
    have hB211 := Lib.hid (hB210.out.trans (hba.mono hB210.out.size))
    have hlc2 := (hba.cell (p := ⟨lb2, 0, none⟩) hll2).trans hlc2
    have hll2 : lb2 < wh.heap.size := Nat.lt_of_lt_of_le hll2 hba.size
    clear hba
    generalize wh = wg at *
    have HX := zcopy_c (hZ2.out wg hB211.out)
    go_wp2_with fail
    (with_reducible refine HX.mono ?_)
    clear HX
    rintro e wh ⟨rfl, hba⟩
    have hB212 := Lib.hid (hB211.out.trans (hba.mono hB211.out.size))
    have hlc2 := (hba.cell (p := ⟨lb2, 0, none⟩) hll2).trans hlc2
    have hll2 : lb2 < wh.heap.size := Nat.lt_of_lt_of_le hll2 hba.size
    clear hba
    generalize wh = wg at *
    have hfe := run_eql_fn
    go_wp2_with fail
    clear hfe
    refine (wpIn_wide (n := 10)).1 ?_
    refine wpIn_rangeFunc_ownH rfl (by omega) (gf := 128) (lb := #[.pointer (some ⟨lb2, 0, none⟩)]) rfl trivial (enters_of Try.func128 (by kernel_rfl) rfl) (zall_stops Fence.wide (10 - 1) trivial rfl wg.heap.size lb2 wg hll2 hlc2) belowK_t (belowK_b (Nat.le_refl _)) (Below.refl _ _) (fun _ => rfl) (fun _ W => Below wg.heap.size wg W) (fun _ _ _ => False) (ownFrom_below (Nat.le_refl _) (Nat.le_refl _)) (fun _ _ _ _ _ hs _ _ => hs.elim) (Below.refl _ _) (fun _ _ _ => True) (fun _ _ _ _ _ _ _ _ _ => trivial) ?assign2 ?body2 ?done2 ?stop2
    case assign2 =>
      intro l pre x W K hi hK
      gi_wp2
      exact hK _ _ (KeepsFrom.refl _ _) (Below.refl _ _) hi trivial
    case body2 => exact fun _ _ _ _ _ _ _ _ _ hlt => absurd hlt (Nat.not_lt_zero _)
    case stop2 => exact fun _ _ _ _ _ _ h _ => h.elim
    case done2 =>
      rintro D2 xs W hD2 - hi hK2
      have hR4 := Lib.hid (hB212.out.trans (hi.mono hB212.out.size))
      have hD2l : D2 < W.heap.size := (Array.getElem?_eq_some_iff.1 hK2).1
      have hK12 := Lib.hid ((hR4.out.block D1 hD1l).trans hK1'.out)
      have hK2' := Lib.hid hK2
      have hR24 := Lib.hid (hR3.out.trans (hR4.out.mono hR3.out.size))
      clear hlc2 hll2 hi hK2
      generalize W = w4 at *
      have HE := known10_c w4
      go_wp2_with fail
      rw [rounds_succ]
      go_wp2_with fail
      (with_reducible refine HE.mono ?_)
      clear HE
      rintro e w5 ⟨rfl, hb5⟩
      have hR5 := Lib.hid (hR24.out.trans (hb5.mono hR24.out.size))
      obtain ⟨-, -, -, -, c0, f0⟩ := hF.out w5 hR5.out
      have hK15 := Lib.hid ((hb5.block D1 (Nat.lt_of_lt_of_le hD1l hR4.out.size)).trans hK12.out)
      have hK25 := Lib.hid ((hb5.block D2 hD2l).trans hK2'.out)
      have hB5 := Lib.hid (hB2.out.trans (hR5.out.mono hB2.out.size))
      clear hb5
      go_wp2_with fail
      have hsz1 := hB112.out.size
      have hsz2 := hB212.out.size
      have hsz3 := hB2.out.size
      have n2 : D2 ≠ b0 := by omega
      have n1 : D1 ≠ b0 := by omega
      have n12 : D1 ≠ D2 := by omega
      have hb0w : w.heap.size ≤ b0 := Nat.le_of_eq hb0.out.symm
      have hD1w : w.heap.size ≤ D1 := by omega
      have hD2w : w.heap.size ≤ D2 := by omega
      have hK26 : (w5.setCell ⟨b0, 0, none⟩ (.bool true)).heap[D2]? = some (.deferred (some [])) := (Below.heap_setCell _ _ _ _ n2).trans hK25.out
      have hK16 : (w5.setCell ⟨b0, 0, none⟩ (.bool true)).heap[D1]? = some (.deferred (some [])) := (Below.heap_setCell _ _ _ _ n1).trans hK15.out
      have c6 : (w5.setCell ⟨b0, 0, none⟩ (.bool true)).cell? ⟨b0, 0, none⟩ = some (.bool true) := World.cell?_setCell_same _ _ _ c0
      have hB6 : Below w.heap.size w (w5.setCell ⟨b0, 0, none⟩ (.bool true)) := hB5.out.setCell (p := ⟨b0, 0, none⟩) hb0w _
      generalize w5.setCell ⟨b0, 0, none⟩ (.bool true) = w6 at *
      refine ⟨by simp, .inl ⟨_, _, rfl, run_takeDeferred hK26, ?_⟩⟩
      have hK17 : (w6.putObj D2 (.deferred none)).heap[D1]? = some (.deferred (some [])) := (World.putObj_heap_other n12).trans hK16
      refine ⟨by simp, .inl ⟨_, _, rfl, run_takeDeferred hK17, ?_⟩⟩
      have c8 : ((w6.putObj D2 (.deferred none)).putObj D1 (.deferred none)).cell? ⟨b0, 0, none⟩ = some (.bool true) := by
        rw [World.cell?_of_block (a := ⟨b0, 0, none⟩) (World.putObj_heap_other (Ne.symm n1)), World.cell?_of_block (a := ⟨b0, 0, none⟩) (World.putObj_heap_other (Ne.symm n2))]
        exact c6
      refine ⟨.bool true, ?_, rfl, (hB6.trans (belowK_b (Nat.le_refl _) w6 D2 _ _ hD2w hK26 rfl rfl)).trans (belowK_b (Nat.le_refl _) _ D1 _ _ hD1w hK17 rfl rfl)⟩
      generalize (w6.putObj D2 (.deferred none)).putObj D1 (.deferred none) = w8 at *
      unfold results
      rw [nil_res]
      go_simp
end Go.Proofs.Ythdjhbiigmcecaa
