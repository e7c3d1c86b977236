/- The walk of FfgNil: gadgets that are not there. -/
import Derived.Test.YtlkflddjpkhndaaKnown13
namespace Go.Proofs.Ytlkflddjpkhndaa
open Go.RowKit

/-- V is the nil pointer, or points to a zero gadget -/
def Zr (V : Value) (W : World) : Prop := V = .pointer none ∨ ∃ z, V = .pointer (some ⟨z, 0, none⟩) ∧ W.cell? ⟨z, 1, none⟩ = some (.map none)
theorem Zr.keep {V : Value} {W W' : World} (h : Zr V W) (hb : Below W.heap.size W W') : Zr V W' := by
  rcases h with h | ⟨z, h, hc⟩
  · exact .inl h
  · exact .inr ⟨z, h, (hb.cell (p := ⟨z, 1, none⟩) (lt_of_cell hc)).trans hc⟩
theorem nil_there {V : Value} {W : World} (h : Zr V W) : Calls Try.prog 71 #[V] W fun e w' => e = .returned (.bool false) ∧ w' = W := by
  rcases h with rfl | ⟨z, rfl, hc⟩
  · exact (there_none W).mono fun e w' h => ⟨h.1, h.2.symm⟩
  · exact (there_zero z W hc).mono fun e w' h => ⟨h.1, h.2.symm⟩
set_option maxRecDepth 100000 in
theorem nil_strong (x : Lnk) {V : Value} {W : World} (h : Zr V W) : Calls Try.prog 23 #[V, .agg (linkA x)] W fun e w' => e = .returned (.int .i64 1) ∧ Below W.heap.size W w' := by
  have HT := nil_there (h.keep (bel_a W (.cells (linkA x) 28)))
  clear h
  go_enter Try.func23, Try.ntmps23
  go_wp2_with fail
  refine HT.mono ?_
  rintro e w' ⟨rfl, hw⟩
  subst hw
  go_wp2_with fail
  go_ret
  exact ⟨rfl, bel_a W _⟩
set_option maxRecDepth 100000 in
theorem nil_justified (p : Pt) {V : Value} {W : World} (h : Zr V W) : Calls Try.prog 24 #[V, .agg (pointA p)] W fun e w' => e = .returned (.bool false) ∧ Below W.heap.size W w' := by
  have HT := fun n => nil_there ((h.keep (bel_a W (.cells (pointA p) 26))).keep (below_drewN (Below.refl _ _) n))
  clear h
  go_enter Try.func24, Try.ntmps24
  go_wp2_with fail
  go_quiet ((go_at_call 71; exact Calls.quiet_of_same (HT _)))
  go_wp2_with fail
  go_ret
  exact ⟨rfl, by (repeat' (first | (with_reducible exact Below.refl _ _) | (with_reducible assumption) | (with_reducible refine bel_trans (by assumption) ?_ ?_) | (with_reducible refine bel_grown (by assumption) ?_ ?_ ?_) | (with_reducible refine Below.alloc ?_ ?_ _) | (with_reducible refine Below.drew ?_) | (with_reducible refine below_drewN ?_ _) | (with_reducible refine Below.setCell ?_ ?_ _) | (with_reducible refine below_put ?_ ?_ _ _) | (with_reducible exact Nat.le_refl _) | omega | (with_reducible refine Nat.le_trans ?_ (Below.size (by assumption))) | (with_reducible refine Nat.le_trans ?_ (World.grownBy.size (by assumption))) | (simp only [World.size_alloc, World.size_setCell, World.size_drew, size_drewN]; omega) | (simp only [World.size_alloc, World.size_setCell, World.size_drew, size_drewN, size_put]; omega) | (intro k hk; simp [Value.ownBlock] at hk; done) | (intro k hk; simp [Value.ownBlock] at hk; omega) | (simp [size_drewN] at *; omega)))⟩
set_option maxRecDepth 100000 in
theorem nil_final (p : Pt) {V : Value} {W : World} (h : Zr V W) : Calls Try.prog 25 #[V, .agg (pointA p)] W fun e w' => e = .returned (.bool false) ∧ Below W.heap.size W w' := by
  have HT := fun n => nil_there ((h.keep (bel_a W (.cells (pointA p) 26))).keep (below_drewN (Below.refl _ _) n))
  clear h
  go_enter Try.func25, Try.ntmps25
  go_wp2_with fail
  go_quiet ((go_at_call 71; exact Calls.quiet_of_same (HT _)))
  go_wp2_with fail
  go_ret
  exact ⟨rfl, by (repeat' (first | (with_reducible exact Below.refl _ _) | (with_reducible assumption) | (with_reducible refine bel_trans (by assumption) ?_ ?_) | (with_reducible refine bel_grown (by assumption) ?_ ?_ ?_) | (with_reducible refine Below.alloc ?_ ?_ _) | (with_reducible refine Below.drew ?_) | (with_reducible refine below_drewN ?_ _) | (with_reducible refine Below.setCell ?_ ?_ _) | (with_reducible refine below_put ?_ ?_ _ _) | (with_reducible exact Nat.le_refl _) | omega | (with_reducible refine Nat.le_trans ?_ (Below.size (by assumption))) | (with_reducible refine Nat.le_trans ?_ (World.grownBy.size (by assumption))) | (simp only [World.size_alloc, World.size_setCell, World.size_drew, size_drewN]; omega) | (simp only [World.size_alloc, World.size_setCell, World.size_drew, size_drewN, size_put]; omega) | (intro k hk; simp [Value.ownBlock] at hk; done) | (intro k hk; simp [Value.ownBlock] at hk; omega) | (simp [size_drewN] at *; omega)))⟩
theorem nil_allJ {V : Value} {W : World} (h : Zr V W) : Calls Try.prog 30 #[V] W fun e w' => e = .returned (.slice none 0 0) ∧ w' = W := by
  have HT := nil_there h
  clear h
  go_enter Try.func30, Try.ntmps30
  go_wp2_with (go_at_call 71; refine HT.mono ?_; rintro e w' ⟨rfl, rfl⟩)
  go_ret
  exact ⟨rfl, rfl⟩
theorem nil_allF {V : Value} {W : World} (h : Zr V W) : Calls Try.prog 31 #[V] W fun e w' => e = .returned (.slice none 0 0) ∧ w' = W := by
  have HT := nil_there h
  clear h
  go_enter Try.func31, Try.ntmps31
  go_wp2_with (go_at_call 71; refine HT.mono ?_; rintro e w' ⟨rfl, rfl⟩)
  go_ret
  exact ⟨rfl, rfl⟩
theorem nil_links {V : Value} {W : World} (h : Zr V W) : Calls Try.prog 33 #[V] W fun e w' => e = .returned (.slice none 0 0) ∧ w' = W := by
  have HT := nil_there h
  clear h
  go_enter Try.func33, Try.ntmps33
  go_wp2_with (go_at_call 71; refine HT.mono ?_; rintro e w' ⟨rfl, rfl⟩)
  go_ret
  exact ⟨rfl, rfl⟩
theorem nil_copy {V : Value} {W : World} (h : Zr V W) : Calls Try.prog 36 #[V] W fun e w' => e = .returned (.pointer none) ∧ w' = W := by
  have HT := nil_there h
  clear h
  go_enter Try.func36, Try.ntmps36
  go_wp2_with (go_at_call 71; refine HT.mono ?_; rintro e w' ⟨rfl, rfl⟩)
  go_ret
  exact ⟨rfl, rfl⟩
set_option maxRecDepth 100000 in
theorem last_nil (W : World) : Calls Try.prog 74 #[.slice none 0 0] W fun e w' => e = .returned (.agg (pointA zeroPt)) ∧ Below W.heap.size W w' := by
  go_enter Try.func74, Try.ntmps74
  go_wp2_with (with_reducible refine ret_row Try.isAgg26 Try.sizeOf26 last_res (x := .pointer (some ⟨W.heap.size, 0, none⟩)) (W.heap.size) 0 ?rrhx (Eq.refl _) ?rrh ?rrhd ?rrhR; (case rrhx => simp only [Array.getD_eq_getD_getElem?, List.getElem?_toArray, List.getElem?_cons_succ, List.getElem?_cons_zero, Option.getD_some]); (case rrhd => exact rfl); (case rrh => go_simp); (case rrhR => (exact ⟨(by go_simp), (by (repeat' (first | (with_reducible exact Below.refl _ _) | (with_reducible assumption) | (with_reducible refine bel_trans (by assumption) ?_ ?_) | (with_reducible refine bel_grown (by assumption) ?_ ?_ ?_) | (with_reducible refine Below.alloc ?_ ?_ _) | (with_reducible refine Below.drew ?_) | (with_reducible refine below_drewN ?_ _) | (with_reducible refine Below.setCell ?_ ?_ _) | (with_reducible refine below_put ?_ ?_ _ _) | (with_reducible exact Nat.le_refl _) | omega | (with_reducible refine Nat.le_trans ?_ (Below.size (by assumption))) | (with_reducible refine Nat.le_trans ?_ (World.grownBy.size (by assumption))) | (simp only [World.size_alloc, World.size_setCell, World.size_drew, size_drewN]; omega) | (simp only [World.size_alloc, World.size_setCell, World.size_drew, size_drewN, size_put]; omega) | (intro k hk; simp [Value.ownBlock] at hk; done) | (intro k hk; simp [Value.ownBlock] at hk; omega) | (simp [size_drewN] at *; omega))))⟩)))
set_option maxRecDepth 100000 in
set_option maxHeartbeats 800000 in
theorem nil_best {V : Value} {W : World} (h : Zr V W) : Calls Try.prog 32 #[V] W fun e w' => e = .returned (.agg (pointA zeroPt)) ∧ Below W.heap.size W w' := by
  have HA := nil_allF (h.keep (bel_a W (.cells (pointA zeroPt) 26)))
  have HL := last_nil (W.alloc (.cells (pointA zeroPt) 26))
  clear h
  go_enter Try.func32, Try.ntmps32
  go_wp2_with (go_at_call 31; refine HA.mono ?_; rintro e w1 ⟨rfl, rfl⟩)
  refine HL.mono ?_
  rintro e w2 ⟨rfl, hb2⟩
  have hz2 := hb2.size
  simp only [World.size_alloc] at hz2
  have hrw : row? w2 W.heap.size 0 33 = some (pointA zeroPt) := by
    rw [(kept hb2).2.2 _ _ _ (by simp), row?_new]
    simp
  have hth : there w2 W.heap.size 0 33 := there_below hb2 (by simp) (there_new _ _ _ _ _ (by simp))
  have hfr : w2.frozen? ⟨W.heap.size, 0, none⟩ = false := by
    rw [(kept hb2).2.1 _ _ (by simp)]
    simp
  have hB : Below W.heap.size W w2 := (bel_a W _).trans (hb2.mono (by simp))
  clear HA HL hb2
  go_wp2_with (with_reducible refine ret_row Try.isAgg26 Try.sizeOf26 best_res (x := .pointer (some ⟨W.heap.size, 0, none⟩)) (W.heap.size) 0 ?rrhx (Eq.refl _) ?rrh ?rrhd ?rrhR; (case rrhx => simp only [Array.getD_eq_getD_getElem?, List.getElem?_toArray, List.getElem?_cons_succ, List.getElem?_cons_zero, Option.getD_some]); (case rrhd => exact rfl); (case rrh => go_simp); (case rrhR => (exact ⟨(by go_simp), (by (repeat' (first | (with_reducible exact Below.refl _ _) | (with_reducible assumption) | (with_reducible refine bel_trans (by assumption) ?_ ?_) | (with_reducible refine bel_grown (by assumption) ?_ ?_ ?_) | (with_reducible refine Below.alloc ?_ ?_ _) | (with_reducible refine Below.drew ?_) | (with_reducible refine below_drewN ?_ _) | (with_reducible refine Below.setCell ?_ ?_ _) | (with_reducible refine below_put ?_ ?_ _ _) | (with_reducible exact Nat.le_refl _) | omega | (with_reducible refine Nat.le_trans ?_ (Below.size (by assumption))) | (with_reducible refine Nat.le_trans ?_ (World.grownBy.size (by assumption))) | (simp only [World.size_alloc, World.size_setCell, World.size_drew, size_drewN]; omega) | (simp only [World.size_alloc, World.size_setCell, World.size_drew, size_drewN, size_put]; omega) | (intro k hk; simp [Value.ownBlock] at hk; done) | (intro k hk; simp [Value.ownBlock] at hk; omega) | (simp [size_drewN] at *; omega))))⟩)))
set_option maxRecDepth 100000 in
set_option maxHeartbeats 800000 in
theorem nil_highest {V : Value} {W : World} (h : Zr V W) : Calls Try.prog 26 #[V] W fun e w' => e = .returned (.agg (pointA zeroPt)) ∧ Below W.heap.size W w' := by
  have HA := nil_allJ (h.keep (bel_a W (.cells (pointA zeroPt) 26)))
  have HL := last_nil (W.alloc (.cells (pointA zeroPt) 26))
  clear h
  go_enter Try.func26, Try.ntmps26
  go_wp2_with (go_at_call 30; refine HA.mono ?_; rintro e w1 ⟨rfl, rfl⟩)
  refine HL.mono ?_
  rintro e w2 ⟨rfl, hb2⟩
  have hz2 := hb2.size
  simp only [World.size_alloc] at hz2
  have hrw : row? w2 W.heap.size 0 33 = some (pointA zeroPt) := by
    rw [(kept hb2).2.2 _ _ _ (by simp), row?_new]
    simp
  have hth : there w2 W.heap.size 0 33 := there_below hb2 (by simp) (there_new _ _ _ _ _ (by simp))
  have hfr : w2.frozen? ⟨W.heap.size, 0, none⟩ = false := by
    rw [(kept hb2).2.1 _ _ (by simp)]
    simp
  have hB : Below W.heap.size W w2 := (bel_a W _).trans (hb2.mono (by simp))
  clear HA HL hb2
  go_wp2_with (with_reducible refine ret_row Try.isAgg26 Try.sizeOf26 highest_res (x := .pointer (some ⟨W.heap.size, 0, none⟩)) (W.heap.size) 0 ?rrhx (Eq.refl _) ?rrh ?rrhd ?rrhR; (case rrhx => simp only [Array.getD_eq_getD_getElem?, List.getElem?_toArray, List.getElem?_cons_succ, List.getElem?_cons_zero, Option.getD_some]); (case rrhd => exact rfl); (case rrh => go_simp); (case rrhR => (exact ⟨(by go_simp), (by (repeat' (first | (with_reducible exact Below.refl _ _) | (with_reducible assumption) | (with_reducible refine bel_trans (by assumption) ?_ ?_) | (with_reducible refine bel_grown (by assumption) ?_ ?_ ?_) | (with_reducible refine Below.alloc ?_ ?_ _) | (with_reducible refine Below.drew ?_) | (with_reducible refine below_drewN ?_ _) | (with_reducible refine Below.setCell ?_ ?_ _) | (with_reducible refine below_put ?_ ?_ _ _) | (with_reducible exact Nat.le_refl _) | omega | (with_reducible refine Nat.le_trans ?_ (Below.size (by assumption))) | (with_reducible refine Nat.le_trans ?_ (World.grownBy.size (by assumption))) | (simp only [World.size_alloc, World.size_setCell, World.size_drew, size_drewN]; omega) | (simp only [World.size_alloc, World.size_setCell, World.size_drew, size_drewN, size_put]; omega) | (intro k hk; simp [Value.ownBlock] at hk; done) | (intro k hk; simp [Value.ownBlock] at hk; omega) | (simp [size_drewN] at *; omega))))⟩)))

/-! the chain that is not there -/
theorem chain_there (W : World) : Calls Try.prog 156 #[.pointer none] W fun e w' => e = .returned (.bool false) ∧ w' = W := by
  go_enter Try.func156, Try.ntmps156
  go_wp2_with fail
  go_ret
  exact ⟨rfl, rfl⟩
set_option maxRecDepth 100000 in
theorem chain_find (h : Hash) (W : World) : Calls Try.prog 138 #[.pointer none, .agg (hashA h)] W fun e w' => e = .returned (.tuple #[.pointer none, .int .i64 1]) ∧ Below W.heap.size W w' := by
  have HT := fun W => chain_there W
  go_enter Try.func138, Try.ntmps138
  go_wp2_with fail
  refine (HT _).mono ?_
  rintro e w' ⟨rfl, hw⟩
  subst hw
  go_wp2_with fail
  go_ret2
  exact ⟨rfl, bel_a W _⟩
set_option maxRecDepth 100000 in
theorem chain_knows (p : Pt) (W : World) : Calls Try.prog 91 #[.pointer none, .agg (pointA p)] W fun e w' => e = .returned (.bool false) ∧ Below W.heap.size W w' := by
  have HF := fun W => chain_find p.name W
  have hrow : row? (W.alloc (.cells (pointA p) 26)) W.heap.size 1 32 = some (hashA p.name) := by rw [row?_new]; simp
  go_enter Try.func91, Try.ntmps91
  go_wp2_with fail
  refine (HF _).mono ?_
  rintro e w1 ⟨rfl, hb⟩
  have hB : Below W.heap.size W w1 := (bel_a W _).trans (hb.mono (by simp))
  clear HF hrow hb
  go_wp2_with fail
  go_quiet (fail)
  go_wp2_with fail
  go_ret
  exact ⟨rfl, by (repeat' (first | (with_reducible exact Below.refl _ _) | (with_reducible assumption) | (with_reducible refine bel_trans (by assumption) ?_ ?_) | (with_reducible refine bel_grown (by assumption) ?_ ?_ ?_) | (with_reducible refine Below.alloc ?_ ?_ _) | (with_reducible refine Below.drew ?_) | (with_reducible refine below_drewN ?_ _) | (with_reducible refine Below.setCell ?_ ?_ _) | (with_reducible refine below_put ?_ ?_ _ _) | (with_reducible exact Nat.le_refl _) | omega | (with_reducible refine Nat.le_trans ?_ (Below.size (by assumption))) | (with_reducible refine Nat.le_trans ?_ (World.grownBy.size (by assumption))) | (simp only [World.size_alloc, World.size_setCell, World.size_drew, size_drewN]; omega) | (simp only [World.size_alloc, World.size_setCell, World.size_drew, size_drewN, size_put]; omega) | (intro k hk; simp [Value.ownBlock] at hk; done) | (intro k hk; simp [Value.ownBlock] at hk; omega) | (simp [size_drewN] at *; omega)))⟩
end Go.Proofs.Ytlkflddjpkhndaa
