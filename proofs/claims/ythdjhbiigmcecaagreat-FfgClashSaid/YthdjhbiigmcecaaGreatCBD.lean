/- Texts of this proof, one behind the other: ZfKnown13. -/
import Derived.Test.YthdjhbiigmcecaaGreatCBC
set_option linter.unusedVariables false
set_option linter.unusedSimpArgs false
/- Contract: landmarklaw13.known: the chapter's rows. -/
namespace Go.Proofs.YthdjhbiigmcecaaGreat.F13
open Go.RowKit

def k1 : Hash := ⟨1 :: List.replicate 31 0, by simp⟩
def k2 : Hash := ⟨2 :: List.replicate 31 0, by simp⟩
abbrev kA : Pt := ⟨5, zeroHash⟩
abbrev kB : Pt := ⟨7, k1⟩
abbrev kC : Pt := ⟨8, k2⟩
abbrev kBC : Lnk := ⟨kB, kC⟩
abbrev kAB : Lnk := ⟨kA, kB⟩
theorem k_lit5 : (pointA zeroPt).setIfInBounds 0 (.int .u64 5) = pointA kA := by rfl
theorem k_lit7 : (pointA zeroPt).setIfInBounds 0 (.int .u64 7) = pointA ⟨7, zeroHash⟩ := by rfl
theorem k_lit8 : (pointA zeroPt).setIfInBounds 0 (.int .u64 8) = pointA ⟨8, zeroHash⟩ := by rfl
theorem k_lit1 : (hashA zeroHash).setIfInBounds 0 (.int .u8 1) = hashA k1 := by rfl
theorem k_lit2 : (hashA zeroHash).setIfInBounds 0 (.int .u8 2) = hashA k2 := by rfl
attribute [local go_sem] k_lit5 k_lit7 k_lit8 k_lit1 k_lit2
theorem k_may : mayPt kA = true := by decide +kernel
theorem k_e1 : strongE [] kBC = 0 := by decide +kernel
theorem k_a1 : addL [] kBC = [kBC] := by decide +kernel
theorem k_j1 : decide (kB ∈ JL kA [kBC]) = false := by decide +kernel
theorem k_j2 : decide (kC ∈ JL kA [kBC]) = false := by decide +kernel
theorem k_e2 : strongE [kBC] kAB = 0 := by decide +kernel
theorem k_a2 : addL [kBC] kAB = [kBC, kAB] := by decide +kernel
theorem k_j3 : decide (kB ∈ JL kA [kBC, kAB]) = true := by decide +kernel
theorem k_j4 : decide (kC ∈ JL kA [kBC, kAB]) = true := by decide +kernel
theorem k_f1 : decide (kA ∈ FL kA [kBC, kAB]) = true := by decide +kernel
theorem k_f2 : decide (kB ∈ FL kA [kBC, kAB]) = true := by decide +kernel
theorem k_f3 : decide (kC ∈ FL kA [kBC, kAB]) = false := by decide +kernel
theorem k_best : (FL kA [kBC, kAB]).getLast (FL_ne _ _) = kB := by decide +kernel
theorem k_high : (JL kA [kBC, kAB]).getLast (JL_ne _ _) = kC := by decide +kernel

/-- a link's literal, by a name that the walk does not open -/
def bldLnk (parts : Array (Nat × Value)) : Sem Value := Instr.build 60 parts
theorem fold_bldLnk (parts : Array (Nat × Value)) : Instr.build 60 parts = bldLnk parts := rfl
theorem fold0_splice (A B : Array Value) (n : Nat) (hn : B.size = n) (h : n ≤ A.size) : Array.foldl (fun cs (x : Value × Nat) => cs.setIfInBounds x.2 x.1) A B.zipIdx 0 n = splice A 0 B := by
 have := fold_splice A B 0 n hn (by omega)
 simpa using this
theorem run_bldLnk (p q : Pt) (W : World) : (bldLnk #[(0, .agg (pointA p)), (1, .agg (pointA q))]).run Tryz.prog W = .ok (.agg (linkA ⟨p, q⟩)) W := by
 unfold bldLnk
 go_simp
 rw [fold0_splice _ _ 33 (by simp) (by simp), splice_link_source, fold_splice _ _ 33 33 (by simp) (by simp), splice_link_target]
 simp
/-- where the known rows stand -/
structure KS (w W : World) (B r : Nat) (ls : List Lnk) : Prop where
 g : GadX W B r kA ls
 rows : row? W w.heap.size 0 33 = some (pointA kA) ∧ row? W (w.heap.size + 1) 0 33 = some (pointA kB) ∧ row? W (w.heap.size + 1 + 1) 0 33 = some (pointA kC)
 bel : Below w.heap.size w W
 hB : w.heap.size + 3 ≤ B
theorem KS.stepB {w W W' : World} {B r : Nat} {ls ls' : List Lnk} (h : KS w W B r ls) (hb : Below B W W') (hg : GadX W' B r kA ls') : KS w W' B r ls' := by
 have h0 := h.hB
 refine ⟨hg, ?_, h.bel.trans (hb.mono (by omega)), h.hB⟩
 have := h.rows
 rw [row?_below _ _ _ hb (by omega), row?_below _ _ _ hb (by omega), row?_below _ _ _ hb (by omega)]
 exact this
theorem KS.step {w W W' : World} {B r : Nat} {ls : List Lnk} (h : KS w W B r ls) (hb : Below W.heap.size W W') : KS w W' B r ls :=
 h.stepB (hb.mono (Nat.le_of_lt (Nat.lt_of_le_of_lt h.g.lt.1 h.g.lt.2))) (h.g.keep hb)

attribute [local go_sem ↓] fold_bldLnk
attribute [local go_sem] run_bldLnk
set_option maxRecDepth 100000 in
set_option maxHeartbeats 3200000 in
theorem known13_c (w : World) : Calls Tryz.prog 4 #[] w fun e w' => e = .returned (.bool true) ∧ Below w.heap.size w w' := by
 have HN := fun W => new_x kA W k_may
 have HS1 := fun (W : World) (B r : Nat) (h : KS w W B r []) => (strong_x kBC h.g (by simp)).mono (R' := fun e w' => e = .returned (.int .i64 0) ∧ KS w w' B r [kBC]) fun e w' hh => ⟨by rw [hh.1, k_e1], h.stepB hh.2.2 (k_a1 ▸ hh.2.1)⟩
 have HS2 := fun (W : World) (B r : Nat) (h : KS w W B r [kBC]) => (strong_x kAB h.g (by simp)).mono (R' := fun e w' => e = .returned (.int .i64 0) ∧ KS w w' B r [kBC, kAB]) fun e w' hh => ⟨by rw [hh.1, k_e2], h.stepB hh.2.2 (k_a2 ▸ hh.2.1)⟩
 have HJ1 := fun (W : World) (B r : Nat) (h : KS w W B r [kBC]) => (justified_x kB h.g).mono (R' := fun e w' => e = .returned (.bool false) ∧ KS w w' B r [kBC]) fun e w' hh => ⟨by rw [hh.1, k_j1], h.step hh.2⟩
 have HJ2 := fun (W : World) (B r : Nat) (h : KS w W B r [kBC]) => (justified_x kC h.g).mono (R' := fun e w' => e = .returned (.bool false) ∧ KS w w' B r [kBC]) fun e w' hh => ⟨by rw [hh.1, k_j2], h.step hh.2⟩
 have HJ3 := fun (W : World) (B r : Nat) (h : KS w W B r [kBC, kAB]) => (justified_x kB h.g).mono (R' := fun e w' => e = .returned (.bool true) ∧ KS w w' B r [kBC, kAB]) fun e w' hh => ⟨by rw [hh.1, k_j3], h.step hh.2⟩
 have HJ4 := fun (W : World) (B r : Nat) (h : KS w W B r [kBC, kAB]) => (justified_x kC h.g).mono (R' := fun e w' => e = .returned (.bool true) ∧ KS w w' B r [kBC, kAB]) fun e w' hh => ⟨by rw [hh.1, k_j4], h.step hh.2⟩
 have HF1 := fun (W : World) (B r : Nat) (h : KS w W B r [kBC, kAB]) => (final_x kA h.g).mono (R' := fun e w' => e = .returned (.bool true) ∧ KS w w' B r [kBC, kAB]) fun e w' hh => ⟨by rw [hh.1, k_f1], h.step hh.2⟩
 have HF2 := fun (W : World) (B r : Nat) (h : KS w W B r [kBC, kAB]) => (final_x kB h.g).mono (R' := fun e w' => e = .returned (.bool true) ∧ KS w w' B r [kBC, kAB]) fun e w' hh => ⟨by rw [hh.1, k_f2], h.step hh.2⟩
 have HF3 := fun (W : World) (B r : Nat) (h : KS w W B r [kBC, kAB]) => (final_x kC h.g).mono (R' := fun e w' => e = .returned (.bool false) ∧ KS w w' B r [kBC, kAB]) fun e w' hh => ⟨by rw [hh.1, k_f3], h.step hh.2⟩
 have HBe := fun (W : World) (B r : Nat) (h : KS w W B r [kBC, kAB]) => (best_x h.g (by simp)).mono (R' := fun e w' => e = .returned (.agg (pointA kB)) ∧ KS w w' B r [kBC, kAB]) fun e w' hh => ⟨by rw [hh.1, k_best], h.step hh.2⟩
 have HHi := fun (W : World) (B r : Nat) (h : KS w W B r [kBC, kAB]) => (highest_x h.g (by simp)).mono (R' := fun e w' => e = .returned (.agg (pointA kC)) ∧ KS w w' B r [kBC, kAB]) fun e w' hh => ⟨by rw [hh.1, k_high], h.step hh.2⟩
 go_enter Tryz.func4, Tryz.ntmps4
 go_wp2_with fail
 refine (HN _).mono ?_
 rintro e w1 ⟨r, rfl, hg, hb⟩
 have hK : KS w w1 (w.heap.size + 3) r [] := by
  have hsz : w.heap.size + 3 ≤ w1.heap.size := by have := hb.size; simp [size_put] at this; omega
  have hb' : Below (w.heap.size + 3) _ w1 := hb.mono (by simp [size_put])
  refine ⟨hg.more (by simp [size_put]), ?_, ?_, Nat.le_refl _⟩
  ·rw [row?_below _ _ _ hb' (by omega), row?_below _ _ _ hb' (by omega), row?_below _ _ _ hb' (by omega)]
   refine ⟨?_, ?_, ?_⟩ <;> go_simp
  ·refine Below.trans ?_ (hb'.mono (by omega))
   (repeat' (first | (with_reducible first | exact Below.refl _ _ | assumption | refine bel_trans (by assumption) ?_ ?_ | refine bel_grown (by assumption) ?_ ?_ ?_ | refine Below.alloc ?_ ?_ _ | refine Below.drew ?_ | refine below_drewN ?_ _ | refine Below.setCell ?_ ?_ _ | refine below_put ?_ ?_ _ _ | exact Nat.le_refl _) | omega | (with_reducible first | refine Nat.le_trans ?_ (Below.size (by assumption)) | refine Nat.le_trans ?_ (World.grownBy.size (by assumption))) | (simp only [World.size_alloc, World.size_setCell, World.size_drew, size_drewN]; omega) | (simp only [World.size_alloc, World.size_setCell, World.size_drew, size_drewN, size_put]; omega) | (intro k hk; simp [Value.ownBlock] at hk; first | done | omega) | (simp [size_drewN] at *; omega)))
 obtain ⟨r1, r2, r3⟩ := hK.rows
 replace hK := Lib.hid hK
 clear hg hb HN
 go_wp2_with fail
 refine (HS1 _ _ _ hK.out).mono ?_
 rintro e w2 ⟨rfl, hK2⟩
 clear r1 r2 r3
 obtain ⟨r1, r2, r3⟩ := hK2.rows
 replace hK2 := Lib.hid hK2
 go_wp2_with fail
 refine (HJ1 _ _ _ hK2.out).mono ?_
 rintro e w3 ⟨rfl, hK3⟩
 clear r1 r2 r3
 obtain ⟨r1, r2, r3⟩ := hK3.rows
 replace hK3 := Lib.hid hK3
 go_wp2_with fail
 refine (HJ2 _ _ _ hK3.out).mono ?_
 rintro e w4 ⟨rfl, hK4⟩
 clear r1 r2 r3 hK hK2 hK3 HS1 HJ1 HJ2
 go_wp2_with fail
 have hK5 : KS w w4.drew (w.heap.size + 3) r [kBC] := hK4.step (below_drewN (Below.refl _ _) 1)
 have hS5 := hK5.rows
 clear hK4
 go_region_held3 (fun W => row? W w.heap.size 0 33 = some (pointA kA) ∧ row? W (w.heap.size + 1) 0 33 = some (pointA kB) ∧ row? W (w.heap.size + 1 + 1) 0 33 = some (pointA kC))
  (first | go_keep | (with_reducible assumption))
  (first
   | (go_simp; go_at_call 13; (with_reducible refine (HS2 _ _ _ (by assumption)).mono ?_); rintro e w6 ⟨rfl, hK6⟩; have hS6 := hK6.rows)
   | (go_simp; go_at_call 14; (with_reducible refine (HJ3 _ _ _ (by assumption)).mono ?_); rintro e w7 ⟨rfl, hK7⟩; have hS7 := hK7.rows)
   | (go_simp; go_at_call 14; (with_reducible refine (HJ4 _ _ _ (by assumption)).mono ?_); rintro e w8 ⟨rfl, hK8⟩; have hS8 := hK8.rows)
   | (go_simp; go_at_call 15; (with_reducible refine (HF1 _ _ _ (by assumption)).mono ?_); rintro e w9 ⟨rfl, hK9⟩; have hS9 := hK9.rows)
   | (go_simp; go_at_call 15; (with_reducible refine (HF2 _ _ _ (by assumption)).mono ?_); rintro e w10 ⟨rfl, hK10⟩; have hS10 := hK10.rows)
   | (go_simp; go_at_call 15; (with_reducible refine (HF3 _ _ _ (by assumption)).mono ?_); rintro e w11 ⟨rfl, hK11⟩; have hS11 := hK11.rows)
   | (go_simp; go_at_call 16; (with_reducible refine (HBe _ _ _ (by assumption)).mono ?_); rintro e w12 ⟨rfl, hK12⟩; have hS12 := hK12.rows)
   | (go_simp; go_at_call 17; (with_reducible refine (HHi _ _ _ (by assumption)).mono ?_); rintro e w13 ⟨rfl, hK13⟩; have hS13 := hK13.rows))
 go_wp2_with fail
 go_ret
 exact ⟨rfl, hK13.bel⟩
end Go.Proofs.YthdjhbiigmcecaaGreat.F13
