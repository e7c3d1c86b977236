/- Contracts: cmp.Or, codec.PointLess. -/
import Derived.Test.YtbpbnnonialelaaSlices
import Derived.Test.YtbpbnnonialelaaCodec1
namespace Go.Proofs.Ytbpbnnonialelaa
open Go.RowKit

def orI (x y : Int) : Int := if x = 0 then y else x

set_option maxHeartbeats 800000 in
theorem or2_c (b : Nat) (x y : Int) (w : World) (h0 : w.cell? ⟨b, 0, none⟩ = some (.int .i64 x)) (h1 : w.cell? ⟨b, 1, none⟩ = some (.int .i64 y)) :
    Calls Try.prog 84 #[.slice (some ⟨b, 0, none⟩) 2 2] w fun e w' => e = .returned (.int .i64 (orI x y)) ∧ w = w' := by
  by_cases hx : x = 0
  · subst hx
    by_cases hy : y = 0
    · subst hy
      go_enter Try.func84, Try.ntmps84
      go_wp2_with fail
      go_rounds 3
      go_ret
      exact ⟨rfl, rfl⟩
    · have hb : (y != 0) = true := by simp [hy]
      clear hy
      go_enter Try.func84, Try.ntmps84
      go_wp2_with fail
      go_rounds 3
      go_ret
      exact ⟨rfl, rfl⟩
  · have hb : (x != 0) = true := by simp [hx]
    have ho : orI x y = x := by simp [orI, hx]
    rw [ho]
    clear hx ho
    go_enter Try.func84, Try.ntmps84
    go_wp2_with fail
    go_rounds 3
    go_ret
    exact ⟨rfl, rfl⟩

/-- the order of points -/
def ptCmp (p q : Pt) : Int := orI (cmpI p.epoch.toNat q.epoch.toNat) (lexC p.name.1 q.name.1)

set_option maxRecDepth 100000 in
set_option maxHeartbeats 800000 in
theorem pointLess_c (p q : Pt) (w : World) : Calls Try.prog 42 #[.agg (pointA p), .agg (pointA q)] w fun e w' => e = .returned (.bool (decide (ptCmp p q < 0))) ∧ Below w.heap.size w w' := by
  have hp : ∀ W : World, (hs : row? W w.heap.size 0 33 = some (pointA p)) → BytesR W ⟨some ⟨w.heap.size, 1, none⟩, 32, 32⟩ p.name.1 := fun W hs => name_reads (off := 0) hs 32 (Nat.le_refl _)
  have hq : ∀ W : World, (hs : row? W (w.heap.size + 1) 0 33 = some (pointA q)) → BytesR W ⟨some ⟨w.heap.size + 1, 1, none⟩, 32, 32⟩ q.name.1 := fun W hs => name_reads (off := 0) hs 32 (Nat.le_refl _)
  have Hp := Lib.hid hp
  have Hq := Lib.hid hq
  clear hp hq
  go_enter Try.func42, Try.ntmps42
  go_wp2_with fail
  go_region_held3 (fun w' => w'.cell? ⟨w.heap.size, 0, none⟩ = some (.int .u64 (p.epoch.toNat : Int)) ∧ w'.cell? ⟨w.heap.size + 1, 0, none⟩ = some (.int .u64 (q.epoch.toNat : Int)))
    (first | go_keep | (refine ⟨?_, ?_⟩ <;> simp [cell_alloc]))
    (first
      | (go_simp; go_at_call 85; (with_reducible refine (compare64_c _ _ _).mono ?_); rintro e w' ⟨rfl, rfl⟩)
      | (go_simp; go_at_call 86; (with_reducible refine (scompare_c ⟨some ⟨w.heap.size, 1, none⟩, 32, 32⟩ ⟨some ⟨w.heap.size + 1, 1, none⟩, 32, 32⟩ p.name.1 q.name.1 _ (Hp.out _ (by rw [row?_drew, row?_old _ _ _ _ _ (by simp), row?_new]; simp)) (Hq.out _ (by rw [row?_drew, row?_new_at _ _ _ _ _ _ (by simp)]; simp)) (by rw [p.name.2]; omega)).mono ?_); rintro e w' ⟨rfl, rfl⟩)
      | (go_simp; go_at_call 84; (with_reducible refine (or2_c _ (cmpI p.epoch.toNat q.epoch.toNat) (lexC p.name.1 q.name.1) _ (by simp [cell_alloc]) (by simp [cell_alloc])).mono ?_); rintro e w' ⟨rfl, rfl⟩))
  go_wp2_with fail
  go_ret
  exact ⟨rfl, by (repeat' (first | (with_reducible exact Below.refl _ _) | (with_reducible assumption) | (with_reducible refine bel_trans (by assumption) ?_ ?_) | (with_reducible refine bel_grown (by assumption) ?_ ?_ ?_) | (with_reducible refine Below.alloc ?_ ?_ _) | (with_reducible refine Below.drew ?_) | (with_reducible refine below_drewN ?_ _) | (with_reducible refine Below.setCell ?_ ?_ _) | (with_reducible refine below_put ?_ ?_ _ _) | (with_reducible exact Nat.le_refl _) | omega | (with_reducible refine Nat.le_trans ?_ (Below.size (by assumption))) | (with_reducible refine Nat.le_trans ?_ (World.grownBy.size (by assumption))) | (simp only [World.size_alloc, World.size_setCell, World.size_drew, size_drewN]; omega) | (simp only [World.size_alloc, World.size_setCell, World.size_drew, size_drewN, size_put]; omega) | (intro k hk; simp [Value.ownBlock] at hk; done) | (intro k hk; simp [Value.ownBlock] at hk; omega) | (simp [size_drewN] at *; omega)))⟩
end Go.Proofs.Ytbpbnnonialelaa
