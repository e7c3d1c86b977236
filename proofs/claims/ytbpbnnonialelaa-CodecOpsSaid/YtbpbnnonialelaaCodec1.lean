/- Contracts of package codec: numbers, points, votes as bytes. -/
import Derived.Test.YtbpbnnonialelaaWire3
import Derived.Test.YtbpbnnonialelaaMay
import Derived.Deep.RegionHeld3
namespace Go.Proofs.Ytbpbnnonialelaa
open Go.RowKit

def W47 : Nat := 140737488355328

theorem number8 (n : Nat) (w : World) (hn : n < 18446744073709551616) : Calls Try.prog 75 #[.int .u64 n, .int .i64 8] w fun e w' => ∃ v, e = .returned v ∧ Own w' w.heap.size v (be 8 n) ∧ Below w.heap.size w w' := by
  have HC := put8 n w hn
  clear hn
  go_enter Try.func75, Try.ntmps75
  go_wp2_with fail
  refine HC.mono ?_
  clear HC
  rintro e w1 ⟨v, rfl, ho, hb⟩
  go_wp2_with fail
  go_ret
  exact ⟨v, rfl, ho, hb⟩
theorem number1 (n : Nat) (w : World) (hn : n < 256) : Calls Try.prog 75 #[.int .u64 n, .int .i64 1] w fun e w' => ∃ v, e = .returned v ∧ Own w' w.heap.size v (be 1 n) ∧ Below w.heap.size w w' := by
  have HC := put1 n w hn
  clear hn
  go_enter Try.func75, Try.ntmps75
  go_wp2_with fail
  refine HC.mono ?_
  clear HC
  rintro e w1 ⟨v, rfl, ho, hb⟩
  go_wp2_with fail
  go_ret
  exact ⟨v, rfl, ho, hb⟩

/-- a point's bytes -/
def ptBytes (p : Pt) : List UInt8 := be 8 p.epoch.toNat ++ p.name.1
theorem ptBytes_length (p : Pt) : (ptBytes p).length = 40 := by simp [ptBytes, be_length, p.name.2]

/-- the name's cells of a point that lies in memory -/
theorem name_reads {w : World} {b off : Nat} {p : Pt} (h : row? w b off 33 = some (pointA p)) (c : Nat) (hc : 32 ≤ c) : BytesR w ⟨some ⟨b, off + 1, none⟩, 32, c⟩ p.name.1 := by
  obtain ⟨cs, t, fr, hg, hle, hl⟩ := row?_some h
  refine ⟨p.name.2.symm, hc, fun _ => ⟨b, off + 1, rfl, fun i hi => ?_⟩⟩
  rw [cell_of_row w b _ cs t fr hg]
  have e1 : (pointA p)[1 + i]? = some (byteV p.name.1[i]) := by
    have := p.name.2
    rw [pointA, Array.getElem?_append_right (by simp)]
    simp [hashA, hi]
  rw [hl, Array.getElem?_extract] at e1
  have := p.name.2
  simp only [show 1 + i < min (off + 33) cs.size - off by omega, if_true] at e1
  rw [← e1]
  congr 1
  omega

set_option maxRecDepth 100000 in
set_option maxHeartbeats 800000 in
theorem point_c (p : Pt) (w : World) : Calls Try.prog 76 #[.agg (pointA p)] w fun e w' => ∃ v, e = .returned v ∧ Own w' w.heap.size v (ptBytes p) ∧ Below w.heap.size w w' := by
  obtain ⟨i0, hi, hz0, hz1, hz2⟩ := info_parts info_u8
  have hn := p.epoch.toNat_lt
  have HC := fun W => number8 p.epoch.toNat W (by omega)
  clear hn
  go_enter Try.func76, Try.ntmps76
  go_wp2_with fail
  go_region_held3 (fun w' => w'.cell? ⟨w.heap.size, 0, none⟩ = some (.int .u64 (p.epoch.toNat : Int)))
    (first | go_keep | (rw [k1 _ _ (by simp)]; simp) | (rw [hb2.cell (p := ⟨w.heap.size, 0, none⟩) (by simp)]; simp))
    (first
      | (go_simp; go_at_call 75; refine (HC _).mono ?_; clear HC; rintro e w1 ⟨v, rfl, ho, hb⟩; obtain ⟨k1, k2, k3⟩ := kept hb)
      | (refine step_append_bytes _ (by rfl) (.tmp 5) (.tmp 7) _ (by rfl) w.heap.size 5 i0 _ Try.underlying35 hi hz0 hz1 hz2 rfl v (be 8 p.epoch.toNat) (by rfl) (ho.more (by simp)) ⟨some ⟨w.heap.size, 1, none⟩, 32, 32⟩ p.name.1 (by rfl) (name_reads (off := 0) (by rw [k3 _ _ _ (by simp)]; simp [row?_drew, row?_new, ext_self]) 32 (Nat.le_refl _)) (by simp [be_length, p.name.2]) (by have := hb.size; simp at this; omega) ?_; intro v' w2 hown hg _; have hb2 := bel_grown hg hb hb.size (fun k hk => (ho.lt k hk).1)))
  go_wp2_with fail
  go_ret
  exact ⟨v', rfl, hown, by (repeat' (first | (with_reducible exact Below.refl _ _) | (with_reducible assumption) | (with_reducible refine bel_trans (by assumption) ?_ ?_) | (with_reducible refine bel_grown (by assumption) ?_ ?_ ?_) | (with_reducible refine Below.alloc ?_ ?_ _) | (with_reducible refine Below.drew ?_) | (with_reducible refine below_drewN ?_ _) | (with_reducible refine Below.setCell ?_ ?_ _) | (with_reducible refine below_put ?_ ?_ _ _) | (with_reducible exact Nat.le_refl _) | omega | (with_reducible refine Nat.le_trans ?_ (Below.size (by assumption))) | (with_reducible refine Nat.le_trans ?_ (World.grownBy.size (by assumption))) | (simp only [World.size_alloc, World.size_setCell, World.size_drew, size_drewN]; omega) | (simp only [World.size_alloc, World.size_setCell, World.size_drew, size_drewN, size_put]; omega) | (intro k hk; simp [Value.ownBlock] at hk; done) | (intro k hk; simp [Value.ownBlock] at hk; omega) | (simp [size_drewN] at *; omega)))⟩
end Go.Proofs.Ytbpbnnonialelaa
