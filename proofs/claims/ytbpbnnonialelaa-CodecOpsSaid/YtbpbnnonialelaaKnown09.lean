/- Contract: landmarklaw09.known. -/
import Derived.Test.YtbpbnnonialelaaReadPoint
import Derived.Test.YtbpbnnonialelaaLess
namespace Go.Proofs.Ytbpbnnonialelaa
open Go.RowKit

theorem headerA_set_epoch (h : GHeader) (e : UInt64) : (headerA h).setIfInBounds 32 (.int .u64 (e.toNat : Int)) = headerA { h with epoch := e } := by
  rw [set_splice _ _ _ (by simp)]
  unfold headerA
  exact splice_tail _ _ _ 0 32 _ (by simp) (by simp) (by simp)

theorem known_point (w : World) : Calls Try.prog 43 #[.agg (pointA ⟨7, zeroHash⟩)] w fun e w' => ∃ b off c, e = .returned (.tuple #[.slice (some ⟨b, off, none⟩) 40 c, .int .i64 0]) ∧ b < w'.heap.size ∧ w'.cell? ⟨b, off + 7, none⟩ = some (.int .u8 7) ∧ Below w.heap.size w w' := by
  refine (pointBytes_c ⟨7, zeroHash⟩ w).mono ?_
  rintro e w1 ⟨s, he, ho, hb⟩
  have hm : mayPt ⟨7, zeroHash⟩ = true := by decide
  rw [hm] at he ho
  have hl : (orNo true (ptBytes ⟨7, zeroHash⟩)).length = 40 := ptBytes_length _
  obtain ⟨b, off, hs, hlt, hc⟩ := ho.at (by omega)
  refine ⟨b, off, s.c, ?_, hlt, ?_, hb⟩
  · rw [he, hs, hl]; rfl
  · rw [hc 7 (by omega)]; rfl
theorem known_header (w : World) : Calls Try.prog 25 #[.agg (headerA ⟨zeroHash, 1, ⟨none, 0, 0⟩⟩)] w fun e w' => ∃ a c, e = .returned (.tuple #[.slice a 41 c, .int .i64 0]) ∧ Below w.heap.size w w' := by
  refine (headerBytes_c ⟨zeroHash, 1, ⟨none, 0, 0⟩⟩ ⟨zeroHash, 1, []⟩ w ⟨rfl, rfl, SlR.nil _ _ _ _ _⟩ ⟨by simp, fun o ho => by cases ho⟩).mono ?_
  rintro e w1 ⟨s, he, ho, hb⟩
  have hm : hdrMay ⟨zeroHash, 1, []⟩ = true := by decide
  rw [hm] at he ho
  have hl : (orNo true (hdBytes ⟨zeroHash, 1, []⟩)).length = 41 := by decide
  refine ⟨s.a, s.c, ?_, hb⟩
  rw [he, toldV, ← hl, ← ho.1]
  rfl
theorem known_vote (w : World) : Calls Try.prog 40 #[.slice none 0 0] w fun e w' => ∃ g, e = .returned (.tuple #[.agg (voteA g), .int .i64 4]) ∧ Below w.heap.size w w' := by
  refine (voteOf_c ⟨none, 0, 0⟩ [] w (BytesR.nil _ _ _) (by simp)).mono ?_
  rintro e w1 ⟨g, he, _, hb⟩
  have : (voteOf []).2 = 4 := by decide
  rw [this] at he
  exact ⟨g, he, hb⟩
theorem known_may (w : World) : Calls Try.prog 69 #[.agg (headerA ⟨zeroHash, 0, ⟨none, 0, 0⟩⟩)] w fun e w' => e = .returned (.bool false) ∧ Below w.heap.size w w' := by
  refine (mayHeader_c ⟨zeroHash, 0, ⟨none, 0, 0⟩⟩ ⟨zeroHash, 0, []⟩ w ⟨rfl, rfl, SlR.nil _ _ _ _ _⟩ ⟨by simp, fun o ho => by cases ho⟩).mono ?_
  rintro e w1 ⟨he, hb⟩
  have : hdrMay ⟨zeroHash, 0, []⟩ = false := by decide
  rw [this] at he
  exact ⟨he, hb⟩
theorem known_op (w : World) : Calls Try.prog 70 #[.agg (opA ⟨1, zeroHash, 0, 0, ⟨none, 0, 0⟩⟩)] w fun e w' => e = .returned (.bool false) ∧ Below w.heap.size w w' := by
  refine (mayOp_c ⟨1, zeroHash, 0, 0, ⟨none, 0, 0⟩⟩ ⟨1, zeroHash, 0, 0, []⟩ w ⟨rfl, rfl, rfl, rfl, SlR.nil _ _ _ _ _⟩ ⟨by simp, fun o ho => by cases ho⟩).mono ?_
  rintro e w1 ⟨he, hb⟩
  have : opMay ⟨1, zeroHash, 0, 0, []⟩ = false := by decide
  rw [this] at he
  exact ⟨he, hb⟩
theorem num09_c (n : Int) (w : World) : Calls Try.prog 26 #[.int .i64 n] w fun e w' => e = .returned (.int .i64 n) ∧ w = w' := by
  go_enter Try.func26, Try.ntmps26
  go_wp2_with fail
  go_ret
  exact ⟨rfl, rfl⟩

set_option maxRecDepth 100000 in
set_option maxHeartbeats 800000 in
theorem known09_c (w : World) : Calls Try.prog 24 #[] w fun e w' => e = .returned (.bool true) ∧ Below w.heap.size w w' := by
  have hp := pointA_set_epoch zeroPt 7
  have hh := headerA_set_epoch ⟨zeroHash, 0, ⟨none, 0, 0⟩⟩ 1
  have hzc := zc_vote
  simp only [show ((7 : UInt64).toNat : Int) = 7 from rfl, show ((1 : UInt64).toNat : Int) = 1 from rfl] at hp hh
  go_enter Try.func24, Try.ntmps24
  go_wp2_with fail
  refine (known_point _).mono ?_
  rintro e w1 ⟨b, off, c, rfl, hlt, hc, hb1⟩
  go_wp2_with fail
  refine (known_header _).mono ?_
  rintro e w2 ⟨ha, hcp, rfl, hb2⟩
  have hc2 := (hb2.cell (p := ⟨b, off + 7, none⟩) hlt).trans hc
  have hlt2 : b < w2.heap.size := Nat.lt_of_lt_of_le hlt hb2.size
  clear hc
  go_wp2_with fail
  refine (known_vote _).mono ?_
  rintro e w3 ⟨g, rfl, hb3⟩
  have hc3 := (hb3.cell (p := ⟨b, off + 7, none⟩) hlt2).trans hc2
  have hlt3 : b < w3.heap.size := Nat.lt_of_lt_of_le hlt2 hb3.size
  have hne3 : b ≠ w3.heap.size := by omega
  have hB3 : Below w.heap.size w w3 := hb1.trans ((hb2.mono hb1.size).trans (hb3.mono (Nat.le_trans hb1.size hb2.size)))
  have hz3 := hB3.size
  clear hc2 hb1 hb2 hb3
  go_wp2_with (first
    | (go_at_call 26; (with_reducible refine (num09_c _ _).mono ?_); rintro e w' ⟨rfl, rfl⟩)
    | (go_at_call 69; (with_reducible refine (known_may _).mono ?_); rintro e w4 ⟨rfl, hb4⟩)
    | (go_at_call 70; (with_reducible refine (known_op _).mono ?_); rintro e w5 ⟨rfl, hb5⟩))
  go_ret
  exact ⟨rfl, by (repeat' (first | (with_reducible exact Below.refl _ _) | (with_reducible assumption) | (with_reducible refine bel_trans (by assumption) ?_ ?_) | (with_reducible refine bel_grown (by assumption) ?_ ?_ ?_) | (with_reducible refine Below.alloc ?_ ?_ _) | (with_reducible refine Below.drew ?_) | (with_reducible refine below_drewN ?_ _) | (with_reducible refine Below.setCell ?_ ?_ _) | (with_reducible refine below_put ?_ ?_ _ _) | (with_reducible exact Nat.le_refl _) | omega | (with_reducible refine Nat.le_trans ?_ (Below.size (by assumption))) | (with_reducible refine Nat.le_trans ?_ (World.grownBy.size (by assumption))) | (simp only [World.size_alloc, World.size_setCell, World.size_drew, size_drewN]; omega) | (simp only [World.size_alloc, World.size_setCell, World.size_drew, size_drewN, size_put]; omega) | (intro k hk; simp [Value.ownBlock] at hk; done) | (intro k hk; simp [Value.ownBlock] at hk; omega) | (simp [size_drewN] at *; omega)))⟩
end Go.Proofs.Ytbpbnnonialelaa
