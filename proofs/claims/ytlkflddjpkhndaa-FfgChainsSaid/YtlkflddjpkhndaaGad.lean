/- Contracts: ffg.New, there. -/
import Derived.Test.YtlkflddjpkhndaaMapPts
import Derived.Test.YtlkflddjpkhndaaMayP
import Derived.Deep.QuietTactic
import Derived.BigQuiet
import Derived.Carry
namespace Go.Proofs.Ytlkflddjpkhndaa
open Go.RowKit

theorem size_putB (w : World) (b : Nat) (o : Obj) : (putB w b o).heap.size = w.heap.size := by simp [putB]
theorem row?_putB (w : World) (b : Nat) (o : Obj) (c off n : Nat) (h : c ≠ b) : row? (putB w b o) c off n = row? w c off n := by simp [row?, putB_far w b o c h]
theorem cell_putB (w : World) (b : Nat) (o : Obj) (a : Addr) (h : a.block ≠ b) : (putB w b o).cell? a = w.cell? a := World.cell?_of_block (putB_far w b o a.block h)
attribute [go_sem] size_putB row?_putB cell_putB
/-- block b is an empty map -/
def EMap (w : World) (b : Nat) : Prop := w.heap[b]? = some (.map #[] 0)
theorem EMap_new (w : World) (b : Nat) (h : b = w.heap.size) : EMap (w.alloc (.map #[] 0)) b ↔ True := by
  subst h
  exact ⟨fun _ => trivial, fun _ => heap_alloc_new w _⟩
theorem EMap_old (w : World) (o : Obj) (b : Nat) (h : b < w.heap.size) : EMap (w.alloc o) b ↔ EMap w b := by
  unfold EMap
  rw [Below.heap_alloc w o b h]
theorem EMap_drew (w : World) (b : Nat) : EMap w.drew b ↔ EMap w b := Iff.rfl
theorem EMap_far (w : World) (b : Nat) (o : Obj) (k : Nat) (h : k ≠ b) : EMap (putB w b o) k ↔ EMap w k := by
  unfold EMap
  rw [putB_far w b o k h]
attribute [go_sem] EMap_new EMap_old EMap_drew EMap_far
theorem ins_pts (p : Pt) (W : World) (b : Nat) (h : EMap W b) :
    (Instr.mapUpdate 77 (.map (some b)) (.agg (pointA p)) (.agg #[.bool true])).run Try.prog W = .ok () (putB W b (.map #[{ key := ptV p, val := yes, born := 0 }] 1)) := by
  have h : W.heap[b]? = some (.map #[] 0) := h
  have hk := key_point false p W
  unfold Instr.mapUpdate
  simp only [Sem.run_bind, run_underlying Try.underlying77, Result.andThen_ok, Go.MapKept.run_getObj_map h, Sem.run_pure]
  unfold ptV at hk
  rw [hk]
  simp only [Result.andThen_ok]
  have hf : (Instr.findKey 26 (.agg (pointA p)) (#[] : Array MapEntry).toList).run Try.prog W = .ok none W := by
    rw [run_findKey_eq (P := Try.prog) W (k := 26) (by rw [Try.underlying26])]
    simp [Instr.findAsking]
  rw [hf]
  simp [Go.MapKept.run_setObj_map _ h, putB, ptV, yes]

theorem hp_new' (w : World) (o : Obj) (b : Nat) (h : b = w.heap.size) : (w.alloc o).heap[b]? = some o := by subst h; exact heap_alloc_new w o
theorem hp_old' (w : World) (o : Obj) (b : Nat) (h : b < w.heap.size) : (w.alloc o).heap[b]? = w.heap[b]? := Below.heap_alloc w o b h
theorem hp_drew' (w : World) (b : Nat) : w.drew.heap[b]? = w.heap[b]? := rfl
theorem putB_same (w : World) (b : Nat) (o : Obj) (h : b < w.heap.size) : (putB w b o).heap[b]? = some o := by simp [putB, h]
theorem hp_putB (w : World) (b : Nat) (o : Obj) (k : Nat) : (putB w b o).heap[k]? = if k = b then (if b < w.heap.size then some o else none) else w.heap[k]? := by
  by_cases h : k = b
  · subst h
    rw [if_pos rfl]
    split
    · simp [putB, *]
    · simp [putB]; omega
  · rw [if_neg h, putB_far w b o k h]
theorem hp_alloc (w : World) (o : Obj) (k : Nat) : (w.alloc o).heap[k]? = if k = w.heap.size then some o else w.heap[k]? := by
  exact Array.getElem?_push
theorem MapPts.one {w : World} {b : Nat} {p : Pt} (h : w.heap[b]? = some (.map #[{ key := ptV p, val := yes, born := 0 }] 1)) : MapPts w b [p] :=
  ⟨_, _, h, by simp, by simp, by simp, by simp⟩
theorem below_putB {B : Nat} {a w : World} {b : Nat} {o : Obj} (h : Below B a w) (hb : B ≤ b) : Below B a (putB w b o) :=
  ⟨h.os, h.tape, h.output, by rw [size_putB]; exact h.size, fun k hk => (putB_far w b o k (by omega)).trans (h.block k hk)⟩
/-- what New leaves -/
def NewR (w : World) (r b1 b2 : Nat) (p : Pt) : Prop :=
  w.heap[r]? = some (.cells #[.slice none 0 0, .map (some b1), .map (some b2)] 79 (0, 0)) ∧ MapPts w b1 [p] ∧ MapPts w b2 [p] ∧ b1 ≠ b2 ∧ r ≠ b1 ∧ r ≠ b2
theorem NewR.mk {X : World} {b1 b2 : Nat} {p : Pt} (h1 : X.heap[b1]? = some (.map #[{ key := ptV p, val := yes, born := 0 }] 1)) (h2 : X.heap[b2]? = some (.map #[{ key := ptV p, val := yes, born := 0 }] 1)) (hne : b1 ≠ b2) (r : Nat) (hr : r = X.heap.size) :
    NewR (X.alloc (.cells #[.slice none 0 0, .map (some b1), .map (some b2)] 79)) r b1 b2 p := by
  subst hr
  have l1 := (Array.getElem?_eq_some_iff.1 h1).1
  have l2 := (Array.getElem?_eq_some_iff.1 h2).1
  exact ⟨heap_alloc_new X _, MapPts.one ((Below.heap_alloc X _ b1 l1).trans h1), MapPts.one ((Below.heap_alloc X _ b2 l2).trans h2), hne, by omega, by omega⟩

set_option maxRecDepth 100000 in
set_option maxHeartbeats 800000 in
theorem new_c (p : Pt) (w : World) (hp : mayPt p = true) : Calls Try.prog 22 #[.agg (pointA p)] w fun e w' => ∃ r b1 b2, e = .returned (.tuple #[.pointer (some ⟨r, 0, none⟩), .int .i64 0]) ∧ NewR w' r b1 b2 p ∧ w.heap.size ≤ r ∧ w.heap.size ≤ b1 ∧ w.heap.size ≤ b2 ∧ Below w.heap.size w w' := by
  have HM := fun W => mayPoint_c p W
  rw [hp] at HM
  have hi := ins_pts p
  have hmm := @run_makeMap Try.prog
  go_enter Try.func22, Try.ntmps22
  go_wp2_with fail
  refine (HM _).mono ?_
  clear HM
  rintro e w1 ⟨rfl, hb⟩
  obtain ⟨k1, k2, k3⟩ := kept hb
  have hrow : row? w1 w.heap.size 0 33 = some (pointA p) := by rw [k3 _ _ _ (by simp), row?_new]; simp
  have hz : w.heap.size < w1.heap.size := by have := hb.size; simp at this; omega
  have hne : w.heap.size ≠ w1.heap.size := by omega
  have hne1 : w.heap.size ≠ w1.heap.size + 1 := by omega
  have hz1 : w.heap.size < w1.heap.size + 1 := by omega
  have hB : Below w.heap.size w w1 := by (repeat' (first | (with_reducible exact Below.refl _ _) | (with_reducible assumption) | (with_reducible refine bel_trans (by assumption) ?_ ?_) | (with_reducible refine bel_grown (by assumption) ?_ ?_ ?_) | (with_reducible refine Below.alloc ?_ ?_ _) | (with_reducible refine Below.drew ?_) | (with_reducible refine below_drewN ?_ _) | (with_reducible refine Below.setCell ?_ ?_ _) | (with_reducible refine below_put ?_ ?_ _ _) | (with_reducible exact Nat.le_refl _) | omega | (with_reducible refine Nat.le_trans ?_ (Below.size (by assumption))) | (with_reducible refine Nat.le_trans ?_ (World.grownBy.size (by assumption))) | (simp only [World.size_alloc, World.size_setCell, World.size_drew, size_drewN]; omega) | (simp only [World.size_alloc, World.size_setCell, World.size_drew, size_drewN, size_put]; omega) | (intro k hk; simp [Value.ownBlock] at hk; done) | (intro k hk; simp [Value.ownBlock] at hk; omega) | (simp [size_drewN] at *; omega)))
  clear k1 k2 k3 hb
  have HB := Lib.hid hB
  clear hB
  go_wp2_with fail
  go_region
  all_goals clear hi hmm hrow
  all_goals go_wp2_with fail
  all_goals go_ret2
  all_goals refine ⟨_, _, _, rfl, NewR.mk ?_ ?_ ?_ _ ?_, ?_, ?_, ?_, ?_⟩
  all_goals clear hz1 hne1
  all_goals first
    | omega
    | (simp only [size_putB, World.size_alloc, World.size_drew] <;> omega)
    | ((repeat' (first | (exact HB.out) | (refine Below.alloc ?_ ?_ _) | (refine below_putB ?_ ?_) | (refine Below.drew ?_) | (simp only [size_putB, World.size_alloc, World.size_drew] <;> omega) | omega)); done)
    | (simp only [hp_putB, hp_alloc, hp_drew', size_putB, World.size_alloc, World.size_drew]; ((repeat' split) <;> first | rfl | contradiction | (exfalso; omega) | omega | (exact absurd trivial (by assumption))))
end Go.Proofs.Ytlkflddjpkhndaa
