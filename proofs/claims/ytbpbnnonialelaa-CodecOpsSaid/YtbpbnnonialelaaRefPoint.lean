/- Contracts: ref09.point, MayPoint, Point, PointLess. -/
import Derived.Test.YtbpbnnonialelaaRefNum
import Derived.Test.YtbpbnnonialelaaReadPoint
import Derived.Test.YtbpbnnonialelaaOrder
namespace Go.Proofs.Ytbpbnnonialelaa
open Go.RowKit

theorem fpoint_res : Try.f90.results = #[.cell 2 29] := by kernel_rfl
set_option maxRecDepth 100000 in
set_option maxHeartbeats 800000 in
theorem fpoint_c (r : Nat) (st : Option (List UInt8)) (w : World) {lo : Nat} (h : RfR lo w r st) :
    Calls Try.prog 90 #[.pointer (some ⟨r, 0, none⟩)] w fun e w' => e = .returned (.agg (pointA (rdPoint st).2)) ∧ RfR lo w' r (rdPoint st).1 ∧ w.grownBy w' (some r) := by
  have hlt := h.lt
  have HC := fun W (hW : RfR lo W r st) => fnum_c r st 8 W hW (by omega)
  have hn := rdNum_lt st 8
  have HH := fun W (hW : RfR lo W r (rdNum st 8).1) => fhash_c r (rdNum st 8).1 W hW
  unfold rdPoint
  generalize rdNum st 8 = res at *
  generalize rdHash res.1 = res2 at *
  obtain ⟨s1, n1⟩ := res
  obtain ⟨u, rfl⟩ : ∃ u : UInt64, n1 = u.toNat := ⟨UInt64.ofNat n1, by simp only at hn; simp; omega⟩
  simp only [UInt64.ofNat_toNat]
  have Hh := Lib.hid h
  clear h hn
  go_enter Try.func90, Try.ntmps90
  go_wp2_with fail
  refine (HC _ (Hh.out.keep (bel_a _ _))).mono ?_
  clear HC
  rintro e w1 ⟨rfl, hr1, hg1⟩
  go_wp2_with fail
  refine (HH _ hr1).mono ?_
  clear HH
  rintro e w2 ⟨rfl, hr2, hg2⟩
  have hg := hg1.trans hg2
  have hblk : w2.heap[w.heap.size]? = some (.cells (pointA zeroPt) 29 (0, 0)) := (hg.block _ (by simp) (by intro e; injection e; omega)).trans (heap_alloc_new w _)
  have hrow : row? w2 w.heap.size 0 33 = some (pointA zeroPt) := by
    unfold row?
    rw [hblk]
    simp
  have hth : there w2 w.heap.size 0 33 := there_block hblk (by simp)
  have hR := Lib.hid hr2
  have HG := Lib.hid ((World.grownBy_alloc w (.cells (pointA zeroPt) 29) _).trans hg)
  clear hg hg1 hg2 hblk hr1 hr2
  go_wp2_with (with_reducible refine ret_row Try.isAgg29 Try.sizeOf29 fpoint_res (x := .pointer (some ⟨w.heap.size, 0, none⟩)) (w.heap.size) 0 ?rrhx (Eq.refl _) ?rrh ?rrhd ?rrhR; (case rrhx => simp only [Array.getD_eq_getD_getElem?, List.getElem?_toArray, List.getElem?_cons_succ, List.getElem?_cons_zero, Option.getD_some]); (case rrhd => exact rfl); (case rrh => go_simp); (case rrhR => ((refine ⟨?_, hR.out.keepB hlt ?_, grown_below HG.out ?_ (Nat.le_refl _)⟩; (case refine_1 => (go_simp; done)); (case refine_2 => ((repeat' (first | (with_reducible exact Below.refl _ _) | (with_reducible assumption) | (with_reducible refine bel_trans (by assumption) ?_ ?_) | (with_reducible refine bel_grown (by assumption) ?_ ?_ ?_) | (with_reducible refine Below.alloc ?_ ?_ _) | (with_reducible refine Below.drew ?_) | (with_reducible refine below_drewN ?_ _) | (with_reducible refine Below.setCell ?_ ?_ _) | (with_reducible refine below_put ?_ ?_ _ _) | (with_reducible exact Nat.le_refl _) | omega | (with_reducible refine Nat.le_trans ?_ (Below.size (by assumption))) | (with_reducible refine Nat.le_trans ?_ (World.grownBy.size (by assumption))) | (simp only [World.size_alloc, World.size_setCell, World.size_drew, size_drewN]; omega) | (simp only [World.size_alloc, World.size_setCell, World.size_drew, size_drewN, size_put]; omega) | (intro k hk; simp [Value.ownBlock] at hk; done) | (intro k hk; simp [Value.ownBlock] at hk; omega) | (simp [size_drewN] at *; omega))))); (case refine_3 => ((repeat' (first | (with_reducible exact Below.refl _ _) | (with_reducible assumption) | (with_reducible refine bel_trans (by assumption) ?_ ?_) | (with_reducible refine bel_grown (by assumption) ?_ ?_ ?_) | (with_reducible refine Below.alloc ?_ ?_ _) | (with_reducible refine Below.drew ?_) | (with_reducible refine below_drewN ?_ _) | (with_reducible refine Below.setCell ?_ ?_ _) | (with_reducible refine below_put ?_ ?_ _ _) | (with_reducible exact Nat.le_refl _) | omega | (with_reducible refine Nat.le_trans ?_ (Below.size (by assumption))) | (with_reducible refine Nat.le_trans ?_ (World.grownBy.size (by assumption))) | (simp only [World.size_alloc, World.size_setCell, World.size_drew, size_drewN]; omega) | (simp only [World.size_alloc, World.size_setCell, World.size_drew, size_drewN, size_put]; omega) | (intro k hk; simp [Value.ownBlock] at hk; done) | (intro k hk; simp [Value.ownBlock] at hk; omega) | (simp [size_drewN] at *; omega)))))))))

theorem fmayPoint_c (p : Pt) (w : World) : Calls Try.prog 47 #[.agg (pointA p)] w fun e w' => e = .returned (.bool (mayPt p)) ∧ Below w.heap.size w w' := by
  go_enter Try.func47, Try.ntmps47
  go_wp2_with fail
  go_ret
  exact ⟨ret_bool (by simp [mayPt]; omega), by (repeat' (first | (with_reducible exact Below.refl _ _) | (with_reducible assumption) | (with_reducible refine bel_trans (by assumption) ?_ ?_) | (with_reducible refine bel_grown (by assumption) ?_ ?_ ?_) | (with_reducible refine Below.alloc ?_ ?_ _) | (with_reducible refine Below.drew ?_) | (with_reducible refine below_drewN ?_ _) | (with_reducible refine Below.setCell ?_ ?_ _) | (with_reducible refine below_put ?_ ?_ _ _) | (with_reducible exact Nat.le_refl _) | omega | (with_reducible refine Nat.le_trans ?_ (Below.size (by assumption))) | (with_reducible refine Nat.le_trans ?_ (World.grownBy.size (by assumption))) | (simp only [World.size_alloc, World.size_setCell, World.size_drew, size_drewN]; omega) | (simp only [World.size_alloc, World.size_setCell, World.size_drew, size_drewN, size_put]; omega) | (intro k hk; simp [Value.ownBlock] at hk; done) | (intro k hk; simp [Value.ownBlock] at hk; omega) | (simp [size_drewN] at *; omega)))⟩

set_option maxRecDepth 100000 in
set_option maxHeartbeats 800000 in
theorem fPoint_c (p : Pt) (w : World) : Calls Try.prog 48 #[.agg (pointA p)] w fun e w' => ∃ v, e = .returned v ∧ Own w' w.heap.size v (ptBytes p) ∧ Below w.heap.size w w' := by
  obtain ⟨i0, hi, hz0, hz1, hz2⟩ := info_parts info_u8
  have hn := p.epoch.toNat_lt
  have HC := fun W => rput_c 8 p.epoch.toNat W (by omega) (by omega) (by omega)
  clear hn
  go_enter Try.func48, Try.ntmps48
  go_wp2_with fail
  go_region_held3 (fun w' => w'.cell? ⟨w.heap.size, 0, none⟩ = some (.int .u64 (p.epoch.toNat : Int)))
    (first | go_keep | (rw [k1 _ _ (by simp)]; simp) | (rw [hb2.cell (p := ⟨w.heap.size, 0, none⟩) (by simp)]; simp))
    (first
      | (go_simp; go_at_call 73; refine (HC _).mono ?_; clear HC; rintro e w1 ⟨v, rfl, ho, hb⟩; obtain ⟨k1, k2, k3⟩ := kept hb)
      | (refine step_append_bytes _ (by rfl) (.tmp 5) (.tmp 7) _ (by rfl) w.heap.size 5 i0 _ Try.underlying35 hi hz0 hz1 hz2 rfl v (be 8 p.epoch.toNat) (by rfl) (ho.more (by simp)) ⟨some ⟨w.heap.size, 1, none⟩, 32, 32⟩ p.name.1 (by rfl) (name_reads (off := 0) (by rw [k3 _ _ _ (by simp)]; simp [row?_drew, row?_new, ext_self]) 32 (Nat.le_refl _)) (by simp [be_length, p.name.2]) (by have := hb.size; simp at this; omega) ?_; intro v' w2 hown hg _; have hb2 := bel_grown hg hb hb.size (fun k hk => (ho.lt k hk).1)))
  go_wp2_with fail
  go_ret
  exact ⟨v', rfl, hown, by (repeat' (first | (with_reducible exact Below.refl _ _) | (with_reducible assumption) | (with_reducible refine bel_trans (by assumption) ?_ ?_) | (with_reducible refine bel_grown (by assumption) ?_ ?_ ?_) | (with_reducible refine Below.alloc ?_ ?_ _) | (with_reducible refine Below.drew ?_) | (with_reducible refine below_drewN ?_ _) | (with_reducible refine Below.setCell ?_ ?_ _) | (with_reducible refine below_put ?_ ?_ _ _) | (with_reducible exact Nat.le_refl _) | omega | (with_reducible refine Nat.le_trans ?_ (Below.size (by assumption))) | (with_reducible refine Nat.le_trans ?_ (World.grownBy.size (by assumption))) | (simp only [World.size_alloc, World.size_setCell, World.size_drew, size_drewN]; omega) | (simp only [World.size_alloc, World.size_setCell, World.size_drew, size_drewN, size_put]; omega) | (intro k hk; simp [Value.ownBlock] at hk; done) | (intro k hk; simp [Value.ownBlock] at hk; omega) | (simp [size_drewN] at *; omega)))⟩

theorem ptLt_parts (p q : Pt) : ptLt p q = true ↔ p.epoch.toNat < q.epoch.toNat ∨ (p.epoch.toNat = q.epoch.toNat ∧ p.name.1 < q.name.1) := by
  rw [ptLt_iff]
  unfold ptBytes
  rw [append_lt (by simp [be_length]), be_lt 8 _ _ (epoch_lt p) (epoch_lt q), be_eq 8 _ _ (epoch_lt p) (epoch_lt q)]
theorem ptLt_yes (p q : Pt) (h : p.epoch.toNat < q.epoch.toNat) : ptLt p q = true := (ptLt_parts p q).2 (.inl h)
theorem ptLt_no (p q : Pt) (h : q.epoch.toNat < p.epoch.toNat) : ptLt p q = false := by
  rw [Bool.eq_false_iff, ne_eq, ptLt_parts]
  omega
theorem ptLt_mid (p q : Pt) (h : p.epoch.toNat = q.epoch.toNat) : ptLt p q = Op.bytesLess p.name.1 q.name.1 := by
  rw [bytesLess_dec, Bool.eq_iff_iff, ptLt_parts, decide_eq_true_eq]
  simp [h]

set_option maxRecDepth 100000 in
set_option maxHeartbeats 800000 in
theorem fpointLess_c (p q : Pt) (w : World) : Calls Try.prog 49 #[.agg (pointA p), .agg (pointA q)] w fun e w' => e = .returned (.bool (ptLt p q)) ∧ Below w.heap.size w w' := by
  have hp : ∀ n, (convert 35 9 (.slice (some ⟨w.heap.size, 1, none⟩) 32 32)).run Try.prog ((((w.alloc (.cells (pointA p) 29)).alloc (.cells (pointA q) 29))).drewN n) = .ok (.string ⟨p.name.1.toArray⟩) ((((w.alloc (.cells (pointA p) 29)).alloc (.cells (pointA q) 29))).drewN n) :=
    fun n => str_run (s := ⟨some ⟨w.heap.size, 1, none⟩, 32, 32⟩) (name_reads (off := 0) (by rw [row?_drewN, row?_old _ _ _ _ _ (by simp), row?_new]; simp) 32 (Nat.le_refl _))
  have hq : ∀ n, (convert 35 9 (.slice (some ⟨w.heap.size + 1, 1, none⟩) 32 32)).run Try.prog ((((w.alloc (.cells (pointA p) 29)).alloc (.cells (pointA q) 29))).drewN n) = .ok (.string ⟨q.name.1.toArray⟩) ((((w.alloc (.cells (pointA p) 29)).alloc (.cells (pointA q) 29))).drewN n) :=
    fun n => str_run (s := ⟨some ⟨w.heap.size + 1, 1, none⟩, 32, 32⟩) (name_reads (off := 0) (by rw [row?_drewN, row?_new_at _ _ _ _ _ _ (by simp)]; simp) 32 (Nat.le_refl _))
  by_cases h1 : p.epoch.toNat < q.epoch.toNat
  · have d1 : decide ((p.epoch.toNat : Int) < (q.epoch.toNat : Int)) = true := decide_eq_true (by omega)
    go_enter Try.func49, Try.ntmps49
    go_wp2_with fail
    go_quiet (fail)
    go_wp2_with fail
    go_ret
    exact ⟨ret_bool (ptLt_yes p q h1).symm, by (repeat' (first | (with_reducible exact Below.refl _ _) | (with_reducible assumption) | (with_reducible refine bel_trans (by assumption) ?_ ?_) | (with_reducible refine bel_grown (by assumption) ?_ ?_ ?_) | (with_reducible refine Below.alloc ?_ ?_ _) | (with_reducible refine Below.drew ?_) | (with_reducible refine below_drewN ?_ _) | (with_reducible refine Below.setCell ?_ ?_ _) | (with_reducible refine below_put ?_ ?_ _ _) | (with_reducible exact Nat.le_refl _) | omega | (with_reducible refine Nat.le_trans ?_ (Below.size (by assumption))) | (with_reducible refine Nat.le_trans ?_ (World.grownBy.size (by assumption))) | (simp only [World.size_alloc, World.size_setCell, World.size_drew, size_drewN]; omega) | (simp only [World.size_alloc, World.size_setCell, World.size_drew, size_drewN, size_put]; omega) | (intro k hk; simp [Value.ownBlock] at hk; done) | (intro k hk; simp [Value.ownBlock] at hk; omega) | (simp [size_drewN] at *; omega)))⟩
  · have d1 : decide ((p.epoch.toNat : Int) < (q.epoch.toNat : Int)) = false := decide_eq_false (by omega)
    by_cases h2 : p.epoch.toNat = q.epoch.toNat
    · have d2 : ((p.epoch.toNat : Int) == (q.epoch.toNat : Int)) = true := by simp [h2]
      go_enter Try.func49, Try.ntmps49
      go_wp2_with fail
      go_quiet (fail)
      go_wp2_with fail
      go_ret
      exact ⟨ret_bool (by rw [ptLt_mid p q h2]), by (repeat' (first | (with_reducible exact Below.refl _ _) | (with_reducible assumption) | (with_reducible refine bel_trans (by assumption) ?_ ?_) | (with_reducible refine bel_grown (by assumption) ?_ ?_ ?_) | (with_reducible refine Below.alloc ?_ ?_ _) | (with_reducible refine Below.drew ?_) | (with_reducible refine below_drewN ?_ _) | (with_reducible refine Below.setCell ?_ ?_ _) | (with_reducible refine below_put ?_ ?_ _ _) | (with_reducible exact Nat.le_refl _) | omega | (with_reducible refine Nat.le_trans ?_ (Below.size (by assumption))) | (with_reducible refine Nat.le_trans ?_ (World.grownBy.size (by assumption))) | (simp only [World.size_alloc, World.size_setCell, World.size_drew, size_drewN]; omega) | (simp only [World.size_alloc, World.size_setCell, World.size_drew, size_drewN, size_put]; omega) | (intro k hk; simp [Value.ownBlock] at hk; done) | (intro k hk; simp [Value.ownBlock] at hk; omega) | (simp [size_drewN] at *; omega)))⟩
    · have d2 : ((p.epoch.toNat : Int) == (q.epoch.toNat : Int)) = false := by simp; omega
      go_enter Try.func49, Try.ntmps49
      go_wp2_with fail
      go_quiet (fail)
      go_wp2_with fail
      go_ret
      exact ⟨ret_bool (ptLt_no p q (by omega)).symm, by (repeat' (first | (with_reducible exact Below.refl _ _) | (with_reducible assumption) | (with_reducible refine bel_trans (by assumption) ?_ ?_) | (with_reducible refine bel_grown (by assumption) ?_ ?_ ?_) | (with_reducible refine Below.alloc ?_ ?_ _) | (with_reducible refine Below.drew ?_) | (with_reducible refine below_drewN ?_ _) | (with_reducible refine Below.setCell ?_ ?_ _) | (with_reducible refine below_put ?_ ?_ _ _) | (with_reducible exact Nat.le_refl _) | omega | (with_reducible refine Nat.le_trans ?_ (Below.size (by assumption))) | (with_reducible refine Nat.le_trans ?_ (World.grownBy.size (by assumption))) | (simp only [World.size_alloc, World.size_setCell, World.size_drew, size_drewN]; omega) | (simp only [World.size_alloc, World.size_setCell, World.size_drew, size_drewN, size_put]; omega) | (intro k hk; simp [Value.ownBlock] at hk; done) | (intro k hk; simp [Value.ownBlock] at hk; omega) | (simp [size_drewN] at *; omega)))⟩
end Go.Proofs.Ytbpbnnonialelaa
