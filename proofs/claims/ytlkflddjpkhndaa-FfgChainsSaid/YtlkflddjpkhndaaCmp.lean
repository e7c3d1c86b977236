/- Contracts: cmp.Compare, cmp.Or, bytes.Compare; the order by which sorted sorts. -/
import Derived.Test.YtlkflddjpkhndaaMem
import Derived.Test.YtlkflddjpkhndaaStores
import Derived.Test.YtlkflddjpkhndaaMapPts
import Derived.Lib.Bytealg
import Derived.StillTailTactics
import Derived.Deep.QuietTactic
import Derived.BigQuiet
import Derived.Handy
import Derived.Sort.Grow
import Derived.Sort.Statements
namespace Go.Proofs.Ytlkflddjpkhndaa
open Go.RowKit

theorem isNaN64_c (n : Int) (w : World) : Calls Try.prog 148 #[.int .u64 n] w fun e w' => e = .returned (.bool false) ∧ w = w' := by
  go_enter Try.func148, Try.ntmps148
  go_wp2_with fail
  go_ret
  exact ⟨ret_bool (by simp), rfl⟩
def cmpI (x y : Int) : Int := if x < y then -1 else if y < x then 1 else 0
theorem compare64_c (x y : Int) (w : World) : Calls Try.prog 118 #[.int .u64 x, .int .u64 y] w fun e w' => e = .returned (.int .i64 (cmpI x y)) ∧ w = w' := by
  rcases Int.lt_trichotomy x y with h | h | h
  all_goals
    go_enter Try.func118, Try.ntmps118
    go_wp2_with (go_at_call 148; refine (isNaN64_c _ _).mono ?_; rintro e w' ⟨rfl, rfl⟩)
    go_ret
    exact ⟨ret_int (by unfold cmpI; first | (rw [if_pos (by omega)]) | (rw [if_neg (by omega), if_neg (by omega)]) | (rw [if_neg (by omega), if_pos (by omega)])), rfl⟩
set_option maxHeartbeats 800000 in
theorem or_c (b c : Nat) (x y : Int) (w : World) (h0 : w.cell? ⟨b, 0, none⟩ = some (.int .i64 x)) (h1 : w.cell? ⟨b, 1, none⟩ = some (.int .i64 y)) :
    Calls Try.prog 117 #[.slice (some ⟨b, 0, none⟩) 2 c] w fun e w' => e = .returned (.int .i64 (if x = 0 then y else x)) ∧ w' = w := by
  by_cases hx : x = 0
  · have hb : (x != 0) = false := by simp [hx]
    rw [if_pos hx]
    clear hx
    by_cases hy : y = 0
    · have hc : (y != 0) = false := by simp [hy]
      go_enter Try.func117, Try.ntmps117
      go_wp2_with fail
      go_rounds 3
      go_ret
      exact ⟨ret_int hy.symm, rfl⟩
    · have hc : (y != 0) = true := by simp [hy]
      clear hy
      go_enter Try.func117, Try.ntmps117
      go_wp2_with fail
      go_rounds 2
      go_ret
      exact ⟨rfl, rfl⟩
  · have hb : (x != 0) = true := by simp [hx]
    rw [if_neg hx]
    clear hx
    go_enter Try.func117, Try.ntmps117
    go_wp2_with fail
    go_rounds 1
    go_ret
    exact ⟨rfl, rfl⟩

theorem run_loadBytes {P : Program} (w : World) : ∀ (l : List UInt8) (b off : Nat) (acc : ByteArray), (∀ (i : Nat) (hi : i < l.length), w.cell? ⟨b, off + i, none⟩ = some (byteV l[i])) →
    (Extern.Bytes.loadBytes ⟨b, off, none⟩ l.length acc).run P w = .ok ⟨acc.data ++ l.toArray⟩ w
  | [], b, off, acc, _ => by simp [Extern.Bytes.loadBytes]
  | x :: l, b, off, acc, h => by
    have h0 := h 0 (by simp)
    have ih := run_loadBytes (P := P) w l b (off + 1) (acc.push x) (fun i hi => by
      have := h (i + 1) (by simpa using hi)
      rw [show off + 1 + i = off + (i + 1) by omega]
      simpa using this)
    simp only [Nat.add_zero, List.getElem_cons_zero] at h0
    have hadd : (⟨b, off, none⟩ : Addr).add 1 = ⟨b, off + 1, none⟩ := by unfold Addr.add; rfl
    simp only [List.length_cons, Extern.Bytes.loadBytes, Sem.run_bind, run_load, h0, Result.andThen_ok, byteV, hadd]
    have hx : ((x.toNat : Int).toNat).toUInt8 = x := by simp
    rw [hx, ih]
    congr 2
    simp
theorem run_bytesOf {P : Program} {w : World} {s : Sl} {l : List UInt8} (h : BytesR w s l) : (Extern.Bytes.bytesOf s.v).run P w = .ok ⟨l.toArray⟩ w := by
  obtain ⟨sa, sn, sc⟩ := s
  obtain rfl : sn = l.length := h.1
  by_cases hl : l = []
  · subst hl
    cases sa with
    | none => simp [Extern.Bytes.bytesOf]; rfl
    | some a => simp [Extern.Bytes.bytesOf, Extern.Bytes.loadBytes]; rfl
  · obtain ⟨b, off, ha, hc⟩ := h.2.2 hl
    simp only at ha
    subst ha
    show (Extern.Bytes.loadBytes ⟨b, off, none⟩ l.length .empty).run P w = _
    rw [run_loadBytes w l b off .empty hc]
    congr 2
    exact Array.empty_append
theorem run_compareBytes {P : Program} {w : World} {s t : Sl} {x y : List UInt8} (hs : BytesR w s x) (ht : BytesR w t y) :
    (Extern.BytealgCompare.compare #[s.v, t.v]).run P w = .ok (.int .i64 (Lib.compareBytes x y)) w := by
  have h : (Extern.BytealgCompare.compare #[s.v, t.v]) = (do pure (goInt (Extern.BytealgCompare.cmp (← Extern.Bytes.bytesOf s.v) (← Extern.Bytes.bytesOf t.v)))) := rfl
  rw [h]
  simp only [Sem.run_bind, run_bytesOf hs, run_bytesOf ht, Sem.run_pure, Result.andThen_ok]
  rw [Lib.cmp_eq]
  rfl
set_option maxRecDepth 100000 in
theorem bcompare_c (s t : Sl) (x y : List UInt8) (w : World) (hs : BytesR w s x) (ht : BytesR w t y) :
    Calls Try.prog 119 #[s.v, t.v] w fun e w' => e = .returned (.int .i64 (Lib.compareBytes x y)) ∧ w' = w := by
  go_enter Try.func119, Try.ntmps119
  go_wp2_with fail
  rw [run_callFunc_extern Try.func149 (by kernel_rfl) (by kernel_rfl) (by kernel_rfl) (e := Extern.BytealgCompare.compare) (by kernel_rfl), run_compareBytes hs ht]
  simp only [Result.andThen]
  rw [Oper.upon_value]
  go_wp2_with fail
  go_ret
  exact ⟨rfl, rfl⟩

theorem name_reads {w : World} {b off : Nat} {p : Pt} (h : row? w b off 33 = some (pointA p)) (c : Nat) (hc : 32 ≤ c) : BytesR w ⟨some ⟨b, off + 1, none⟩, 32, c⟩ p.name.1 := by
  refine ⟨p.name.2.symm, hc, fun _ => ⟨b, off + 1, rfl, fun i hi => ?_⟩⟩
  have := p.name.2
  rw [Nat.add_assoc, cell_of_row? h (1 + i) (by omega)]
  have hk := congrArg (fun a => a[i]?) (pointA_name p)
  simp only [Array.getElem?_extract] at hk
  rw [if_pos (by simp; omega)] at hk
  rw [hk]
  simp [hashA, hi]
/-- how sorted compares -/
def ptCmp (p q : Pt) : Int := if cmpI p.epoch.toNat q.epoch.toNat = 0 then Lib.compareBytes p.name.1 q.name.1 else cmpI p.epoch.toNat q.epoch.toNat

set_option maxRecDepth 100000 in
set_option maxHeartbeats 800000 in
theorem closure_c (p q : Pt) (w : World) : Calls Try.prog 116 #[.agg (pointA p), .agg (pointA q)] w fun e w' => e = .returned (.int .i64 (ptCmp p q)) ∧ ∃ k os', w' = Go.Sort.grow (w.drewN k) os' := by
  have hC : ∀ W, Calls Try.prog 118 #[.int .u64 p.epoch.toNat, .int .u64 q.epoch.toNat] W fun e w' => e = .returned (.int .i64 (cmpI p.epoch.toNat q.epoch.toNat)) ∧ w' = W := fun W => (compare64_c p.epoch.toNat q.epoch.toNat W).mono (fun _ _ h => ⟨h.1, h.2.symm⟩)
  obtain ⟨W1, hW1⟩ : ∃ W1, W1 = ((w.alloc (.cells (pointA p) 26)).alloc (.cells (pointA q) 26)).drew := ⟨_, rfl⟩
  have hr1 : row? W1 w.heap.size 0 33 = some (pointA p) := by rw [hW1, row?_drew, row?_old _ _ _ _ _ (by simp), row?_new]; simp
  have hr2 : row? W1 (w.heap.size + 1) 0 33 = some (pointA q) := by rw [hW1, row?_drew, row?_new_at _ _ _ _ _ _ (by simp)]; simp
  have hB := bcompare_c ⟨some ⟨w.heap.size, 1, none⟩, 32, 32⟩ ⟨some ⟨w.heap.size + 1, 1, none⟩, 32, 32⟩ p.name.1 q.name.1 W1 (name_reads (off := 0) hr1 32 (Nat.le_refl _)) (name_reads (off := 0) hr2 32 (Nat.le_refl _))
  have c1 := cell_of_row? hr1 0 (by omega)
  have c2 := cell_of_row? hr2 0 (by omega)
  simp only [Nat.zero_add, pointA_epoch] at c1 c2
  have hgr : ∀ o : Obj, ∃ k os', W1.alloc o = Go.Sort.grow (w.drewN k) os' := fun o => ⟨1, #[.cells (pointA p) 26, .cells (pointA q) 26, o], by rw [hW1, Go.Sort.alloc_eq_grow, Go.Sort.alloc_eq_grow, Go.Sort.alloc_eq_grow, Go.Sort.grow_grow, Go.Sort.drew_grow, Go.Sort.grow_grow]; rfl⟩
  unfold ptCmp
  generalize Lib.compareBytes p.name.1 q.name.1 = y at *
  generalize cmpI (p.epoch.toNat : Int) (q.epoch.toNat : Int) = x at *
  clear hr1 hr2
  obtain ⟨v, hv⟩ : ∃ v, v = if x = 0 then y else x := ⟨_, rfl⟩
  rw [← hv]
  replace hv := Lib.hid hv
  go_enter Try.func116, Try.ntmps116
  go_wp2_with fail
  refine wp_region_still_tail 10 (by kernel_rfl) (by kernel_rfl) ?_
  simp only [List.take_succ_cons, List.take_zero, List.drop_succ_cons, List.drop_zero]
  rw [show ({ (w.alloc (.cells (pointA p) 26)).alloc (.cells (pointA q) 26) with drawn := ((w.alloc (.cells (pointA p) 26)).alloc (.cells (pointA q) 26)).drawn + 1 } : World) = W1 from hW1.symm]
  clear hW1
  still_step
  still_step
  still_step
  still_step
  still_call (hC W1)
  still_step
  still_step
  still_step
  still_step
  still_call hB
  try refine wpStill_nil ?_
  have hO := or_c W1.heap.size 2 x y (W1.alloc (.cells #[.int .i64 x, .int .i64 y] 3)) (by simp) (by simp)
  rw [← hv.out] at hO
  go_wp2_with (go_at_call 117; (with_reducible refine hO.mono ?_); rintro e w' ⟨rfl, rfl⟩)
  go_ret
  exact ⟨rfl, hgr _⟩
end Go.Proofs.Ytlkflddjpkhndaa
