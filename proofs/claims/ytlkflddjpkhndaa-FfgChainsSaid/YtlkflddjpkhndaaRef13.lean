/- Contracts of package landmarkref13: has, less, Same; slices of checkpoints of the call's own. -/
import Derived.Test.YtlkflddjpkhndaaGadS
import Derived.Lib.BufferRead
namespace Go.Proofs.Ytlkflddjpkhndaa
open Go.RowKit

theorem str_run3 {w : World} {s : Sl} {l : List UInt8} (h : BytesR w s l) : (convert 32 9 s.v).run Try.prog w = .ok (.string ⟨l.toArray⟩) w := by
  obtain ⟨sa, sn, sc⟩ := s
  obtain rfl : sn = l.length := h.1
  by_cases hl : l = []
  · subst hl
    cases sa with
    | none => exact Lib.run_convert_nil_bytes w _ _ 5 sc Try.underlying32 Try.underlying5 Try.underlying9
    | some a => exact run_convert_bytes_back w _ _ 5 a sc [] Try.underlying32 Try.underlying5 Try.underlying9 (fun j hj => by simp at hj)
  · obtain ⟨b, off, ha, hc⟩ := h.2.2 hl
    simp only at ha
    subst ha
    refine run_convert_bytes_back w _ _ 5 ⟨b, off, none⟩ sc l Try.underlying32 Try.underlying5 Try.underlying9 (fun j hj => ?_)
    have hadd : (⟨b, off, none⟩ : Addr).add j = ⟨b, off + j, none⟩ := by unfold Addr.add; split <;> simp_all
    rw [hadd, hc j hj]
    rfl
theorem bytesLess_dec3 : ∀ (x y : List UInt8), Op.bytesLess x y = decide (x < y)
  | _, [] => by simp [Op.bytesLess]
  | [], _ :: _ => by simp [Op.bytesLess]
  | a :: x, b :: y => by
    rw [Op.bytesLess, bytesLess_dec3 x y, Bool.eq_iff_iff]
    simp only [Bool.or_eq_true, Bool.and_eq_true, decide_eq_true_eq, beq_iff_eq, List.cons_lt_cons_iff]
theorem ptLt_y (p q : Pt) (h : p.epoch.toNat < q.epoch.toNat) : decide (ptLt p q) = true := decide_eq_true (.inl h)
theorem ptLt_m (p q : Pt) (h : p.epoch.toNat = q.epoch.toNat) : decide (ptLt p q) = decide (p.name.1 < q.name.1) := by
  rw [decide_eq_decide]
  unfold ptLt
  have : p.epoch = q.epoch := UInt64.toNat_inj.1 h
  simp [this]
theorem ptLt_n (p q : Pt) (h : q.epoch.toNat < p.epoch.toNat) : decide (ptLt p q) = false := decide_eq_false (by
  rintro (h' | ⟨h', _⟩)
  · omega
  · rw [h'] at h; omega)

set_option maxRecDepth 100000 in
set_option maxHeartbeats 800000 in
theorem fless_c (p q : Pt) (w : World) : Calls Try.prog 113 #[.agg (pointA p), .agg (pointA q)] w fun e w' => e = .returned (.bool (decide (ptLt p q))) ∧ ∃ k, w' = ((w.alloc (.cells (pointA p) 26)).alloc (.cells (pointA q) 26)).drewN k := by
  have hp : ∀ n, (convert 32 9 (.slice (some ⟨w.heap.size, 1, none⟩) 32 32)).run Try.prog ((((w.alloc (.cells (pointA p) 26)).alloc (.cells (pointA q) 26))).drewN n) = .ok (.string ⟨p.name.1.toArray⟩) ((((w.alloc (.cells (pointA p) 26)).alloc (.cells (pointA q) 26))).drewN n) :=
    fun n => str_run3 (s := ⟨some ⟨w.heap.size, 1, none⟩, 32, 32⟩) (name_reads (off := 0) (by rw [row?_drewN, row?_old _ _ _ _ _ (by simp), row?_new]; simp) 32 (Nat.le_refl _))
  have hq : ∀ n, (convert 32 9 (.slice (some ⟨w.heap.size + 1, 1, none⟩) 32 32)).run Try.prog ((((w.alloc (.cells (pointA p) 26)).alloc (.cells (pointA q) 26))).drewN n) = .ok (.string ⟨q.name.1.toArray⟩) ((((w.alloc (.cells (pointA p) 26)).alloc (.cells (pointA q) 26))).drewN n) :=
    fun n => str_run3 (s := ⟨some ⟨w.heap.size + 1, 1, none⟩, 32, 32⟩) (name_reads (off := 0) (by rw [row?_drewN, row?_new_at _ _ _ _ _ _ (by simp)]; simp) 32 (Nat.le_refl _))
  by_cases h1 : p.epoch.toNat < q.epoch.toNat
  · have d1 : decide ((p.epoch.toNat : Int) < (q.epoch.toNat : Int)) = true := decide_eq_true (by omega)
    go_enter Try.func113, Try.ntmps113
    go_wp2_with fail
    go_quiet (fail)
    go_wp2_with fail
    go_ret
    exact ⟨ret_bool (ptLt_y p q h1).symm, _, rfl⟩
  · have d1 : decide ((p.epoch.toNat : Int) < (q.epoch.toNat : Int)) = false := decide_eq_false (by omega)
    by_cases h2 : p.epoch.toNat = q.epoch.toNat
    · have d2 : ((p.epoch.toNat : Int) == (q.epoch.toNat : Int)) = true := by simp [h2]
      have hb := bytesLess_dec3 p.name.1 q.name.1
      go_enter Try.func113, Try.ntmps113
      go_wp2_with fail
      go_quiet (fail)
      go_wp2_with fail
      go_ret
      exact ⟨ret_bool (by rw [ptLt_m p q h2]), _, rfl⟩
    · have d2 : ((p.epoch.toNat : Int) == (q.epoch.toNat : Int)) = false := by simp; omega
      go_enter Try.func113, Try.ntmps113
      go_wp2_with fail
      go_quiet (fail)
      go_wp2_with fail
      go_ret
      exact ⟨ret_bool (ptLt_n p q (by omega)).symm, _, rfl⟩

theorem PtsR.keep' {w w' : World} {s : Sl} {l : List Pt} (h : PtsR w s l) (hb : Below w.heap.size w w') : PtsR w' s l := SlR.keep h hb (fun _ _ h => h)
theorem not_mem_take_succ {l : List Pt} {p : Pt} {k : Nat} (hk : k < l.length) (h : p ∉ l.take k) (hne : l[k] ≠ p) : p ∉ l.take (k + 1) := by
  rw [List.take_succ_eq_append_getElem hk, List.mem_append, List.mem_singleton]
  rintro (h' | h')
  · exact h h'
  · exact hne h'.symm
set_option maxRecDepth 100000 in
set_option maxHeartbeats 800000 in
theorem has_c (s : Sl) (l : List Pt) (p : Pt) (w : World) (hs : PtsR w s l) (hl : l.length ≤ 1000000) :
    Calls Try.prog 75 #[s.v, .agg (pointA p)] w fun e w' => e = .returned (.bool (decide (p ∈ l))) ∧ Below w.heap.size w w' := by
  obtain ⟨sa, sn, sc⟩ := s
  obtain rfl : sn = l.length := hs.1
  have Hs := Lib.hid hs
  clear hs
  show Calls Try.prog 75 #[.slice sa l.length sc, .agg (pointA p)] w _
  go_enter Try.func75, Try.ntmps75
  go_wp2_with fail
  go_loopw [5] (fun i w' => ∃ k : Nat, k ≤ l.length ∧ p ∉ l.take k ∧ i = .int .i64 k ∧ ∃ n, w' = (w.alloc (.cells (pointA p) 26)).drewN n) (fun i _ => l.length - (intOf i).toNat)
  case atStart => exact ⟨0, Nat.zero_le _, by simp, rfl, 0, rfl⟩
  case round =>
    obtain ⟨k, hk, hn, rfl, n, rfl⟩ := hrel
    have Hn := Lib.hid hn
    clear hn
    by_cases hkx : k < l.length
    · obtain ⟨b, off, e, hb, hc⟩ := Hs.out.at (by omega)
      have e1 := congrArg Sl.a e
      simp only at e1
      subst e1
      clear e
      obtain ⟨cs, hcx, hcs⟩ := hc k hkx
      subst hcs
      have Hne := Lib.hid (not_mem_take_succ hkx Hn.out)
      have Hin := Lib.hid (List.getElem_mem hkx)
      clear hc
      have i0 : (0 : Int) ≤ (k : Int) := by omega
      have i1 : (k : Int) < (l.length : Int) := by omega
      have hm : b ≠ w.heap.size := by omega
      generalize l[k] = q at *
      by_cases hq : q = p
      · subst hq
        have d0 : decide (q = q) = true := by simp
        have Hd := Lib.hid (show decide (q ∈ l) = true from decide_eq_true Hin.out)
        go_wp2_with fail
        go_quiet (fail)
        go_wp2_with fail
        go_ret
        exact ⟨ret_bool Hd.out.symm, by (repeat' (first | (with_reducible exact Below.refl _ _) | (with_reducible assumption) | (with_reducible refine bel_trans (by assumption) ?_ ?_) | (with_reducible refine bel_grown (by assumption) ?_ ?_ ?_) | (with_reducible refine Below.alloc ?_ ?_ _) | (with_reducible refine Below.drew ?_) | (with_reducible refine below_drewN ?_ _) | (with_reducible refine Below.setCell ?_ ?_ _) | (with_reducible refine below_put ?_ ?_ _ _) | (with_reducible exact Nat.le_refl _) | omega | (with_reducible refine Nat.le_trans ?_ (Below.size (by assumption))) | (with_reducible refine Nat.le_trans ?_ (World.grownBy.size (by assumption))) | (simp only [World.size_alloc, World.size_setCell, World.size_drew, size_drewN]; omega) | (simp only [World.size_alloc, World.size_setCell, World.size_drew, size_drewN, size_put]; omega) | (intro k hk; simp [Value.ownBlock] at hk; done) | (intro k hk; simp [Value.ownBlock] at hk; omega) | (simp [size_drewN] at *; omega)))⟩
      · have d0 : decide (q = p) = false := decide_eq_false hq
        go_wp2_with fail
        go_quiet (fail)
        go_wp2_with fail
        go_roundw
        case rel => exact ⟨k + 1, by omega, Hne.out hq, by go_num, _, rfl⟩
        case measure => simp [intOf]; omega
    · have hd : decide (p ∈ l) = false := decide_eq_false (by
        have := Hn.out
        rwa [List.take_of_length_le (by omega)] at this)
      have Hd := Lib.hid hd
      clear hd
      go_wp2_with fail
      go_ret
      exact ⟨ret_bool Hd.out.symm, by (repeat' (first | (with_reducible exact Below.refl _ _) | (with_reducible assumption) | (with_reducible refine bel_trans (by assumption) ?_ ?_) | (with_reducible refine bel_grown (by assumption) ?_ ?_ ?_) | (with_reducible refine Below.alloc ?_ ?_ _) | (with_reducible refine Below.drew ?_) | (with_reducible refine below_drewN ?_ _) | (with_reducible refine Below.setCell ?_ ?_ _) | (with_reducible refine below_put ?_ ?_ _ _) | (with_reducible exact Nat.le_refl _) | omega | (with_reducible refine Nat.le_trans ?_ (Below.size (by assumption))) | (with_reducible refine Nat.le_trans ?_ (World.grownBy.size (by assumption))) | (simp only [World.size_alloc, World.size_setCell, World.size_drew, size_drewN]; omega) | (simp only [World.size_alloc, World.size_setCell, World.size_drew, size_drewN, size_put]; omega) | (intro k hk; simp [Value.ownBlock] at hk; done) | (intro k hk; simp [Value.ownBlock] at hk; omega) | (simp [size_drewN] at *; omega)))⟩
theorem take_succ_pts {x y : List Pt} {k : Nat} (h1 : k < x.length) (h2 : k < y.length) (h : x.take k = y.take k) (he : x[k] = y[k]) : x.take (k + 1) = y.take (k + 1) := by
  rw [List.take_succ_eq_append_getElem h1, List.take_succ_eq_append_getElem h2, h, he]
set_option maxRecDepth 100000 in
set_option maxHeartbeats 800000 in
theorem same_c (s t : Sl) (x : List Pt) (w : World) (hs : PtsR w s x) (ht : PtsR w t x) (hl : x.length ≤ 1000000) :
    Calls Try.prog 29 #[s.v, t.v] w fun e w' => e = .returned (.bool true) ∧ Below w.heap.size w w' := by
  obtain ⟨sa, sn, sc⟩ := s
  obtain ⟨ta, tn, tc⟩ := t
  obtain rfl : sn = x.length := hs.1
  obtain rfl : tn = x.length := ht.1
  have Hs := Lib.hid hs
  have Ht := Lib.hid ht
  clear hs ht
  show Calls Try.prog 29 #[.slice sa x.length sc, .slice ta x.length tc] w _
  have hb : ((x.length : Int) != (x.length : Int)) = false := by simp
  go_enter Try.func29, Try.ntmps29
  go_wp2_with fail
  go_loopw [5] (fun i w' => ∃ k : Nat, k ≤ x.length ∧ i = .int .i64 k ∧ ∃ n, w' = w.drewN n) (fun i _ => x.length - (intOf i).toNat)
  case atStart => exact ⟨0, Nat.zero_le _, rfl, 0, rfl⟩
  case round =>
    obtain ⟨k, hk, rfl, n, rfl⟩ := hrel
    by_cases hkx : k < x.length
    · obtain ⟨b, off, e, hb, hc⟩ := Hs.out.at (by omega)
      have e1 := congrArg Sl.a e
      simp only at e1
      subst e1
      clear e
      obtain ⟨cs, hcx, hcs⟩ := hc k hkx
      subst hcs
      clear hc
      obtain ⟨b2, off2, e, hb2, hc⟩ := Ht.out.at (by omega)
      have e1 := congrArg Sl.a e
      simp only at e1
      subst e1
      clear e
      obtain ⟨cs, hcy, hcs⟩ := hc k hkx
      subst hcs
      clear hc
      have i0 : (0 : Int) ≤ (k : Int) := by omega
      have i1 : (k : Int) < (x.length : Int) := by omega
      generalize x[k] = q at *
      have d0 : decide (q = q) = true := by simp
      go_wp2_with fail
      go_quiet (fail)
      go_wp2_with fail
      go_roundw
      case rel => exact ⟨k + 1, by omega, by go_num, _, rfl⟩
      case measure => simp [intOf]; omega
    · go_wp2_with fail
      go_ret
      exact ⟨rfl, by (repeat' (first | (with_reducible exact Below.refl _ _) | (with_reducible assumption) | (with_reducible refine bel_trans (by assumption) ?_ ?_) | (with_reducible refine bel_grown (by assumption) ?_ ?_ ?_) | (with_reducible refine Below.alloc ?_ ?_ _) | (with_reducible refine Below.drew ?_) | (with_reducible refine below_drewN ?_ _) | (with_reducible refine Below.setCell ?_ ?_ _) | (with_reducible refine below_put ?_ ?_ _ _) | (with_reducible exact Nat.le_refl _) | omega | (with_reducible refine Nat.le_trans ?_ (Below.size (by assumption))) | (with_reducible refine Nat.le_trans ?_ (World.grownBy.size (by assumption))) | (simp only [World.size_alloc, World.size_setCell, World.size_drew, size_drewN]; omega) | (simp only [World.size_alloc, World.size_setCell, World.size_drew, size_drewN, size_put]; omega) | (intro k hk; simp [Value.ownBlock] at hk; done) | (intro k hk; simp [Value.ownBlock] at hk; omega) | (simp [size_drewN] at *; omega)))⟩

/-! slices of checkpoints of the call's own -/
def OwnP (w : World) (base : Nat) (v : Value) (l : List Pt) : Prop := OwnC w base 33 v l.length (ptCells l)
theorem OwnP.nil (w : World) (base : Nat) : OwnP w base (.slice none 0 0) [] := OwnC.nil _ _ _
theorem OwnP.keep {w w' : World} {base : Nat} {v : Value} {l : List Pt} (h : OwnP w base v l) (hb : Below w.heap.size w w') : OwnP w' base v l := OwnC.keep h hb
theorem OwnP.more {w : World} {base base' : Nat} {v : Value} {l : List Pt} (h : OwnP w base v l) (hb : base' ≤ base) : OwnP w base' v l := OwnC.more h hb
theorem OwnP.slice {w : World} {base : Nat} {v : Value} {l : List Pt} (h : OwnP w base v l) : ∃ s : Sl, v = s.v := OwnC.slice h
theorem pt_row {w : World} {B n c g : Nat} {l : List Pt} (h : OwnC w B 33 (.slice (some ⟨g, 0, none⟩) n c) l.length (ptCells l)) (i : Nat) (hi : i < l.length) : row? w g (i * 33) 33 = some (pointA l[i]) := by
  rcases h.2 with ⟨hv, _⟩ | ⟨g', cap, hv, h1, h2, h3, h4, h5, h6, h7⟩
  · cases hv
  · cases hv
    refine row?_of_cells (by simp) (by decide) fun j hj => h7 _ _ ?_
    simp at hj
    rw [ptCells_get l i j hi hj, Array.getElem?_eq_getElem (by simp; omega)]
theorem OwnP.reads {w : World} {base : Nat} {s : Sl} {l : List Pt} (h : OwnP w base s.v l) : PtsR w s l := by
  obtain ⟨sa, sn, sc⟩ := s
  rcases h.2 with ⟨e, h0⟩ | ⟨g, cap, e, h1, h2, h3, _⟩
  · cases e
    have : l = [] := List.eq_nil_of_length_eq_zero h0
    subst this
    exact SlR.nil _ _ _ _ _
  · cases e
    exact ⟨rfl, h3, fun _ => ⟨g, 0, rfl, fun i hi => ⟨_, by rw [Nat.zero_add]; exact pt_row h i hi, rfl⟩⟩⟩
theorem ptCells_onecell (l : List Pt) : ∀ u ∈ ptCells l, u.oneCell' = true := by
  intro u hu
  simp only [ptCells, List.mem_flatten, List.mem_map] at hu
  obtain ⟨_, ⟨l, _, rfl⟩, hu⟩ := hu
  exact pointA_one l u hu
/-- a slice of checkpoints as a source of append -/
theorem PtsR.src {P : Program} {w : World} {s : Sl} {l : List Pt} (h : PtsR w s l) {t e : TypeId} (ht : P.underlying t = some (.slice e)) : Src P 33 t s.v l.length (ptCells l) w := by
  by_cases hl : l = []
  · subst hl
    obtain ⟨a, n, c⟩ := s
    obtain rfl : n = 0 := h.1
    refine ⟨.inl ⟨_, ht⟩, fun _ => rfl, ?_, ?_, by simp [ptCells], by simp [ptCells]⟩ <;> cases a <;> simp [Builtin.firstCells, loadCells, loadCellsFrom, ptCells]
  · obtain ⟨b, off, ha, hc⟩ := h.2.2 hl
    obtain ⟨a, n, c⟩ := s
    simp only at ha
    subst ha
    obtain rfl : n = l.length := h.1
    refine Src.ofSlice w ht ⟨b, off, none⟩ l.length c (ptCells l) (by rw [ptCells_length]) (fun j u hu => ?_) (ptCells_onecell l)
    have hadd : (⟨b, off, none⟩ : Addr).add j = ⟨b, off + j, none⟩ := by unfold Addr.add; split <;> simp_all
    have hj : j < l.length * 33 := by
      rcases Nat.lt_or_ge j (l.length * 33) with hj | hj
      · exact hj
      · rw [List.getElem?_eq_none (by rw [ptCells_length]; omega)] at hu; cases hu
    obtain ⟨cs, hr, rfl⟩ := hc (j / 33) (by omega)
    have h1 := cell_of_row? hr (j % 33) (by omega)
    have h2 := ptCells_get l (j / 33) (j % 33) (by omega) (by omega)
    rw [show j / 33 * 33 + j % 33 = j by omega, hu] at h2
    rw [hadd, show off + j = off + j / 33 * 33 + j % 33 by omega, h1, h2]
theorem wpList_append_pts (w : World) {ops : Array Oper} {rest : List Oper} {o : Oper} {a : Act} {Q : Exit → Act → World → Prop} (hgd : o.guard = none) (x y : Operand) 
    (ho : o.op = .call { callee := .builtin .append, args := #[x, y], argTypes := #[49, 49] })
    (base : Nat) (v : Value) (l : List Pt) (hv : a.eval x = v) (hown : OwnP w base v l) (s : Sl) (m : List Pt) (hs : a.eval y = s.v) (hr : PtsR w s m)
    (hlen : l.length + m.length ≤ 1000000) (hbase : base ≤ w.heap.size)
    (h : ∀ v' w', OwnP w' base v' (l ++ m) → w.grownBy w' v.ownBlock → (v'.ownBlock = v.ownBlock ∨ v'.ownBlock = some w.heap.size) → wpList Try.prog ops Q rest (a.put o.dst v') w') : wpList Try.prog ops Q (o :: rest) a w := by
  obtain ⟨i0, hi, hy0, hy1, hy2⟩ := info_parts info_pt
  exact wpList_append_ownC w hgd x y _ _ ho base 26 i0 _ 33 40 Try.underlying49 hi hy0 hy1 hy2 (by simp [Value.cells]) v l.length (ptCells l) hv hown s.v m.length (ptCells m) hs (hr.src Try.underlying49) (by simp only [maxLen]; omega) (by omega) hbase
    fun v' w' h2 h3 h4 => h v' w' (by unfold OwnP; rw [ptCells_append, List.length_append]; exact h2) h3 h4
/-- one checkpoint in new memory -/
theorem PtsR.one (W : World) (p : Pt) (e : TypeId) (b : Nat) (hb : b = W.heap.size) : PtsR (W.alloc (.cells (pointA p) e)) ⟨some ⟨b, 0, none⟩, 1, 1⟩ [p] := by
  subst hb
  refine ⟨rfl, Nat.le_refl _, fun _ => ⟨W.heap.size, 0, rfl, fun i hi => ⟨pointA p, ?_, ?_⟩⟩⟩
  · obtain rfl : i = 0 := by simp at hi; omega
    rw [row?_new]; simp
  · obtain rfl : i = 0 := by simp at hi; omega
    rfl
theorem OwnP.one (W : World) (p : Pt) (e : TypeId) (base : Nat) (hb : base ≤ W.heap.size) : OwnP (W.alloc (.cells (pointA p) e)) base (.slice (some ⟨W.heap.size, 0, none⟩) 1 1) [p] := by
  refine ⟨by rw [ptCells_length], .inr ⟨W.heap.size, 1, rfl, hb, by simp, Nat.le_refl _, by simp [maxLen], fun j hj => ?_, fun j hj => ?_, fun j u hu => ?_⟩⟩
  · rw [cell_alloc, if_pos rfl, Array.getElem?_eq_getElem (by simp; omega)]
    rfl
  · exact frozen_of_row _ _ _ _ _ (heap_alloc_new W _)
  · rw [cell_alloc, if_pos rfl]
    rw [ptCells_one] at hu
    simpa using hu
end Go.Proofs.Ytlkflddjpkhndaa
