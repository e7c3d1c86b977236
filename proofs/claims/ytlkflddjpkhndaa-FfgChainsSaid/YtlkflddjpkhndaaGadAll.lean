/- Contracts: AllJustified, AllFinal, last, Best, Highest. -/
import Derived.Test.YtlkflddjpkhndaaSorted2
import Derived.Test.YtlkflddjpkhndaaGadF
namespace Go.Proofs.Ytlkflddjpkhndaa
open Go.RowKit

theorem allJ_c {w : World} {B r b1 b2 : Nat} {s : Sl} {ls : List Lnk} {js fs : List Pt} (h : Gad w B r b1 b2 s ls js fs) (hk : js.length ≤ 100000) (h0 : js ≠ []) :
    Calls Try.prog 30 #[.pointer (some ⟨r, 0, none⟩)] w fun e w' => ∃ s, e = .returned s.v ∧ PtsR w' s (srtPt js) ∧ Below w.heap.size w w' := by
  obtain ⟨_, c1, _⟩ := h.cells
  have HC := there_c c1
  have HS := fsorted_c b1 js w h.j hk h0
  clear h
  go_enter Try.func30, Try.ntmps30
  go_wp2_with (first
    | (go_at_call 71; refine HC.mono ?_; rintro e w' ⟨rfl, rfl⟩)
    | (go_at_call 77; refine HS.mono ?_; rintro e w2 ⟨s, rfl, h1, h2⟩))
  go_ret
  exact ⟨s, rfl, h1, h2⟩
theorem allF_c {w : World} {B r b1 b2 : Nat} {s : Sl} {ls : List Lnk} {js fs : List Pt} (h : Gad w B r b1 b2 s ls js fs) (hk : fs.length ≤ 100000) (h0 : fs ≠ []) :
    Calls Try.prog 31 #[.pointer (some ⟨r, 0, none⟩)] w fun e w' => ∃ s, e = .returned s.v ∧ PtsR w' s (srtPt fs) ∧ Below w.heap.size w w' := by
  obtain ⟨_, c1, c2, _⟩ := h.cells
  have HC := there_c c1
  have HS := fsorted_c b2 fs w h.f hk h0
  clear h
  go_enter Try.func31, Try.ntmps31
  go_wp2_with (first
    | (go_at_call 71; refine HC.mono ?_; rintro e w' ⟨rfl, rfl⟩)
    | (go_at_call 77; refine HS.mono ?_; rintro e w2 ⟨s, rfl, h1, h2⟩))
  go_ret
  exact ⟨s, rfl, h1, h2⟩
theorem last_res : Try.f74.results = #[.cell 2 26] := by kernel_rfl
set_option maxRecDepth 100000 in
set_option maxHeartbeats 800000 in
theorem last_c {w : World} {s : Sl} {l : List Pt} (h : PtsR w s l) (h0 : l ≠ []) (hn : l.length ≤ 1000000) :
    Calls Try.prog 74 #[s.v] w fun e w' => e = .returned (.agg (pointA (l.getLast h0))) ∧ Below w.heap.size w w' := by
  have hl : 0 < l.length := List.length_pos_iff.2 h0
  obtain ⟨b, off, e, hb, hr⟩ := h.at hl
  obtain ⟨cs, hr2, rfl⟩ := hr (l.length - 1) (by omega)
  rw [← List.getLast_eq_getElem h0] at hr2
  clear hr
  generalize l.getLast h0 = p at *
  obtain ⟨sa, sn, sc⟩ := s
  simp only [Sl.mk.injEq] at e
  obtain ⟨rfl, rfl, _⟩ := e
  have hnz : ((l.length : Int) == 0) = false := by simp; omega
  have i0 : (0 : Int) ≤ (l.length : Int) - 1 := by omega
  have i1 : (l.length : Int) - 1 < (l.length : Int) := by omega
  have i2 : ((l.length : Int) - 1).toNat = l.length - 1 := by omega
  have w1 : (-9223372036854775808 : Int) ≤ (l.length : Int) - 1 := by omega
  have hm : b ≠ w.heap.size := by omega
  clear h
  generalize l.length = n at *
  show Calls Try.prog 74 #[.slice (some ⟨b, off, none⟩) n sc] w _
  go_enter Try.func74, Try.ntmps74
  go_wp2_with (with_reducible refine ret_row Try.isAgg26 Try.sizeOf26 last_res (x := .pointer (some ⟨w.heap.size, 0, none⟩)) (w.heap.size) 0 ?rrhx (Eq.refl _) ?rrh ?rrhd ?rrhR; (case rrhx => simp only [Array.getD_eq_getD_getElem?, List.getElem?_toArray, List.getElem?_cons_succ, List.getElem?_cons_zero, Option.getD_some]); (case rrhd => exact rfl); (case rrh => go_simp); (case rrhR => (exact ⟨(by go_simp), (by (repeat' (first | (with_reducible exact Below.refl _ _) | (with_reducible assumption) | (with_reducible refine bel_trans (by assumption) ?_ ?_) | (with_reducible refine bel_grown (by assumption) ?_ ?_ ?_) | (with_reducible refine Below.alloc ?_ ?_ _) | (with_reducible refine Below.drew ?_) | (with_reducible refine below_drewN ?_ _) | (with_reducible refine Below.setCell ?_ ?_ _) | (with_reducible refine below_put ?_ ?_ _ _) | (with_reducible exact Nat.le_refl _) | omega | (with_reducible refine Nat.le_trans ?_ (Below.size (by assumption))) | (with_reducible refine Nat.le_trans ?_ (World.grownBy.size (by assumption))) | (simp only [World.size_alloc, World.size_setCell, World.size_drew, size_drewN]; omega) | (simp only [World.size_alloc, World.size_setCell, World.size_drew, size_drewN, size_put]; omega) | (intro k hk; simp [Value.ownBlock] at hk; done) | (intro k hk; simp [Value.ownBlock] at hk; omega) | (simp [size_drewN] at *; omega))))⟩)))
theorem srt_ne {l : List Pt} (h : l ≠ []) : srtPt l ≠ [] := fun e => h (List.eq_nil_of_length_eq_zero (by rw [← srt_length, e]; rfl))
theorem best_res : Try.f32.results = #[.cell 2 26] := by kernel_rfl
theorem highest_res : Try.f26.results = #[.cell 2 26] := by kernel_rfl
theorem bel_out {w X Y : World} (h : Below X.heap.size X Y) (hw : Below w.heap.size w X) : Below w.heap.size w Y := hw.trans (h.mono hw.size)
set_option maxRecDepth 100000 in
set_option maxHeartbeats 800000 in
theorem best_c {w : World} {B r b1 b2 : Nat} {s : Sl} {ls : List Lnk} {js fs : List Pt} (h : Gad w B r b1 b2 s ls js fs) (hk : fs.length ≤ 100000) (h0 : fs ≠ []) :
    Calls Try.prog 32 #[.pointer (some ⟨r, 0, none⟩)] w fun e w' => e = .returned (.agg (pointA ((srtPt fs).getLast (srt_ne h0)))) ∧ Below w.heap.size w w' := by
  have HA := allF_c (h.keep (bel_a w (.cells (pointA zeroPt) 26))) hk h0
  have HL := fun (W : World) (s : Sl) (hp : PtsR W s (srtPt fs)) => last_c hp (srt_ne h0) (by rw [srt_length]; omega)
  generalize (srtPt fs).getLast (srt_ne h0) = p at *
  clear h
  go_enter Try.func32, Try.ntmps32
  go_wp2_with (go_at_call 31; refine HA.mono ?_; rintro e w1 ⟨s1, rfl, h1, hb1⟩)
  refine (HL _ _ h1).mono ?_
  rintro e w2 ⟨rfl, hb2⟩
  have hz1 := hb1.size
  have hz2 := hb2.size
  simp only [World.size_alloc] at hz1
  have hrw : row? w2 w.heap.size 0 33 = some (pointA zeroPt) := by
    rw [(kept hb2).2.2 _ _ _ (by omega), (kept hb1).2.2 _ _ _ (by simp), row?_new]
    simp
  have hth : there w2 w.heap.size 0 33 := there_below hb2 (by omega) (there_below hb1 (by simp) (there_new _ _ _ _ _ (by simp)))
  have hfr : w2.frozen? ⟨w.heap.size, 0, none⟩ = false := by
    rw [(kept hb2).2.1 _ _ (by omega), (kept hb1).2.1 _ _ (by simp)]
    simp
  have hB : Below w.heap.size w w2 := bel_out hb2 ((bel_a w _).trans (hb1.mono (by simp)))
  clear h1 HA HL hb1 hb2
  go_wp2_with (with_reducible refine ret_row Try.isAgg26 Try.sizeOf26 best_res (x := .pointer (some ⟨w.heap.size, 0, none⟩)) (w.heap.size) 0 ?rrhx (Eq.refl _) ?rrh ?rrhd ?rrhR; (case rrhx => simp only [Array.getD_eq_getD_getElem?, List.getElem?_toArray, List.getElem?_cons_succ, List.getElem?_cons_zero, Option.getD_some]); (case rrhd => exact rfl); (case rrh => go_simp); (case rrhR => (exact ⟨(by go_simp), (by (repeat' (first | (with_reducible exact Below.refl _ _) | (with_reducible assumption) | (with_reducible refine bel_trans (by assumption) ?_ ?_) | (with_reducible refine bel_grown (by assumption) ?_ ?_ ?_) | (with_reducible refine Below.alloc ?_ ?_ _) | (with_reducible refine Below.drew ?_) | (with_reducible refine below_drewN ?_ _) | (with_reducible refine Below.setCell ?_ ?_ _) | (with_reducible refine below_put ?_ ?_ _ _) | (with_reducible exact Nat.le_refl _) | omega | (with_reducible refine Nat.le_trans ?_ (Below.size (by assumption))) | (with_reducible refine Nat.le_trans ?_ (World.grownBy.size (by assumption))) | (simp only [World.size_alloc, World.size_setCell, World.size_drew, size_drewN]; omega) | (simp only [World.size_alloc, World.size_setCell, World.size_drew, size_drewN, size_put]; omega) | (intro k hk; simp [Value.ownBlock] at hk; done) | (intro k hk; simp [Value.ownBlock] at hk; omega) | (simp [size_drewN] at *; omega))))⟩)))
set_option maxRecDepth 100000 in
set_option maxHeartbeats 800000 in
theorem highest_c {w : World} {B r b1 b2 : Nat} {s : Sl} {ls : List Lnk} {js fs : List Pt} (h : Gad w B r b1 b2 s ls js fs) (hk : js.length ≤ 100000) (h0 : js ≠ []) :
    Calls Try.prog 26 #[.pointer (some ⟨r, 0, none⟩)] w fun e w' => e = .returned (.agg (pointA ((srtPt js).getLast (srt_ne h0)))) ∧ Below w.heap.size w w' := by
  have HA := allJ_c (h.keep (bel_a w (.cells (pointA zeroPt) 26))) hk h0
  have HL := fun (W : World) (s : Sl) (hp : PtsR W s (srtPt js)) => last_c hp (srt_ne h0) (by rw [srt_length]; omega)
  generalize (srtPt js).getLast (srt_ne h0) = p at *
  clear h
  go_enter Try.func26, Try.ntmps26
  go_wp2_with (go_at_call 30; refine HA.mono ?_; rintro e w1 ⟨s1, rfl, h1, hb1⟩)
  refine (HL _ _ h1).mono ?_
  rintro e w2 ⟨rfl, hb2⟩
  have hz1 := hb1.size
  have hz2 := hb2.size
  simp only [World.size_alloc] at hz1
  have hrw : row? w2 w.heap.size 0 33 = some (pointA zeroPt) := by
    rw [(kept hb2).2.2 _ _ _ (by omega), (kept hb1).2.2 _ _ _ (by simp), row?_new]
    simp
  have hth : there w2 w.heap.size 0 33 := there_below hb2 (by omega) (there_below hb1 (by simp) (there_new _ _ _ _ _ (by simp)))
  have hfr : w2.frozen? ⟨w.heap.size, 0, none⟩ = false := by
    rw [(kept hb2).2.1 _ _ (by omega), (kept hb1).2.1 _ _ (by simp)]
    simp
  have hB : Below w.heap.size w w2 := bel_out hb2 ((bel_a w _).trans (hb1.mono (by simp)))
  clear h1 HA HL hb1 hb2
  go_wp2_with (with_reducible refine ret_row Try.isAgg26 Try.sizeOf26 highest_res (x := .pointer (some ⟨w.heap.size, 0, none⟩)) (w.heap.size) 0 ?rrhx (Eq.refl _) ?rrh ?rrhd ?rrhR; (case rrhx => simp only [Array.getD_eq_getD_getElem?, List.getElem?_toArray, List.getElem?_cons_succ, List.getElem?_cons_zero, Option.getD_some]); (case rrhd => exact rfl); (case rrh => go_simp); (case rrhR => (exact ⟨(by go_simp), (by (repeat' (first | (with_reducible exact Below.refl _ _) | (with_reducible assumption) | (with_reducible refine bel_trans (by assumption) ?_ ?_) | (with_reducible refine bel_grown (by assumption) ?_ ?_ ?_) | (with_reducible refine Below.alloc ?_ ?_ _) | (with_reducible refine Below.drew ?_) | (with_reducible refine below_drewN ?_ _) | (with_reducible refine Below.setCell ?_ ?_ _) | (with_reducible refine below_put ?_ ?_ _ _) | (with_reducible exact Nat.le_refl _) | omega | (with_reducible refine Nat.le_trans ?_ (Below.size (by assumption))) | (with_reducible refine Nat.le_trans ?_ (World.grownBy.size (by assumption))) | (simp only [World.size_alloc, World.size_setCell, World.size_drew, size_drewN]; omega) | (simp only [World.size_alloc, World.size_setCell, World.size_drew, size_drewN, size_put]; omega) | (intro k hk; simp [Value.ownBlock] at hk; done) | (intro k hk; simp [Value.ownBlock] at hk; omega) | (simp [size_drewN] at *; omega))))⟩)))
/-- a slice of links that can be read -/
abbrev LnksR (w : World) (s : Sl) (l : List Lnk) : Prop := SlR 66 (fun cs p => cs = linkA p) w s l
theorem lnks_of_own {w : World} {B : Nat} {s : Sl} {ls : List Lnk} (h : OwnC w B 66 s.v ls.length (lnkCells ls)) : LnksR w s ls := by
  obtain ⟨sa, sn, sc⟩ := s
  rcases h.2 with ⟨e, h0⟩ | ⟨g, cap, e, h1, h2, h3, _⟩
  · cases e
    have : ls = [] := List.eq_nil_of_length_eq_zero h0
    subst this
    exact SlR.nil _ _ _ _ _
  · cases e
    exact ⟨rfl, h3, fun _ => ⟨g, 0, rfl, fun i hi => ⟨_, by rw [Nat.zero_add]; exact lnk_row h i hi, rfl⟩⟩⟩
theorem info_lnk : (Try.prog.info? 28).map (fun i => (i.zero, i.size, i.bytes)) = some (some (.agg (linkA zeroLnk)), 66, 80) := by kernel_rfl
theorem linkA_one (p : Lnk) : ∀ u ∈ (linkA p).toList, u.oneCell' = true := by
  intro u hu
  have := oneLink p
  rw [Array.all_eq_true_iff_forall_mem] at this
  exact this u (by simpa using hu)
theorem lnkCells_onecell (ls : List Lnk) : ∀ u ∈ lnkCells ls, u.oneCell' = true := by
  intro u hu
  simp only [lnkCells, List.mem_flatten, List.mem_map] at hu
  obtain ⟨_, ⟨l, _, rfl⟩, hu⟩ := hu
  exact linkA_one l u hu
theorem lclone_c {w : World} {B : Nat} {s : Sl} {ls : List Lnk} (h : OwnC w B 66 s.v ls.length (lnkCells ls)) (hn : ls.length ≤ 100000) :
    Calls Try.prog 78 #[s.v] w fun e w' => ∃ s' : Sl, e = .returned s'.v ∧ OwnC w' w.heap.size 66 s'.v ls.length (lnkCells ls) ∧ Below w.heap.size w w' := by
  obtain ⟨sa, sn, sc⟩ := s
  obtain ⟨i0, hi, hz0, hz1, hz2⟩ := info_parts info_lnk
  rcases h.2 with ⟨e, h0⟩ | ⟨g, cap, e, h1, h2, h3, h4, h5, h6, h7⟩
  · cases e
    refine (Try.slices_Clone_nil 0 0 w).mono ?_
    rintro e w' ⟨rfl, rfl⟩
    exact ⟨⟨none, 0, 0⟩, rfl, ⟨lnkCells_length ls, .inl ⟨rfl, h0⟩⟩, Below.refl _ _⟩
  · cases e
    refine (Try.slices_Clone i0 (.agg (linkA zeroLnk)) 66 80 hi hz0 hz1 hz2 (by simp [Value.cells]) (by decide) Try.sizeOf28 g 0 ls.length sc (lnkCells ls) w (lnkCells_length ls) (Nat.le_trans hn (by decide)) (by omega) (fun j u hj => by rw [Nat.zero_add]; exact h7 j u hj) (lnkCells_onecell ls)).mono ?_
    rintro e w' ⟨v', rfl, ho, _, hb⟩
    have ho' := OwnC.of_row ho
    obtain ⟨s', rfl⟩ := ho'.slice
    exact ⟨s', rfl, ho', hb⟩
theorem links_c {w : World} {B r b1 b2 : Nat} {s : Sl} {ls : List Lnk} {js fs : List Pt} (h : Gad w B r b1 b2 s ls js fs) (hn : ls.length ≤ 100000) :
    Calls Try.prog 33 #[.pointer (some ⟨r, 0, none⟩)] w fun e w' => ∃ s' : Sl, e = .returned s'.v ∧ LnksR w' s' ls ∧ Below w.heap.size w w' := by
  obtain ⟨c0, c1, _⟩ := h.cells
  have HC := there_c c1
  have HS := lclone_c h.own hn
  clear h
  go_enter Try.func33, Try.ntmps33
  go_wp2_with (first
    | (go_at_call 71; refine HC.mono ?_; rintro e w' ⟨rfl, rfl⟩)
    | (go_at_call 78; refine HS.mono ?_; rintro e w2 ⟨s', rfl, h1, h2⟩))
  go_ret
  exact ⟨s', rfl, lnks_of_own h1, h2⟩
end Go.Proofs.Ytlkflddjpkhndaa
