/- Texts of this proof, one behind the other: Next. -/
import Derived.Test.YtkocpihfdpahpaaRM
import Derived.Test.YtkocpihfdpahpaaRK
import Derived.Test.YtkocpihfdpahpaaRH
import Derived.Test.YtkocpihfdpahpaaRC
set_option linter.unusedVariables false
set_option linter.unusedSimpArgs false
/- The walk of landmarklaw11.RegistryNext. -/
namespace Go.Proofs.Ytkocpihfdpahpaa
open Go.RowKit

attribute [local go_sem] regA_size
/-- a copy of members, of none too -/
theorem cp_mbrs {W : World} {s : Sl} {ms : List Mbr} (h : MbrsR W s ms) (hl : ms.length ≤ 1000000) :
    ∃ (s' : Sl) (w' : World), (appM #[.slice none 0 0, s.v]).run Try.prog W = .ok s'.v w' ∧ MbrsR w' s' ms ∧ Below W.heap.size W w' := by
  obtain ⟨i0, hi, hy0, hy1, hy2⟩ := info_parts info_mbrs
  obtain ⟨v', w', e1, e2, e3, e4⟩ := run_append_ownC (P := Try.prog) W W.heap.size 101 101 101 123 i0 _ 35 56 Try.underlying101 hi hy0 hy1 hy2 (by simp [Value.cells]) (.slice none 0 0) 0 [] (OwnC.nil _ _ _) s.v ms.length (flatC mbrA ms) (rows_src mbrA mbrA_size (by omega) mbrA_one h Try.underlying101) (by simp only [maxLen]; omega) (by omega) (Nat.le_refl _)
  rw [Nat.zero_add, List.nil_append] at e2
  obtain ⟨s', rfl⟩ := e2.slice
  exact ⟨s', w', e1, rows_of_own mbrA mbrA_size (by omega) e2, (Below.refl _ _).grown e3 (Nat.le_refl _) (fun k hk => by simp [Value.ownBlock] at hk)⟩
theorem intA_one (n : Int) : ∀ u ∈ (intA n).toList, u.oneCell' = true := by simp [intA, Value.oneCell']
theorem cp_nums {W : World} {s : Sl} {l : List Int} (h : NumsR W s l) (hl : l.length ≤ 1000000) :
    ∃ (s' : Sl) (w' : World), (appI #[.slice none 0 0, s.v]).run Try.prog W = .ok s'.v w' ∧ NumsR w' s' l ∧ Below W.heap.size W w' := by
  obtain ⟨i0, hi, hy0, hy1, hy2⟩ := info_parts info_int
  have hsz : ∀ n, (intA n).size = 1 := fun n => rfl
  obtain ⟨v', w', e1, e2, e3, e4⟩ := run_append_ownC (P := Try.prog) W W.heap.size 58 58 58 3 i0 _ 1 8 Try.underlying58 hi hy0 hy1 hy2 (by simp [Value.cells]) (.slice none 0 0) 0 [] (OwnC.nil _ _ _) s.v l.length (flatC intA l) (rows_src intA hsz (by omega) intA_one h Try.underlying58) (by simp only [maxLen]; omega) (by omega) (Nat.le_refl _)
  rw [Nat.zero_add, List.nil_append] at e2
  obtain ⟨s', rfl⟩ := e2.slice
  exact ⟨s', w', e1, rows_of_own intA hsz (by omega) e2, (Below.refl _ _).grown e3 (Nat.le_refl _) (fun k hk => by simp [Value.ownBlock] at hk)⟩
theorem run_bldR4 (s0 s1 s2 : Sl) (c : UInt64) (W : World) : (bldR #[(0, s0.v), (1, s1.v), (2, s2.v), (3, .int .u64 (c.toNat : Int))]).run Try.prog W = .ok (.agg (regA ⟨s0, s1, s2, c⟩)) W := by
  unfold bldR
  dsimp only [Sl.v]
  go_simp
  rfl
attribute [local go_sem ↓] fold_appM fold_appI fold_bldR
/-- rows that stand in no block such as b stay when b is written -/
theorem slr_put {α : Type} {A : α → Array Value} {k : Nat} {W : World} {s : Sl} {l : List α} (h : SlR k (fun cs x => cs = A x) W s l) {b : Nat} {cs0 : Array Value} {t : TypeId} {fr : Nat × Nat} (hb : W.heap[b]? = some (.cells cs0 t fr))
    (hA : ∀ x o, o + k ≤ cs0.size → A x ≠ cs0.extract o (o + k)) (xs : Array Value) : SlR k (fun cs x => cs = A x) (putRow W b 0 xs) s l := by
  refine ⟨h.1, h.2.1, fun hl => ?_⟩
  obtain ⟨b', off, ha, hc⟩ := h.2.2 hl
  refine ⟨b', off, ha, fun i hi => ?_⟩
  obtain ⟨cs, hr, he0⟩ := hc i hi
  refine ⟨cs, ?_, he0⟩
  have hne : b' ≠ b := by
    intro e
    subst e
    obtain ⟨cs1, t1, fr1, hg, hle, he⟩ := row?_some hr
    rw [hb] at hg
    simp only [Option.some.injEq, Obj.cells.injEq] at hg
    obtain ⟨h1, -⟩ := hg
    subst h1
    exact hA _ _ hle (he0.symm.trans he)
  exact (row?_put_far W b 0 xs b' _ k hne).trans hr
theorem int_box (x : Int) (o : Nat) (ho : o + 1 ≤ (regA zeroG4).size) : intA x ≠ (regA zeroG4).extract o (o + 1) := by
  have h4 : (regA zeroG4).size = 4 := rfl
  have : o = 0 ∨ o = 1 ∨ o = 2 ∨ o = 3 := by omega
  rcases this with rfl | rfl | rfl | rfl <;> simp [regA, intA, zeroG4, Sl.v]
theorem reg_put {W : World} {g : GReg} {r : Reg} (h : RegR W g r) {b : Nat} {t : TypeId} {fr : Nat × Nat} (hb : W.heap[b]? = some (.cells (regA zeroG4) t fr)) (xs : Array Value) : RegR (putRow W b 0 xs) g r :=
  ⟨slr_put (A := mbrA) h.1 hb (fun x o ho => by have h4 : (regA zeroG4).size = 4 := rfl; omega) xs, slr_put (A := intA) h.2.1 hb int_box xs, slr_put (A := intA) h.2.2.1 hb int_box xs, h.2.2.2⟩
def CpM (l : List Mbr) (x : Value) (W : World) : Prop := ∃ s' : Sl, x = s'.v ∧ MbrsR W s' l
def CpI (l : List Int) (x : Value) (W : World) : Prop := ∃ s' : Sl, x = s'.v ∧ NumsR W s' l
def CpR (r : Reg) (x : Value) (W : World) : Prop := ∃ gN : GReg, x = .agg (regA gN) ∧ RegR W gN r
def FrP (B : Nat) (x : Value) (W : World) : Prop := ∃ b, x = .pointer (some ⟨b, 0, none⟩) ∧ B ≤ b ∧ b < W.heap.size ∧ there W b 0 4 ∧ ∃ (t : TypeId) (fr : Nat × Nat), W.heap[b]? = some (.cells (regA zeroG4) t fr)
theorem CpM.keep {l : List Mbr} {x : Value} {W W' : World} (h : CpM l x W) (hb : Below W.heap.size W W') : CpM l x W' := by
  obtain ⟨s', h1, h2⟩ := h
  exact ⟨s', h1, SlR.keep h2 hb fun _ _ h => h⟩
theorem CpI.keep {l : List Int} {x : Value} {W W' : World} (h : CpI l x W) (hb : Below W.heap.size W W') : CpI l x W' := by
  obtain ⟨s', h1, h2⟩ := h
  exact ⟨s', h1, SlR.keep h2 hb fun _ _ h => h⟩
theorem CpR.keep {r : Reg} {x : Value} {W W' : World} (h : CpR r x W) (hb : Below W.heap.size W W') : CpR r x W' := by
  obtain ⟨s', h1, h2⟩ := h
  exact ⟨s', h1, h2.keep hb⟩
theorem FrP.keep {B : Nat} {x : Value} {W W' : World} (h : FrP B x W) (hb : Below W.heap.size W W') : FrP B x W' := by
  obtain ⟨b, h1, h2, h3, h4, t, fr, h5⟩ := h
  exact ⟨b, h1, h2, Nat.lt_of_lt_of_le h3 hb.size, there_below hb h3 h4, t, fr, (hb.block b h3).trans h5⟩
set_option maxRecDepth 100000 in
set_option maxHeartbeats 6400000 in
theorem next_walk (g : GReg) (r : Reg) (gh : GHeader) (h : Hdr) (parent : UInt64) (w : World) (hr : RegR w g r) (hh : HdrR w gh h) :
    Calls Try.prog 8 #[.agg (regA g), .agg (headerA gh), .int .u64 (parent.toNat : Int)] w fun e w' => e = .returned (.bool true) ∧ Below w.heap.size w w' := by
  have hB0 : Below w.heap.size w ((w.alloc (.cells (regA g) 103)).alloc (.cells (headerA gh) 49)) := by (repeat' (first | (with_reducible exact Below.refl _ _) | (with_reducible assumption) | (with_reducible refine bel_trans (by assumption) ?_ ?_) | (with_reducible refine bel_grown (by assumption) ?_ ?_ ?_) | (with_reducible refine Below.alloc ?_ ?_ _) | (with_reducible refine Below.drew ?_) | (with_reducible refine below_drewN ?_ _) | (with_reducible refine Below.setCell ?_ ?_ _) | (with_reducible refine below_put ?_ ?_ _ _) | (with_reducible exact Nat.le_refl _) | omega | (with_reducible refine Nat.le_trans ?_ (Below.size (by assumption))) | (with_reducible refine Nat.le_trans ?_ (World.grownBy.size (by assumption))) | (simp only [World.size_alloc, World.size_setCell, World.size_drew, size_drewN]; omega) | (simp only [World.size_alloc, World.size_setCell, World.size_drew, size_drewN, size_put]; omega) | (intro k hk; simp [Value.ownBlock] at hk; done) | (intro k hk; simp [Value.ownBlock] at hk; omega) | (simp [size_drewN] at *; omega)))
  have hz0 : ((w.alloc (.cells (regA g) 103)).alloc (.cells (headerA gh) 49)).heap.size = w.heap.size + 2 := by simp
  have hrow1 : row? ((w.alloc (.cells (regA g) 103)).alloc (.cells (headerA gh) 49)) w.heap.size 0 4 = some (regA g) := by
    rw [row?_old _ _ _ _ _ (by simp), row?_new]; exact if_pos (by simp [regA])
  have hrow2 : row? ((w.alloc (.cells (regA g) 103)).alloc (.cells (headerA gh) 49)) (w.heap.size + 1) 0 34 = some (headerA gh) := by
    rw [row?_new_at _ _ _ _ _ _ (by simp)]; simp
  have hRB := (RBox.keep ⟨hrow1, hr.keep hB0⟩ (Below.refl _ _) : RBox _ w.heap.size g r)
  have hrI := Lib.hid hr
  have hhI := Lib.hid hh
  have HK := fun W => known11_c W
  clear hr hh hrow1
  go_enter Try.func8, Try.ntmps8
  go_upto_region 1 with fail
  generalize (w.alloc (.cells (regA g) 103)).alloc (.cells (headerA gh) 49) = W0 at *
  have HF := few_c hRB.reg
  have HM := fun W (hb : Below W0.heap.size W0 W) => rmuch_c gh h W (hhI.out.keep' (hB0.trans (hb.mono (by omega))))
  have hrow0 := hRB.row
  cases hfw : fewB r
  · rw [hfw] at HF
    clear hfw HM hrow2
    replace hRB := Lib.hid hRB
    go_wp2_with fail
    refine HF.mono ?_
    clear HF
    rintro e w1 ⟨rfl, hb1⟩
    go_wp2_with (go_at_call 55; (with_reducible refine (HK _).mono ?_); rintro e W4 ⟨rfl, hb4⟩)
    go_ret
    have hz1 := hb1.size
    exact ⟨rfl, hB0.trans ((hb1.mono (by omega)).trans (hb4.mono (by omega)))⟩
  rw [hfw] at HF
  obtain ⟨hm, hc, hgo⟩ := fewB_out hfw
  clear hfw
  go_wp2_with fail
  refine HF.mono ?_
  clear HF
  rintro e w1 ⟨rfl, hb1⟩
  have hz1 := hb1.size
  have HM1 := HM w1 hb1
  have hrow21 := (row?_below _ _ _ hb1 (by omega)).trans hrow2
  have hRB1 := Lib.hid (hRB.keep hb1)
  have hB1 := Lib.hid (hB0.trans (hb1.mono (by omega)))
  clear HM hrow2 hRB hb1 hB0 hrow0
  obtain ⟨mu, hmu⟩ : ∃ x, x = rmuch h := ⟨_, rfl⟩
  rw [← hmu] at HM1
  go_wp2_with fail
  refine HM1.mono ?_
  clear HM1
  rintro e w2 ⟨rfl, hb2⟩
  have hz2 := hb2.size
  cases mu
  rotate_left
  · clear hmu hrow21
    go_wp2_with (go_at_call 55; (with_reducible refine (HK _).mono ?_); rintro e W4 ⟨rfl, hb4⟩)
    go_ret
    exact ⟨rfl, hB1.out.trans ((hb2.mono (by omega)).trans (hb4.mono (by omega)))⟩
  obtain ⟨hfit, hop30⟩ := rmuch_out hmu.symm
  clear hmu
  have hRB2 := Lib.hid (hRB1.out.keep hb2)
  have hB2 := Lib.hid (hB1.out.trans (hb2.mono (by omega)))
  have hrow22 := (row?_below _ _ _ hb2 (by omega)).trans hrow21
  clear hb2 hrow21 hRB1 hB1
  have hrow3 := hRB2.out.row
  have hw2 : w.heap.size < w2.heap.size := by omega
  obtain ⟨rm, hrm⟩ : ∃ x, x = regMay r := ⟨_, rfl⟩
  have HA := fun W (hb : Below w2.heap.size w2 W) => regMay_c (hRB2.out.reg.keep hb) (by omega) (by omega) (by omega)
  have HC := fun W (hb : Below w2.heap.size w2 W) => rMay_c (hRB2.out.reg.keep hb) (by omega) (by omega) (by omega)
  rw [refMay_eq, ← hrm] at HC
  rw [← hrm] at HA
  replace hrm := Lib.hid hrm
  go_upto_region 3 with fail
  refine wp_region_freeG_l (fun W W' => Below W.heap.size W W') (by kernel_rfl) [20, 21, 22, 23, 24]
    [Is (.agg (regA g)), Is (.bool rm), Is (.agg (regA g)), Is (.bool rm), Is (.bool false)]
    (by kernel_rfl) (fun W W' h hb => hb.trans (h.mono hb.size)) ?_ ?_ ?_
  · intro f hf
    simp only [List.mem_cons, List.not_mem_nil, or_false] at hf
    rcases hf with rfl | rfl | rfl | rfl | rfl <;> intro x W W' h hr <;> first | exact h
  · refine ⟨?_, ?_, ?_, ?_, ?_, trivial⟩
    · intro L ax W hf hd
      try simp [Region.binds] at hd
      have e3 : ax.tmps[3]?.getD undef = .pointer (some ⟨w.heap.size, 0, none⟩) := hf.out 3 (by decide) rfl
      refine ⟨fun _ => ?_, fun h => absurd trivial h⟩
      have h1 := (row?_below _ _ _ hf.below hw2).trans hrow3
      refine free_run (v := .agg (regA g)) (W' := W) rfl ?_ rfl (Below.refl _ _)
      go_simp
    · intro L ax W hf hd
      simp [Region.binds] at hd
      have e20 : ax.tmps[20]?.getD undef = .agg (regA g) := slv (hf.got 0 (by decide) (by simp [hd]))
      refine ⟨fun _ => ?_, fun h => absurd trivial h⟩
      refine free_call (f := 56) (args := #[.agg (regA g)]) rfl (by go_simp) ?_
      refine (HA W hf.below).mono ?_
      rintro e w' ⟨rfl, hb⟩
      exact ⟨_, rfl, rfl, hb⟩
    · intro L ax W hf hd
      try simp [Region.binds] at hd
      have e3 : ax.tmps[3]?.getD undef = .pointer (some ⟨w.heap.size, 0, none⟩) := hf.out 3 (by decide) rfl
      refine ⟨fun _ => ?_, fun h => absurd trivial h⟩
      have h1 := (row?_below _ _ _ hf.below hw2).trans hrow3
      refine free_run (v := .agg (regA g)) (W' := W) rfl ?_ rfl (Below.refl _ _)
      go_simp
    · intro L ax W hf hd
      simp [Region.binds] at hd
      have e22 : ax.tmps[22]?.getD undef = .agg (regA g) := slv (hf.got 2 (by decide) (by simp [hd]))
      refine ⟨fun _ => ?_, fun h => absurd trivial h⟩
      refine free_call (f := 57) (args := #[.agg (regA g)]) rfl (by go_simp) ?_
      refine (HC W hf.below).mono ?_
      rintro e w' ⟨rfl, hb⟩
      exact ⟨_, rfl, rfl, hb⟩
    · intro L ax W hf hd
      simp [Region.binds] at hd
      have e21 : ax.tmps[21]?.getD undef = .bool rm := slv (hf.got 1 (by decide) (by simp [hd]))
      have e23 : ax.tmps[23]?.getD undef = .bool rm := slv (hf.got 3 (by decide) (by simp [hd]))
      refine ⟨fun _ => ?_, fun h => absurd trivial h⟩
      refine free_run (v := .bool false) (W' := W) rfl ?_ rfl (Below.refl _ _)
      go_simp
  · intro vs W' hl' hF hb
    obtain ⟨g', hg1, hg2⟩ := vs_lit vs hl' hF
    have e4 : g' 4 = .bool false := hg2 4 (by decide)
    rw [hg1]
    have hRB3 := Lib.hid (hRB2.out.keep hb)
    have hB3 := Lib.hid (hB2.out.trans (hb.mono (by omega)))
    have hrow23 := (row?_below _ _ _ hb (by omega)).trans hrow22
    have hz3 := hb.size
    clear hF hg1 hg2 hl' hb HA HC hrow3 hrow22 hRB2 hB2
    simp only [List.length_cons, List.length_nil, Nat.reduceAdd, show List.range 5 = [0, 1, 2, 3, 4] from rfl, List.map_cons, List.map_nil, putL, List.zip_cons_cons, List.zip_nil_right, List.setIfInBounds_toArray, List.set_cons_succ, List.set_cons_zero, e4]
    rename World => w3
    obtain ⟨c0, c1, c2, c3, hw3⟩ := hRB3.out.cells
    rw [hRB3.out.reg.2.2.2] at c3
    have hzr := zero_regA
    go_upto_region 5 with fail
    refine wp_region_freeB_l 12 (w3.heap.size) [12] (fun _ _ => true) (fun i W W' => if i = 12 then Below W.heap.size W W' else Below W.heap.size W W') (by kernel_rfl) [25, 26, 27, 28, 29, 30, 31, 32, 33, 34, 35, 36, 7]
      [Is (.pointer (some ⟨w.heap.size, 0, none⟩)), Is (g.members.v), CpM r.members, Is (.pointer (some ⟨w.heap.size, 1, none⟩)), Is (g.coming.v), CpI r.coming, Is (.pointer (some ⟨w.heap.size, 2, none⟩)), Is (g.going.v), CpI r.going, Is (.pointer (some ⟨w.heap.size, 3, none⟩)), Is (.int .u64 (r.churn.toNat : Int)), CpR r, FrP w3.heap.size]
      (by kernel_rfl) (by kernel_rfl) (fun i W W' h hb => by (split at h <;> exact hb.trans (h.mono hb.size))) (fun i W W' hi h hb => by (rw [if_neg hi] at h; exact hb.trans (h.mono hb.size))) ?_ ?_
    · intro i j hi hij hlv x W W' h hr
      have hi : i < 13 := hi
      try dsimp only at hlv hr
      have hi : i = 0 ∨ i = 1 ∨ i = 2 ∨ i = 3 ∨ i = 4 ∨ i = 5 ∨ i = 6 ∨ i = 7 ∨ i = 8 ∨ i = 9 ∨ i = 10 ∨ i = 11 ∨ i = 12 := by omega
      rcases hi with rfl | rfl | rfl | rfl | rfl | rfl | rfl | rfl | rfl | rfl | rfl | rfl | rfl <;> first | exact h | (rw [ite_self] at hr; first | exact CpM.keep h hr | exact CpI.keep h hr | exact CpR.keep h hr | exact FrP.keep h hr)
    · refine ⟨?_, ?_, ?_, ?_, ?_, ?_, ?_, ?_, ?_, ?_, ?_, ?_, ?_, ?_⟩
      · intro L ax W hf hL hq hd
        try simp [Region.binds] at hd
        have e3 : ax.tmps[3]?.getD undef = .pointer (some ⟨w.heap.size, 0, none⟩) := hf.out 3 (by decide) rfl
        refine ⟨fun _ => ?_, fun h => absurd trivial h⟩
        refine free_run (v := .pointer (some ⟨w.heap.size, 0, none⟩)) (W' := W) rfl ?_ rfl (Below.refl _ _)
        go_simp
      · intro L ax W hf hL hq hd
        simp [Region.binds] at hd
        have e25 : ax.tmps[25]?.getD undef = .pointer (some ⟨w.heap.size, 0, none⟩) := slv (hf.got 0 (by decide) (by simp [hd]) (fun j _ => by simp))
        refine ⟨fun _ => ?_, fun h => absurd trivial h⟩
        have h1 := (hf.below.cell (p := ⟨w.heap.size, 0, none⟩) hw3).trans c0
        refine free_run (v := g.members.v) (W' := W) rfl ?_ rfl (Below.refl _ _)
        go_simp
      · intro L ax W hf hL hq hd
        simp [Region.binds] at hd
        have e26 : ax.tmps[26]?.getD undef = g.members.v := slv (hf.got 1 (by decide) (by simp [hd]) (fun j _ => by simp))
        refine ⟨fun _ => ?_, fun h => absurd trivial h⟩
        obtain ⟨s', w', z1, z2, z3⟩ := cp_mbrs (RegR.keep hRB3.out.reg hf.below).1 (by omega)
        refine free_run (v := s'.v) (W' := w') rfl ?_ ⟨s', rfl, z2⟩ z3
        go_simp
      · intro L ax W hf hL hq hd
        try simp [Region.binds] at hd
        have e3 : ax.tmps[3]?.getD undef = .pointer (some ⟨w.heap.size, 0, none⟩) := hf.out 3 (by decide) rfl
        refine ⟨fun _ => ?_, fun h => absurd trivial h⟩
        refine free_run (v := .pointer (some ⟨w.heap.size, 1, none⟩)) (W' := W) rfl ?_ rfl (Below.refl _ _)
        go_simp
      · intro L ax W hf hL hq hd
        simp [Region.binds] at hd
        have e28 : ax.tmps[28]?.getD undef = .pointer (some ⟨w.heap.size, 1, none⟩) := slv (hf.got 3 (by decide) (by simp [hd]) (fun j _ => by simp))
        refine ⟨fun _ => ?_, fun h => absurd trivial h⟩
        have h1 := (hf.below.cell (p := ⟨w.heap.size, 1, none⟩) hw3).trans c1
        refine free_run (v := g.coming.v) (W' := W) rfl ?_ rfl (Below.refl _ _)
        go_simp
      · intro L ax W hf hL hq hd
        simp [Region.binds] at hd
        have e29 : ax.tmps[29]?.getD undef = g.coming.v := slv (hf.got 4 (by decide) (by simp [hd]) (fun j _ => by simp))
        refine ⟨fun _ => ?_, fun h => absurd trivial h⟩
        obtain ⟨s', w', z1, z2, z3⟩ := cp_nums (RegR.keep hRB3.out.reg hf.below).2.1 (by omega)
        refine free_run (v := s'.v) (W' := w') rfl ?_ ⟨s', rfl, z2⟩ z3
        go_simp
      · intro L ax W hf hL hq hd
        try simp [Region.binds] at hd
        have e3 : ax.tmps[3]?.getD undef = .pointer (some ⟨w.heap.size, 0, none⟩) := hf.out 3 (by decide) rfl
        refine ⟨fun _ => ?_, fun h => absurd trivial h⟩
        refine free_run (v := .pointer (some ⟨w.heap.size, 2, none⟩)) (W' := W) rfl ?_ rfl (Below.refl _ _)
        go_simp
      · intro L ax W hf hL hq hd
        simp [Region.binds] at hd
        have e31 : ax.tmps[31]?.getD undef = .pointer (some ⟨w.heap.size, 2, none⟩) := slv (hf.got 6 (by decide) (by simp [hd]) (fun j _ => by simp))
        refine ⟨fun _ => ?_, fun h => absurd trivial h⟩
        have h1 := (hf.below.cell (p := ⟨w.heap.size, 2, none⟩) hw3).trans c2
        refine free_run (v := g.going.v) (W' := W) rfl ?_ rfl (Below.refl _ _)
        go_simp
      · intro L ax W hf hL hq hd
        simp [Region.binds] at hd
        have e32 : ax.tmps[32]?.getD undef = g.going.v := slv (hf.got 7 (by decide) (by simp [hd]) (fun j _ => by simp))
        refine ⟨fun _ => ?_, fun h => absurd trivial h⟩
        obtain ⟨s', w', z1, z2, z3⟩ := cp_nums (RegR.keep hRB3.out.reg hf.below).2.2.1 (by omega)
        refine free_run (v := s'.v) (W' := w') rfl ?_ ⟨s', rfl, z2⟩ z3
        go_simp
      · intro L ax W hf hL hq hd
        try simp [Region.binds] at hd
        have e3 : ax.tmps[3]?.getD undef = .pointer (some ⟨w.heap.size, 0, none⟩) := hf.out 3 (by decide) rfl
        refine ⟨fun _ => ?_, fun h => absurd trivial h⟩
        refine free_run (v := .pointer (some ⟨w.heap.size, 3, none⟩)) (W' := W) rfl ?_ rfl (Below.refl _ _)
        go_simp
      · intro L ax W hf hL hq hd
        simp [Region.binds] at hd
        have e34 : ax.tmps[34]?.getD undef = .pointer (some ⟨w.heap.size, 3, none⟩) := slv (hf.got 9 (by decide) (by simp [hd]) (fun j _ => by simp))
        refine ⟨fun _ => ?_, fun h => absurd trivial h⟩
        have h1 := (hf.below.cell (p := ⟨w.heap.size, 3, none⟩) hw3).trans c3
        refine free_run (v := .int .u64 (r.churn.toNat : Int)) (W' := W) rfl ?_ rfl (Below.refl _ _)
        go_simp
      · intro L ax W hf hL hq hd
        simp [Region.binds] at hd
        have f27 : CpM r.members (sl ax 27) W := hf.got 2 (by decide) (by simp [hd]) (fun j _ => by simp)
        have f30 : CpI r.coming (sl ax 30) W := hf.got 5 (by decide) (by simp [hd]) (fun j _ => by simp)
        have f33 : CpI r.going (sl ax 33) W := hf.got 8 (by decide) (by simp [hd]) (fun j _ => by simp)
        have e35 : ax.tmps[35]?.getD undef = .int .u64 (r.churn.toNat : Int) := slv (hf.got 10 (by decide) (by simp [hd]) (fun j _ => by simp))
        refine ⟨fun _ => ?_, fun h => absurd trivial h⟩
        obtain ⟨⟨a1, a2, a3⟩, e27, m1⟩ := f27
        obtain ⟨⟨b1, b2, b3⟩, e30, m2⟩ := f30
        obtain ⟨⟨d1, d2, d3⟩, e33, m3⟩ := f33
        have e27 := slv e27
        have e30 := slv e30
        have e33 := slv e33
        have hb4 := run_bldR4 ⟨a1, a2, a3⟩ ⟨b1, b2, b3⟩ ⟨d1, d2, d3⟩ r.churn W
        dsimp only [Sl.v] at e27 e30 e33 hb4
        refine free_run (v := .agg (regA ⟨⟨a1, a2, a3⟩, ⟨b1, b2, b3⟩, ⟨d1, d2, d3⟩, r.churn⟩)) (W' := W) rfl ?_ ⟨_, rfl, m1, m2, m3, rfl⟩ (Below.refl _ _)
        go_simp
      · intro L ax W hf hL hq hd
        have hfu := hf.full (hq (by decide))
        try simp [Region.binds] at hd
        refine ⟨fun _ => ?_, fun h => absurd trivial h⟩
        have hfb := hf.below.size
        refine free_run (v := .pointer (some ⟨W.heap.size, 0, none⟩)) (W' := W.alloc (.cells (regA zeroG4) 103)) rfl ?_ ⟨W.heap.size, rfl, hfb, by simp, there_new W _ _ 0 4 (by simp [regA]), _, _, heap_alloc_new W _⟩ (bel_a _ _)
        go_simp
      · intro vs W hl' hF hb
        obtain ⟨g', hg1, hg2⟩ := vs_litE vs hl' hF
        have o11 : CpR r (g' 11) W := hg2 11 (by decide) (fun j => by simp)
        have o12 : FrP w3.heap.size (g' 12) W := hg2 12 (by decide) (fun j => by simp)
        obtain ⟨gN, e11, hRN⟩ := o11
        obtain ⟨bN, e12, hbN, hbW, hthN, tN, fN, hhN⟩ := o12
        rw [hg1]
        simp only [List.length_cons, List.length_nil, Nat.reduceAdd, show List.range 13 = [0, 1, 2, 3, 4, 5, 6, 7, 8, 9, 10, 11, 12] from rfl, List.map_cons, List.map_nil, putL, List.zip_cons_cons, List.zip_nil_right, List.setIfInBounds_toArray, List.set_cons_succ, List.set_cons_zero, e11, e12]
        clear hg1 hg2 hl' hF c0 c1 c2 c3 e11 e12
        have hst := store_reg W bN 0 (regA gN) rfl (onesReg _) hthN
        have hput : row? (putRow W bN 0 (regA gN)) bN 0 4 = some (regA gN) := row?_put_same _ _ _ _ _ (by rfl) (by omega) hthN
        have hbP : Below w3.heap.size w3 (putRow W bN 0 (regA gN)) := below_put hb hbN _ _
        have hRP := reg_put hRN hhN (regA gN)
        have hzP := size_put W bN 0 (regA gN)
        have hbN3 : bN < (putRow W bN 0 (regA gN)).heap.size := by omega
        clear hb hbW hthN hhN hRN hzP
        go_upto_region 6 with fail
        generalize putRow W bN 0 (regA gN) = w4 at *
        have hz4 := hbP.size
        have hw13 : w.heap.size + 1 < w3.heap.size := by omega
        have hrow24 := (row?_below _ _ _ hbP hw13).trans hrow23
        have hRB4 := Lib.hid (hRB3.out.keep hbP)
        have hB4 := Lib.hid (hB3.out.trans (hbP.mono (by omega)))
        have hrowg4 := hRB4.out.row
        obtain ⟨⟨NA, cd⟩, hNR⟩ : ∃ x, x = regNext r h parent := ⟨_, rfl⟩
        have HN := next_c parent hRP (hhI.out.keep' hB4.out) (by omega) (by omega) (by omega) hfit
        rw [← hNR] at HN
        have hRP4 := Lib.hid hRP
        clear hbP hRP hRB3 hB3 hrow23 hst hbN hzr
        go_wp2_with fail
        refine HN.mono ?_
        clear HN
        rintro e w5 ⟨g5, he, hR5, hb5⟩
        replace he : e = .returned (.tuple #[.agg (regA g5), .int .i64 cd]) := he
        subst he
        replace hR5 : RegAt _ w5 g5 NA := hR5
        have hz5 := hb5.size
        go_upto_region 7 with fail
        obtain ⟨w6, hw6, hp6, ht6, hb6, hz6⟩ := box_reg w5 g5
        rw [← hw6]
        clear hw6 ht6
        have hR6 := Lib.hid (hR5.keep hb6)
        have hB6 := Lib.hid (hB4.out.trans ((hb5.trans (hb6.mono hz5)).mono (by omega)))
        have hRB6 := Lib.hid (hRB4.out.keep (hb5.trans (hb6.mono hz5)))
        have hrow26 := (row?_below _ _ _ (hb5.trans (hb6.mono hz5)) (by omega)).trans hrow24
        have hput6 := (row?_below _ _ _ (hb5.trans (hb6.mono hz5)) hbN3).trans hput
        have hRP6 := Lib.hid (hRP4.out.keep (hb5.trans (hb6.mono hz5)))
        clear hR5 hB4 hRB4 hrow24 hput hRP4 hb5 hb6 hrowg4
        have hrowg6 := hRB6.out.row
        have HN := rnext_c parent hRB6.out.reg (hhI.out.keep' hB6.out) (by omega) (by omega) (by omega) (show h.ops.length ≤ 1000000 by omega)
        rw [← hNR] at HN
        have hw16 : w.heap.size + 1 < w6.heap.size := by omega
        have hbN6 : bN < w6.heap.size := by omega
        have hw56 : w5.heap.size < w6.heap.size := by omega
        go_wp2_with fail
        refine HN.mono ?_
        clear HN
        rintro e w7 ⟨g7, he, hR7, hb7⟩
        replace he : e = .returned (.tuple #[.agg (regA g7), .int .i64 cd]) := he
        subst he
        replace hR7 : RegAt _ w7 g7 NA := hR7
        have hz7 := hb7.size
        go_upto_region 8 with fail
        obtain ⟨w8, hw8, hp8, ht8, hb8, hz8⟩ := box_reg w7 g7
        rw [← hw8]
        clear hw8 ht8
        have hb78 := hb7.trans (hb8.mono hz7)
        have hR8 := Lib.hid (hR7.keep hb8)
        have hB8 := Lib.hid (hB6.out.trans (hb78.mono (by omega)))
        have hRB8 := Lib.hid (hRB6.out.keep hb78)
        have hput8 := (row?_below _ _ _ hb78 hbN6).trans hput6
        have hp68 := (row?_below _ _ _ hb78 hw56).trans hp6
        have hRP8 := Lib.hid (hRP6.out.keep hb78)
        have hR68 := Lib.hid (hR6.out.keep hb78)
        have hrowg8 := hRB8.out.row
        clear hR7 hB6 hRB6 hrow26 hput6 hp6 hRP6 hR6 hb7 hb8 hb78 hrowg6
        have HS := rsame_c hRP8.out hRB8.out.reg (by omega) (by omega) (by omega)
        rw [decide_eq_true rfl] at HS
        have hNz := Lib.hid (show cd ≠ 0 → NA = zeroReg from fun hz => by
          have e1 : NA = (regNext r h parent).1 := by rw [← hNR]
          have e2 : cd = (regNext r h parent).2 := by rw [← hNR]
          rw [e2] at hz
          rw [e1]
          unfold regNext at hz ⊢
          split
          · rename_i hin
            rw [if_pos hin] at hz
            exact regOps_zero _ _ hz
          · rfl)
        replace hNR := Lib.hid hNR
        go_wp2_with fail
        refine HS.mono ?_
        clear HS
        rintro e w9 ⟨rfl, hb9⟩
        have hz9 := hb9.size
        have hB9 := Lib.hid (hB8.out.trans (hb9.mono (by omega)))
        have hp69 := (row?_below _ _ _ hb9 (by omega)).trans hp68
        have hp9 := (row?_below _ _ _ hb9 (by omega)).trans hp8
        have hR9 := Lib.hid (hR8.out.keep hb9)
        have hR69 := Lib.hid (hR68.out.keep hb9)
        clear hb9 hB8 hp68 hp8 hR8 hR68 hRB8 hRP8 hput8 hrowg8
        by_cases hcd : cd = 0
        · subst hcd
          have hPN : RegP NA := by
            have := regNext_may (r := r) (h := h) (p := parent) (by rw [← hNR.out])
            rw [← hNR.out] at this
            exact this
          have hl1 := hPN.len
          have hl2 := hPN.coming.length_le
          have hl3 := hPN.going.length_le
          have HS := rsame_c hR69.out.reg hR9.out.reg (by omega) (by omega) (by omega)
          rw [decide_eq_true rfl] at HS
          have HA2 := fun W (hb : Below w9.heap.size w9 W) => regMay_c (RegR.keep hR69.out.reg hb) (show NA.members.length ≤ 1000000 by omega) (by omega) (by omega)
          rw [show regMay NA = true from (regMay_iff NA).2 hPN] at HA2
          go_wp2_with fail
          refine HS.mono ?_
          clear HS
          rintro e w10 ⟨rfl, hb10⟩
          have hz10 := hb10.size
          have HA3 := HA2 w10 hb10
          have hp610 := (row?_below _ _ _ hb10 (by omega)).trans hp69
          go_wp2_with fail
          refine HA3.mono ?_
          rintro e w11 ⟨rfl, hb11⟩
          have hz11 := hb11.size
          go_wp2_with (go_at_call 55; (with_reducible refine (HK _).mono ?_); rintro e W4 ⟨rfl, hb4⟩)
          go_ret
          exact ⟨rfl, hB9.out.trans ((hb10.mono (by omega)).trans ((hb11.mono (by omega)).trans (hb4.mono (by omega))))⟩
        · have hcd' : (cd != 0) = true := by simpa using hcd
          have hcd2 : decide (cd = 0) = false := by simpa using hcd
          have hn5 := hR69.out.reg.1.1
          rw [hNz.out hcd] at hn5
          obtain ⟨c0, -⟩ := (show RBox w9 w5.heap.size g5 NA from ⟨hp69, hR69.out.reg⟩).cells
          obtain ⟨⟨x1, x2, x3⟩, y5, z5, k5⟩ := g5
          replace hn5 : x2 = 0 := hn5
          subst hn5
          dsimp only [Sl.v] at c0
          clear hp69 hR69 hR9 hp9 hNz
          go_wp2_with (go_at_call 55; (with_reducible refine (HK _).mono ?_); rintro e W4 ⟨rfl, hb4⟩)
          go_ret
          exact ⟨rfl, hB9.out.trans (hb4.mono (by omega))⟩
end Go.Proofs.Ytkocpihfdpahpaa
