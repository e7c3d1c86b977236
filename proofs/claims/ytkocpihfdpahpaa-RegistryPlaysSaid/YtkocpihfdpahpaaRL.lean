/- Texts of this proof, one behind the other: RfF, RfM. -/
import Derived.Test.YtkocpihfdpahpaaRK
import Derived.Test.YtkocpihfdpahpaaRC
import Derived.Test.YtkocpihfdpahpaaRH
import Derived.Deep.CutRange
import Derived.Test.YtkocpihfdpahpaaQE
set_option linter.unusedVariables false
set_option linter.unusedSimpArgs false
/- Contract of the document's layer 11: First. -/
namespace Go.Proofs.Ytkocpihfdpahpaa
open Go.RowKit
theorem run_bldR3 (c : UInt64) (W : World) : (bldR #[(3, .int .u64 (c.toNat : Int))]).run Try.prog W = .ok (.agg (regA ⟨⟨none, 0, 0⟩, ⟨none, 0, 0⟩, ⟨none, 0, 0⟩, c⟩)) W := by
  unfold bldR
  go_simp
  rfl
attribute [local go_sem ↓] fold_bsM fold_bldM fold_bldR
attribute [local go_sem] regA_size

def LitM (vm : Mbr) (x : Value) (W : World) : Prop := ∃ b, x = .slice (some ⟨b, 0, none⟩) 1 1 ∧ ∃ (t : TypeId) (fr : Nat × Nat), W.heap[b]? = some (.cells (mbrA vm) t fr)
theorem LitM.keep {vm : Mbr} {x : Value} {W W' : World} (h : LitM vm x W) (hb : Below W.heap.size W W') : LitM vm x W' := by
  obtain ⟨b, h1, t, fr, h2⟩ := h
  refine ⟨b, h1, t, fr, ?_⟩
  have hlt : b < W.heap.size := by
    rcases Nat.lt_or_ge b W.heap.size with hlt | hge
    · exact hlt
    · rw [Array.getElem?_eq_none hge] at h2; cases h2
  rw [hb.block b hlt]
  exact h2
def OwnMv (B : Nat) (vs : List Mbr) (x : Value) (W : World) : Prop := OwnC W B 35 x vs.length (flatC mbrA vs)
theorem OwnMv.keep {B : Nat} {vs : List Mbr} {x : Value} {W W' : World} (h : OwnMv B vs x W) (hb : Below W.heap.size W W') : OwnMv B vs x W' := OwnC.keep h hb
theorem OwnMv.slice {B : Nat} {vs : List Mbr} {x : Value} {W : World} (h : OwnMv B vs x W) : ∃ s : Sl, x = s.v := OwnC.slice h
/-- a register of members alone that is being made, in a variable -/
structure MV (W : World) (B pr : Nat) (s : Sl) (ms : List Mbr) (ch : UInt64) : Prop where
  row : row? W pr 0 4 = some (regA ⟨s, ⟨none, 0, 0⟩, ⟨none, 0, 0⟩, ch⟩)
  thr : there W pr 0 4
  own : OwnC W B 35 s.v ms.length (flatC mbrA ms)
  lt : pr < B
  hB : B ≤ W.heap.size
section
variable {W W' : World} {B pr : Nat} {s t : Sl} {ms ms' : List Mbr} {ch : UInt64}
theorem MV.cell (h : MV W B pr s ms ch) : W.cell? ⟨pr, 0, none⟩ = some s.v := by
  have h1 := cell_of_row? h.row 0 (by omega)
  simpa [regA] using h1
theorem splice_reg_mem (g : GReg) (s : Sl) : splice (regA g) 0 #[s.v] = regA { g with members := s } := by
  simp [splice, regA]
theorem MV.set (h : MV W B pr s ms ch) (hb : Below B W W') (ho : OwnMv B ms' t.v W') :
    W'.cell? ⟨pr, 0, none⟩ = some s.v ∧ W'.frozen? ⟨pr, 0, none⟩ = false ∧ MV (W'.setCell ⟨pr, 0, none⟩ t.v) B pr t ms' ch ∧ Below pr W (W'.setCell ⟨pr, 0, none⟩ t.v) := by
  have hlt := h.lt
  have hrow := (row?_below _ _ _ hb hlt).trans h.row
  have hthr := there_below hb hlt h.thr
  have hcell : W'.cell? ⟨pr, 0, none⟩ = some s.v := (hb.cell (p := ⟨pr, 0, none⟩) hlt).trans h.cell
  have hfz := (hthr 0 (by omega)).2
  simp only [Nat.zero_add] at hfz
  have hs := size_setCell W' ⟨pr, 0, none⟩ t.v
  refine ⟨hcell, hfz, ⟨?_, there_set _ _ _ _ _ _ hthr, ?_, hlt, by rw [hs]; exact Nat.le_trans h.hB hb.size⟩, (hb.mono (Nat.le_of_lt hlt)).setCell (Nat.le_refl _) _⟩
  · rw [row?_set_in _ _ _ _ _ (by omega) (by rw [hrow]; rfl), hrow, Option.map_some, splice_reg_mem]
  · refine OwnC.keepB ho (by rw [hs]; exact Nat.le_refl _) fun g hg _ => Below.heap_setCell W' ⟨pr, 0, none⟩ t.v g ?_
    have := (OwnC.lt ho g hg).1
    show g ≠ pr
    omega
end
theorem rfirst_res : Try.f64.results = #[.cell 2 103] := by kernel_rfl
def RegPost (w : World) (r : Reg) (e : Ending) (w' : World) : Prop := ∃ g', e = .returned (.agg (regA g')) ∧ RegAt w.heap.size w' g' r ∧ Below w.heap.size w w'
theorem reg_done {w W : World} {b : Nat} {r : Reg} {g' : GReg} (hp : row? W b 0 4 = some (regA g')) (hr : RegAt w.heap.size W g' r) (hb : Below w.heap.size w W) : RegPost w r (.returned (.agg ((row? W b 0 4).getD #[]))) W :=
  ⟨g', by rw [hp]; rfl, hr, hb⟩
set_option maxRecDepth 100000 in
set_option maxHeartbeats 6400000 in
theorem rfirst_c {w : World} {g : GAnc} {a : Anc} (h : AncR w g a) (hl : a.vals.length ≤ 1000000) :
    Calls Try.prog 64 #[.agg (ancA g)] w (RegPost w (firstReg a)) := by
  have hB0 : Below w.heap.size w ((w.alloc (.cells (ancA g) 113)).alloc (.cells (regA zeroG4) 103)) := by (repeat' (first | (with_reducible exact Below.refl _ _) | (with_reducible assumption) | (with_reducible refine bel_trans (by assumption) ?_ ?_) | (with_reducible refine bel_grown (by assumption) ?_ ?_ ?_) | (with_reducible refine Below.alloc ?_ ?_ _) | (with_reducible refine Below.drew ?_) | (with_reducible refine below_drewN ?_ _) | (with_reducible refine Below.setCell ?_ ?_ _) | (with_reducible refine below_put ?_ ?_ _ _) | (with_reducible exact Nat.le_refl _) | omega | (with_reducible refine Nat.le_trans ?_ (Below.size (by assumption))) | (with_reducible refine Nat.le_trans ?_ (World.grownBy.size (by assumption))) | (simp only [World.size_alloc, World.size_setCell, World.size_drew, size_drewN]; omega) | (simp only [World.size_alloc, World.size_setCell, World.size_drew, size_drewN, size_put]; omega) | (intro k hk; simp [Value.ownBlock] at hk; done) | (intro k hk; simp [Value.ownBlock] at hk; omega) | (simp [size_drewN] at *; omega)))
  have hz0 : ((w.alloc (.cells (ancA g) 113)).alloc (.cells (regA zeroG4) 103)).heap.size = w.heap.size + 1 + 1 := by simp
  have hrow1 : row? ((w.alloc (.cells (ancA g) 113)).alloc (.cells (regA zeroG4) 103)) w.heap.size 0 36 = some (ancA g) := by
    rw [row?_old _ _ _ _ _ (by simp), row?_new]; simp
  have hth : there ((w.alloc (.cells (ancA g) 113)).alloc (.cells (regA zeroG4) 103)) (w.heap.size + 1) 0 4 :=
    there_new_at _ _ _ _ _ _ (by simp) (by simp [regA])
  have hAB : ABox ((w.alloc (.cells (ancA g) 113)).alloc (.cells (regA zeroG4) 103)) w.heap.size g a := ⟨hrow1, h.keep hB0⟩
  have hzr := zero_regA
  have n1 := h.2.1.1
  have hch := h.2.2.1
  have hI := Lib.hid h.2.1
  clear h hrow1
  obtain ⟨gp, ⟨va, vn, vc⟩, gc, gd⟩ := g
  simp only at n1 hch
  subst n1 hch
  go_enter Try.func64, Try.ntmps64
  go_upto_region 1 with fail
  generalize (w.alloc (.cells (ancA ⟨gp, ⟨va, a.vals.length, vc⟩, a.churn, gd⟩) 113)).alloc (.cells (regA zeroG4) 103) = w1 at *
  obtain ⟨b2, hb2⟩ : ∃ b2, b2 = w.heap.size + 1 := ⟨_, rfl⟩
  rw [← hb2] at hth ⊢
  have hn0 : b2 < w1.heap.size := by omega
  have hn00 : w.heap.size < b2 := by omega
  replace hz0 := Lib.hid hz0
  replace hb2 := Lib.hid hb2
  obtain ⟨_, _, c33, c34, _, hlt⟩ := hAB.cells
  simp only at c33 c34
  dsimp only [Sl.v] at c33
  have hbl := fun W => run_bldR3 a.churn W
  have hst0 := store_reg (w1.alloc (.cells (regA zeroG4) 103)) w1.heap.size 0 (regA ⟨⟨none, 0, 0⟩, ⟨none, 0, 0⟩, ⟨none, 0, 0⟩, a.churn⟩) rfl (onesReg _) (there_new w1 (regA zeroG4) 103 0 4 (by simp [regA]))
  go_upto_region 2 with fail
  obtain ⟨pr, hpr⟩ : ∃ x, x = w1.heap.size := ⟨_, rfl⟩
  obtain ⟨w2, hw2⟩ : ∃ x, x = putRow (w1.alloc (.cells (regA zeroG4) 103)) w1.heap.size 0 (regA ⟨⟨none, 0, 0⟩, ⟨none, 0, 0⟩, ⟨none, 0, 0⟩, a.churn⟩) := ⟨_, rfl⟩
  have hb12 : Below w1.heap.size w1 w2 := by rw [hw2]; exact below_put (bel_a w1 _) (Nat.le_refl _) _ _
  have hMV0 : MV w2 (pr + 1) pr ⟨none, 0, 0⟩ [] a.churn := by
    have ht := there_new w1 (regA zeroG4) 103 0 4 (by simp [regA])
    rw [hw2, hpr]
    exact ⟨row?_put_same _ _ _ _ _ (by rfl) (by omega) ht, there_put _ _ _ _ _ _ _ ht, OwnC.nil _ _ _, Nat.lt_succ_self _, by rw [size_put]; simp⟩
  rw [← hw2, ← hpr]
  have hn1 : w.heap.size < b2 := hn00
  have hn2 : b2 < pr := by omega
  have hB2 := Lib.hid (hB0.trans (hb12.mono (by omega)))
  have hth2 := Lib.hid (there_below hb12 (show b2 < w1.heap.size by omega) hth)
  have c33' := (hb12.cell (p := ⟨w.heap.size, 33, none⟩) hlt).trans c33
  replace hMV0 := Lib.hid hMV0
  have hb22 := Lib.hid (Below.refl pr w2)
  replace hpr := Lib.hid hpr
  clear hw2 hb12 hB0 hth hAB c33 c34 hlt hbl hn0 hn00 hst0
  go_upto_region 3 with fail
  go_loopw [4] (fun i W' => ∃ (k : Nat) (s : Sl), k ≤ a.vals.length ∧ i = .int .i64 k ∧ Hid (MV W' (pr + 1) pr s ((a.vals.take k).map mbrOf) a.churn) ∧ Hid (Below pr w2 W')) (fun i _ => a.vals.length - (intOf i).toNat)
  case atStart => exact ⟨0, ⟨none, 0, 0⟩, Nat.zero_le _, rfl, hMV0, hb22⟩
  case round =>
    clear hMV0 hb22
    obtain ⟨k, ⟨sa, sn, sc⟩, hk, rfl, hMV, hB⟩ := hrel
    have c33 := (hB.out.cell (p := ⟨w.heap.size, 33, none⟩) (show w.heap.size < pr by omega)).trans c33'
    have hBw := Lib.hid (hB2.out.trans (hB.out.mono (show w.heap.size ≤ pr by omega)))
    by_cases hkx : k < a.vals.length
    · obtain ⟨bv, ov, e, hbv, hrv⟩ := vals_at hI.out (by omega)
      have e1 := congrArg Sl.a e
      simp only at e1
      subst e1
      clear e
      have hrow := (row?_below _ _ _ hBw.out hbv).trans (hrv k hkx)
      clear hrv
      have Hsn := Lib.hid (mbrs_snoc a.vals k _ (List.getElem?_eq_getElem hkx))
      generalize a.vals[k] = v at *
      obtain ⟨qk, qs⟩ := val_cells hrow
      have i1 : (k : Int) < (a.vals.length : Int) := by omega
      have k0 : (0 : Int) ≤ (k : Int) := by omega
      have hks := Lib.hid (show k + 1 ≤ a.vals.length from hkx)
      have hlv : ((a.vals.take k).map mbrOf).length ≤ 1000000 := by rw [List.length_map, List.length_take]; omega
      have hown := hMV.out.own
      have hMVf := Lib.hid hMV.out
      obtain ⟨vls, hvls⟩ : ∃ x, x = (a.vals.take k).map mbrOf := ⟨_, rfl⟩
      rw [← hvls] at hown hlv hMVf Hsn
      clear hvls
      have c0 := hMV.out.cell
      have hbm : ∀ W, (bldM #[(0, .agg (hashA v.key)), (1, .int .u64 (v.stake.toNat : Int)), (2, .int .i64 2)]).run Try.prog W = .ok (.agg (mbrA (mbrOf v))) W := fun W => run_bldM _ _ _ _
      have hbs := fun W => bsM_one (mbrOf v) W
      have hpw7 : pr + 1 ≤ wr.heap.size := hMV.out.hB
      have hwB : w.heap.size < pr + 1 := by omega
      have hbB : bv < pr + 1 := by omega
      obtain ⟨i0, hi0, hy0, hy1, hy2⟩ := info_parts info_mbrs
      dsimp only [Sl.v] at c0 hown
      generalize mbrOf v = vm at *
      clear hrow
      go_upto_region 5 with fail
      refine wp_region_freeB_l 16 (pr + 1) [0, 1, 2, 3, 4, 5, 6, 7, 8, 9, 10, 11, 12, 13, 14, 15, 16] (fun i j => !(j == 16 && i == 15)) (fun i W W' => if i = 16 then Below (pr + 1) W W' else Below W.heap.size W W') (by kernel_rfl) [15, 16, 17, 18, 19, 20, 21, 22, 23, 24, 25, 26, 27, 28, 29, 30, 31, 32]
        [Is (.pointer (some ⟨pr, 0, none⟩)), Is (.slice sa sn sc), Is (.pointer (some ⟨w.heap.size, 33, none⟩)), Is (.slice (some ⟨bv, ov, none⟩) a.vals.length vc), Is (.int .i64 (k : Int)), Is (.pointer (some ⟨bv, ov + k * 33, none⟩)), Is (.pointer (some ⟨bv, ov + k * 33, none⟩)), Is (.agg (hashA v.key)), Is (.pointer (some ⟨w.heap.size, 33, none⟩)), Is (.slice (some ⟨bv, ov, none⟩) a.vals.length vc), Is (.int .i64 (k : Int)), Is (.pointer (some ⟨bv, ov + k * 33, none⟩)), Is (.pointer (some ⟨bv, ov + k * 33 + 32, none⟩)), Is (.int .u64 (v.stake.toNat : Int)), Is (.agg (mbrA vm)), LitM vm, OwnMv (pr + 1) (vls ++ [vm]), Is (.pointer (some ⟨pr, 0, none⟩))]
        (by kernel_rfl) (by kernel_rfl) (fun i W W' h hb => by (split at h <;> first | exact hb.trans h | exact hb.trans (h.mono (Nat.le_trans (by assumption) hb.size)))) (fun i W W' hi h hb => by (rw [if_neg hi] at h; exact hb.trans (h.mono hb.size))) ?_ ?_
      · intro i j hi hij hlv x W W' h hr
        have hi : i < 18 := hi
        try dsimp only at hlv hr
        have hi : i = 0 ∨ i = 1 ∨ i = 2 ∨ i = 3 ∨ i = 4 ∨ i = 5 ∨ i = 6 ∨ i = 7 ∨ i = 8 ∨ i = 9 ∨ i = 10 ∨ i = 11 ∨ i = 12 ∨ i = 13 ∨ i = 14 ∨ i = 15 ∨ i = 16 ∨ i = 17 := by omega
        rcases hi with rfl | rfl | rfl | rfl | rfl | rfl | rfl | rfl | rfl | rfl | rfl | rfl | rfl | rfl | rfl | rfl | rfl | rfl <;> first | exact h | (have hj : j ≠ 16 := by first | (intro e; subst e; simp at hlv; done) | (exact fun e => hij e.symm)) <;> (rw [if_neg hj] at hr; first | exact OwnMv.keep h hr | exact LitM.keep h hr)
      · refine ⟨?_, ?_, ?_, ?_, ?_, ?_, ?_, ?_, ?_, ?_, ?_, ?_, ?_, ?_, ?_, ?_, ?_, ?_, ?_⟩
        · intro L ax W hf hL hq hd
          have hfu := hf.full (hq (by decide))
          try simp [Region.binds] at hd
          have e3 : ax.tmps[3]?.getD undef = .pointer (some ⟨pr, 0, none⟩) := hf.out 3 (by decide) rfl
          refine ⟨fun _ => ?_, fun h => absurd trivial h⟩
          refine free_run (v := .pointer (some ⟨pr, 0, none⟩)) (W' := W) rfl ?_ rfl (Below.refl _ _)
          go_simp
        · intro L ax W hf hL hq hd
          have hfu := hf.full (hq (by decide))
          simp [Region.binds] at hd
          have e15 : ax.tmps[15]?.getD undef = .pointer (some ⟨pr, 0, none⟩) := slv (hf.got 0 (by decide) (by simp [hd]) (fun j _ => by simp))
          refine ⟨fun _ => ?_, fun h => absurd trivial h⟩
          have h1 := (hf.below.cell (p := ⟨pr, 0, none⟩) (Nat.lt_succ_self _)).trans c0
          refine free_run (v := .slice sa sn sc) (W' := W) rfl ?_ rfl (Below.refl _ _)
          go_simp
        · intro L ax W hf hL hq hd
          have hfu := hf.full (hq (by decide))
          try simp [Region.binds] at hd
          have e1 : ax.tmps[1]?.getD undef = .pointer (some ⟨w.heap.size, 0, none⟩) := hf.out 1 (by decide) rfl
          refine ⟨fun _ => ?_, fun h => absurd trivial h⟩
          refine free_run (v := .pointer (some ⟨w.heap.size, 33, none⟩)) (W' := W) rfl ?_ rfl (Below.refl _ _)
          go_simp
        · intro L ax W hf hL hq hd
          have hfu := hf.full (hq (by decide))
          simp [Region.binds] at hd
          have e17 : ax.tmps[17]?.getD undef = .pointer (some ⟨w.heap.size, 33, none⟩) := slv (hf.got 2 (by decide) (by simp [hd]) (fun j _ => by simp))
          refine ⟨fun _ => ?_, fun h => absurd trivial h⟩
          have h1 := (hf.below.cell (p := ⟨w.heap.size, 33, none⟩) hwB).trans c33
          refine free_run (v := .slice (some ⟨bv, ov, none⟩) a.vals.length vc) (W' := W) rfl ?_ rfl (Below.refl _ _)
          go_simp
        · intro L ax W hf hL hq hd
          have hfu := hf.full (hq (by decide))
          try simp [Region.binds] at hd
          have e4 : ax.tmps[4]?.getD undef = .int .i64 (k : Int) := hf.out 4 (by decide) rfl
          refine ⟨fun _ => ?_, fun h => absurd trivial h⟩
          refine free_run (v := .int .i64 (k : Int)) (W' := W) rfl ?_ rfl (Below.refl _ _)
          go_simp
        · intro L ax W hf hL hq hd
          have hfu := hf.full (hq (by decide))
          simp [Region.binds] at hd
          have e18 : ax.tmps[18]?.getD undef = .slice (some ⟨bv, ov, none⟩) a.vals.length vc := slv (hf.got 3 (by decide) (by simp [hd]) (fun j _ => by simp))
          have e19 : ax.tmps[19]?.getD undef = .int .i64 (k : Int) := slv (hf.got 4 (by decide) (by simp [hd]) (fun j _ => by simp))
          refine ⟨fun _ => ?_, fun h => absurd trivial h⟩
          refine free_run (v := .pointer (some ⟨bv, ov + k * 33, none⟩)) (W' := W) rfl ?_ rfl (Below.refl _ _)
          go_simp
        · intro L ax W hf hL hq hd
          have hfu := hf.full (hq (by decide))
          simp [Region.binds] at hd
          have e20 : ax.tmps[20]?.getD undef = .pointer (some ⟨bv, ov + k * 33, none⟩) := slv (hf.got 5 (by decide) (by simp [hd]) (fun j _ => by simp))
          refine ⟨fun _ => ?_, fun h => absurd trivial h⟩
          refine free_run (v := .pointer (some ⟨bv, ov + k * 33, none⟩)) (W' := W) rfl ?_ rfl (Below.refl _ _)
          go_simp
        · intro L ax W hf hL hq hd
          have hfu := hf.full (hq (by decide))
          simp [Region.binds] at hd
          have e21 : ax.tmps[21]?.getD undef = .pointer (some ⟨bv, ov + k * 33, none⟩) := slv (hf.got 6 (by decide) (by simp [hd]) (fun j _ => by simp))
          refine ⟨fun _ => ?_, fun h => absurd trivial h⟩
          have h1 := (row?_below _ _ _ hf.below hbB).trans qk
          refine free_run (v := .agg (hashA v.key)) (W' := W) rfl ?_ rfl (Below.refl _ _)
          go_simp
        · intro L ax W hf hL hq hd
          have hfu := hf.full (hq (by decide))
          try simp [Region.binds] at hd
          have e1 : ax.tmps[1]?.getD undef = .pointer (some ⟨w.heap.size, 0, none⟩) := hf.out 1 (by decide) rfl
          refine ⟨fun _ => ?_, fun h => absurd trivial h⟩
          refine free_run (v := .pointer (some ⟨w.heap.size, 33, none⟩)) (W' := W) rfl ?_ rfl (Below.refl _ _)
          go_simp
        · intro L ax W hf hL hq hd
          have hfu := hf.full (hq (by decide))
          simp [Region.binds] at hd
          have e23 : ax.tmps[23]?.getD undef = .pointer (some ⟨w.heap.size, 33, none⟩) := slv (hf.got 8 (by decide) (by simp [hd]) (fun j _ => by simp))
          refine ⟨fun _ => ?_, fun h => absurd trivial h⟩
          have h1 := (hf.below.cell (p := ⟨w.heap.size, 33, none⟩) hwB).trans c33
          refine free_run (v := .slice (some ⟨bv, ov, none⟩) a.vals.length vc) (W' := W) rfl ?_ rfl (Below.refl _ _)
          go_simp
        · intro L ax W hf hL hq hd
          have hfu := hf.full (hq (by decide))
          try simp [Region.binds] at hd
          have e4 : ax.tmps[4]?.getD undef = .int .i64 (k : Int) := hf.out 4 (by decide) rfl
          refine ⟨fun _ => ?_, fun h => absurd trivial h⟩
          refine free_run (v := .int .i64 (k : Int)) (W' := W) rfl ?_ rfl (Below.refl _ _)
          go_simp
        · intro L ax W hf hL hq hd
          have hfu := hf.full (hq (by decide))
          simp [Region.binds] at hd
          have e24 : ax.tmps[24]?.getD undef = .slice (some ⟨bv, ov, none⟩) a.vals.length vc := slv (hf.got 9 (by decide) (by simp [hd]) (fun j _ => by simp))
          have e25 : ax.tmps[25]?.getD undef = .int .i64 (k : Int) := slv (hf.got 10 (by decide) (by simp [hd]) (fun j _ => by simp))
          refine ⟨fun _ => ?_, fun h => absurd trivial h⟩
          refine free_run (v := .pointer (some ⟨bv, ov + k * 33, none⟩)) (W' := W) rfl ?_ rfl (Below.refl _ _)
          go_simp
        · intro L ax W hf hL hq hd
          have hfu := hf.full (hq (by decide))
          simp [Region.binds] at hd
          have e26 : ax.tmps[26]?.getD undef = .pointer (some ⟨bv, ov + k * 33, none⟩) := slv (hf.got 11 (by decide) (by simp [hd]) (fun j _ => by simp))
          refine ⟨fun _ => ?_, fun h => absurd trivial h⟩
          refine free_run (v := .pointer (some ⟨bv, ov + k * 33 + 32, none⟩)) (W' := W) rfl ?_ rfl (Below.refl _ _)
          go_simp
        · intro L ax W hf hL hq hd
          have hfu := hf.full (hq (by decide))
          simp [Region.binds] at hd
          have e27 : ax.tmps[27]?.getD undef = .pointer (some ⟨bv, ov + k * 33 + 32, none⟩) := slv (hf.got 12 (by decide) (by simp [hd]) (fun j _ => by simp))
          refine ⟨fun _ => ?_, fun h => absurd trivial h⟩
          have h1 := (hf.below.cell (p := ⟨bv, ov + k * 33 + 32, none⟩) hbB).trans qs
          refine free_run (v := .int .u64 (v.stake.toNat : Int)) (W' := W) rfl ?_ rfl (Below.refl _ _)
          go_simp
        · intro L ax W hf hL hq hd
          have hfu := hf.full (hq (by decide))
          simp [Region.binds] at hd
          have e22 : ax.tmps[22]?.getD undef = .agg (hashA v.key) := slv (hf.got 7 (by decide) (by simp [hd]) (fun j _ => by simp))
          have e28 : ax.tmps[28]?.getD undef = .int .u64 (v.stake.toNat : Int) := slv (hf.got 13 (by decide) (by simp [hd]) (fun j _ => by simp))
          refine ⟨fun _ => ?_, fun h => absurd trivial h⟩
          refine free_run (v := .agg (mbrA vm)) (W' := W) rfl ?_ rfl (Below.refl _ _)
          go_simp
        · intro L ax W hf hL hq hd
          have hfu := hf.full (hq (by decide))
          simp [Region.binds] at hd
          have e29 : ax.tmps[29]?.getD undef = .agg (mbrA vm) := slv (hf.got 14 (by decide) (by simp [hd]) (fun j _ => by simp))
          refine ⟨fun _ => ?_, fun h => absurd trivial h⟩
          refine free_run (v := .slice (some ⟨W.heap.size, 0, none⟩) 1 1) (W' := W.alloc (.cells (mbrA vm) 123)) rfl ?_ ⟨W.heap.size, rfl, _, _, heap_alloc_new W _⟩ (bel_a _ _)
          go_simp
        · intro L ax W hf hL hq hd
          have hfu := hf.full (hq (by decide))
          simp [Region.binds] at hd
          have e16 : ax.tmps[16]?.getD undef = .slice sa sn sc := slv (hf.got 1 (by decide) (by simp [hd]) (fun j _ => by simp))
          have f30 : LitM vm (sl ax 30) W := hf.got 15 (by decide) (by simp [hd]) (fun j hj => by by_cases e : j = 16 <;> first | (subst e; rw [hL] at hj; cases hj; done) | (simp [e]; done))
          refine ⟨fun _ => ?_, fun h => absurd trivial h⟩
          obtain ⟨bl, e30, ty, fr, hrl⟩ := f30
          have e30 := slv e30
          refine wp_append_ownC W (.tmp 16) (.tmp 30) _ _ (by rfl) (pr + 1) 123 i0 _ 35 56 Try.underlying101 hi0 hy0 hy1 hy2 (by simp [Value.cells]) (.slice sa sn sc) vls.length (flatC mbrA vls) (by simp [Act.eval, e16]) (OwnC.keep hown hfu) (.slice (some ⟨bl, 0, none⟩) 1 1) 1 (flatC mbrA [vm]) (by simp [Act.eval, e30]) (src_one mbrA mbrA_size Try.underlying101 mbrA_one hrl) (by simp only [maxLen]; omega) (by omega) (Nat.le_trans hpw7 hfu.size) ?_
          intro v' W' ho hg _
          refine ⟨v', rfl, ?_, ?_⟩
          · unfold OwnMv
            rw [flatC_append, List.length_append]
            exact ho
          · show Below (pr + 1) W W'
            exact bel_grown hg (Below.refl _ _) (Nat.le_trans hpw7 hfu.size) (fun k hk => (OwnC.lt (OwnC.keep hown hfu) k hk).1)
        · intro L ax W hf hL hq hd
          try simp [Region.binds] at hd
          have e3 : ax.tmps[3]?.getD undef = .pointer (some ⟨pr, 0, none⟩) := hf.out 3 (by decide) rfl
          refine ⟨fun _ => ?_, fun h => absurd trivial h⟩
          refine free_run (v := .pointer (some ⟨pr, 0, none⟩)) (W' := W) rfl ?_ rfl (Below.refl _ _)
          go_simp
        · intro vs W hl' hF hb
          obtain ⟨g', hg1, hg2⟩ := vs_litE vs hl' hF
          have ho16 : OwnMv (pr + 1) (vls ++ [vm]) (g' 16) W := hg2 16 (by decide) (fun j => by simp)
          have e17 : g' 17 = .pointer (some ⟨pr, 0, none⟩) := hg2 17 (by decide) (fun j => by simp)
          obtain ⟨⟨ta, tn, tc⟩, hs16⟩ := ho16.slice
          rw [hs16] at ho16
          rw [hg1]
          simp only [List.length_cons, List.length_nil, Nat.reduceAdd, show List.range 18 = [0, 1, 2, 3, 4, 5, 6, 7, 8, 9, 10, 11, 12, 13, 14, 15, 16, 17] from rfl, List.map_cons, List.map_nil, putL, List.zip_cons_cons, List.zip_nil_right, List.setIfInBounds_toArray, List.set_cons_succ, List.set_cons_zero, hs16, e17]
          obtain ⟨hcell, hfz, hMV9, hbW⟩ := hMVf.out.set hb ho16
          dsimp only [Sl.v] at hcell hMV9 hbW
          have hB9 := Lib.hid (hB.out.trans hbW)
          replace hMV9 := Lib.hid hMV9
          clear hg1 hg2 hs16 e17 ho16 hb hbW hl' hF c33 c0 qk qs hMVf hMV hB hown
          go_wp2_with fail
          go_roundw
          case rel => exact ⟨k + 1, ⟨ta, tn, tc⟩, hks.out, by go_num, by rw [Hsn.out]; exact hMV9, hB9⟩
          case measure =>
            have := hks.out
            simp [intOf]
            omega
    · obtain rfl : k = a.vals.length := by omega
      rw [List.take_length] at hMV
      have knl : ¬ (a.vals.length : Int) < (a.vals.length : Int) := by omega
      obtain ⟨gz, hgz⟩ : ∃ gz : GReg, gz = ⟨⟨sa, sn, sc⟩, ⟨none, 0, 0⟩, ⟨none, 0, 0⟩, a.churn⟩ := ⟨_, rfl⟩
      have hrow := hMV.out.row
      rw [← hgz] at hrow
      have hthr := there_below hB.out hn2 hth2.out
      have hst := store_reg wr b2 0 (regA gz) rfl (onesReg _) hthr
      have hput : row? (putRow wr b2 0 (regA gz)) b2 0 4 = some (regA gz) := row?_put_same _ _ _ _ _ (by rfl) (by omega) hthr
      have hpb : Below w.heap.size w (putRow wr b2 0 (regA gz)) := below_put hBw.out (by omega) _ _
      have hrg : RegAt w.heap.size (putRow wr b2 0 (regA gz)) gz (firstReg a) := fun W2 q1 q2 => by
        rw [hgz]
        rw [size_put] at q1 q2
        refine ⟨?_, SlR.nil _ _ _ _ _, SlR.nil _ _ _ _ _, rfl⟩
        have ho2 : OwnC W2 (pr + 1) 35 (Sl.v ⟨sa, sn, sc⟩) (a.vals.map mbrOf).length (flatC mbrA (a.vals.map mbrOf)) :=
          OwnC.keepB hMV.out.own q1 (fun k hk hl => by
            have h2 := (hMV.out.own.lt k hk).1
            exact (q2 k (by omega) hl).trans (put_far _ _ _ _ k (by omega)))
        exact rows_of_own mbrA mbrA_size (by omega) ho2
      replace hrg := Lib.hid hrg
      clear hgz hMV hB hkx hk c33'
      go_wp2_with (with_reducible refine ret_row Try.isAgg103 Try.sizeOf103 rfirst_res (x := .pointer (some ⟨b2, 0, none⟩)) (b2) 0 ?rrhx (Eq.refl _) ?rrh ?rrhd ?rrhR; (case rrhx => simp only [Array.getD_eq_getD_getElem?, List.getElem?_toArray, List.getElem?_cons_succ, List.getElem?_cons_zero, Option.getD_some]); (case rrhd => exact rfl); (case rrh => go_simp); (case rrhR => ((exact reg_done (g' := gz) hput hrg.out hpb))))
end Go.Proofs.Ytkocpihfdpahpaa

/- Contracts of the document's layer 10: MayPoint, MayVote, MayOp, MayHeader. -/
namespace Go.Proofs.Ytkocpihfdpahpaa
open Go.RowKit

theorem tmayPoint_c (p : Pt) (w : World) : Calls Try.prog 208 #[.agg (pointA p)] w fun e w' => e = .returned (.bool (mayPt p)) ∧ Below w.heap.size w w' := by
  go_enter Try.func208, Try.ntmps208
  go_wp2_with fail
  go_ret
  exact ⟨ret_bool (by simp [mayPt]; omega), by (repeat' (first | (with_reducible exact Below.refl _ _) | (with_reducible assumption) | (with_reducible refine bel_trans (by assumption) ?_ ?_) | (with_reducible refine bel_grown (by assumption) ?_ ?_ ?_) | (with_reducible refine Below.alloc ?_ ?_ _) | (with_reducible refine Below.drew ?_) | (with_reducible refine below_drewN ?_ _) | (with_reducible refine Below.setCell ?_ ?_ _) | (with_reducible refine below_put ?_ ?_ _ _) | (with_reducible exact Nat.le_refl _) | omega | (with_reducible refine Nat.le_trans ?_ (Below.size (by assumption))) | (with_reducible refine Nat.le_trans ?_ (World.grownBy.size (by assumption))) | (simp only [World.size_alloc, World.size_setCell, World.size_drew, size_drewN]; omega) | (simp only [World.size_alloc, World.size_setCell, World.size_drew, size_drewN, size_put]; omega) | (intro k hk; simp [Value.ownBlock] at hk; done) | (intro k hk; simp [Value.ownBlock] at hk; omega) | (simp [size_drewN] at *; omega)))⟩
set_option maxRecDepth 100000 in
theorem tmayVote_c (v : GVote) (w : World) : Calls Try.prog 203 #[.agg (voteA v)] w fun e w' => e = .returned (.bool (mayV v)) ∧ Below w.heap.size w w' := by
  go_enter Try.func203, Try.ntmps203
  go_wp2_with (go_at_call 208; refine (tmayPoint_c _ _).mono ?_; rintro e w1 ⟨rfl, hb⟩; obtain ⟨k1, k2, k3⟩ := kept hb; have hz : w.heap.size < w1.heap.size := by (have := hb.size; (try simp at this); omega))
  all_goals go_ret
  all_goals exact ⟨ret_bool (by simp_all [mayV, mayMem] <;> omega), by (repeat' (first | (with_reducible exact Below.refl _ _) | (with_reducible assumption) | (with_reducible refine bel_trans (by assumption) ?_ ?_) | (with_reducible refine bel_grown (by assumption) ?_ ?_ ?_) | (with_reducible refine Below.alloc ?_ ?_ _) | (with_reducible refine Below.drew ?_) | (with_reducible refine below_drewN ?_ _) | (with_reducible refine Below.setCell ?_ ?_ _) | (with_reducible refine below_put ?_ ?_ _ _) | (with_reducible exact Nat.le_refl _) | omega | (with_reducible refine Nat.le_trans ?_ (Below.size (by assumption))) | (with_reducible refine Nat.le_trans ?_ (World.grownBy.size (by assumption))) | (simp only [World.size_alloc, World.size_setCell, World.size_drew, size_drewN]; omega) | (simp only [World.size_alloc, World.size_setCell, World.size_drew, size_drewN, size_put]; omega) | (intro k hk; simp [Value.ownBlock] at hk; done) | (intro k hk; simp [Value.ownBlock] at hk; omega) | (simp [size_drewN] at *; omega)))⟩
set_option maxRecDepth 100000 in
set_option maxHeartbeats 1600000 in
theorem tmayOp_c (g : GOp) (o : Op) (w : World) (h : OpR w g o) :
    Calls Try.prog 189 #[.agg (opA g)] w fun e w' => e = .returned (.bool (opMay o)) ∧ Below w.heap.size w w' := by
  have hz := zero_hash
  have hq := eq_hash_guard
  have hM := opMay_doc o
  have n1 := h.2.2.2.2.1
  rw [← h.1, ← h.2.1, ← h.2.2.1, ← h.2.2.2.1] at hM
  have Hv := Lib.hid h.2.2.2.2
  have hrow : row? (w.alloc (.cells (opA g) 83)) w.heap.size 0 36 = some (opA g) := by rw [row?_new]; simp
  have hB : Below w.heap.size w (w.alloc (.cells (opA g) 83)) := bel_a _ _
  have hsz : w.heap.size < (w.alloc (.cells (opA g) 83)).heap.size := by simp
  have HM := Lib.hid hM
  clear hM h
  obtain ⟨gk, gkey, gst, gv, ⟨ea, en, ec⟩⟩ := g
  simp only at n1
  subst n1
  go_enter Try.func189, Try.ntmps189
  go_upto_region 1 with fail
  generalize hw1 : w.alloc (.cells (opA ⟨gk, gkey, gst, gv, ⟨ea, o.evidence.length, ec⟩⟩) 83) = w1 at *
  clear hw1
  obtain ⟨c0, c1, c2, c3⟩ := opA_cells hrow
  have ck := row?_sub hrow 1 32 (by omega)
  simp only [Nat.zero_add, Nat.reduceAdd, opA_key] at ck
  have hsz0 := stake_zero gst
  go_cut [3] from 4 (fun x W => x = .bool (!decide (gkey = zeroHash)) ∧ W = w1)
  case first =>
    by_cases hk : gkey = zeroHash
    · have hd := dec_true hk
      clear hk
      go_wp2_with fail
      go_meet
      case rel => exact ⟨by rw [hd]; rfl, rfl⟩
    · have hd := dec_false hk
      clear hk
      go_wp2_with fail
      go_meet
      case rel => exact ⟨by rw [hd]; rfl, rfl⟩
  case rest =>
    obtain ⟨rfl, rfl⟩ := hcut
    simp only at HM
    generalize decide (gkey = zeroHash) = kz at *
    have nl := nil_len o.evidence
    by_cases e1 : gk = 1
    · have b1 : (gk == 1) = true := by simp [e1]
      have Hm := Lib.hid (HM.out.trans (if_pos e1))
      clear e1 HM hsz0
      obtain ⟨gn, hgn⟩ : ∃ x, x = gst.toNat := ⟨_, rfl⟩
      obtain ⟨ev, hev⟩ : ∃ x, x = decide (o.evidence = []) := ⟨_, rfl⟩
      rw [← hgn, ← hev] at Hm
      rw [← hev] at nl
      rw [← hgn] at c1
      clear hgn hev
      by_cases g1 : 1 ≤ gn
      rotate_left
      · have Hr := Lib.hid (show opMay o = false by rw [Hm.out, decide_eq_false g1, Bool.and_false]; rfl)
        have g1' : ¬ (1 : Int) ≤ (gn : Int) := by omega
        have g1'' : decide ((1 : Int) ≤ (gn : Int)) = false := decide_eq_false g1'
        clear g1 Hm
        go_wp2_with fail
        all_goals go_ret
        all_goals exact ⟨ret_bool Hr.out.symm, hB⟩
      by_cases g2 : gn ≤ 4294967296
      rotate_left
      · have Hr := Lib.hid (show opMay o = false by rw [Hm.out, decide_eq_false g2, Bool.and_false])
        have g2' : ¬ (gn : Int) ≤ 4294967296 := by omega
        clear g2 Hm
        go_wp2_with fail
        all_goals go_ret
        all_goals exact ⟨ret_bool Hr.out.symm, hB⟩
      have Hr := Lib.hid (show opMay o = (decide (gv = 0) && ev) by rw [Hm.out, decide_eq_true g1, decide_eq_true g2, Bool.and_true, Bool.and_true])
      have g1' : (1 : Int) ≤ (gn : Int) := by omega
      have g2' : (gn : Int) ≤ 4294967296 := by omega
      clear g1 g2 Hm
      by_cases g3 : gv = 0
      · have Hr2 := Lib.hid (show opMay o = ev by rw [Hr.out, decide_eq_true g3]; rfl)
        have b9 : (gv == 0) = true := by simp [g3]
        clear g3 Hr
        go_wp2_with fail
        all_goals go_ret
        all_goals exact ⟨ret_bool Hr2.out.symm, hB⟩
      · have Hr2 := Lib.hid (show opMay o = false by rw [Hr.out, decide_eq_false g3]; rfl)
        have b9 : (gv == 0) = false := by simp [g3]
        clear g3 Hr
        go_wp2_with fail
        all_goals go_ret
        all_goals exact ⟨ret_bool Hr2.out.symm, hB⟩
    have Hm := Lib.hid (HM.out.trans (if_neg e1))
    have b1 : (gk == 1) = false := by simp [e1]
    clear e1 HM
    generalize decide (gst = 0) = sz at *
    by_cases e2 : gk = 2
    · have b2 : (gk == 2) = true := by simp [e2]
      have Hm := Lib.hid (Hm.out.trans (if_pos e2))
      clear e2
      cases kz <;> cases sz
      all_goals go_wp2_with fail
      all_goals go_ret
      all_goals exact ⟨ret_bool (by rw [Hm.out, Bool.eq_iff_iff]; simp_all [mayMem]; try omega), hB⟩
    have Hm := Lib.hid (Hm.out.trans (if_neg e2))
    have b2 : (gk == 2) = false := by simp [e2]
    clear e2
    by_cases e3 : gk = 3
    · have b3 : (gk == 3) = true := by simp [e3]
      have Hm := Lib.hid (Hm.out.trans (if_pos e3))
      clear e3
      by_cases m2 : o.evidence.length = 2
      · obtain ⟨a, b, hab⟩ : ∃ a b, o.evidence = [a, b] := by
          match he : o.evidence, m2 with
          | [a, b], _ => exact ⟨a, b, rfl⟩
        have hv := VotesR.keep' Hv.out hB
        rw [hab] at hv
        obtain ⟨bl, off, ga, gb, s1, s2, s3, hlt, r0, v0, r1, v1⟩ := votes_two hv
        have Hm := Lib.hid (show opMay o = ((kz && sz) && mayMem gv && (mayV ga && mayV gb)) by rw [Hm.out, hab, v0.may, v1.may]; simp [Bool.and_assoc])
        simp only at s1 s2 s3
        subst s1
        rw [m2] at c3
        dsimp only [Sl.v] at c3
        clear m2 hab hv v0 v1 s2 nl Hv
        cases kz <;> cases sz
        all_goals go_wp2_with (first
          | (go_at_call 203; (with_reducible refine (tmayVote_c ga _).mono ?_); rintro e w2 ⟨rfl, hb2⟩; obtain ⟨k1, k2, k3⟩ := kept hb2; have c3 := (k1 _ _ hsz).trans c3; have r1 := (k3 _ _ _ hlt).trans r1)
          | (go_at_call 203; (with_reducible refine (tmayVote_c gb _).mono ?_); rintro e w3 ⟨rfl, hb3⟩))
        all_goals go_ret
        all_goals exact ⟨ret_bool (by rw [Hm.out, Bool.eq_iff_iff]; simp_all [mayMem]; try omega), by (repeat' (first | (with_reducible exact Below.refl _ _) | (with_reducible assumption) | (with_reducible refine bel_trans (by assumption) ?_ ?_) | (with_reducible refine bel_grown (by assumption) ?_ ?_ ?_) | (with_reducible refine Below.alloc ?_ ?_ _) | (with_reducible refine Below.drew ?_) | (with_reducible refine below_drewN ?_ _) | (with_reducible refine Below.setCell ?_ ?_ _) | (with_reducible refine below_put ?_ ?_ _ _) | (with_reducible exact Nat.le_refl _) | omega | (with_reducible refine Nat.le_trans ?_ (Below.size (by assumption))) | (with_reducible refine Nat.le_trans ?_ (World.grownBy.size (by assumption))) | (simp only [World.size_alloc, World.size_setCell, World.size_drew, size_drewN]; omega) | (simp only [World.size_alloc, World.size_setCell, World.size_drew, size_drewN, size_put]; omega) | (intro k hk; simp [Value.ownBlock] at hk; done) | (intro k hk; simp [Value.ownBlock] at hk; omega) | (simp [size_drewN] at *; omega)))⟩
      · have b4 : ((o.evidence.length : Int) == 2) = false := by simp; omega
        have Hf := Lib.hid (show opMay o = false by rw [Hm.out]; simp [m2])
        clear m2 nl Hm
        cases kz <;> cases sz
        all_goals go_wp2_with fail
        all_goals go_ret
        all_goals exact ⟨ret_bool Hf.out.symm, hB⟩
    · have b3 : (gk == 3) = false := by simp [e3]
      have Hm := Lib.hid (Hm.out.trans (if_neg e3))
      clear e3
      go_wp2_with fail
      go_ret
      exact ⟨ret_bool Hm.out.symm, hB⟩
set_option maxRecDepth 100000 in
set_option maxHeartbeats 1600000 in
theorem tmayHeader_c (g : GHeader) (h : Hdr) (w : World) (hr : HdrR w g h) (hl : h.ops.length ≤ 1000000) :
    Calls Try.prog 132 #[.agg (headerA g)] w fun e w' => e = .returned (.bool (hdrMay h)) ∧ Below w.heap.size w w' := by
  have n1 := hr.2.2.1
  have hE := hr.2.1
  obtain ⟨gp, ge, ⟨oa, on, oc⟩⟩ := g
  simp only at n1 hE
  subst n1
  have HM := Lib.hid (show hdrMay h = (decide (1 ≤ ge.toNat ∧ ge.toNat ≤ 4611686018427387904) && decide (h.ops.length ≤ 16) && h.ops.all opMay) by rw [hdrMay, hE])
  have Hr := Lib.hid hr.2.2
  clear hE hr
  have hB0 := Lib.hid (show Below w.heap.size w (w.alloc (.cells (headerA ⟨gp, ge, ⟨oa, h.ops.length, oc⟩⟩) 49)) from bel_a _ _)
  have hrow : row? (w.alloc (.cells (headerA ⟨gp, ge, ⟨oa, h.ops.length, oc⟩⟩) 49)) w.heap.size 0 34 = some (headerA ⟨gp, ge, ⟨oa, h.ops.length, oc⟩⟩) := by rw [row?_new]; simp
  obtain ⟨c32, c33⟩ := headerA_cells hrow
  have hz0 : w.heap.size < (w.alloc (.cells (headerA ⟨gp, ge, ⟨oa, h.ops.length, oc⟩⟩) 49)).heap.size := by simp
  clear hrow
  go_enter Try.func132, Try.ntmps132
  go_upto_region 1 with fail
  generalize w.alloc (.cells (headerA ⟨gp, ge, ⟨oa, h.ops.length, oc⟩⟩) 49) = w1 at *
  have hb11 := Lib.hid (Below.refl w1.heap.size w1)
  go_upto_region 2 with fail
  go_loopw [3] (fun i w' => ∃ k : Nat, k ≤ h.ops.length ∧ Hid ((h.ops.take k).all opMay = true) ∧ i = .int .i64 k ∧ Hid (Below w1.heap.size w1 w')) (fun i _ => h.ops.length - (intOf i).toNat)
  case atStart => exact ⟨0, Nat.zero_le _, Lib.hid (by simp), rfl, hb11⟩
  case round =>
    clear hb11
    obtain ⟨k, hk, hb, rfl, hB⟩ := hrel
    have hBB := Lib.hid (hB0.out.trans (hB.out.mono (Nat.le_of_lt hz0)))
    have c33 : wr.cell? ⟨w.heap.size, 33, none⟩ = some (.slice oa h.ops.length oc) := (hB.out.cell (p := ⟨w.heap.size, 33, none⟩) hz0).trans c33
    by_cases hkx : k < h.ops.length
    · obtain ⟨bl, off, e, hbs, hc⟩ := (OpsR.keep' Hr.out hBB.out).at (by omega)
      have e1 := congrArg Sl.a e
      simp only at e1
      subst e1
      clear e
      obtain ⟨cs, hcx, g1, rfl, hv1⟩ := hc k hkx
      clear hc
      have hat := all_take_succ opMay h.ops k hkx
      have haf := all_false opMay h.ops k hkx
      generalize h.ops[k] = ok at *
      have Hat := Lib.hid hat
      have Haf := Lib.hid haf
      have HO := tmayOp_c g1 ok wr hv1
      clear hat haf hv1
      have i0 : (0 : Int) ≤ (k : Int) := by omega
      have i1 : (k : Int) < (h.ops.length : Int) := by omega
      have hks := Lib.hid (show k + 1 ≤ h.ops.length from hkx)
      obtain ⟨om, hom⟩ : ∃ x, x = opMay ok := ⟨_, rfl⟩
      rw [← hom] at HO
      replace hom := Lib.hid hom
      have hle := hBB.out.size
      have hle1 := hB.out.size
      go_wp2_with fail
      refine HO.mono ?_
      clear HO
      rintro e w2 ⟨rfl, hb1⟩
      have hB1 := Lib.hid (hB.out.trans (hb1.mono hle1))
      have hBB1 := Lib.hid (hBB.out.trans (hb1.mono hle))
      clear hb1
      cases om
      · have Hf := Lib.hid (show hdrMay h = false by rw [HM.out, Haf.out hom.out.symm, Bool.and_false])
        go_wp2_with fail
        go_ret
        exact ⟨ret_bool Hf.out.symm, hBB1.out⟩
      · go_wp2_with fail
        go_roundw
        case rel => exact ⟨k + 1, hks.out, Lib.hid (by rw [Hat.out, ← hom.out, Bool.and_true]; exact hb.out), by go_num, hB1⟩
        case measure =>
          have := hks.out
          simp [intOf]
          omega
    · have Hm := Lib.hid (show hdrMay h = (decide (1 ≤ ge.toNat ∧ ge.toNat ≤ 4611686018427387904) && decide (h.ops.length ≤ 16)) by
        have h1 := hb.out
        rw [List.take_of_length_le (by omega)] at h1
        rw [HM.out, h1, Bool.and_true])
      have c32r := (hB.out.cell (p := ⟨w.heap.size, 32, none⟩) hz0).trans c32
      obtain ⟨en, hen⟩ : ∃ x, x = ge.toNat := ⟨_, rfl⟩
      rw [← hen] at Hm c32r
      clear hen c32 hk
      have i1 : ¬ (k : Int) < (h.ops.length : Int) := by omega
      go_wp2_with fail
      all_goals go_ret
      all_goals exact ⟨ret_bool (by rw [Hm.out, Bool.eq_iff_iff]; simp; omega), hBB.out⟩
end Go.Proofs.Ytkocpihfdpahpaa
