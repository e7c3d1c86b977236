/- Texts of this proof, one behind the other: UndW. -/
import Derived.Test.YtkocpihfdpahpaaKI
set_option linter.unusedVariables false
set_option linter.unusedSimpArgs false
/- The walk of ChainUnder. -/
namespace Go.Proofs.Ytkocpihfdpahpaa
open Go.RowKit

theorem run_bldPtZ (W : World) : (bldPt #[]).run Try.prog W = .ok (.agg (pointA zeroPt)) W := by
  unfold bldPt
  go_simp
theorem run_bldPt0 (n : Hash) (W : World) : (bldPt #[(1, .agg (hashA n))]).run Try.prog W = .ok (.agg (pointA ⟨0, n⟩)) W := by
  unfold bldPt
  go_simp
  rfl
attribute [local go_sem ↓] fold_bldPt
attribute [local go_sem] run_bldPtZ run_bldPt0
set_option maxRecDepth 100000 in
set_option maxHeartbeats 3200000 in
theorem under_walk (p : Pt) (s : Sl) (l : List Act) (e0 : UInt64) (nm : Hash) (w : World) (ha : ActsR w s l) (hl : l.length ≤ 9223372036854775807) :
    Calls Try.prog 7 #[.agg (pointA p), s.v, .int .u64 (e0.toNat : Int), .agg (hashA nm)] w fun e w' => e = .returned (.bool true) ∧ Below w.heap.size w w' := by
  obtain ⟨w1, hw1⟩ : ∃ W, W = (w.alloc (.cells (pointA p) 26)).alloc (.cells (hashA nm) 24) := ⟨_, rfl⟩
  have hB1 : Below w.heap.size w w1 := by rw [hw1]; (repeat' (first | (with_reducible exact Below.refl _ _) | (with_reducible assumption) | (with_reducible refine bel_trans (by assumption) ?_ ?_) | (with_reducible refine bel_grown (by assumption) ?_ ?_ ?_) | (with_reducible refine Below.alloc ?_ ?_ _) | (with_reducible refine Below.drew ?_) | (with_reducible refine below_drewN ?_ _) | (with_reducible refine Below.setCell ?_ ?_ _) | (with_reducible refine below_put ?_ ?_ _ _) | (with_reducible exact Nat.le_refl _) | omega | (with_reducible refine Nat.le_trans ?_ (Below.size (by assumption))) | (with_reducible refine Nat.le_trans ?_ (World.grownBy.size (by assumption))) | (simp only [World.size_alloc, World.size_setCell, World.size_drew, size_drewN]; omega) | (simp only [World.size_alloc, World.size_setCell, World.size_drew, size_drewN, size_put]; omega) | (intro k hk; simp [Value.ownBlock] at hk; done) | (intro k hk; simp [Value.ownBlock] at hk; omega) | (simp [size_drewN] at *; omega)))
  have hz1 : w1.heap.size = w.heap.size + 2 := by rw [hw1]; simp
  have hr4 : row? w1 w.heap.size 0 33 = some (pointA p) := by rw [hw1, row?_old _ _ _ _ _ (by simp), row?_new]; simp
  have hr7 : row? w1 (w.heap.size + 1) 0 32 = some (hashA nm) := by rw [hw1, row?_new_at _ _ _ _ _ _ (by simp)]; simp
  have ha1 := Lib.hid (ha.keep' hB1)
  have hF := fewA_c ha1.out hl 40
  obtain ⟨m, hm⟩ : ∃ m, m = fewA l 40 := ⟨_, rfl⟩
  rw [← hm] at hF
  obtain ⟨sa, sn, sc⟩ := s
  obtain rfl : sn = l.length := ha.1
  obtain ⟨b4, hb4⟩ : ∃ b, b = w.heap.size := ⟨_, rfl⟩
  obtain ⟨b7, hb7⟩ : ∃ b, b = w.heap.size + 1 := ⟨_, rfl⟩
  rw [← hb4] at hr4
  rw [← hb7] at hr7
  have hc4 := cell_of_row? hr4 0 (by omega)
  have hc4' : w1.cell? ⟨b4, 0, none⟩ = some (.int .u64 (p.epoch.toNat : Int)) := by simpa using hc4
  clear hc4 ha
  dsimp only [Sl.v] at hF ⊢
  replace hb4 := Lib.hid hb4
  replace hb7 := Lib.hid hb7
  replace hm := Lib.hid hm
  replace hz1 := Lib.hid hz1
  go_enter Try.func7, Try.ntmps7
  go_upto_region 1 with fail
  rw [← hw1, ← hb7.out, ← hb4.out]
  clear hw1
  have HK := fun W => known10_c W
  go_wp2_with fail
  (with_reducible refine hF.mono ?_)
  clear hF
  rintro e w2 ⟨rfl, hb2⟩
  have hr42 := (row?_below _ _ _ hb2 (show b4 < w1.heap.size by have := hb4.out; have := hz1.out; omega)).trans hr4
  have hr72 := (row?_below _ _ _ hb2 (show b7 < w1.heap.size by have := hb7.out; have := hz1.out; omega)).trans hr7
  have hc42 := (hb2.cell (p := ⟨b4, 0, none⟩) (show b4 < w1.heap.size by have := hb4.out; have := hz1.out; omega)).trans hc4'
  have hB2 := Lib.hid (hB1.trans (hb2.mono (by have := hz1.out; omega)))
  cases m
  · go_wp2_with fail
    (with_reducible refine (HK _).mono ?_)
    rintro e w3 ⟨rfl, hb3⟩
    have hB3 := Lib.hid (hB2.out.trans (hb3.mono hB2.out.size))
    go_wp2_with fail
    go_ret
    exact ⟨rfl, hB3.out⟩
  by_cases hep : 4611686018427387904 < p.epoch.toNat
  · have hei : (4611686018427387904 : Int) < (p.epoch.toNat : Int) := by omega
    go_wp2_with fail
    (with_reducible refine (HK _).mono ?_)
    rintro e w3 ⟨rfl, hb3⟩
    have hB3 := Lib.hid (hB2.out.trans (hb3.mono hB2.out.size))
    go_wp2_with fail
    go_ret
    exact ⟨rfl, hB3.out⟩
  have hei : ¬ (4611686018427387904 : Int) < (p.epoch.toNat : Int) := by omega
  have HN := chnew_c p w2 (by omega)
  unfold ptrV at HN
  go_wp2_with fail
  (with_reducible refine HN.mono ?_)
  clear HN
  rintro e w3 ⟨cb, rfl, hcb, ⟨T0, hC0⟩, hb3⟩
  have hB13 : Below w1.heap.size w1 w3 := hb2.trans (hb3.mono hb2.size)
  have hr43 := (row?_below _ _ _ hb3 (show b4 < w2.heap.size by have := hb4.out; have := hz1.out; have := hb2.size; omega)).trans hr42
  have HR := rnew_c w1 w3 hB13 p
  unfold ptrV at HR
  go_wp2_with fail
  (with_reducible refine HR.mono ?_)
  clear HR
  rintro e w4 ⟨cr, rb0, rfl, hcr, hrb, hR0, hb4'⟩
  obtain ⟨T1, hB4⟩ := Both.start hC0 hb4' hR0 hcr hrb hb2.size
  obtain ⟨hfa, hl40⟩ := fewA_out hm.out.symm
  have HD := actdo_c hB4 (chNew_ok p) ha1.out (by omega) hfa
  have hok := Lib.hid (doA_ok (chNew_ok p) l)
  have hlen : (doA (chNew p) l).length ≤ 41 := by
    have := doA_len (chNew p) l
    have h1 : (chNew p).length = 1 := rfl
    omega
  have hC0e := Lib.hid (doA_head (chNew_ok p) l)
  generalize doA (chNew p) l = C at *
  unfold ptrV at HD
  dsimp only [Sl.v] at HD
  clear hC0 hb4' hR0 hB4 hB13 hr43 hr42 hr72 hc42 hb3 hfa
  go_wp2_with fail
  (with_reducible refine HD.mono ?_)
  clear HD
  rintro e w5 ⟨rfl, T2, hB5⟩
  have hb5 := hB5.bel
  have hr4 := (row?_below _ _ _ hb5 (show b4 < w1.heap.size by have := hb4.out; have := hz1.out; omega)).trans hr4
  have hr7 := (row?_below _ _ _ hb5 (show b7 < w1.heap.size by have := hb7.out; have := hz1.out; omega)).trans hr7
  have hc4 := (hb5.cell (p := ⟨b4, 0, none⟩) (show b4 < w1.heap.size by have := hb4.out; have := hz1.out; omega)).trans hc4'
  have hBB := Lib.hid (hB1.trans (hb5.mono (by have := hz1.out; omega)))
  have hq4 : b4 < w5.heap.size := by have := hb4.out; have := hz1.out; have := hb5.size; omega
  have hq7 : b7 < w5.heap.size := by have := hb7.out; have := hz1.out; have := hb5.size; omega
  obtain ⟨rb, cap, hDv⟩ := hB5.view
  have hBo := Lib.hid hB5
  have hDo := Lib.hid hDv
  clear hc4' hb5 hB5 hDv hB1 hB2 hb2
  go_wp2_with fail
  go_loopw [12] (fun x W' => ∃ i : Nat, i ≤ C.length ∧ x = .int .i64 i ∧ Hid (Below w5.heap.size w5 W')) (fun x _ => C.length - (intOf x).toNat)
  case atStart => exact ⟨0, Nat.zero_le _, rfl, Lib.hid (Below.refl _ _)⟩
  case round =>
    obtain ⟨i, hi, rfl, hBi⟩ := hrel
    have hDi := hDo.out.keep hBi.out
    have c0i := hDi.c0
    by_cases hix : i < C.length
    · have i0 : (0 : Int) ≤ (i : Int) := by omega
      have i1 : (i : Int) < (C.length : Int) := by omega
      have hBi2 := hBi
      generalize wr = wo at *
      clear hDi
      go_upto_region 11 with fail
      go_loopw [13] (fun x W' => ∃ j : Nat, j ≤ C.length ∧ x = .int .i64 j ∧ Hid (Below w5.heap.size w5 W')) (fun x _ => C.length - (intOf x).toNat)
      case atStart => exact ⟨0, Nat.zero_le _, rfl, hBi⟩
      case round =>
        clear hBi hBi2 c0i
        obtain ⟨j, hj, rfl, hBj⟩ := hrel
        have hDj := hDo.out.keep hBj.out
        have c0q := hDj.c0
        by_cases hjx : j < C.length
        · have j0 : (0 : Int) ≤ (j : Int) := by omega
          have j1 : (j : Int) < (C.length : Int) := by omega
          obtain ⟨-, hni, -⟩ := hDj.at hix
          obtain ⟨-, hnj, -⟩ := hDj.at hjx
          have hcq := hDj.clt
          have hrq := hDj.lt
          have HU := fun W (hb : Below wr.heap.size wr W) => (hBo.out.real.keep (hBj.out.trans (hb.mono hBj.out.size))).under_c hok.out C[i].p.name C[j].p.name
          have HV := fun W (hb : Below wr.heap.size wr W) => (hBo.out.keep (hBj.out.trans (hb.mono hBj.out.size))).docUnder hok.out (some i) (some j) (fun k hk => by cases hk; exact hix)
          simp only [under_same hok.out hix hjx] at HU
          obtain ⟨u, hu⟩ : ∃ u, u = rUnder C (some i) (some j) := ⟨_, rfl⟩
          rw [← hu] at HU HV
          obtain ⟨ni, hnie⟩ : ∃ n, n = C[i].p.name := ⟨_, rfl⟩
          obtain ⟨nj, hnje⟩ : ∃ n, n = C[j].p.name := ⟨_, rfl⟩
          rw [← hnie] at hni HU
          rw [← hnje] at hnj HU
          have hjx2 := Lib.hid hjx
          clear hu hnie hnje hDj
          unfold ptrV at HU HV
          simp only [parI] at HV
          go_upto_region 13 with fail
          refine wp_region_freeG_l (fun W W' => Below W.heap.size W W') (by kernel_rfl) [74, 75, 76, 77, 78, 79, 80, 81, 82, 83, 84, 85, 86, 87, 88, 89, 90, 91, 92, 93, 94, 95, 96, 97, 98]
            [Is (.pointer (some ⟨cb, 0, none⟩)), Is (.pointer (some ⟨cr, 0, none⟩)), Is (.pointer (some ⟨cr, 0, none⟩)), Is (.pointer (some ⟨cr, 0, none⟩)), Is (.slice (some ⟨rb, 0, none⟩) C.length cap), Is (.int .i64 (i : Int)), Is (.pointer (some ⟨rb, i * 68, none⟩)), Is (.pointer (some ⟨rb, i * 68, none⟩)), Is (.pointer (some ⟨rb, i * 68 + 1, none⟩)), Is (.agg (hashA ni)), Is (.pointer (some ⟨cr, 0, none⟩)), Is (.pointer (some ⟨cr, 0, none⟩)), Is (.pointer (some ⟨cr, 0, none⟩)), Is (.slice (some ⟨rb, 0, none⟩) C.length cap), Is (.int .i64 (j : Int)), Is (.pointer (some ⟨rb, j * 68, none⟩)), Is (.pointer (some ⟨rb, j * 68, none⟩)), Is (.pointer (some ⟨rb, j * 68 + 1, none⟩)), Is (.agg (hashA nj)), Is (.bool u), Is (.pointer (some ⟨cr, 0, none⟩)), Is (.int .i64 (i : Int)), Is (.int .i64 (j : Int)), Is (.bool u), Is (.bool false)]
            (by kernel_rfl) (fun W W' h hb => hb.trans (h.mono hb.size)) ?_ ?_ ?_
          · intro f hf
            simp only [List.mem_cons, List.not_mem_nil, or_false] at hf
            rcases hf with rfl | rfl | rfl | rfl | rfl | rfl | rfl | rfl | rfl | rfl | rfl | rfl | rfl | rfl | rfl | rfl | rfl | rfl | rfl | rfl | rfl | rfl | rfl | rfl | rfl <;> intro x W W' h hr <;> first | exact h
          · refine ⟨?_, ?_, ?_, ?_, ?_, ?_, ?_, ?_, ?_, ?_, ?_, ?_, ?_, ?_, ?_, ?_, ?_, ?_, ?_, ?_, ?_, ?_, ?_, ?_, ?_, trivial⟩
            · intro L ax W hf hd
              try simp [Region.binds] at hd
              have e9 : ax.tmps[9]?.getD undef = .pointer (some ⟨cb, 0, none⟩) := hf.out 9 (by decide) rfl
              refine ⟨fun _ => ?_, fun h => absurd trivial h⟩
              refine free_run (v := .pointer (some ⟨cb, 0, none⟩)) (W' := W) rfl ?_ rfl (Below.refl _ _)
              go_simp
            · intro L ax W hf hd
              try simp [Region.binds] at hd
              have e11 : ax.tmps[11]?.getD undef = .pointer (some ⟨cr, 0, none⟩) := hf.out 11 (by decide) rfl
              refine ⟨fun _ => ?_, fun h => absurd trivial h⟩
              refine free_run (v := .pointer (some ⟨cr, 0, none⟩)) (W' := W) rfl ?_ rfl (Below.refl _ _)
              go_simp
            · intro L ax W hf hd
              simp [Region.binds] at hd
              have e75 : ax.tmps[75]?.getD undef = .pointer (some ⟨cr, 0, none⟩) := slv (hf.got 1 (by decide) (by simp [hd]))
              refine ⟨fun _ => ?_, fun h => absurd trivial h⟩
              refine free_run (v := .pointer (some ⟨cr, 0, none⟩)) (W' := W) rfl ?_ rfl (Below.refl _ _)
              go_simp
            · intro L ax W hf hd
              simp [Region.binds] at hd
              have e76 : ax.tmps[76]?.getD undef = .pointer (some ⟨cr, 0, none⟩) := slv (hf.got 2 (by decide) (by simp [hd]))
              refine ⟨fun _ => ?_, fun h => absurd trivial h⟩
              refine free_run (v := .pointer (some ⟨cr, 0, none⟩)) (W' := W) rfl ?_ rfl (Below.refl _ _)
              go_simp
            · intro L ax W hf hd
              simp [Region.binds] at hd
              have e77 : ax.tmps[77]?.getD undef = .pointer (some ⟨cr, 0, none⟩) := slv (hf.got 3 (by decide) (by simp [hd]))
              refine ⟨fun _ => ?_, fun h => absurd trivial h⟩
              have h1 := (hf.below.cell (p := ⟨cr, 0, none⟩) hcq).trans c0q
              refine free_run (v := .slice (some ⟨rb, 0, none⟩) C.length cap) (W' := W) rfl ?_ rfl (Below.refl _ _)
              go_simp
            · intro L ax W hf hd
              try simp [Region.binds] at hd
              have e12 : ax.tmps[12]?.getD undef = .int .i64 (i : Int) := hf.out 12 (by decide) rfl
              refine ⟨fun _ => ?_, fun h => absurd trivial h⟩
              refine free_run (v := .int .i64 (i : Int)) (W' := W) rfl ?_ rfl (Below.refl _ _)
              go_simp
            · intro L ax W hf hd
              simp [Region.binds] at hd
              have e78 : ax.tmps[78]?.getD undef = .slice (some ⟨rb, 0, none⟩) C.length cap := slv (hf.got 4 (by decide) (by simp [hd]))
              have e79 : ax.tmps[79]?.getD undef = .int .i64 (i : Int) := slv (hf.got 5 (by decide) (by simp [hd]))
              refine ⟨fun _ => ?_, fun h => absurd trivial h⟩
              refine free_run (v := .pointer (some ⟨rb, i * 68, none⟩)) (W' := W) rfl ?_ rfl (Below.refl _ _)
              go_simp
            · intro L ax W hf hd
              simp [Region.binds] at hd
              have e80 : ax.tmps[80]?.getD undef = .pointer (some ⟨rb, i * 68, none⟩) := slv (hf.got 6 (by decide) (by simp [hd]))
              refine ⟨fun _ => ?_, fun h => absurd trivial h⟩
              refine free_run (v := .pointer (some ⟨rb, i * 68, none⟩)) (W' := W) rfl ?_ rfl (Below.refl _ _)
              go_simp
            · intro L ax W hf hd
              simp [Region.binds] at hd
              have e81 : ax.tmps[81]?.getD undef = .pointer (some ⟨rb, i * 68, none⟩) := slv (hf.got 7 (by decide) (by simp [hd]))
              refine ⟨fun _ => ?_, fun h => absurd trivial h⟩
              refine free_run (v := .pointer (some ⟨rb, i * 68 + 1, none⟩)) (W' := W) rfl ?_ rfl (Below.refl _ _)
              go_simp
            · intro L ax W hf hd
              simp [Region.binds] at hd
              have e82 : ax.tmps[82]?.getD undef = .pointer (some ⟨rb, i * 68 + 1, none⟩) := slv (hf.got 8 (by decide) (by simp [hd]))
              refine ⟨fun _ => ?_, fun h => absurd trivial h⟩
              have h1 := (row?_below _ _ _ hf.below hrq).trans hni
              refine free_run (v := .agg (hashA ni)) (W' := W) rfl ?_ rfl (Below.refl _ _)
              go_simp
            · intro L ax W hf hd
              try simp [Region.binds] at hd
              have e11 : ax.tmps[11]?.getD undef = .pointer (some ⟨cr, 0, none⟩) := hf.out 11 (by decide) rfl
              refine ⟨fun _ => ?_, fun h => absurd trivial h⟩
              refine free_run (v := .pointer (some ⟨cr, 0, none⟩)) (W' := W) rfl ?_ rfl (Below.refl _ _)
              go_simp
            · intro L ax W hf hd
              simp [Region.binds] at hd
              have e84 : ax.tmps[84]?.getD undef = .pointer (some ⟨cr, 0, none⟩) := slv (hf.got 10 (by decide) (by simp [hd]))
              refine ⟨fun _ => ?_, fun h => absurd trivial h⟩
              refine free_run (v := .pointer (some ⟨cr, 0, none⟩)) (W' := W) rfl ?_ rfl (Below.refl _ _)
              go_simp
            · intro L ax W hf hd
              simp [Region.binds] at hd
              have e85 : ax.tmps[85]?.getD undef = .pointer (some ⟨cr, 0, none⟩) := slv (hf.got 11 (by decide) (by simp [hd]))
              refine ⟨fun _ => ?_, fun h => absurd trivial h⟩
              refine free_run (v := .pointer (some ⟨cr, 0, none⟩)) (W' := W) rfl ?_ rfl (Below.refl _ _)
              go_simp
            · intro L ax W hf hd
              simp [Region.binds] at hd
              have e86 : ax.tmps[86]?.getD undef = .pointer (some ⟨cr, 0, none⟩) := slv (hf.got 12 (by decide) (by simp [hd]))
              refine ⟨fun _ => ?_, fun h => absurd trivial h⟩
              have h1 := (hf.below.cell (p := ⟨cr, 0, none⟩) hcq).trans c0q
              refine free_run (v := .slice (some ⟨rb, 0, none⟩) C.length cap) (W' := W) rfl ?_ rfl (Below.refl _ _)
              go_simp
            · intro L ax W hf hd
              try simp [Region.binds] at hd
              have e13 : ax.tmps[13]?.getD undef = .int .i64 (j : Int) := hf.out 13 (by decide) rfl
              refine ⟨fun _ => ?_, fun h => absurd trivial h⟩
              refine free_run (v := .int .i64 (j : Int)) (W' := W) rfl ?_ rfl (Below.refl _ _)
              go_simp
            · intro L ax W hf hd
              simp [Region.binds] at hd
              have e87 : ax.tmps[87]?.getD undef = .slice (some ⟨rb, 0, none⟩) C.length cap := slv (hf.got 13 (by decide) (by simp [hd]))
              have e88 : ax.tmps[88]?.getD undef = .int .i64 (j : Int) := slv (hf.got 14 (by decide) (by simp [hd]))
              refine ⟨fun _ => ?_, fun h => absurd trivial h⟩
              refine free_run (v := .pointer (some ⟨rb, j * 68, none⟩)) (W' := W) rfl ?_ rfl (Below.refl _ _)
              go_simp
            · intro L ax W hf hd
              simp [Region.binds] at hd
              have e89 : ax.tmps[89]?.getD undef = .pointer (some ⟨rb, j * 68, none⟩) := slv (hf.got 15 (by decide) (by simp [hd]))
              refine ⟨fun _ => ?_, fun h => absurd trivial h⟩
              refine free_run (v := .pointer (some ⟨rb, j * 68, none⟩)) (W' := W) rfl ?_ rfl (Below.refl _ _)
              go_simp
            · intro L ax W hf hd
              simp [Region.binds] at hd
              have e90 : ax.tmps[90]?.getD undef = .pointer (some ⟨rb, j * 68, none⟩) := slv (hf.got 16 (by decide) (by simp [hd]))
              refine ⟨fun _ => ?_, fun h => absurd trivial h⟩
              refine free_run (v := .pointer (some ⟨rb, j * 68 + 1, none⟩)) (W' := W) rfl ?_ rfl (Below.refl _ _)
              go_simp
            · intro L ax W hf hd
              simp [Region.binds] at hd
              have e91 : ax.tmps[91]?.getD undef = .pointer (some ⟨rb, j * 68 + 1, none⟩) := slv (hf.got 17 (by decide) (by simp [hd]))
              refine ⟨fun _ => ?_, fun h => absurd trivial h⟩
              have h1 := (row?_below _ _ _ hf.below hrq).trans hnj
              refine free_run (v := .agg (hashA nj)) (W' := W) rfl ?_ rfl (Below.refl _ _)
              go_simp
            · intro L ax W hf hd
              simp [Region.binds] at hd
              have e74 : ax.tmps[74]?.getD undef = .pointer (some ⟨cb, 0, none⟩) := slv (hf.got 0 (by decide) (by simp [hd]))
              have e83 : ax.tmps[83]?.getD undef = .agg (hashA ni) := slv (hf.got 9 (by decide) (by simp [hd]))
              have e92 : ax.tmps[92]?.getD undef = .agg (hashA nj) := slv (hf.got 18 (by decide) (by simp [hd]))
              refine ⟨fun _ => ?_, fun h => absurd trivial h⟩
              refine free_call (f := 40) (args := #[.pointer (some ⟨cb, 0, none⟩), .agg (hashA ni), .agg (hashA nj)]) rfl (by go_simp) ?_
              refine (HU W hf.below).mono ?_
              rintro e w' ⟨rfl, hb⟩
              exact ⟨_, rfl, rfl, hb⟩
            · intro L ax W hf hd
              try simp [Region.binds] at hd
              have e11 : ax.tmps[11]?.getD undef = .pointer (some ⟨cr, 0, none⟩) := hf.out 11 (by decide) rfl
              refine ⟨fun _ => ?_, fun h => absurd trivial h⟩
              refine free_run (v := .pointer (some ⟨cr, 0, none⟩)) (W' := W) rfl ?_ rfl (Below.refl _ _)
              go_simp
            · intro L ax W hf hd
              try simp [Region.binds] at hd
              have e12 : ax.tmps[12]?.getD undef = .int .i64 (i : Int) := hf.out 12 (by decide) rfl
              refine ⟨fun _ => ?_, fun h => absurd trivial h⟩
              refine free_run (v := .int .i64 (i : Int)) (W' := W) rfl ?_ rfl (Below.refl _ _)
              go_simp
            · intro L ax W hf hd
              try simp [Region.binds] at hd
              have e13 : ax.tmps[13]?.getD undef = .int .i64 (j : Int) := hf.out 13 (by decide) rfl
              refine ⟨fun _ => ?_, fun h => absurd trivial h⟩
              refine free_run (v := .int .i64 (j : Int)) (W' := W) rfl ?_ rfl (Below.refl _ _)
              go_simp
            · intro L ax W hf hd
              simp [Region.binds] at hd
              have e94 : ax.tmps[94]?.getD undef = .pointer (some ⟨cr, 0, none⟩) := slv (hf.got 20 (by decide) (by simp [hd]))
              have e95 : ax.tmps[95]?.getD undef = .int .i64 (i : Int) := slv (hf.got 21 (by decide) (by simp [hd]))
              have e96 : ax.tmps[96]?.getD undef = .int .i64 (j : Int) := slv (hf.got 22 (by decide) (by simp [hd]))
              refine ⟨fun _ => ?_, fun h => absurd trivial h⟩
              refine free_call (f := 41) (args := #[.pointer (some ⟨cr, 0, none⟩), .int .i64 (i : Int), .int .i64 (j : Int)]) rfl (by go_simp) ?_
              refine (HV W hf.below).mono ?_
              rintro e w' ⟨rfl, hb⟩
              exact ⟨_, rfl, rfl, hb⟩
            · intro L ax W hf hd
              simp [Region.binds] at hd
              have e93 : ax.tmps[93]?.getD undef = .bool u := slv (hf.got 19 (by decide) (by simp [hd]))
              have e97 : ax.tmps[97]?.getD undef = .bool u := slv (hf.got 23 (by decide) (by simp [hd]))
              refine ⟨fun _ => ?_, fun h => absurd trivial h⟩
              refine free_run (v := .bool false) (W' := W) rfl ?_ rfl (Below.refl _ _)
              go_simp
          · intro vs W' hl' hF hb
            obtain ⟨g', hg1, hg2⟩ := vs_lit vs hl' hF
            have e24 : g' 24 = .bool false := hg2 24 (by decide)
            rw [hg1]
            have hBn := Lib.hid (hBj.out.trans (hb.mono hBj.out.size))
            clear hF hg1 hg2 hl' hb HU HV hni hnj c0q hcq hrq
            simp only [List.length_cons, List.length_nil, Nat.reduceAdd, show List.range 25 = [0, 1, 2, 3, 4, 5, 6, 7, 8, 9, 10, 11, 12, 13, 14, 15, 16, 17, 18, 19, 20, 21, 22, 23, 24] from rfl, List.map_cons, List.map_nil, putL, List.zip_cons_cons, List.zip_nil_right, List.setIfInBounds_toArray, List.set_cons_succ, List.set_cons_zero, e24]
            go_wp2_with fail
            go_roundw
            case rel => exact ⟨j + 1, by have := hjx2.out; omega, by go_num, hBn⟩
            case measure => have := hjx2.out; simp [intOf]; omega
        · have HPt := (hBo.out.keep hBj.out).docPath hok.out i hix
          unfold ptrV at HPt
          clear hDj
          go_wp2_with fail
          (with_reducible refine HPt.mono ?_)
          clear HPt
          rintro e w6 ⟨⟨pa, pn, pc⟩, he, hp6, hb6⟩
          replace he : e = .returned (.slice pa pn pc) := he
          subst he
          have hB6 := Lib.hid (hBj.out.trans (hb6.mono hBj.out.size))
          have hD6 := hDo.out.keep hB6.out
          have hwant := Lib.hid fun e => wantI_path hok.out e hix
          have hpin := Lib.hid (show ∀ n ∈ (pth C i).reverse, n < C.length from fun n hn => pth_lt hix (List.mem_reverse.1 hn))
          have hpl0 : 0 < (pth C i).reverse.length := by
            rw [List.length_reverse]
            exact List.length_pos_of_mem (pth_self C i)
          have hpl1 : (pth C i).reverse.length ≤ 41 := by
            have := pth_length (C := C) i
            rw [List.length_reverse]
            omega
          generalize (pth C i).reverse = ps at *
          obtain rfl : pn = ps.length := hp6.1
          obtain ⟨bp, op, e1, hbp, hcp⟩ := ints_at hp6 hpl0
          have e2 := congrArg Sl.a e1
          simp only at e2
          subst e2
          clear e1
          replace hcp := Lib.hid hcp
          obtain ⟨-, -, hei⟩ := hD6.at hix
          obtain ⟨e1, he1⟩ : ∃ e, e = C[i].p.epoch := ⟨_, rfl⟩
          rw [← he1] at hei
          have hsub := u64_less e1
          have hadd := u64_more e1
          have c0q := hD6.c0
          replace he1 := Lib.hid he1
          clear hb6 hBj hp6 hD6
          generalize w6 = wq at *
          go_upto_region 16 with fail
          refine wp_region_freeI_l (by kernel_rfl) [102, 103, 104, 105, 106, 107, 108, 109, 110, 111, 112, 113, 114, 115, 116, 117, 118, 119, 120, 121, 122, 123, 124, 125, 126, 127, 128, 129, 130, 131, 132, 15]
            [(fun v => v = .int .u64 (e0.toNat : Int)), (fun v => v = .pointer (some ⟨cr, 0, none⟩)), (fun v => v = .pointer (some ⟨cr, 0, none⟩)), (fun v => v = .pointer (some ⟨cr, 0, none⟩)), (fun v => v = .slice (some ⟨rb, 0, none⟩) C.length cap), (fun v => v = .int .i64 (i : Int)), (fun v => v = .pointer (some ⟨rb, i * 68, none⟩)), (fun v => v = .pointer (some ⟨rb, i * 68, none⟩)), (fun v => v = .pointer (some ⟨rb, i * 68, none⟩)), (fun v => v = .int .u64 (e1.toNat : Int)), (fun v => v = .pointer (some ⟨cr, 0, none⟩)), (fun v => v = .pointer (some ⟨cr, 0, none⟩)), (fun v => v = .pointer (some ⟨cr, 0, none⟩)), (fun v => v = .slice (some ⟨rb, 0, none⟩) C.length cap), (fun v => v = .int .i64 (i : Int)), (fun v => v = .pointer (some ⟨rb, i * 68, none⟩)), (fun v => v = .pointer (some ⟨rb, i * 68, none⟩)), (fun v => v = .pointer (some ⟨rb, i * 68, none⟩)), (fun v => v = .int .u64 (e1.toNat : Int)), (fun v => v = .int .u64 ((e1 - 1).toNat : Int)), (fun v => v = .pointer (some ⟨cr, 0, none⟩)), (fun v => v = .pointer (some ⟨cr, 0, none⟩)), (fun v => v = .pointer (some ⟨cr, 0, none⟩)), (fun v => v = .slice (some ⟨rb, 0, none⟩) C.length cap), (fun v => v = .int .i64 (i : Int)), (fun v => v = .pointer (some ⟨rb, i * 68, none⟩)), (fun v => v = .pointer (some ⟨rb, i * 68, none⟩)), (fun v => v = .pointer (some ⟨rb, i * 68, none⟩)), (fun v => v = .int .u64 (e1.toNat : Int)), (fun v => v = .int .u64 ((e1 + 1).toNat : Int)), (fun v => v = .slice (some ⟨wq.heap.size, 0, none⟩) 4 4), (fun v => v = .slice (some ⟨wq.heap.size, 0, none⟩) 4 4)]
            [30] (HBld wq (.cells #[.int .u64 (e0.toNat : Int), .int .u64 (e1.toNat : Int), .int .u64 ((e1 - 1).toNat : Int), .int .u64 ((e1 + 1).toNat : Int)] 22) (.slice (some ⟨wq.heap.size, 0, none⟩) 4 4)) [[30, 31], [2, 3, 4, 6, 7, 8, 9, 30, 31], [3, 4, 6, 7, 8, 9, 30, 31], [4, 6, 7, 8, 9, 30, 31], [6, 7, 8, 9, 30, 31], [6, 7, 8, 9, 30, 31], [7, 8, 9, 30, 31], [8, 9, 30, 31], [9, 30, 31], [30, 31], [11, 12, 13, 15, 16, 17, 18, 19, 30, 31], [12, 13, 15, 16, 17, 18, 19, 30, 31], [13, 15, 16, 17, 18, 19, 30, 31], [15, 16, 17, 18, 19, 30, 31], [15, 16, 17, 18, 19, 30, 31], [16, 17, 18, 19, 30, 31], [17, 18, 19, 30, 31], [18, 19, 30, 31], [19, 30, 31], [30, 31], [21, 22, 23, 25, 26, 27, 28, 29, 30, 31], [22, 23, 25, 26, 27, 28, 29, 30, 31], [23, 25, 26, 27, 28, 29, 30, 31], [25, 26, 27, 28, 29, 30, 31], [25, 26, 27, 28, 29, 30, 31], [26, 27, 28, 29, 30, 31], [27, 28, 29, 30, 31], [28, 29, 30, 31], [29, 30, 31], [30, 31], [31], []] (by kernel_rfl) (by kernel_rfl) ?_ ?_ ?_
          · show HBld wq (.cells #[.int .u64 (e0.toNat : Int), .int .u64 (e1.toNat : Int), .int .u64 ((e1 - 1).toNat : Int), .int .u64 ((e1 + 1).toNat : Int)] 22) (.slice (some ⟨wq.heap.size, 0, none⟩) 4 4) [false] [_] _
            exact ⟨fun _ => rfl, fun q => (by cases q)⟩
          · refine ⟨?_, ?_, ?_, ?_, ?_, ?_, ?_, ?_, ?_, ?_, ?_, ?_, ?_, ?_, ?_, ?_, ?_, ?_, ?_, ?_, ?_, ?_, ?_, ?_, ?_, ?_, ?_, ?_, ?_, ?_, ?_, ?_, trivial⟩
            · intro L ax W hf hLi hno hd
              try simp [Region.binds] at hd
              have e2 : ax.tmps[2]?.getD undef = .int .u64 (e0.toNat : Int) := hf.out 2 (by decide) rfl
              refine ⟨fun _ => ?_, fun h => absurd trivial h⟩
              refine freeI_run (v := .int .u64 (e0.toNat : Int)) rfl hf (by decide) ?_ rfl
              go_simp
            · intro L ax W hf hLi hno hd
              try simp [Region.binds] at hd
              have e11 : ax.tmps[11]?.getD undef = .pointer (some ⟨cr, 0, none⟩) := hf.out 11 (by decide) rfl
              refine ⟨fun _ => ?_, fun h => absurd trivial h⟩
              refine freeI_run (v := .pointer (some ⟨cr, 0, none⟩)) rfl hf (by decide) ?_ rfl
              go_simp
            · intro L ax W hf hLi hno hd
              simp [Region.binds] at hd
              have e103 : ax.tmps[103]?.getD undef = .pointer (some ⟨cr, 0, none⟩) := slv (hf.got 1 (by decide) (by simp [hd]))
              refine ⟨fun _ => ?_, fun h => absurd trivial h⟩
              refine freeI_run (v := .pointer (some ⟨cr, 0, none⟩)) rfl hf (by decide) ?_ rfl
              go_simp
            · intro L ax W hf hLi hno hd
              simp [Region.binds] at hd
              have e104 : ax.tmps[104]?.getD undef = .pointer (some ⟨cr, 0, none⟩) := slv (hf.got 2 (by decide) (by simp [hd]))
              refine ⟨fun _ => ?_, fun h => absurd trivial h⟩
              refine freeI_run (v := .pointer (some ⟨cr, 0, none⟩)) rfl hf (by decide) ?_ rfl
              go_simp
            · intro L ax W hf hLi hno hd
              simp [Region.binds] at hd
              have e105 : ax.tmps[105]?.getD undef = .pointer (some ⟨cr, 0, none⟩) := slv (hf.got 3 (by decide) (by simp [hd]))
              refine ⟨fun _ => ?_, fun h => absurd trivial h⟩
              have hG : HBld wq (.cells #[.int .u64 (e0.toNat : Int), .int .u64 (e1.toNat : Int), .int .u64 ((e1 - 1).toNat : Int), .int .u64 ((e1 + 1).toNat : Int)] 22) (.slice (some ⟨wq.heap.size, 0, none⟩) 4 4) [L 30] [sl ax 132] W := hf.glob
              have hW : W = wq.drew := hG.1 (hno 30 (by decide))
              subst hW
              have c0d : wq.drew.cell? ⟨cr, 0, none⟩ = _ := c0q
              refine freeI_run (v := .slice (some ⟨rb, 0, none⟩) C.length cap) rfl hf (by decide) ?_ rfl
              go_simp
            · intro L ax W hf hLi hno hd
              try simp [Region.binds] at hd
              have e12 : ax.tmps[12]?.getD undef = .int .i64 (i : Int) := hf.out 12 (by decide) rfl
              refine ⟨fun _ => ?_, fun h => absurd trivial h⟩
              refine freeI_run (v := .int .i64 (i : Int)) rfl hf (by decide) ?_ rfl
              go_simp
            · intro L ax W hf hLi hno hd
              simp [Region.binds] at hd
              have e106 : ax.tmps[106]?.getD undef = .slice (some ⟨rb, 0, none⟩) C.length cap := slv (hf.got 4 (by decide) (by simp [hd]))
              have e107 : ax.tmps[107]?.getD undef = .int .i64 (i : Int) := slv (hf.got 5 (by decide) (by simp [hd]))
              refine ⟨fun _ => ?_, fun h => absurd trivial h⟩
              refine freeI_run (v := .pointer (some ⟨rb, i * 68, none⟩)) rfl hf (by decide) ?_ rfl
              go_simp
            · intro L ax W hf hLi hno hd
              simp [Region.binds] at hd
              have e108 : ax.tmps[108]?.getD undef = .pointer (some ⟨rb, i * 68, none⟩) := slv (hf.got 6 (by decide) (by simp [hd]))
              refine ⟨fun _ => ?_, fun h => absurd trivial h⟩
              refine freeI_run (v := .pointer (some ⟨rb, i * 68, none⟩)) rfl hf (by decide) ?_ rfl
              go_simp
            · intro L ax W hf hLi hno hd
              simp [Region.binds] at hd
              have e109 : ax.tmps[109]?.getD undef = .pointer (some ⟨rb, i * 68, none⟩) := slv (hf.got 7 (by decide) (by simp [hd]))
              refine ⟨fun _ => ?_, fun h => absurd trivial h⟩
              refine freeI_run (v := .pointer (some ⟨rb, i * 68, none⟩)) rfl hf (by decide) ?_ rfl
              go_simp
            · intro L ax W hf hLi hno hd
              simp [Region.binds] at hd
              have e110 : ax.tmps[110]?.getD undef = .pointer (some ⟨rb, i * 68, none⟩) := slv (hf.got 8 (by decide) (by simp [hd]))
              refine ⟨fun _ => ?_, fun h => absurd trivial h⟩
              have hG : HBld wq (.cells #[.int .u64 (e0.toNat : Int), .int .u64 (e1.toNat : Int), .int .u64 ((e1 - 1).toNat : Int), .int .u64 ((e1 + 1).toNat : Int)] 22) (.slice (some ⟨wq.heap.size, 0, none⟩) 4 4) [L 30] [sl ax 132] W := hf.glob
              have hW : W = wq.drew := hG.1 (hno 30 (by decide))
              subst hW
              have c1d : wq.drew.cell? ⟨rb, i * 68, none⟩ = _ := hei
              refine freeI_run (v := .int .u64 (e1.toNat : Int)) rfl hf (by decide) ?_ rfl
              go_simp
            · intro L ax W hf hLi hno hd
              try simp [Region.binds] at hd
              have e11 : ax.tmps[11]?.getD undef = .pointer (some ⟨cr, 0, none⟩) := hf.out 11 (by decide) rfl
              refine ⟨fun _ => ?_, fun h => absurd trivial h⟩
              refine freeI_run (v := .pointer (some ⟨cr, 0, none⟩)) rfl hf (by decide) ?_ rfl
              go_simp
            · intro L ax W hf hLi hno hd
              simp [Region.binds] at hd
              have e112 : ax.tmps[112]?.getD undef = .pointer (some ⟨cr, 0, none⟩) := slv (hf.got 10 (by decide) (by simp [hd]))
              refine ⟨fun _ => ?_, fun h => absurd trivial h⟩
              refine freeI_run (v := .pointer (some ⟨cr, 0, none⟩)) rfl hf (by decide) ?_ rfl
              go_simp
            · intro L ax W hf hLi hno hd
              simp [Region.binds] at hd
              have e113 : ax.tmps[113]?.getD undef = .pointer (some ⟨cr, 0, none⟩) := slv (hf.got 11 (by decide) (by simp [hd]))
              refine ⟨fun _ => ?_, fun h => absurd trivial h⟩
              refine freeI_run (v := .pointer (some ⟨cr, 0, none⟩)) rfl hf (by decide) ?_ rfl
              go_simp
            · intro L ax W hf hLi hno hd
              simp [Region.binds] at hd
              have e114 : ax.tmps[114]?.getD undef = .pointer (some ⟨cr, 0, none⟩) := slv (hf.got 12 (by decide) (by simp [hd]))
              refine ⟨fun _ => ?_, fun h => absurd trivial h⟩
              have hG : HBld wq (.cells #[.int .u64 (e0.toNat : Int), .int .u64 (e1.toNat : Int), .int .u64 ((e1 - 1).toNat : Int), .int .u64 ((e1 + 1).toNat : Int)] 22) (.slice (some ⟨wq.heap.size, 0, none⟩) 4 4) [L 30] [sl ax 132] W := hf.glob
              have hW : W = wq.drew := hG.1 (hno 30 (by decide))
              subst hW
              have c0d : wq.drew.cell? ⟨cr, 0, none⟩ = _ := c0q
              refine freeI_run (v := .slice (some ⟨rb, 0, none⟩) C.length cap) rfl hf (by decide) ?_ rfl
              go_simp
            · intro L ax W hf hLi hno hd
              try simp [Region.binds] at hd
              have e12 : ax.tmps[12]?.getD undef = .int .i64 (i : Int) := hf.out 12 (by decide) rfl
              refine ⟨fun _ => ?_, fun h => absurd trivial h⟩
              refine freeI_run (v := .int .i64 (i : Int)) rfl hf (by decide) ?_ rfl
              go_simp
            · intro L ax W hf hLi hno hd
              simp [Region.binds] at hd
              have e115 : ax.tmps[115]?.getD undef = .slice (some ⟨rb, 0, none⟩) C.length cap := slv (hf.got 13 (by decide) (by simp [hd]))
              have e116 : ax.tmps[116]?.getD undef = .int .i64 (i : Int) := slv (hf.got 14 (by decide) (by simp [hd]))
              refine ⟨fun _ => ?_, fun h => absurd trivial h⟩
              refine freeI_run (v := .pointer (some ⟨rb, i * 68, none⟩)) rfl hf (by decide) ?_ rfl
              go_simp
            · intro L ax W hf hLi hno hd
              simp [Region.binds] at hd
              have e117 : ax.tmps[117]?.getD undef = .pointer (some ⟨rb, i * 68, none⟩) := slv (hf.got 15 (by decide) (by simp [hd]))
              refine ⟨fun _ => ?_, fun h => absurd trivial h⟩
              refine freeI_run (v := .pointer (some ⟨rb, i * 68, none⟩)) rfl hf (by decide) ?_ rfl
              go_simp
            · intro L ax W hf hLi hno hd
              simp [Region.binds] at hd
              have e118 : ax.tmps[118]?.getD undef = .pointer (some ⟨rb, i * 68, none⟩) := slv (hf.got 16 (by decide) (by simp [hd]))
              refine ⟨fun _ => ?_, fun h => absurd trivial h⟩
              refine freeI_run (v := .pointer (some ⟨rb, i * 68, none⟩)) rfl hf (by decide) ?_ rfl
              go_simp
            · intro L ax W hf hLi hno hd
              simp [Region.binds] at hd
              have e119 : ax.tmps[119]?.getD undef = .pointer (some ⟨rb, i * 68, none⟩) := slv (hf.got 17 (by decide) (by simp [hd]))
              refine ⟨fun _ => ?_, fun h => absurd trivial h⟩
              have hG : HBld wq (.cells #[.int .u64 (e0.toNat : Int), .int .u64 (e1.toNat : Int), .int .u64 ((e1 - 1).toNat : Int), .int .u64 ((e1 + 1).toNat : Int)] 22) (.slice (some ⟨wq.heap.size, 0, none⟩) 4 4) [L 30] [sl ax 132] W := hf.glob
              have hW : W = wq.drew := hG.1 (hno 30 (by decide))
              subst hW
              have c1d : wq.drew.cell? ⟨rb, i * 68, none⟩ = _ := hei
              refine freeI_run (v := .int .u64 (e1.toNat : Int)) rfl hf (by decide) ?_ rfl
              go_simp
            · intro L ax W hf hLi hno hd
              simp [Region.binds] at hd
              have e120 : ax.tmps[120]?.getD undef = .int .u64 (e1.toNat : Int) := slv (hf.got 18 (by decide) (by simp [hd]))
              refine ⟨fun _ => ?_, fun h => absurd trivial h⟩
              refine freeI_run (v := .int .u64 ((e1 - 1).toNat : Int)) rfl hf (by decide) ?_ rfl
              go_simp
            · intro L ax W hf hLi hno hd
              try simp [Region.binds] at hd
              have e11 : ax.tmps[11]?.getD undef = .pointer (some ⟨cr, 0, none⟩) := hf.out 11 (by decide) rfl
              refine ⟨fun _ => ?_, fun h => absurd trivial h⟩
              refine freeI_run (v := .pointer (some ⟨cr, 0, none⟩)) rfl hf (by decide) ?_ rfl
              go_simp
            · intro L ax W hf hLi hno hd
              simp [Region.binds] at hd
              have e122 : ax.tmps[122]?.getD undef = .pointer (some ⟨cr, 0, none⟩) := slv (hf.got 20 (by decide) (by simp [hd]))
              refine ⟨fun _ => ?_, fun h => absurd trivial h⟩
              refine freeI_run (v := .pointer (some ⟨cr, 0, none⟩)) rfl hf (by decide) ?_ rfl
              go_simp
            · intro L ax W hf hLi hno hd
              simp [Region.binds] at hd
              have e123 : ax.tmps[123]?.getD undef = .pointer (some ⟨cr, 0, none⟩) := slv (hf.got 21 (by decide) (by simp [hd]))
              refine ⟨fun _ => ?_, fun h => absurd trivial h⟩
              refine freeI_run (v := .pointer (some ⟨cr, 0, none⟩)) rfl hf (by decide) ?_ rfl
              go_simp
            · intro L ax W hf hLi hno hd
              simp [Region.binds] at hd
              have e124 : ax.tmps[124]?.getD undef = .pointer (some ⟨cr, 0, none⟩) := slv (hf.got 22 (by decide) (by simp [hd]))
              refine ⟨fun _ => ?_, fun h => absurd trivial h⟩
              have hG : HBld wq (.cells #[.int .u64 (e0.toNat : Int), .int .u64 (e1.toNat : Int), .int .u64 ((e1 - 1).toNat : Int), .int .u64 ((e1 + 1).toNat : Int)] 22) (.slice (some ⟨wq.heap.size, 0, none⟩) 4 4) [L 30] [sl ax 132] W := hf.glob
              have hW : W = wq.drew := hG.1 (hno 30 (by decide))
              subst hW
              have c0d : wq.drew.cell? ⟨cr, 0, none⟩ = _ := c0q
              refine freeI_run (v := .slice (some ⟨rb, 0, none⟩) C.length cap) rfl hf (by decide) ?_ rfl
              go_simp
            · intro L ax W hf hLi hno hd
              try simp [Region.binds] at hd
              have e12 : ax.tmps[12]?.getD undef = .int .i64 (i : Int) := hf.out 12 (by decide) rfl
              refine ⟨fun _ => ?_, fun h => absurd trivial h⟩
              refine freeI_run (v := .int .i64 (i : Int)) rfl hf (by decide) ?_ rfl
              go_simp
            · intro L ax W hf hLi hno hd
              simp [Region.binds] at hd
              have e125 : ax.tmps[125]?.getD undef = .slice (some ⟨rb, 0, none⟩) C.length cap := slv (hf.got 23 (by decide) (by simp [hd]))
              have e126 : ax.tmps[126]?.getD undef = .int .i64 (i : Int) := slv (hf.got 24 (by decide) (by simp [hd]))
              refine ⟨fun _ => ?_, fun h => absurd trivial h⟩
              refine freeI_run (v := .pointer (some ⟨rb, i * 68, none⟩)) rfl hf (by decide) ?_ rfl
              go_simp
            · intro L ax W hf hLi hno hd
              simp [Region.binds] at hd
              have e127 : ax.tmps[127]?.getD undef = .pointer (some ⟨rb, i * 68, none⟩) := slv (hf.got 25 (by decide) (by simp [hd]))
              refine ⟨fun _ => ?_, fun h => absurd trivial h⟩
              refine freeI_run (v := .pointer (some ⟨rb, i * 68, none⟩)) rfl hf (by decide) ?_ rfl
              go_simp
            · intro L ax W hf hLi hno hd
              simp [Region.binds] at hd
              have e128 : ax.tmps[128]?.getD undef = .pointer (some ⟨rb, i * 68, none⟩) := slv (hf.got 26 (by decide) (by simp [hd]))
              refine ⟨fun _ => ?_, fun h => absurd trivial h⟩
              refine freeI_run (v := .pointer (some ⟨rb, i * 68, none⟩)) rfl hf (by decide) ?_ rfl
              go_simp
            · intro L ax W hf hLi hno hd
              simp [Region.binds] at hd
              have e129 : ax.tmps[129]?.getD undef = .pointer (some ⟨rb, i * 68, none⟩) := slv (hf.got 27 (by decide) (by simp [hd]))
              refine ⟨fun _ => ?_, fun h => absurd trivial h⟩
              have hG : HBld wq (.cells #[.int .u64 (e0.toNat : Int), .int .u64 (e1.toNat : Int), .int .u64 ((e1 - 1).toNat : Int), .int .u64 ((e1 + 1).toNat : Int)] 22) (.slice (some ⟨wq.heap.size, 0, none⟩) 4 4) [L 30] [sl ax 132] W := hf.glob
              have hW : W = wq.drew := hG.1 (hno 30 (by decide))
              subst hW
              have c1d : wq.drew.cell? ⟨rb, i * 68, none⟩ = _ := hei
              refine freeI_run (v := .int .u64 (e1.toNat : Int)) rfl hf (by decide) ?_ rfl
              go_simp
            · intro L ax W hf hLi hno hd
              simp [Region.binds] at hd
              have e130 : ax.tmps[130]?.getD undef = .int .u64 (e1.toNat : Int) := slv (hf.got 28 (by decide) (by simp [hd]))
              refine ⟨fun _ => ?_, fun h => absurd trivial h⟩
              refine freeI_run (v := .int .u64 ((e1 + 1).toNat : Int)) rfl hf (by decide) ?_ rfl
              go_simp
            · intro L ax W hf hLi hno hd
              simp [Region.binds] at hd
              have e102 : ax.tmps[102]?.getD undef = .int .u64 (e0.toNat : Int) := slv (hf.got 0 (by decide) (by simp [hd]))
              have e111 : ax.tmps[111]?.getD undef = .int .u64 (e1.toNat : Int) := slv (hf.got 9 (by decide) (by simp [hd]))
              have e121 : ax.tmps[121]?.getD undef = .int .u64 ((e1 - 1).toNat : Int) := slv (hf.got 19 (by decide) (by simp [hd]))
              have e131 : ax.tmps[131]?.getD undef = .int .u64 ((e1 + 1).toNat : Int) := slv (hf.got 29 (by decide) (by simp [hd]))
              refine ⟨fun _ => ?_, fun h => absurd trivial h⟩
              have hG : HBld wq (.cells #[.int .u64 (e0.toNat : Int), .int .u64 (e1.toNat : Int), .int .u64 ((e1 - 1).toNat : Int), .int .u64 ((e1 + 1).toNat : Int)] 22) (.slice (some ⟨wq.heap.size, 0, none⟩) 4 4) [L 30] [sl ax 132] W := hf.glob
              have hW : W = wq.drew := hG.1 hLi
              subst hW
              refine freeI_val (v := .slice (some ⟨wq.heap.size, 0, none⟩) 4 4) (W' := wq.drew.alloc (.cells #[.int .u64 (e0.toNat : Int), .int .u64 (e1.toNat : Int), .int .u64 ((e1 - 1).toNat : Int), .int .u64 ((e1 + 1).toNat : Int)] 22)) rfl ?_ rfl ⟨fun q => (by cases q), fun _ => ⟨rfl, rfl⟩⟩
              go_simp
            · intro L ax W hf hLi hno hd
              simp [Region.binds] at hd
              have f132 : (fun v => v = .slice (some ⟨wq.heap.size, 0, none⟩) 4 4) (sl ax 132) := hf.got 30 (by decide) (by simp [hd])
              refine ⟨fun _ => ?_, fun h => absurd trivial h⟩
              have hG : HBld wq (.cells #[.int .u64 (e0.toNat : Int), .int .u64 (e1.toNat : Int), .int .u64 ((e1 - 1).toNat : Int), .int .u64 ((e1 + 1).toNat : Int)] 22) (.slice (some ⟨wq.heap.size, 0, none⟩) 4 4) [L 30] [sl ax 132] W := hf.glob
              have e132 : ax.tmps[132]?.getD undef = .slice (some ⟨wq.heap.size, 0, none⟩) 4 4 := slv f132
              refine freeI_run (v := .slice (some ⟨wq.heap.size, 0, none⟩) 4 4) rfl hf (by decide) ?_ rfl
              go_simp
          · intro vs w7 hl' hF hG
            obtain ⟨g', hg1, hg2⟩ := vs_litI vs hl' hF
            obtain ⟨hw7, -⟩ := hG.2 rfl
            have e31 : g' 31 = .slice (some ⟨wq.heap.size, 0, none⟩) 4 4 := hg2 31 (by decide)
            rw [hg1]
            simp only [List.length_cons, List.length_nil, Nat.reduceAdd, show List.range 32 = [0, 1, 2, 3, 4, 5, 6, 7, 8, 9, 10, 11, 12, 13, 14, 15, 16, 17, 18, 19, 20, 21, 22, 23, 24, 25, 26, 27, 28, 29, 30, 31] from rfl, List.map_cons, List.map_nil, slotsIn, putL, List.setIfInBounds_toArray, List.set_cons_succ, List.set_cons_zero, List.size_toArray, Nat.reduceLT, if_true, if_false, e31]
            have hbw : Below wq.heap.size wq w7 := by rw [hw7]; exact (below_drewN (Below.refl wq.heap.size wq) 1).trans ((bel_a wq.drew _).mono (Nat.le_refl _))
            have hB7 := Lib.hid (hB6.out.trans (hbw.mono hB6.out.size))
            have hes := Lib.hid (show ∀ k (hk : k < 4), w7.cell? ⟨wq.heap.size, k, none⟩ = some (.int .u64 ((([e0, e1, e1 - 1, e1 + 1] : List UInt64)[k]'hk).toNat : Int)) from by
              intro k hk
              rw [hw7]
              refine (cell_of_row _ wq.heap.size k _ _ _ (heap_alloc_new wq.drew _)).trans ?_
              have hk4 : k = 0 ∨ k = 1 ∨ k = 2 ∨ k = 3 := by omega
              rcases hk4 with rfl | rfl | rfl | rfl <;> rfl)
            obtain ⟨be, hbe⟩ : ∃ b, b = wq.heap.size := ⟨_, rfl⟩
            have hbe7 : be < w7.heap.size := by rw [hbe, hw7]; simp
            rw [← hbe] at hes ⊢
            have hcp7 := Lib.hid (show ∀ (n : Nat) (hn : n < ps.length), w7.cell? ⟨bp, op + n, none⟩ = some (.int .i64 ((ps[n] : Nat) : Int)) from fun n hn => (hbw.cell (p := ⟨bp, op + n, none⟩) hbp).trans (hcp.out n hn))
            have hbp7 : bp < w7.heap.size := Nat.lt_of_lt_of_le hbp hbw.size
            have he1' := Lib.hid he1.out
            clear hg1 hg2 hG hF hl' hw7 hbw hbe hB6 hcp hbp e31 hsub hadd hei c0q he1
            go_wp2_with fail
            go_loopw [16] (fun x W' => ∃ k : Nat, k ≤ 4 ∧ x = .int .i64 k ∧ Hid (Below w7.heap.size w7 W')) (fun x _ => 4 - (intOf x).toNat)
            case atStart => exact ⟨0, Nat.zero_le _, rfl, Lib.hid (Below.refl _ _)⟩
            case round =>
              obtain ⟨k, hk, rfl, hBk⟩ := hrel
              have hBwk := Lib.hid (hB7.out.trans (hBk.out.mono hB7.out.size))
              have hDk := hDo.out.keep hBwk.out
              by_cases hk4 : k < 4
              · have k0 : (0 : Int) ≤ (k : Int) := by omega
                have k1 : (k : Int) < 4 := by omega
                have hek := (hBk.out.cell (p := ⟨be, k, none⟩) hbe7).trans (hes.out k hk4)
                generalize ([e0, e1, e1 - 1, e1 + 1] : List UInt64)[k]'hk4 = ek at *
                obtain ⟨-, hni, -⟩ := hDk.at hix
                have hcq := hDk.clt
                have hrq := hDk.lt
                have c0q := hDk.c0
                have hbq : be < wr.heap.size := Nat.lt_of_lt_of_le hbe7 hBk.out.size
                have HA := fun W (hb : Below wr.heap.size wr W) => (hBo.out.real.keep (hBwk.out.trans (hb.mono hBwk.out.size))).at_c hok.out C[i].p.name ek
                have hAE := chAtE_self hok.out hix ek
                obtain ⟨ni, hnie⟩ : ∃ n, n = C[i].p.name := ⟨_, rfl⟩
                rw [← hnie] at hni HA hAE
                obtain ⟨pq, ea, hpe⟩ : ∃ pq ea, (pq, ea) = chAtE C ni ek := ⟨_, _, rfl⟩
                rw [← hpe] at HA hAE
                have hep0 : epAt C 0 = p.epoch.toNat := by rw [epAt_of hC0e.out]
                rw [hep0] at hAE
                replace hAE := Lib.hid hAE
                have hr4k := Lib.hid ((row?_below _ _ _ hBwk.out hq4).trans hr4)
                have hc4k := Lib.hid ((hBwk.out.cell (p := ⟨b4, 0, none⟩) hq4).trans hc4)
                have hq4k : b4 < wr.heap.size := Nat.lt_of_lt_of_le hq4 hBwk.out.size
                have hk4' := Lib.hid hk4
                clear hnie hpe hep0 hDk
                unfold ptrV at HA
                generalize wr = wq at *
                go_upto_region 20 with fail
                refine wp_region_freeI_l (by kernel_rfl) [140, 141, 142, 143, 144, 145, 146, 147, 148, 149, 150, 151, 152, 153, 154, 139, 155, 156, 17, 313, 18]
                  [(fun v => v = .pointer (some ⟨cb, 0, none⟩)), (fun v => v = .pointer (some ⟨cr, 0, none⟩)), (fun v => v = .pointer (some ⟨cr, 0, none⟩)), (fun v => v = .pointer (some ⟨cr, 0, none⟩)), (fun v => v = .slice (some ⟨rb, 0, none⟩) C.length cap), (fun v => v = .int .i64 (i : Int)), (fun v => v = .pointer (some ⟨rb, i * 68, none⟩)), (fun v => v = .pointer (some ⟨rb, i * 68, none⟩)), (fun v => v = .pointer (some ⟨rb, i * 68 + 1, none⟩)), (fun v => v = .agg (hashA ni)), (fun v => v = .slice (some ⟨be, 0, none⟩) 4 4), (fun v => v = .int .i64 (k : Int)), (fun v => v = .pointer (some ⟨be, k, none⟩)), (fun v => v = .int .u64 (ek.toNat : Int)), (fun v => v = .tuple #[.agg (pointA pq), .int .i64 ea]), (fun v => v = .tuple #[.agg (pointA pq), .int .i64 ea]), (fun v => v = .agg (pointA pq)), (fun v => v = .int .i64 ea), (fun v => ∃ b, v = .pointer (some ⟨b, 0, none⟩)), (fun _ => True), (fun v => v = .int .i64 ea)]
                  [14, 18, 19] (HAt wq pq) [[14, 15, 16, 17, 19, 20], [2, 3, 4, 6, 7, 8, 9, 14, 15, 16, 17, 19, 20], [3, 4, 6, 7, 8, 9, 14, 15, 16, 17, 19, 20], [4, 6, 7, 8, 9, 14, 15, 16, 17, 19, 20], [6, 7, 8, 9, 14, 15, 16, 17, 19, 20], [6, 7, 8, 9, 14, 15, 16, 17, 19, 20], [7, 8, 9, 14, 15, 16, 17, 19, 20], [8, 9, 14, 15, 16, 17, 19, 20], [9, 14, 15, 16, 17, 19, 20], [14, 15, 16, 17, 19, 20], [12, 13, 14, 15, 16, 17, 19, 20], [12, 13, 14, 15, 16, 17, 19, 20], [13, 14, 15, 16, 17, 19, 20], [14, 15, 16, 17, 19, 20], [15, 16, 17, 19, 20], [16, 17, 19, 20], [19], [20], [19], [], []] (by kernel_rfl) (by kernel_rfl) ?_ ?_ ?_
                · show HAt wq pq [false, false, false] [_, _, _] _
                  exact HAt.zero _
                · refine ⟨?_, ?_, ?_, ?_, ?_, ?_, ?_, ?_, ?_, ?_, ?_, ?_, ?_, ?_, ?_, ?_, ?_, ?_, ?_, ?_, ?_, trivial⟩
                  · intro L ax W hf hLi hno hd
                    try simp [Region.binds] at hd
                    have e9 : ax.tmps[9]?.getD undef = .pointer (some ⟨cb, 0, none⟩) := hf.out 9 (by decide) rfl
                    refine ⟨fun _ => ?_, fun h => absurd trivial h⟩
                    refine freeI_run (v := .pointer (some ⟨cb, 0, none⟩)) rfl hf (by decide) ?_ rfl
                    go_simp
                  · intro L ax W hf hLi hno hd
                    try simp [Region.binds] at hd
                    have e11 : ax.tmps[11]?.getD undef = .pointer (some ⟨cr, 0, none⟩) := hf.out 11 (by decide) rfl
                    refine ⟨fun _ => ?_, fun h => absurd trivial h⟩
                    refine freeI_run (v := .pointer (some ⟨cr, 0, none⟩)) rfl hf (by decide) ?_ rfl
                    go_simp
                  · intro L ax W hf hLi hno hd
                    simp [Region.binds] at hd
                    have e141 : ax.tmps[141]?.getD undef = .pointer (some ⟨cr, 0, none⟩) := slv (hf.got 1 (by decide) (by simp [hd]))
                    refine ⟨fun _ => ?_, fun h => absurd trivial h⟩
                    refine freeI_run (v := .pointer (some ⟨cr, 0, none⟩)) rfl hf (by decide) ?_ rfl
                    go_simp
                  · intro L ax W hf hLi hno hd
                    simp [Region.binds] at hd
                    have e142 : ax.tmps[142]?.getD undef = .pointer (some ⟨cr, 0, none⟩) := slv (hf.got 2 (by decide) (by simp [hd]))
                    refine ⟨fun _ => ?_, fun h => absurd trivial h⟩
                    refine freeI_run (v := .pointer (some ⟨cr, 0, none⟩)) rfl hf (by decide) ?_ rfl
                    go_simp
                  · intro L ax W hf hLi hno hd
                    simp [Region.binds] at hd
                    have e143 : ax.tmps[143]?.getD undef = .pointer (some ⟨cr, 0, none⟩) := slv (hf.got 3 (by decide) (by simp [hd]))
                    refine ⟨fun _ => ?_, fun h => absurd trivial h⟩
                    have hG : HAt wq pq [L 14, L 18, L 19] [sl ax 154, sl ax 17, sl ax 313] W := hf.glob
                    have h1 := (hG.bel.cell (p := ⟨cr, 0, none⟩) hcq).trans c0q
                    refine freeI_run (v := .slice (some ⟨rb, 0, none⟩) C.length cap) rfl hf (by decide) ?_ rfl
                    go_simp
                  · intro L ax W hf hLi hno hd
                    try simp [Region.binds] at hd
                    have e12 : ax.tmps[12]?.getD undef = .int .i64 (i : Int) := hf.out 12 (by decide) rfl
                    refine ⟨fun _ => ?_, fun h => absurd trivial h⟩
                    refine freeI_run (v := .int .i64 (i : Int)) rfl hf (by decide) ?_ rfl
                    go_simp
                  · intro L ax W hf hLi hno hd
                    simp [Region.binds] at hd
                    have e144 : ax.tmps[144]?.getD undef = .slice (some ⟨rb, 0, none⟩) C.length cap := slv (hf.got 4 (by decide) (by simp [hd]))
                    have e145 : ax.tmps[145]?.getD undef = .int .i64 (i : Int) := slv (hf.got 5 (by decide) (by simp [hd]))
                    refine ⟨fun _ => ?_, fun h => absurd trivial h⟩
                    refine freeI_run (v := .pointer (some ⟨rb, i * 68, none⟩)) rfl hf (by decide) ?_ rfl
                    go_simp
                  · intro L ax W hf hLi hno hd
                    simp [Region.binds] at hd
                    have e146 : ax.tmps[146]?.getD undef = .pointer (some ⟨rb, i * 68, none⟩) := slv (hf.got 6 (by decide) (by simp [hd]))
                    refine ⟨fun _ => ?_, fun h => absurd trivial h⟩
                    refine freeI_run (v := .pointer (some ⟨rb, i * 68, none⟩)) rfl hf (by decide) ?_ rfl
                    go_simp
                  · intro L ax W hf hLi hno hd
                    simp [Region.binds] at hd
                    have e147 : ax.tmps[147]?.getD undef = .pointer (some ⟨rb, i * 68, none⟩) := slv (hf.got 7 (by decide) (by simp [hd]))
                    refine ⟨fun _ => ?_, fun h => absurd trivial h⟩
                    refine freeI_run (v := .pointer (some ⟨rb, i * 68 + 1, none⟩)) rfl hf (by decide) ?_ rfl
                    go_simp
                  · intro L ax W hf hLi hno hd
                    simp [Region.binds] at hd
                    have e148 : ax.tmps[148]?.getD undef = .pointer (some ⟨rb, i * 68 + 1, none⟩) := slv (hf.got 8 (by decide) (by simp [hd]))
                    refine ⟨fun _ => ?_, fun h => absurd trivial h⟩
                    have hG : HAt wq pq [L 14, L 18, L 19] [sl ax 154, sl ax 17, sl ax 313] W := hf.glob
                    have h1 := (row?_below _ _ _ hG.bel hrq).trans hni
                    refine freeI_run (v := .agg (hashA ni)) rfl hf (by decide) ?_ rfl
                    go_simp
                  · intro L ax W hf hLi hno hd
                    try simp [Region.binds] at hd
                    have e15 : ax.tmps[15]?.getD undef = .slice (some ⟨be, 0, none⟩) 4 4 := hf.out 15 (by decide) rfl
                    refine ⟨fun _ => ?_, fun h => absurd trivial h⟩
                    refine freeI_run (v := .slice (some ⟨be, 0, none⟩) 4 4) rfl hf (by decide) ?_ rfl
                    go_simp
                  · intro L ax W hf hLi hno hd
                    try simp [Region.binds] at hd
                    have e16 : ax.tmps[16]?.getD undef = .int .i64 (k : Int) := hf.out 16 (by decide) rfl
                    refine ⟨fun _ => ?_, fun h => absurd trivial h⟩
                    refine freeI_run (v := .int .i64 (k : Int)) rfl hf (by decide) ?_ rfl
                    go_simp
                  · intro L ax W hf hLi hno hd
                    simp [Region.binds] at hd
                    have e150 : ax.tmps[150]?.getD undef = .slice (some ⟨be, 0, none⟩) 4 4 := slv (hf.got 10 (by decide) (by simp [hd]))
                    have e151 : ax.tmps[151]?.getD undef = .int .i64 (k : Int) := slv (hf.got 11 (by decide) (by simp [hd]))
                    refine ⟨fun _ => ?_, fun h => absurd trivial h⟩
                    refine freeI_run (v := .pointer (some ⟨be, k, none⟩)) rfl hf (by decide) ?_ rfl
                    go_simp
                  · intro L ax W hf hLi hno hd
                    simp [Region.binds] at hd
                    have e152 : ax.tmps[152]?.getD undef = .pointer (some ⟨be, k, none⟩) := slv (hf.got 12 (by decide) (by simp [hd]))
                    refine ⟨fun _ => ?_, fun h => absurd trivial h⟩
                    have hG : HAt wq pq [L 14, L 18, L 19] [sl ax 154, sl ax 17, sl ax 313] W := hf.glob
                    have h1 := (hG.bel.cell (p := ⟨be, k, none⟩) hbq).trans hek
                    refine freeI_run (v := .int .u64 (ek.toNat : Int)) rfl hf (by decide) ?_ rfl
                    go_simp
                  · intro L ax W hf hLi hno hd
                    simp [Region.binds] at hd
                    have e140 : ax.tmps[140]?.getD undef = .pointer (some ⟨cb, 0, none⟩) := slv (hf.got 0 (by decide) (by simp [hd]))
                    have e149 : ax.tmps[149]?.getD undef = .agg (hashA ni) := slv (hf.got 9 (by decide) (by simp [hd]))
                    have e153 : ax.tmps[153]?.getD undef = .int .u64 (ek.toNat : Int) := slv (hf.got 13 (by decide) (by simp [hd]))
                    refine ⟨fun _ => ?_, fun h => absurd trivial h⟩
                    have hG : HAt wq pq [L 14, L 18, L 19] [sl ax 154, sl ax 17, sl ax 313] W := hf.glob
                    refine freeI_call (f := 47) (args := #[.pointer (some ⟨cb, 0, none⟩), .agg (hashA ni), .int .u64 (ek.toNat : Int)]) rfl (by go_simp) ?_
                    refine (HA W hG.bel).mono ?_
                    rintro e w' ⟨rfl, hb⟩
                    exact ⟨_, rfl, rfl, hG.call hb _⟩
                  · intro L ax W hf hLi hno hd
                    simp [Region.binds] at hd
                    have f154 : (fun v => v = .tuple #[.agg (pointA pq), .int .i64 ea]) (sl ax 154) := hf.got 14 (by decide) (by simp [hd])
                    refine ⟨fun _ => ?_, fun h => absurd trivial h⟩
                    have hG : HAt wq pq [L 14, L 18, L 19] [sl ax 154, sl ax 17, sl ax 313] W := hf.glob
                    have e154 : ax.tmps[154]?.getD undef = .tuple #[.agg (pointA pq), .int .i64 ea] := slv f154
                    refine freeI_run (v := .tuple #[.agg (pointA pq), .int .i64 ea]) rfl hf (by decide) ?_ rfl
                    go_simp
                  · intro L ax W hf hLi hno hd
                    simp [Region.binds] at hd
                    have e139 : ax.tmps[139]?.getD undef = .tuple #[.agg (pointA pq), .int .i64 ea] := slv (hf.got 15 (by decide) (by simp [hd]))
                    refine ⟨fun _ => ?_, fun h => absurd trivial h⟩
                    refine freeI_run (v := .agg (pointA pq)) rfl hf (by decide) ?_ rfl
                    go_simp
                  · intro L ax W hf hLi hno hd
                    simp [Region.binds] at hd
                    have e139 : ax.tmps[139]?.getD undef = .tuple #[.agg (pointA pq), .int .i64 ea] := slv (hf.got 15 (by decide) (by simp [hd]))
                    refine ⟨fun _ => ?_, fun h => absurd trivial h⟩
                    refine freeI_run (v := .int .i64 ea) rfl hf (by decide) ?_ rfl
                    go_simp
                  · intro L ax W hf hLi hno hd
                    try simp [Region.binds] at hd
                    refine ⟨fun _ => ?_, fun h => absurd trivial h⟩
                    have hG : HAt wq pq [L 14, L 18, L 19] [sl ax 154, sl ax 17, sl ax 313] W := hf.glob
                    refine freeI_val (v := .pointer (some ⟨W.heap.size, 0, none⟩)) (W' := W.alloc (.cells (pointA zeroPt) 26)) rfl ?_ ⟨_, rfl⟩ (hG.alloc (hno 19 (by decide)) _)
                    go_simp
                  · intro L ax W hf hLi hno hd
                    simp [Region.binds] at hd
                    have f17 : (fun v => ∃ b, v = .pointer (some ⟨b, 0, none⟩)) (sl ax 17) := hf.got 18 (by decide) (by simp [hd])
                    have e155 : ax.tmps[155]?.getD undef = .agg (pointA pq) := slv (hf.got 16 (by decide) (by simp [hd]))
                    refine ⟨fun _ => ?_, fun h => absurd trivial h⟩
                    have hG : HAt wq pq [L 14, L 18, L 19] [sl ax 154, sl ax 17, sl ax 313] W := hf.glob
                    have hl : L 18 = true := by simp [hd]
                    obtain ⟨b, e17⟩ := f17
                    have e17' := slv e17
                    obtain ⟨hth, hH⟩ := hG.put hl e17
                    refine freeI_store (W' := putRow W b 0 (pointA pq)) rfl ?_ trivial hH
                    go_simp
                  · intro L ax W hf hLi hno hd
                    simp [Region.binds] at hd
                    have e156 : ax.tmps[156]?.getD undef = .int .i64 ea := slv (hf.got 17 (by decide) (by simp [hd]))
                    refine ⟨fun _ => ?_, fun h => absurd trivial h⟩
                    refine freeI_run (v := .int .i64 ea) rfl hf (by decide) ?_ rfl
                    go_simp
                · intro vs w8 hl' hF hG
                  obtain ⟨g', hg1, hg2⟩ := vs_litI vs hl' hF
                  obtain ⟨b17, hv17, hge17, hlt17, hth17, hr17⟩ := hG.box rfl
                  replace hr17 := hr17 rfl
                  have e17 : g' 18 = .pointer (some ⟨b17, 0, none⟩) := by rw [hg1] at hv17; exact hv17
                  have e18 : g' 20 = .int .i64 ea := hg2 20 (by decide)
                  have hb8 := hG.bel
                  rw [hg1]
                  simp only [List.length_cons, List.length_nil, Nat.reduceAdd, show List.range 21 = [0, 1, 2, 3, 4, 5, 6, 7, 8, 9, 10, 11, 12, 13, 14, 15, 16, 17, 18, 19, 20] from rfl, List.map_cons, List.map_nil, slotsIn, putL, List.setIfInBounds_toArray, List.set_cons_succ, List.set_cons_zero, List.size_toArray, Nat.reduceLT, if_true, if_false, e17, e18]
                  have hB8 := Lib.hid (hBk.out.trans (hb8.mono hBk.out.size))
                  have hB58 := Lib.hid (hB7.out.trans (hB8.out.mono hB7.out.size))
                  have hr48 := (row?_below _ _ _ hb8 hq4k).trans hr4k.out
                  have hc48 := (hb8.cell (p := ⟨b4, 0, none⟩) hq4k).trans hc4k.out
                  have hek8 := (hb8.cell (p := ⟨be, k, none⟩) hbq).trans hek
                  have f4 := fun n => (show (w8.drewN n).cell? ⟨b4, 0, none⟩ = _ from hc48)
                  have fe := fun n => (show (w8.drewN n).cell? ⟨be, k, none⟩ = _ from hek8)
                  clear hg1 hg2 hG hF hl' hv17 HA hni c0q hcq hrq hek hr4k hc4k
                  by_cases hlt : ek.toNat < p.epoch.toNat
                  · have hli : (ek.toNat : Int) < (p.epoch.toNat : Int) := by omega
                    have hAe := hAE.out
                    rw [if_pos hlt] at hAe
                    have hx1 := congrArg Prod.fst hAe
                    have hx2 := congrArg Prod.snd hAe
                    simp only at hx1 hx2
                    subst hx1 hx2
                    clear hlt hAe hAE
                    go_upto_region 21 with fail
                    go_quiet (fail)
                    go_wp2_with fail
                    go_roundw
                    case rel => exact ⟨k + 1, by have := hk4'.out; omega, by go_num, Lib.hid (below_drewN hB8.out _)⟩
                    case measure => have := hk4'.out; simp [intOf]; omega
                  · have hli : ¬ (ek.toNat : Int) < (p.epoch.toNat : Int) := by omega
                    have hAe := hAE.out
                    rw [if_neg hlt] at hAe
                    have hx1 := congrArg Prod.fst hAe
                    have hx2 := congrArg Prod.snd hAe
                    simp only at hx1 hx2
                    subst hx2
                    replace hx1 := Lib.hid hx1
                    clear hlt hAe hAE
                    go_upto_region 21 with fail
                    go_quiet (fail)
                    obtain ⟨w9, hw9⟩ : ∃ W, W = w8.drewN nq := ⟨_, rfl⟩
                    have hb89 : Below w8.heap.size w8 w9 := by rw [hw9]; exact below_drewN (Below.refl _ _) _
                    rw [← hw9]
                    have hB9 := Lib.hid (hB8.out.trans (hb89.mono hB8.out.size))
                    have hr49 := (row?_below _ _ _ hb89 (Nat.lt_of_lt_of_le hq4k hb8.size)).trans hr48
                    have hr179 := (row?_below _ _ _ hb89 hlt17).trans hr17
                    have hl179 : b17 < w9.heap.size := Nat.lt_of_lt_of_le hlt17 hb89.size
                    have hek9 := Lib.hid ((hb89.cell (p := ⟨be, k, none⟩) (Nat.lt_of_lt_of_le hbq hb8.size)).trans hek8)
                    have hbe9 : be < w9.heap.size := Nat.lt_of_lt_of_le hbe7 hB9.out.size
                    clear hw9 hb89 f4 fe hr48 hc48 hek8 hr17
                    go_upto_region 25 with fail
                    obtain ⟨w10, hw10, hrow19, hth19, hB910, hz10⟩ := box_row w9 (pointA zeroPt) (pointA p) 26 33 (by omega) (by simp) (by simp)
                    rw [← hw10]
                    clear hw10
                    obtain ⟨b19, hb19⟩ : ∃ b, b = w9.heap.size := ⟨_, rfl⟩
                    rw [← hb19] at hrow19 hth19 ⊢
                    have hB10 := Lib.hid (hB9.out.trans (hB910.mono hB9.out.size))
                    have h1910 : b19 < w10.heap.size := by omega
                    have hstart := Lib.hid (show row? w10 b19 0 33 = some (pointA (ptAt C (wantI C ek.toNat (ps.take 0)))) from by
                      rw [List.take_zero, show wantI C ek.toNat [] = 0 from rfl, ptAt_of hC0e.out]
                      exact hrow19)
                    have hb910 := Lib.hid hB910
                    replace hth19 := Lib.hid hth19
                    replace hb19 := Lib.hid hb19
                    clear hrow19 hr49 hB910
                    go_wp2_with fail
                    go_loopw [20] (fun x W' => ∃ n : Nat, n ≤ ps.length ∧ x = .int .i64 n ∧ Hid (Below w9.heap.size w9 W') ∧ Hid (row? W' b19 0 33 = some (pointA (ptAt C (wantI C ek.toNat (ps.take n))))) ∧ Hid (there W' b19 0 33)) (fun x _ => ps.length - (intOf x).toNat)
                    case atStart => exact ⟨0, Nat.zero_le _, rfl, hb910, hstart, hth19⟩
                    case round =>
                      obtain ⟨n, hn, rfl, hBn, hwn, htn⟩ := hrel
                      have hBn7 := Lib.hid (hB9.out.trans (hBn.out.mono hB9.out.size))
                      have hBn5 := Lib.hid (hB7.out.trans (hBn7.out.mono hB7.out.size))
                      have hDn := hDo.out.keep hBn5.out
                      have c0q := hDn.c0
                      by_cases hnx : n < ps.length
                      · have n0 : (0 : Int) ≤ (n : Int) := by omega
                        have n1 : (n : Int) < (ps.length : Int) := by omega
                        have hpm0 := (hBn7.out.cell (p := ⟨bp, op + n, none⟩) hbp7).trans (hcp7.out n hnx)
                        have hml := hpin.out _ (List.getElem_mem hnx)
                        have hsucc := wantI_succ C ek.toNat ps n hnx
                        generalize ps[n] = m at *
                        obtain ⟨hpn0, -, hem0⟩ := hDn.at hml
                        rw [epAt_of (List.getElem?_eq_getElem hml)] at hsucc
                        have hpt := ptAt_of (List.getElem?_eq_getElem hml)
                        generalize C[m] = bm at *
                        obtain ⟨pn, hpne⟩ : ∃ q, q = bm.p := ⟨_, rfl⟩
                        rw [← hpne] at hpn0 hem0 hsucc hpt
                        have m0 : (0 : Int) ≤ (m : Int) := by omega
                        have m1 : (m : Int) < (C.length : Int) := by omega
                        have hekn := (hBn.out.cell (p := ⟨be, k, none⟩) hbe9).trans hek9.out
                        have f0 := fun n => (show (wr.drewN n).cell? ⟨cr, 0, none⟩ = _ from c0q)
                        have f1 := fun j => (show (wr.drewN j).cell? ⟨bp, op + n, none⟩ = _ from hpm0)
                        have f2 := fun n => (show (wr.drewN n).cell? ⟨rb, m * 68, none⟩ = _ from hem0)
                        have f3 := fun n => (show (wr.drewN n).cell? ⟨be, k, none⟩ = _ from hekn)
                        have hnx2 := Lib.hid hnx
                        have hw0 := hwn
                        clear hwn
                        by_cases hle : pn.epoch.toNat ≤ ek.toNat
                        · have hlei : (pn.epoch.toNat : Int) ≤ (ek.toNat : Int) := by omega
                          rw [if_pos hle] at hsucc
                          replace hsucc := Lib.hid hsucc
                          replace hpt := Lib.hid hpt
                          clear hle hpne hDn
                          go_upto_region 28 with fail
                          go_quiet (fail)
                          obtain ⟨wq, hwq⟩ : ∃ W, W = wr.drewN nq := ⟨_, rfl⟩
                          have c0q : wq.cell? ⟨cr, 0, none⟩ = some (.slice (some ⟨rb, 0, none⟩) C.length cap) := by rw [hwq]; exact f0 nq
                          have hpm : wq.cell? ⟨bp, op + n, none⟩ = some (.int .i64 (m : Int)) := by rw [hwq]; exact f1 nq
                          have hpn := show row? wq rb (m * 68) 33 = some (pointA pn) by rw [hwq]; exact hpn0
                          have hth19 := show there wq b19 0 33 by rw [hwq]; exact htn.out
                          have hBq := Lib.hid (show Below w9.heap.size w9 wq by rw [hwq]; exact below_drewN hBn.out _)
                          rw [← hwq]
                          clear hwq f0 f1 f2 f3 htn hpn0 hpm0 hem0
                          go_upto_region 29 with fail
                          refine wp_region_freeI_l (by kernel_rfl) [195, 196, 197, 198, 199, 200, 201, 202, 203, 204, 205, 305]
                            [(fun v => v = .pointer (some ⟨cr, 0, none⟩)), (fun v => v = .pointer (some ⟨cr, 0, none⟩)), (fun v => v = .pointer (some ⟨cr, 0, none⟩)), (fun v => v = .slice (some ⟨rb, 0, none⟩) C.length cap), (fun v => v = .slice (some ⟨bp, op, none⟩) ps.length pc), (fun v => v = .int .i64 (n : Int)), (fun v => v = .pointer (some ⟨bp, op + n, none⟩)), (fun v => v = .int .i64 (m : Int)), (fun v => v = .pointer (some ⟨rb, m * 68, none⟩)), (fun v => v = .pointer (some ⟨rb, m * 68, none⟩)), (fun v => v = .agg (pointA pn)), (fun _ => True)]
                            [11] (HPut wq b19 (pointA pn)) [[1, 2, 3, 8, 9, 10, 11], [2, 3, 8, 9, 10, 11], [3, 8, 9, 10, 11], [8, 9, 10, 11], [6, 7, 8, 9, 10, 11], [6, 7, 8, 9, 10, 11], [7, 8, 9, 10, 11], [8, 9, 10, 11], [9, 10, 11], [10, 11], [11], []] (by kernel_rfl) (by kernel_rfl) ?_ ?_ ?_
                          · show HPut wq b19 (pointA pn) [false] [_] _
                            exact ⟨fun _ => rfl, fun q => (by cases q)⟩
                          · refine ⟨?_, ?_, ?_, ?_, ?_, ?_, ?_, ?_, ?_, ?_, ?_, ?_, trivial⟩
                            · intro L ax W hf hLi hno hd
                              try simp [Region.binds] at hd
                              have e11 : ax.tmps[11]?.getD undef = .pointer (some ⟨cr, 0, none⟩) := hf.out 11 (by decide) rfl
                              refine ⟨fun _ => ?_, fun h => absurd trivial h⟩
                              refine freeI_run (v := .pointer (some ⟨cr, 0, none⟩)) rfl hf (by decide) ?_ rfl
                              go_simp
                            · intro L ax W hf hLi hno hd
                              simp [Region.binds] at hd
                              have e195 : ax.tmps[195]?.getD undef = .pointer (some ⟨cr, 0, none⟩) := slv (hf.got 0 (by decide) (by simp [hd]))
                              refine ⟨fun _ => ?_, fun h => absurd trivial h⟩
                              refine freeI_run (v := .pointer (some ⟨cr, 0, none⟩)) rfl hf (by decide) ?_ rfl
                              go_simp
                            · intro L ax W hf hLi hno hd
                              simp [Region.binds] at hd
                              have e196 : ax.tmps[196]?.getD undef = .pointer (some ⟨cr, 0, none⟩) := slv (hf.got 1 (by decide) (by simp [hd]))
                              refine ⟨fun _ => ?_, fun h => absurd trivial h⟩
                              refine freeI_run (v := .pointer (some ⟨cr, 0, none⟩)) rfl hf (by decide) ?_ rfl
                              go_simp
                            · intro L ax W hf hLi hno hd
                              simp [Region.binds] at hd
                              have e197 : ax.tmps[197]?.getD undef = .pointer (some ⟨cr, 0, none⟩) := slv (hf.got 2 (by decide) (by simp [hd]))
                              refine ⟨fun _ => ?_, fun h => absurd trivial h⟩
                              have hG : HPut wq b19 (pointA pn) [L 11] [sl ax 305] W := hf.glob
                              have hW : W = wq.drew := hG.1 (hno 11 (by decide))
                              subst hW
                              have c0d : wq.drew.cell? ⟨cr, 0, none⟩ = _ := c0q
                              refine freeI_run (v := .slice (some ⟨rb, 0, none⟩) C.length cap) rfl hf (by decide) ?_ rfl
                              go_simp
                            · intro L ax W hf hLi hno hd
                              try simp [Region.binds] at hd
                              have e14 : ax.tmps[14]?.getD undef = .slice (some ⟨bp, op, none⟩) ps.length pc := hf.out 14 (by decide) rfl
                              refine ⟨fun _ => ?_, fun h => absurd trivial h⟩
                              refine freeI_run (v := .slice (some ⟨bp, op, none⟩) ps.length pc) rfl hf (by decide) ?_ rfl
                              go_simp
                            · intro L ax W hf hLi hno hd
                              try simp [Region.binds] at hd
                              have e20 : ax.tmps[20]?.getD undef = .int .i64 (n : Int) := hf.out 20 (by decide) rfl
                              refine ⟨fun _ => ?_, fun h => absurd trivial h⟩
                              refine freeI_run (v := .int .i64 (n : Int)) rfl hf (by decide) ?_ rfl
                              go_simp
                            · intro L ax W hf hLi hno hd
                              simp [Region.binds] at hd
                              have e199 : ax.tmps[199]?.getD undef = .slice (some ⟨bp, op, none⟩) ps.length pc := slv (hf.got 4 (by decide) (by simp [hd]))
                              have e200 : ax.tmps[200]?.getD undef = .int .i64 (n : Int) := slv (hf.got 5 (by decide) (by simp [hd]))
                              refine ⟨fun _ => ?_, fun h => absurd trivial h⟩
                              refine freeI_run (v := .pointer (some ⟨bp, op + n, none⟩)) rfl hf (by decide) ?_ rfl
                              go_simp
                            · intro L ax W hf hLi hno hd
                              simp [Region.binds] at hd
                              have e201 : ax.tmps[201]?.getD undef = .pointer (some ⟨bp, op + n, none⟩) := slv (hf.got 6 (by decide) (by simp [hd]))
                              refine ⟨fun _ => ?_, fun h => absurd trivial h⟩
                              have hG : HPut wq b19 (pointA pn) [L 11] [sl ax 305] W := hf.glob
                              have hW : W = wq.drew := hG.1 (hno 11 (by decide))
                              subst hW
                              have c1d : wq.drew.cell? ⟨bp, op + n, none⟩ = _ := hpm
                              refine freeI_run (v := .int .i64 (m : Int)) rfl hf (by decide) ?_ rfl
                              go_simp
                            · intro L ax W hf hLi hno hd
                              simp [Region.binds] at hd
                              have e198 : ax.tmps[198]?.getD undef = .slice (some ⟨rb, 0, none⟩) C.length cap := slv (hf.got 3 (by decide) (by simp [hd]))
                              have e202 : ax.tmps[202]?.getD undef = .int .i64 (m : Int) := slv (hf.got 7 (by decide) (by simp [hd]))
                              refine ⟨fun _ => ?_, fun h => absurd trivial h⟩
                              refine freeI_run (v := .pointer (some ⟨rb, m * 68, none⟩)) rfl hf (by decide) ?_ rfl
                              go_simp
                            · intro L ax W hf hLi hno hd
                              simp [Region.binds] at hd
                              have e203 : ax.tmps[203]?.getD undef = .pointer (some ⟨rb, m * 68, none⟩) := slv (hf.got 8 (by decide) (by simp [hd]))
                              refine ⟨fun _ => ?_, fun h => absurd trivial h⟩
                              refine freeI_run (v := .pointer (some ⟨rb, m * 68, none⟩)) rfl hf (by decide) ?_ rfl
                              go_simp
                            · intro L ax W hf hLi hno hd
                              simp [Region.binds] at hd
                              have e204 : ax.tmps[204]?.getD undef = .pointer (some ⟨rb, m * 68, none⟩) := slv (hf.got 9 (by decide) (by simp [hd]))
                              refine ⟨fun _ => ?_, fun h => absurd trivial h⟩
                              have hG : HPut wq b19 (pointA pn) [L 11] [sl ax 305] W := hf.glob
                              have hW : W = wq.drew := hG.1 (hno 11 (by decide))
                              subst hW
                              have c2d : row? wq.drew rb (m * 68) 33 = _ := hpn
                              refine freeI_run (v := .agg (pointA pn)) rfl hf (by decide) ?_ rfl
                              go_simp
                            · intro L ax W hf hLi hno hd
                              simp [Region.binds] at hd
                              have e19 : ax.tmps[19]?.getD undef = .pointer (some ⟨b19, 0, none⟩) := hf.out 19 (by decide) rfl
                              have e205 : ax.tmps[205]?.getD undef = .agg (pointA pn) := slv (hf.got 10 (by decide) (by simp [hd]))
                              refine ⟨fun _ => ?_, fun h => absurd trivial h⟩
                              have hG : HPut wq b19 (pointA pn) [L 11] [sl ax 305] W := hf.glob
                              have hW : W = wq.drew := hG.1 hLi
                              subst hW
                              have hthd : there wq.drew b19 0 33 := hth19
                              refine freeI_store (W' := putRow wq.drew b19 0 (pointA pn)) rfl ?_ trivial ⟨fun q => (by cases q), fun _ => rfl⟩
                              go_simp
                          · intro vs w11 hl' hF hG
                            obtain ⟨g', hg1, hg2⟩ := vs_litI vs hl' hF
                            have hw11 := hG.2 rfl
                            rw [hg1]
                            simp only [List.length_cons, List.length_nil, Nat.reduceAdd, show List.range 12 = [0, 1, 2, 3, 4, 5, 6, 7, 8, 9, 10, 11] from rfl, List.map_cons, List.map_nil, slotsIn, putL, List.setIfInBounds_toArray, List.set_cons_succ, List.set_cons_zero, List.size_toArray, Nat.reduceLT, if_true, if_false]
                            have hB11 := Lib.hid (show Below w9.heap.size w9 w11 by
                              rw [hw11]
                              exact below_put (below_drewN hBq.out 1) (Nat.le_of_eq hb19.out.symm) _ _)
                            have hr11 := Lib.hid (show row? w11 b19 0 33 = some (pointA (ptAt C (wantI C ek.toNat (ps.take (n + 1))))) by
                              rw [hw11, hsucc.out, hpt.out]
                              exact row?_put_same _ _ _ _ _ (by simp) (by omega) hth19)
                            have ht11 := Lib.hid (show there w11 b19 0 33 by
                              rw [hw11, there_put']
                              exact hth19)
                            clear hg1 hg2 hG hF hl' hw11 c0q hpm hpn hth19
                            go_wp2_with fail
                            go_roundw
                            case rel => exact ⟨n + 1, by have := hnx2.out; omega, by go_num, hB11, hr11, ht11⟩
                            case measure => have := hnx2.out; simp [intOf]; omega
                        · have hlei : ¬ (pn.epoch.toNat : Int) ≤ (ek.toNat : Int) := by omega
                          rw [if_neg hle] at hsucc
                          have hr12 := Lib.hid (show row? wr b19 0 33 = some (pointA (ptAt C (wantI C ek.toNat (ps.take (n + 1))))) by rw [hsucc]; exact hw0.out)
                          clear hle hpne hDn hsucc hpt
                          go_upto_region 28 with fail
                          go_quiet (fail)
                          go_wp2_with fail
                          go_roundw
                          case rel => exact ⟨n + 1, by have := hnx2.out; omega, by go_num, Lib.hid (below_drewN hBn.out _), Lib.hid hr12.out, Lib.hid htn.out⟩
                          case measure => have := hnx2.out; simp [intOf]; omega
                      · have hfin : ps.take n = ps := List.take_of_length_le (by omega)
                        have hr19 : row? wr b19 0 33 = some (pointA pq) := by
                          have := hwn.out
                          rw [hfin, hwant.out] at this
                          rw [this, hx1.out]
                        have hr17n := (row?_below _ _ _ hBn.out hl179).trans hr179
                        clear hDn c0q hwn htn hfin
                        go_wp2_with fail
                        go_roundw
                        case rel => exact ⟨k + 1, by have := hk4'.out; omega, by go_num, hBn7⟩
                        case measure => have := hk4'.out; simp [intOf]; omega
              · have hfin7 := Lib.hid hBwk.out
                have hix2 := Lib.hid hix
                clear hDk
                go_wp2_with fail
                go_roundw
                case rel => exact ⟨i + 1, by have := hix2.out; omega, by go_num, hfin7⟩
                case measure => have := hix2.out; simp [intOf]; omega
    · have HAt := (hBo.out.keep hBi.out).docAt hok.out nm
      unfold ptrV at HAt
      have hr7i := (row?_below _ _ _ hBi.out hq7).trans hr7
      clear hDi
      go_wp2_with fail
      (with_reducible refine HAt.mono ?_)
      clear HAt
      rintro e w6 ⟨rfl, hb6⟩
      have hB6 := Lib.hid (hBi.out.trans (hb6.mono hBi.out.size))
      have hr76 := (row?_below _ _ _ hB6.out hq7).trans hr7
      clear hb6 hr7i
      cases hat : chAt C nm with
      | some x =>
        simp only [parI]
        have x0 : ¬ (x : Int) < 0 := by omega
        clear hat
        go_wp2_with fail
        (with_reducible refine (HK _).mono ?_)
        rintro e w7 ⟨rfl, hb7⟩
        have hB7 := Lib.hid (hBB.out.trans ((hB6.out.trans (hb7.mono hB6.out.size)).mono hBB.out.size))
        clear hb7
        go_wp2_with fail
        go_ret
        exact ⟨rfl, hB7.out⟩
      | none =>
        simp only [parI]
        have HN := fun W (hb : Below w5.heap.size w5 W) => (hBo.out.real.keep hb).none_c hok.out hat
        have HA := fun W (hb : Below w5.heap.size w5 W) => (hBo.out.real.keep hb).at_c hok.out nm e0
        rw [chAtE_none hat] at HA
        simp only at HA
        have HUa := fun W (hb : Below w5.heap.size w5 W) => (hBo.out.real.keep hb).under_c hok.out nm p.name
        have HUb := fun W (hb : Below w5.heap.size w5 W) => (hBo.out.real.keep hb).under_c hok.out p.name nm
        rw [(chUnder_none hat p.name).1] at HUa
        rw [(chUnder_none hat p.name).2] at HUb
        have HKn := fun W (hb : Below w5.heap.size w5 W) => (hBo.out.real.keep hb).knows_c hok.out ⟨0, nm⟩
        rw [chKnows_none hat 0] at HKn
        clear hat
        unfold ptrV at HN HA HUa HUb HKn
        have H1 := (HN _ hB6.out).1
        go_wp2_with fail
        (with_reducible refine H1.mono ?_)
        clear H1
        rintro e w7 ⟨rfl, hb7⟩
        have hB7 := Lib.hid (hB6.out.trans (hb7.mono hB6.out.size))
        have hr77 := (row?_below _ _ _ hB7.out hq7).trans hr7
        have H2 := (HN _ hB7.out).2.1
        clear hb7 hr76
        go_wp2_with fail
        (with_reducible refine H2.mono ?_)
        clear H2
        rintro e w8 ⟨rfl, hb8⟩
        have hB8 := Lib.hid (hB7.out.trans (hb8.mono hB7.out.size))
        have hr78 := (row?_below _ _ _ hB8.out hq7).trans hr7
        have H3 := HA _ hB8.out
        clear hb8 hr77
        go_wp2_with fail
        (with_reducible refine H3.mono ?_)
        clear H3
        rintro e w9 ⟨rfl, hb9⟩
        have hB9 := Lib.hid (hB8.out.trans (hb9.mono hB8.out.size))
        clear hb9 hr78
        go_upto_region 36 with fail
        obtain ⟨w10, hw10, -, -, hb10, -⟩ := box_row w9 (pointA zeroPt) (pointA zeroPt) 26 33 (by omega) (by simp) (by simp)
        rw [← hw10]
        clear hw10
        have hB10 := Lib.hid (hB9.out.trans (hb10.mono hB9.out.size))
        have hr710 := (row?_below _ _ _ hB10.out hq7).trans hr7
        have H4 := (HN _ hB10.out).2.2.1
        clear hb10
        go_wp2_with fail
        (with_reducible refine H4.mono ?_)
        clear H4
        rintro e w11 ⟨rfl, hb11⟩
        have hB11 := Lib.hid (hB10.out.trans (hb11.mono hB10.out.size))
        clear hb11 hr710
        go_upto_region 37 with fail
        obtain ⟨w12, hw12, -, -, hb12, -⟩ := box_row w11 (hashA zeroHash) (hashA zeroHash) 24 32 (by omega) (by simp) (by simp)
        rw [← hw12]
        clear hw12
        have hB12 := Lib.hid (hB11.out.trans (hb12.mono hB11.out.size))
        have hr712 := (row?_below _ _ _ hB12.out hq7).trans hr7
        have H5 := (HN _ hB12.out).2.2.2.1
        clear hb12
        go_wp2_with fail
        (with_reducible refine H5.mono ?_)
        clear H5
        rintro e w13 ⟨rfl, hb13⟩
        have hB13 := Lib.hid (hB12.out.trans (hb13.mono hB12.out.size))
        clear hb13 hr712
        go_upto_region 38 with fail
        obtain ⟨w14, hw14, -, -, hb14, -⟩ := box_row w13 (headerA ⟨zeroHash, 0, ⟨none, 0, 0⟩⟩) (headerA ⟨zeroHash, 0, ⟨none, 0, 0⟩⟩) 49 34 (by omega) (by simp) (by simp)
        rw [← hw14]
        clear hw14
        have hB14 := Lib.hid (hB13.out.trans (hb14.mono hB13.out.size))
        clear hb14
        have hr7q := (row?_below _ _ _ hB14.out hq7).trans hr7
        have hr4n := row_part hr4 1 32 (by omega)
        have en : (pointA p).extract 1 33 = hashA p.name := by simp
        rw [en, Nat.zero_add] at hr4n
        have hr4q := (row?_below _ _ _ hB14.out hq4).trans hr4n
        have hq4q : b4 < w14.heap.size := Nat.lt_of_lt_of_le hq4 hB14.out.size
        have hq7q : b7 < w14.heap.size := Nat.lt_of_lt_of_le hq7 hB14.out.size
        have HC' := fun W (hb : Below w14.heap.size w14 W) => (HN W (hB14.out.trans (hb.mono hB14.out.size))).2.2.2.2
        have HU' := fun W (hb : Below w14.heap.size w14 W) => HUa W (hB14.out.trans (hb.mono hB14.out.size))
        have HV' := fun W (hb : Below w14.heap.size w14 W) => HUb W (hB14.out.trans (hb.mono hB14.out.size))
        have HK' := fun W (hb : Below w14.heap.size w14 W) => HKn W (hB14.out.trans (hb.mono hB14.out.size))
        clear HN HA HUa HUb HKn hr4n en
        go_wp2_with fail
        (with_reducible refine (HC' _ (Below.refl _ _)).mono ?_)
        clear HC'
        rintro e w15 ⟨rfl, hb15⟩
        have hr7a := (row?_below _ _ _ hb15 hq7q).trans hr7q
        have hr4a := (row?_below _ _ _ hb15 hq4q).trans hr4q
        have H6 := HU' _ hb15
        clear HU' hr7q hr4q
        go_wp2_with fail
        (with_reducible refine H6.mono ?_)
        clear H6
        rintro e w16 ⟨rfl, hb16⟩
        have hb16' := hb15.trans (hb16.mono hb15.size)
        have hr7b := (row?_below _ _ _ hb16 (Nat.lt_of_lt_of_le hq7q hb15.size)).trans hr7a
        have hr4b := (row?_below _ _ _ hb16 (Nat.lt_of_lt_of_le hq4q hb15.size)).trans hr4a
        have H7 := HV' _ hb16'
        clear HV' hr7a hr4a hb16
        go_wp2_with fail
        (with_reducible refine H7.mono ?_)
        clear H7
        rintro e w17 ⟨rfl, hb17⟩
        have hb17' := hb16'.trans (hb17.mono hb16'.size)
        have hr7c := (row?_below _ _ _ hb17 (Nat.lt_of_lt_of_le hq7q hb16'.size)).trans hr7b
        have H8 := HK' _ hb17'
        clear HK' hr7b hr4b hb17
        go_wp2_with fail
        (with_reducible refine H8.mono ?_)
        clear H8
        rintro e w18 ⟨rfl, hb18⟩
        have hB15 := Lib.hid (hB14.out.trans ((hb17'.trans (hb18.mono hb17'.size)).mono hB14.out.size))
        clear hb15 hb16' hb17' hb18 hr7c
        go_wp2_with fail
        (with_reducible refine (HK _).mono ?_)
        rintro e w19 ⟨rfl, hb19⟩
        have hB16 := Lib.hid (hBB.out.trans ((hB15.out.trans (hb19.mono hB15.out.size)).mono hBB.out.size))
        clear hb19
        go_wp2_with fail
        go_ret
        exact ⟨rfl, hB16.out⟩
end Go.Proofs.Ytkocpihfdpahpaa
