/- The walk of FfgNil: the whole sentence. -/
import Derived.Test.YtlkflddjpkhndaaFNil
import Derived.Test.YtlkflddjpkhndaaKnown13
namespace Go.Proofs.Ytlkflddjpkhndaa
open Go.RowKit

theorem results_row3 {P : Program} {t : TypeId} {n : Nat} (hA : ∀ w, (isAgg t).run P w = .ok true w) (hS : ∀ w, (Go.sizeOf t).run P w = .ok n w) {fn : Func} {p q u : Tmp} (hf : fn.results = #[.cell p t, .cell q t, .tmp u]) (tmps : Array Value) (w : World) (b c : Nat)
    (hp : tmps.getD p undef = .pointer (some ⟨b, 0, none⟩)) (hq : tmps.getD q undef = .pointer (some ⟨c, 0, none⟩)) (h : (row? w b 0 n).isSome = true) (h' : (row? w c 0 n).isSome = true) :
    (results fn tmps).run P w = .ok (.tuple #[.agg ((row? w b 0 n).getD #[]), .agg ((row? w c 0 n).getD #[]), tmps.getD u undef]) w := by
  have hp' : tmps[p]?.getD undef = .pointer (some ⟨b, 0, none⟩) := by simpa using hp
  have hq' : tmps[q]?.getD undef = .pointer (some ⟨c, 0, none⟩) := by simpa using hq
  simp [results, hf, hp', hq', asAddr, Sem.run_bind, run_loadVar_agg hA hS w b 0 h, run_loadVar_agg hA hS w c 0 h']
theorem ret_row3 {P : Program} {t : TypeId} {n : Nat} (hA : ∀ w, (isAgg t).run P w = .ok true w) (hS : ∀ w, (Go.sizeOf t).run P w = .ok n w) {fn : Func} {p q u : Tmp} (hf : fn.results = #[.cell p t, .cell q t, .tmp u]) {R : Ending → World → Prop} {a : Act} {w : World} {x y z : Value} (b c : Nat)
    (hx : a.tmps.getD p undef = x) (hp : x = .pointer (some ⟨b, 0, none⟩)) (hy : a.tmps.getD q undef = y) (hq : y = .pointer (some ⟨c, 0, none⟩)) (hz : a.tmps.getD u undef = z) (h : (row? w b 0 n).isSome = true) (h' : (row? w c 0 n).isSome = true) (hd : a.defers = [])
    (hR : R (.returned (.tuple #[.agg ((row? w b 0 n).getD #[]), .agg ((row? w c 0 n).getD #[]), z])) w) : bodyPost P fn R .ret a w := by
  subst hz
  exact bodyPost_ret (results_row3 hA hS hf _ _ b c (hx.trans hp) (hy.trans hq) h h') hd hR

theorem clash_res : Try.f44.results = #[.cell 4 26, .cell 5 26, .tmp 6] := by kernel_rfl
set_option maxRecDepth 100000 in
set_option maxHeartbeats 1600000 in
theorem clash_nil (p q : Pt) (b : Nat) (w : World) (h0 : row? w b 0 33 = some (pointA p)) (h1 : row? w b 33 33 = some (pointA q)) (hb : b < w.heap.size) :
    Calls Try.prog 44 #[.pointer none, .slice (some ⟨b, 0, none⟩) 2 2] w fun e w' => e = .returned (.tuple #[.agg (pointA zeroPt), .agg (pointA zeroPt), .bool false]) ∧ Below w.heap.size w w' := by
  have HK := fun p W => chain_knows p W
  have hB0 : Below w.heap.size w ((w.alloc (.cells (pointA zeroPt) 26)).alloc (.cells (pointA zeroPt) 26)) := by (repeat' (first | (with_reducible exact Below.refl _ _) | (with_reducible assumption) | (with_reducible refine bel_trans (by assumption) ?_ ?_) | (with_reducible refine bel_grown (by assumption) ?_ ?_ ?_) | (with_reducible refine Below.alloc ?_ ?_ _) | (with_reducible refine Below.drew ?_) | (with_reducible refine below_drewN ?_ _) | (with_reducible refine Below.setCell ?_ ?_ _) | (with_reducible refine below_put ?_ ?_ _ _) | (with_reducible exact Nat.le_refl _) | omega | (with_reducible refine Nat.le_trans ?_ (Below.size (by assumption))) | (with_reducible refine Nat.le_trans ?_ (World.grownBy.size (by assumption))) | (simp only [World.size_alloc, World.size_setCell, World.size_drew, size_drewN]; omega) | (simp only [World.size_alloc, World.size_setCell, World.size_drew, size_drewN, size_put]; omega) | (intro k hk; simp [Value.ownBlock] at hk; done) | (intro k hk; simp [Value.ownBlock] at hk; omega) | (simp [size_drewN] at *; omega)))
  have ht0 : there ((w.alloc (.cells (pointA zeroPt) 26)).alloc (.cells (pointA zeroPt) 26)) w.heap.size 0 33 := there_old _ _ _ _ _ (by simp) (there_new _ _ _ _ _ (by simp))
  have ht1 : there ((w.alloc (.cells (pointA zeroPt) 26)).alloc (.cells (pointA zeroPt) 26)) (w.heap.size + 1) 0 33 := by
    have := there_new (w.alloc (.cells (pointA zeroPt) 26)) (pointA zeroPt) 26 0 33 (by simp)
    simpa using this
  have hz0 : ((w.alloc (.cells (pointA zeroPt) 26)).alloc (.cells (pointA zeroPt) 26)).heap.size = w.heap.size + 2 := by simp
  have hf0 : ((w.alloc (.cells (pointA zeroPt) 26)).alloc (.cells (pointA zeroPt) 26)).frozen? ⟨w.heap.size, 0, none⟩ = false := by simp
  have hf1 : ((w.alloc (.cells (pointA zeroPt) 26)).alloc (.cells (pointA zeroPt) 26)).frozen? ⟨w.heap.size + 1, 0, none⟩ = false := by
    have : ((w.alloc (.cells (pointA zeroPt) 26)).alloc (.cells (pointA zeroPt) 26)).frozen? ⟨(w.alloc (.cells (pointA zeroPt) 26)).heap.size, 0, none⟩ = false := by simp
    rwa [World.size_alloc] at this
  replace hB0 := Lib.hid hB0
  replace ht0 := Lib.hid ht0
  replace ht1 := Lib.hid ht1
  replace hf0 := Lib.hid hf0
  replace hf1 := Lib.hid hf1
  replace hz0 := Lib.hid hz0
  go_enter Try.func44, Try.ntmps44
  go_wp2_with fail
  generalize (w.alloc (.cells (pointA zeroPt) 26)).alloc (.cells (pointA zeroPt) 26) = w1 at *
  go_loopw [13] (fun i W => (i = .int .i64 0 ∨ i = .int .i64 1 ∨ i = .int .i64 2) ∧ Hid (Below w1.heap.size w1 W)) (fun i _ => 2 - (intOf i).toNat)
  case atStart => exact ⟨.inl rfl, Lib.hid (Below.refl _ _)⟩
  case round =>
    obtain ⟨hor, hW⟩ := hrel
    have hzz := hz0.out
    have hBw := Lib.hid (hB0.out.trans (hW.out.mono hB0.out.size))
    have hr0 : row? wr b 0 33 = some (pointA p) := ((kept hBw.out).2.2 _ _ _ hb).trans h0
    have hr1 : row? wr b 33 33 = some (pointA q) := ((kept hBw.out).2.2 _ _ _ hb).trans h1
    have hbr : b < wr.heap.size := Nat.lt_of_lt_of_le hb hBw.out.size
    obtain rfl | rfl | rfl := hor
    · generalize wr = v at *
      have hX : Below v.heap.size v (putRow (v.alloc (.cells (pointA zeroPt) 26)) v.heap.size 0 (pointA p)) := below_put (bel_a v _) (Nat.le_refl _) _ _
      have hXr : row? (putRow (v.alloc (.cells (pointA zeroPt) 26)) v.heap.size 0 (pointA p)) v.heap.size 0 33 = some (pointA p) := by go_simp
      replace hX := Lib.hid hX
      replace hXr := Lib.hid hXr
      clear hzz
      go_wp2_with fail
      go_loopw [23] (fun i W => (i = .int .i64 0 ∨ i = .int .i64 1) ∧ Hid (Below v.heap.size v W) ∧ Hid (row? W v.heap.size 0 33 = some (pointA p)) ∧ v.heap.size < W.heap.size) (fun i _ => 1 - (intOf i).toNat)
      case atStart => exact ⟨.inl rfl, hX, hXr, by simp only [size_put, World.size_alloc]; omega⟩
      case round =>
        obtain ⟨hor, hX, hXr, hvz⟩ := hrel
        have hr1' : row? wr b 33 33 = some (pointA q) := ((kept hX.out).2.2 _ _ _ hbr).trans hr1
        have hXr' := hXr.out
        obtain rfl | rfl := hor
        · have hY : Below wr.heap.size wr (putRow (wr.alloc (.cells (pointA zeroPt) 26)) wr.heap.size 0 (pointA q)) := below_put (bel_a wr _) (Nat.le_refl _) _ _
          have hrp : row? (putRow (wr.alloc (.cells (pointA zeroPt) 26)) wr.heap.size 0 (pointA q)) v.heap.size 0 33 = some (pointA p) := ((kept hY).2.2 _ _ _ hvz).trans hXr'
          replace hY := Lib.hid hY
          clear hr0 hr1 hXr'
          go_wp2_with fail
          refine (HK _ _).mono ?_
          rintro e w2 ⟨rfl, hb2⟩
          have hY2 := Lib.hid (hY.out.trans (hb2.mono (by simp [size_put])))
          have hr2 := Lib.hid (((kept hY2.out).2.2 _ 0 33 hvz).trans hXr.out)
          have hX2 := Lib.hid (hX.out.trans (hY2.out.mono hX.out.size))
          have hv2 := Nat.lt_of_lt_of_le hvz hY2.out.size
          clear hb2 hrp hr1'
          go_wp2_with fail
          go_roundw
          case rel => exact ⟨.inr (by go_num), hX2, hr2, hv2⟩
          case measure => (first | omega | (simp [intOf]; done) | (simp [intOf]; omega))
        · have hW2 := Lib.hid (hW.out.trans (hX.out.mono hW.out.size))
          clear hr0 hr1 hXr' hr1'
          go_wp2_with fail
          go_roundw
          case rel => exact ⟨.inr (.inl (by go_num)), hW2⟩
          case measure => (first | omega | (simp [intOf]; done) | (simp [intOf]; omega))
    · generalize wr = v at *
      have hX : Below v.heap.size v (putRow (v.alloc (.cells (pointA zeroPt) 26)) v.heap.size 0 (pointA q)) := below_put (bel_a v _) (Nat.le_refl _) _ _
      replace hX := Lib.hid hX
      clear hzz
      go_wp2_with fail
      go_loopw [23] (fun i W => i = .int .i64 0 ∧ Hid (Below v.heap.size v W)) (fun _ _ => 0)
      case atStart => exact ⟨rfl, hX⟩
      case round =>
        obtain ⟨rfl, hX⟩ := hrel
        have hW2 := Lib.hid (hW.out.trans (hX.out.mono hW.out.size))
        clear hr0 hr1
        go_wp2_with fail
        go_roundw
        case rel => exact ⟨.inr (.inr (by go_num)), hW2⟩
        case measure => (first | omega | (simp [intOf]; done) | (simp [intOf]; omega))
    · have hta := there_below hW.out (by omega) ht0.out
      have htb := there_below hW.out (by omega) ht1.out
      have hfa := ((kept hW.out).2.1 w.heap.size 0 (by omega)).trans hf0.out
      have hfb := ((kept hW.out).2.1 (w.heap.size + 1) 0 (by omega)).trans hf1.out
      have htb2 : there (putRow wr w.heap.size 0 (pointA zeroPt)) (w.heap.size + 1) 0 33 := there_put _ _ _ _ _ _ _ htb
      have hfb2 : (putRow wr w.heap.size 0 (pointA zeroPt)).frozen? ⟨w.heap.size + 1, 0, none⟩ = false := (frozen_put _ _ _ _ _).trans hfb
      have hrr1 : row? (putRow (putRow wr w.heap.size 0 (pointA zeroPt)) (w.heap.size + 1) 0 (pointA zeroPt)) w.heap.size 0 33 = some (pointA zeroPt) := (row?_put_far _ _ _ _ _ _ _ (by omega)).trans (row?_put_same _ _ _ _ _ (by simp) (by omega) hta)
      have hrr2 : row? (putRow (putRow wr w.heap.size 0 (pointA zeroPt)) (w.heap.size + 1) 0 (pointA zeroPt)) (w.heap.size + 1) 0 33 = some (pointA zeroPt) := row?_put_same _ _ _ _ _ (by simp) (by omega) htb2
      have hBz : Below w.heap.size w (putRow (putRow wr w.heap.size 0 (pointA zeroPt)) (w.heap.size + 1) 0 (pointA zeroPt)) := below_put (below_put hBw.out (by omega) _ _) (by omega) _ _
      replace hBz := Lib.hid hBz
      have hS1 : (storeAgg 26 (.pointer (some ⟨w.heap.size, 0, none⟩)) (.agg (pointA zeroPt))).run Try.prog wr = .ok () (putRow wr w.heap.size 0 (pointA zeroPt)) := by go_simp
      have hS2 : (storeAgg 26 (.pointer (some ⟨w.heap.size + 1, 0, none⟩)) (.agg (pointA zeroPt))).run Try.prog (putRow wr w.heap.size 0 (pointA zeroPt)) = .ok () (putRow (putRow wr w.heap.size 0 (pointA zeroPt)) (w.heap.size + 1) 0 (pointA zeroPt)) := by go_simp
      clear hr0 hr1 hzz hta htb hfa hfb htb2 hfb2
      go_wp2_with (with_reducible refine at_end ?_)
      show bodyPost _ _ _ _ _ _
      refine ret_row3 Try.isAgg26 Try.sizeOf26 clash_res (x := .pointer (some ⟨w.heap.size, 0, none⟩)) (y := .pointer (some ⟨w.heap.size + 1, 0, none⟩)) (z := .bool false) (w.heap.size) (w.heap.size + 1) ?hx (Eq.refl _) ?hy (Eq.refl _) ?hz ?h ?h' rfl ?hR
      case hx => simp only [Array.getD_eq_getD_getElem?, List.getElem?_toArray, List.getElem?_cons_succ, List.getElem?_cons_zero, Option.getD_some]
      case hy => simp only [Array.getD_eq_getD_getElem?, List.getElem?_toArray, List.getElem?_cons_succ, List.getElem?_cons_zero, Option.getD_some]
      case hz => simp only [Array.getD_eq_getD_getElem?, List.getElem?_toArray, List.getElem?_cons_succ, List.getElem?_cons_zero, Option.getD_some]
      case h => rw [hrr1]; rfl
      case h' => rw [hrr2]; rfl
      case hR =>
        rw [hrr1, hrr2]
        exact ⟨rfl, hBz.out⟩

theorem z_lit1 : (pointA zeroPt).setIfInBounds 0 (.int .u64 1) = pointA ⟨1, zeroHash⟩ := by rfl
attribute [local go_sem] z_lit1
set_option maxRecDepth 100000 in
set_option maxHeartbeats 3200000 in
theorem nil13_walk (w : World) : Calls Try.prog 10 #[] w fun e w' => e = .returned (.bool true) ∧ Below w.heap.size w w' := by
  have HK := fun W => known13_c W
  have hc : ((w.alloc (.cells #[Value.slice none 0 0, Value.map none, Value.map none] 79)).alloc (.cells #[Value.pointer none, Value.pointer (some ⟨w.heap.size, 0, none⟩)] 50)).cell? ⟨w.heap.size, 1, none⟩ = some (.map none) := by go_simp
  have d0 : ((w.alloc (.cells #[Value.slice none 0 0, Value.map none, Value.map none] 79)).alloc (.cells #[Value.pointer none, Value.pointer (some ⟨w.heap.size, 0, none⟩)] 50)).cell? ⟨w.heap.size + 1, 0, none⟩ = some (.pointer none) := by go_simp
  have d1 : ((w.alloc (.cells #[Value.slice none 0 0, Value.map none, Value.map none] 79)).alloc (.cells #[Value.pointer none, Value.pointer (some ⟨w.heap.size, 0, none⟩)] 50)).cell? ⟨w.heap.size + 1, 1, none⟩ = some (.pointer (some ⟨w.heap.size, 0, none⟩)) := by go_simp
  have hB : Below w.heap.size w ((w.alloc (.cells #[Value.slice none 0 0, Value.map none, Value.map none] 79)).alloc (.cells #[Value.pointer none, Value.pointer (some ⟨w.heap.size, 0, none⟩)] 50)) := by (repeat' (first | (with_reducible exact Below.refl _ _) | (with_reducible assumption) | (with_reducible refine bel_trans (by assumption) ?_ ?_) | (with_reducible refine bel_grown (by assumption) ?_ ?_ ?_) | (with_reducible refine Below.alloc ?_ ?_ _) | (with_reducible refine Below.drew ?_) | (with_reducible refine below_drewN ?_ _) | (with_reducible refine Below.setCell ?_ ?_ _) | (with_reducible refine below_put ?_ ?_ _ _) | (with_reducible exact Nat.le_refl _) | omega | (with_reducible refine Nat.le_trans ?_ (Below.size (by assumption))) | (with_reducible refine Nat.le_trans ?_ (World.grownBy.size (by assumption))) | (simp only [World.size_alloc, World.size_setCell, World.size_drew, size_drewN]; omega) | (simp only [World.size_alloc, World.size_setCell, World.size_drew, size_drewN, size_put]; omega) | (intro k hk; simp [Value.ownBlock] at hk; done) | (intro k hk; simp [Value.ownBlock] at hk; omega) | (simp [size_drewN] at *; omega)))
  have hs : ((w.alloc (.cells #[Value.slice none 0 0, Value.map none, Value.map none] 79)).alloc (.cells #[Value.pointer none, Value.pointer (some ⟨w.heap.size, 0, none⟩)] 50)).heap.size = w.heap.size + 2 := by simp
  replace hc := Lib.hid hc
  replace d0 := Lib.hid d0
  replace d1 := Lib.hid d1
  replace hB := Lib.hid hB
  replace hs := Lib.hid hs
  go_enter Try.func10, Try.ntmps10
  go_wp2_with fail
  generalize (w.alloc (.cells #[Value.slice none 0 0, Value.map none, Value.map none] 79)).alloc (.cells #[Value.pointer none, Value.pointer (some ⟨w.heap.size, 0, none⟩)] 50) = w1 at *
  go_loopw [3] (fun i W => (i = .int .i64 0 ∨ i = .int .i64 1 ∨ i = .int .i64 2) ∧ Hid (Below w1.heap.size w1 W)) (fun i _ => 2 - (intOf i).toNat)
  case atStart => exact ⟨.inl rfl, Lib.hid (Below.refl _ _)⟩
  case round =>
    obtain ⟨hor, hW⟩ := hrel
    have hs' := hs.out
    obtain rfl | rfl | rfl := hor
    · have e0 : wr.cell? ⟨w.heap.size + 1, 0, none⟩ = some (.pointer none) := ((kept hW.out).1 (w.heap.size + 1) 0 (by omega)).trans d0.out
      have hZ : Zr (.pointer none) wr := .inl rfl
      clear hs'
      go_wp2_with fail
      refine (nil_strong ⟨zeroPt, zeroPt⟩ hZ).mono ?_
      rintro e y1 ⟨rfl, hb1⟩
      have hZ1 := Lib.hid (hZ.keep hb1)
      have hW1 := Lib.hid (hW.out.trans (hb1.mono hW.out.size))
      clear hb1
      go_wp2_with fail
      refine (nil_justified zeroPt hZ1.out).mono ?_
      rintro e y2 ⟨rfl, hb2⟩
      have hZ2 := Lib.hid (hZ1.out.keep hb2)
      have hW2 := Lib.hid (hW1.out.trans (hb2.mono hW1.out.size))
      clear hb2
      go_wp2_with fail
      refine (nil_final zeroPt hZ2.out).mono ?_
      rintro e y3 ⟨rfl, hb3⟩
      have hZ3 := Lib.hid (hZ2.out.keep hb3)
      have hW3 := Lib.hid (hW2.out.trans (hb3.mono hW2.out.size))
      clear hb3
      go_wp2_with fail
      refine (nil_allJ hZ3.out).mono ?_
      rintro e ye ⟨rfl, hye⟩
      subst hye
      go_wp2_with fail
      refine (nil_allF hZ3.out).mono ?_
      rintro e ye ⟨rfl, hye⟩
      subst hye
      go_wp2_with fail
      refine (nil_best hZ3.out).mono ?_
      rintro e y4 ⟨rfl, hb4⟩
      have hZ4 := Lib.hid (hZ3.out.keep hb4)
      have hW4 := Lib.hid (hW3.out.trans (hb4.mono hW3.out.size))
      clear hb4
      go_wp2_with fail
      refine (nil_highest hZ4.out).mono ?_
      rintro e y5 ⟨rfl, hb5⟩
      have hZ5 := Lib.hid (hZ4.out.keep hb5)
      have hW5 := Lib.hid (hW4.out.trans (hb5.mono hW4.out.size))
      clear hb5
      go_wp2_with fail
      refine (nil_links hZ5.out).mono ?_
      rintro e ye ⟨rfl, hye⟩
      subst hye
      go_wp2_with fail
      refine (nil_copy hZ5.out).mono ?_
      rintro e ye ⟨rfl, hye⟩
      subst hye
      go_wp2_with fail
      go_roundw
      case rel => exact ⟨.inr (.inl (by go_num)), hW5⟩
      case measure => (first | omega | (simp [intOf]; done) | (simp [intOf]; omega))
    · have e1 : wr.cell? ⟨w.heap.size + 1, 1, none⟩ = some (.pointer (some ⟨w.heap.size, 0, none⟩)) := ((kept hW.out).1 (w.heap.size + 1) 1 (by omega)).trans d1.out
      have hZ : Zr (.pointer (some ⟨w.heap.size, 0, none⟩)) wr := .inr ⟨_, rfl, ((kept hW.out).1 w.heap.size 1 (by omega)).trans hc.out⟩
      clear hs'
      go_wp2_with fail
      refine (nil_strong ⟨zeroPt, zeroPt⟩ hZ).mono ?_
      rintro e y1 ⟨rfl, hb1⟩
      have hZ1 := Lib.hid (hZ.keep hb1)
      have hW1 := Lib.hid (hW.out.trans (hb1.mono hW.out.size))
      clear hb1
      go_wp2_with fail
      refine (nil_justified zeroPt hZ1.out).mono ?_
      rintro e y2 ⟨rfl, hb2⟩
      have hZ2 := Lib.hid (hZ1.out.keep hb2)
      have hW2 := Lib.hid (hW1.out.trans (hb2.mono hW1.out.size))
      clear hb2
      go_wp2_with fail
      refine (nil_final zeroPt hZ2.out).mono ?_
      rintro e y3 ⟨rfl, hb3⟩
      have hZ3 := Lib.hid (hZ2.out.keep hb3)
      have hW3 := Lib.hid (hW2.out.trans (hb3.mono hW2.out.size))
      clear hb3
      go_wp2_with fail
      refine (nil_allJ hZ3.out).mono ?_
      rintro e ye ⟨rfl, hye⟩
      subst hye
      go_wp2_with fail
      refine (nil_allF hZ3.out).mono ?_
      rintro e ye ⟨rfl, hye⟩
      subst hye
      go_wp2_with fail
      refine (nil_best hZ3.out).mono ?_
      rintro e y4 ⟨rfl, hb4⟩
      have hZ4 := Lib.hid (hZ3.out.keep hb4)
      have hW4 := Lib.hid (hW3.out.trans (hb4.mono hW3.out.size))
      clear hb4
      go_wp2_with fail
      refine (nil_highest hZ4.out).mono ?_
      rintro e y5 ⟨rfl, hb5⟩
      have hZ5 := Lib.hid (hZ4.out.keep hb5)
      have hW5 := Lib.hid (hW4.out.trans (hb5.mono hW4.out.size))
      clear hb5
      go_wp2_with fail
      refine (nil_links hZ5.out).mono ?_
      rintro e ye ⟨rfl, hye⟩
      subst hye
      go_wp2_with fail
      refine (nil_copy hZ5.out).mono ?_
      rintro e ye ⟨rfl, hye⟩
      subst hye
      go_wp2_with fail
      go_roundw
      case rel => exact ⟨.inr (.inr (by go_num)), hW5⟩
      case measure => (first | omega | (simp [intOf]; done) | (simp [intOf]; omega))
    · have hBw := Lib.hid (hB.out.trans (hW.out.mono hB.out.size))
      clear hs'
      have HC : ∀ A, A = pointA zeroPt ++ pointA ⟨1, zeroHash⟩ → Calls Try.prog 44 #[.pointer none, .slice (some ⟨wr.heap.size, 0, none⟩) 2 2] (wr.alloc (.cells A 26)) fun e w' => e = .returned (.tuple #[.agg (pointA zeroPt), .agg (pointA zeroPt), .bool false]) ∧ Below wr.heap.size wr w' := by
        intro A hA
        subst hA
        refine (clash_nil zeroPt ⟨1, zeroHash⟩ wr.heap.size _ ?_ ?_ ?_).mono fun e w' h => ⟨h.1, (bel_a wr _).trans (h.2.mono (by simp))⟩
        · rw [row?_new]
          simp
        · rw [row?_new]
          simp
        · simp
      go_wp2_with fail
      refine (HC _ (by rfl)).mono ?_
      rintro e w2 ⟨rfl, hb2⟩
      have hBw2 := Lib.hid (hBw.out.trans (hb2.mono hBw.out.size))
      clear HC hb2
      go_wp2_with fail
      refine (HK _).mono ?_
      rintro e w3 ⟨rfl, hb3⟩
      have hBw3 := hBw2.out
      have hz2 := hBw3.size
      go_wp2_with fail
      go_ret
      refine ⟨rfl, ?_⟩
      (repeat' (first | (with_reducible exact Below.refl _ _) | (with_reducible assumption) | (with_reducible refine bel_trans (by assumption) ?_ ?_) | (with_reducible refine bel_grown (by assumption) ?_ ?_ ?_) | (with_reducible refine Below.alloc ?_ ?_ _) | (with_reducible refine Below.drew ?_) | (with_reducible refine below_drewN ?_ _) | (with_reducible refine Below.setCell ?_ ?_ _) | (with_reducible refine below_put ?_ ?_ _ _) | (with_reducible exact Nat.le_refl _) | omega | (with_reducible refine Nat.le_trans ?_ (Below.size (by assumption))) | (with_reducible refine Nat.le_trans ?_ (World.grownBy.size (by assumption))) | (simp only [World.size_alloc, World.size_setCell, World.size_drew, size_drewN]; omega) | (simp only [World.size_alloc, World.size_setCell, World.size_drew, size_drewN, size_put]; omega) | (intro k hk; simp [Value.ownBlock] at hk; done) | (intro k hk; simp [Value.ownBlock] at hk; omega) | (simp [size_drewN] at *; omega)))
end Go.Proofs.Ytlkflddjpkhndaa
