/- Texts of this proof, one behind the other: ShaR3, ShaR4, ShaR5. -/
import Derived.Test.YthdjhbiigmcecaaPAO
import Derived.Test.YthdjhbiigmcecaaPAI
import Derived.Test.YthdjhbiigmcecaaPAC
import Derived.Test.YthdjhbiigmcecaaPAF
import Derived.Lib.AppendZerosOnto
set_option linter.unusedVariables false
set_option linter.unusedSimpArgs false
/- Contracts of the document's SHA-256: primes, Begin, rot, followed. -/
namespace Go.Proofs.Ythdjhbiigmcecaa
open Go.RowKit

/-- a number of 64 bits, one cell -/
def u64A (n : Nat) : Array Value := #[.int .u64 (n : Int)]
theorem u64A_size (n : Nat) : (u64A n).size = 1 := rfl
theorem u64A_onecell (n : Nat) : ∀ u ∈ (u64A n).toList, u.oneCell' = true := by
 intro u hu
 simp [u64A] at hu
 subst hu
 rfl
theorem info_u64 : (Try.prog.info? 22).map (fun i => (i.zero, i.size, i.bytes)) = some (some (.int .u64 0), 1, 8) := by kernel_rfl
def bs64 (n : Nat) (parts : Array (Nat × Value)) : Sem Value := Instr.buildSlice 241 n parts
theorem fold_bs64 (n : Nat) (parts : Array (Nat × Value)) : Instr.buildSlice 241 n parts = bs64 n parts := rfl
theorem bs_64 (x : Nat) (w : World) : (bs64 1 #[(0, .int .u64 (x : Int))]).run Try.prog w = .ok (.slice (some ⟨w.heap.size, 0, none⟩) 1 1) (w.alloc (.cells (u64A x) 22)) := by
 obtain ⟨i0, hi, hy0, hy1, hy2⟩ := info_parts info_u64
 exact run_buildSlice_one w Try.underlying241 hi hy0 hy1 (by simp [Value.cells]) (by omega) (by omega) _ (by simp [Value.cells])
def app64 (args : Array Value) : Sem Value := Builtin.append_ #[241, 241] 241 args
theorem fold_app64 (args : Array Value) : Builtin.append_ #[241, 241] 241 args = app64 args := rfl
attribute [local go_sem ↓] fold_bs64 fold_app64

theorem prAll_take (l : List Nat) (f : Nat → Bool) (j : Nat) (hj : j < l.length) : (l.take (j + 1)).all f = ((l.take j).all f && f l[j]) := by
 rw [List.take_succ_eq_append_getElem hj, List.all_append]
 simp
set_option maxRecDepth 100000 in
set_option maxHeartbeats 3200000 in
theorem primes_c (w : World) :
  Calls Try.prog 168 #[] w fun e w' => ∃ s : Sl, e = .returned s.v ∧ OwnC w' w.heap.size 1 s.v p64.length (flatC u64A p64) ∧ Below w.heap.size w w' := by
 obtain ⟨i0', hi, hy0, hy1, hy2⟩ := info_parts info_u64
 go_enter Try.func168, Try.ntmps168
 go_wp2_with fail
 go_loopw [1, 2, 3, 4] (fun l n _ _ W => ∃ (k : Nat) (s : Sl), k ≤ 310 ∧ l = s.v ∧ n = .int .u64 ((k : Int) + 2) ∧ Hid (OwnC W w.heap.size 1 s.v (prTo k).length (flatC u64A (prTo k))) ∧ Hid (Below w.heap.size w W)) (fun _ n _ _ _ => 320 - (intOf n).toNat)
 case atStart => exact ⟨0, ⟨none, 0, 0⟩, by omega, rfl, rfl, Lib.hid (OwnC.nil _ _ _), Lib.hid (Below.refl _ _)⟩
 case round =>
  obtain ⟨k, s, hk, rfl, rfl, hown, hB⟩ := hrel
  have hrows := rows_of_own u64A u64A_size (by omega) hown.out
  obtain ⟨sa, sn, sc⟩ := s
  have hn : sn = (prTo k).length := hrows.1
  subst hn
  by_cases hkx : k < 310
  ·have hlow := prTo_low k hkx
   have hstep : prTo (k + 1) = prStep (prTo k) (k + 2) := rfl
   have hge := prTo_ge k
   obtain ⟨l2, hle⟩ : ∃ l2, l2 = prTo (k + 1) := ⟨_, rfl⟩
   rw [← hle] at hstep
   replace hle := Lib.hid hle
   generalize prTo k = l at *
   have q0 : (l.length : Int) < 64 := by omega
   have q1 : (0 : Int) ≤ (l.length : Int) := by omega
   have q2 : (0 : Int) ≤ (k : Int) := by omega
   have q3 : (k : Int) < 310 := by omega
   replace hstep := Lib.hid hstep
   have hB1 := Lib.hid (Below.refl wr.heap.size wr)
   dsimp only [Sl.v] at hown ⊢
   go_wp2_with fail
   go_loopw [3, 4] (fun p i W => ∃ j : Nat, j ≤ l.length ∧ i = .int .i64 (j : Int) ∧ p = .bool ((l.take j).all (fun x => (k + 2) % x != 0)) ∧ Hid (Below wr.heap.size wr W)) (fun _ i _ => l.length - (intOf i).toNat)
   case atStart => exact ⟨0, by omega, rfl, rfl, hB1⟩
   case round =>
    clear hB1
    obtain ⟨j, hj, rfl, rfl, hB2⟩ := hrel
    have j0 : (0 : Int) ≤ (j : Int) := by omega
    by_cases hjx : j < l.length
    ·obtain ⟨b, off, hsv, hlt, hcell⟩ := hrows.at (by omega)
     injection hsv with hsa hsc
     subst hsa
     obtain ⟨cs, hrow, rfl⟩ := hcell j hjx
     have hc1 := cell_of_row? hrow 0 (by omega)
     rw [Nat.mul_one, Nat.add_zero] at hc1
     have hc : wr.cell? ⟨b, off + j, none⟩ = some (.int .u64 (l[j] : Int)) := (hB2.out.cell (p := ⟨b, off + j, none⟩) hlt).trans hc1
     clear hc1 hrow hcell
     have hx2 := hge l[j] (List.getElem_mem _)
     have hall := Lib.hid (prAll_take l (fun x => (k + 2) % x != 0) j hjx)
     generalize l[j] = x at *
     have x1 : ¬ (x : Int) = 0 := by omega
     have j1 : (j : Int) < (l.length : Int) := by omega
     have e : ((k : Int) + 2) % (x : Int) = (((k + 2) % x : Nat) : Int) := by rw [Int.natCast_emod]; rfl
     by_cases hd : (k + 2) % x = 0
     ·have hm : (((k : Int) + 2) % (x : Int) == 0) = true := by rw [e, hd]; rfl
      have hl := Lib.hid (show false = (l.take (j + 1)).all (fun x => (k + 2) % x != 0) from by rw [hall.out, hd]; simp)
      clear e hall hge
      go_wp2_with fail
      go_roundw
      case rel => exact ⟨j + 1, by omega, by go_num, congrArg Value.bool hl.out, hB2⟩
      case measure => (first | (simp [intOf]; done) | (simp [intOf]; omega))
     ·have hm : (((k : Int) + 2) % (x : Int) == 0) = false := by rw [e]; simp; omega
      have hl := Lib.hid (show (l.take j).all (fun x => (k + 2) % x != 0) = (l.take (j + 1)).all (fun x => (k + 2) % x != 0) from by rw [hall.out]; simp [hd])
      clear e hall hge
      go_wp2_with fail
      go_roundw
      case rel => exact ⟨j + 1, by omega, by go_num, congrArg Value.bool hl.out, hB2⟩
      case measure => (first | (simp [intOf]; done) | (simp [intOf]; omega))
    ·obtain rfl : j = l.length := by omega
     have hown2 := hown.out.keep hB2.out
     rw [List.take_length]
     have hB3 := Lib.hid (hB.out.trans (hB2.out.mono hB.out.size))
     have hbase : w.heap.size ≤ (wr.alloc (.cells (u64A (k + 2)) 22)).heap.size := by
      have := hB3.out.size
      simp
      omega
     by_cases hall : l.all (fun x => (k + 2) % x != 0) = true
     ·have hl2 : l2 = l ++ [k + 2] := by rw [hstep.out, prStep, if_pos hall]
      rw [hall]
      obtain ⟨s5, x5, hrun, hown5, hg5, hob5⟩ := run_append_one (P := Try.prog) u64A u64A_size (wr.alloc (.cells (u64A (k + 2)) 22)) 241 u64A_onecell w.heap.size 22 i0' _ 8 Try.underlying241 hi hy0 hy1 hy2 (by simp [Value.cells]) _ l (hown2.keep ((Below.refl _ wr).alloc (Nat.le_refl _) _)) wr.heap.size 1 (k + 2) (heap_alloc_new wr _) (by omega) (by omega) hbase
      rw [← hl2] at hown5
      have hb5 := Lib.hid (show Below w.heap.size w x5 from (hB3.out.alloc hB3.out.size _).grown hg5 hbase (fun b hb => (hown2.lt b hb).1))
      have hbs : (bs64 1 #[(0, .int .u64 ((k : Int) + 2))]).run Try.prog wr = .ok (.slice (some ⟨wr.heap.size, 0, none⟩) 1 1) (wr.alloc (.cells (u64A (k + 2)) 22)) := bs_64 (k + 2) wr
      obtain ⟨s5a, s5n, s5c⟩ := s5
      rw [fold_app64] at hrun
      replace hrun := hrun.trans (rfl : _ = Result.ok (Value.slice s5a s5n s5c) x5)
      replace hown5 := Lib.hid hown5
      clear hown hown2 hB hB2 hB3 hrows hg5 hob5 hbase hall hge
      go_wp2_with fail
      go_roundw
      case rel => exact ⟨k + 1, ⟨s5a, s5n, s5c⟩, by omega, rfl, by go_num, Lib.hid (by rw [← hle.out]; exact hown5.out), hb5⟩
      case measure => (first | (simp [intOf]; done) | (simp [intOf]; omega))
     ·have hl2 : l2 = l := by rw [hstep.out, prStep, if_neg hall]
      have hall2 : l.all (fun x => (k + 2) % x != 0) = false := by simpa using hall
      rw [hall2]
      replace hown2 := Lib.hid hown2
      clear hown hB hB2 hrows hbase hall hge hi hy0 hy1 hy2
      go_wp2_with fail
      go_roundw
      case rel => exact ⟨k + 1, ⟨sa, l.length, sc⟩, by omega, rfl, by go_num, Lib.hid (by rw [← hle.out]; rw [hl2]; exact hown2.out), hB3⟩
      case measure => (first | (simp [intOf]; done) | (simp [intOf]; omega))
  ·obtain rfl : k = 310 := by omega
   rw [prTo_310] at hown hrows ⊢
   have hp : p64.length = 64 := rfl
   rw [hp] at hown ⊢
   clear hrows
   go_wp2_with fail
   go_ret
   exact ⟨⟨sa, 64, sc⟩, rfl, hown.out, hB.out⟩

end Go.Proofs.Ythdjhbiigmcecaa

/- Contracts of the document's SHA-256: Begin. -/
namespace Go.Proofs.Ythdjhbiigmcecaa
open Go.RowKit

/-- the words found up to the i-th -/
def begL (i : Nat) : List UInt32 := shaH.list.take i ++ List.replicate (8 - i) 0 ++ shaK.take i ++ List.replicate (64 - i) 0
def begA (l : List UInt32) : Array Value := (l.map u32V).toArray
/-- all words: the start's and the constants -/
def begAll : List UInt32 := shaH.list ++ shaK
set_option maxRecDepth 100000 in
theorem begL_all : begL 64 = begAll := by decide +kernel
set_option maxRecDepth 100000 in
theorem begL_len : ∀ i < 65, (begL i).length = 72 := by decide +kernel
set_option maxRecDepth 100000 in
theorem begL_low : ∀ i < 8, ((begL i).set (8 + i) (kOf i)).set i (shaH.at i) = begL (i + 1) := by decide +kernel
set_option maxRecDepth 100000 in
theorem begL_high : ∀ i < 64, 8 ≤ i → (begL i).set (8 + i) (kOf i) = begL (i + 1) := by decide +kernel
theorem map_eq_get {α β γ : Type} (f : α → γ) (g : β → γ) (l : List α) (m : List β) (h : l.map f = m.map g) (i : Nat) (h1 : i < l.length) (h2 : i < m.length) : f l[i] = g m[i] := by
 have := congrArg (fun l => l[i]?) h
 simpa [h1, h2] using this
theorem p64_len : p64.length = 64 := rfl
theorem p64_frac_k (i : Nat) (hi : i < 64) : frac (p64[i]'(by rw [p64_len]; exact hi)) 3 = (kOf i).toNat := by
 rw [kOf_eq i hi]
 exact map_eq_get _ _ _ _ frac_k i _ _
theorem take_get {α : Type} (l : List α) (n i : Nat) (h : i < l.length) (hn : i < n) : (l.take n)[i]'(by rw [List.length_take]; omega) = l[i] := List.getElem_take
theorem p64_frac_h (i : Nat) (hi : i < 8) : frac (p64[i]'(by rw [p64_len]; omega)) 2 = (shaH.at i).toNat := by
 rw [← S8.at_eq _ i hi, ← take_get p64 8 i (by rw [p64_len]; omega) hi]
 exact map_eq_get (fun p => frac p 2) UInt32.toNat _ _ frac_h i _ _
theorem p64_small : ∀ p ∈ p64, p < 65536 := by decide +kernel
theorem begA_size (l : List UInt32) : (begA l).size = l.length := by simp [begA]
theorem begA_one (l : List UInt32) : oneCells (begA l) := by simp [oneCells, begA, u32V, Value.oneCell']
theorem begA_set (l : List UInt32) (i : Nat) (x : UInt32) : (begA l).setIfInBounds i (u32V x) = begA (l.set i x) := by
 simp [begA, List.map_set]
theorem load_bg_s (x : Value) : Instr.loadAt 160 x = loadAgg 160 x := rfl
theorem load_bg (w : World) (b off : Nat) (h : (row? w b off 72).isSome = true) : (loadAgg 160 (.pointer (some ⟨b, off, none⟩))).run Try.prog w = .ok (.agg ((row? w b off 72).getD #[])) w := run_loadAgg Try.isAgg160 Try.sizeOf160 w b off h
theorem store_bg_s (x v : Value) : Instr.storeAt 160 x v = storeAgg 160 x v := rfl
theorem info_bg : (Try.prog.info? 160).map (·.size) = some 72 := by kernel_rfl
theorem store_bg (w : World) (b off : Nat) (xs : Array Value) (hn : xs.size = 72) (h1 : oneCells xs) (ht : there w b off 72) : (storeAgg 160 (.pointer (some ⟨b, off, none⟩)) (.agg xs)).run Try.prog w = .ok () (putRow w b off xs) := run_storeAgg info_bg w b off xs hn h1 ht
def begZ : Array Value := begA (begL 0)
theorem zero_bg : Try.zeroCells160 = begZ := by kernel_rfl
attribute [local go_sem] load_bg store_bg
attribute [local go_sem ↓] load_bg_s store_bg_s zero_bg
theorem Begin_res : Try.f98.results = #[.cell 0 160] := by kernel_rfl

theorem begA_at (l : List UInt32) (i : Nat) (h : i < l.length) : (begA l)[i]? = some (u32V l[i]) := by
 simp [begA, h]
set_option maxRecDepth 100000 in
set_option maxHeartbeats 3200000 in
theorem begin_c (w : World) :
  Calls Try.prog 98 #[] w fun e w' => e = .returned (.agg (begA begAll)) ∧ Below w.heap.size w w' := by
 go_enter Try.func98, Try.ntmps98
 go_wp2_with fail
 refine (primes_c _).mono ?_
 rintro e w2 ⟨sl, rfl, hown, hb2⟩
 have hB2 := Lib.hid (show Below w.heap.size w w2 from by (repeat' (first | (with_reducible first | exact Below.refl _ _ | assumption | refine bel_trans (by assumption) ?_ ?_ | refine bel_grown (by assumption) ?_ ?_ ?_ | refine Below.alloc ?_ ?_ _ | refine Below.drew ?_ | refine below_drewN ?_ _ | refine Below.setCell ?_ ?_ _ | refine below_put ?_ ?_ _ _ | exact Nat.le_refl _) | omega | (with_reducible first | refine Nat.le_trans ?_ (Below.size (by assumption)) | refine Nat.le_trans ?_ (World.grownBy.size (by assumption))) | (simp only [World.size_alloc, World.size_setCell, World.size_drew, size_drewN]; omega) | (simp only [World.size_alloc, World.size_setCell, World.size_drew, size_drewN, size_put]; omega) | (intro k hk; simp [Value.ownBlock] at hk; first | done | omega) | (simp [size_drewN] at *; omega))))
 have hz2 : (w.heap.size + 1) + 1 ≤ w2.heap.size := by have := hb2.size; simpa using this
 have hT2 : there w2 w.heap.size 0 72 := by
  have h1 := there_new w begZ 160 0 72 (by decide)
  have h2 := there_old _ (.cells begZ 160) _ _ _ (by simp) h1
  exact there_below hb2 (by simp; omega) h2
 have hP2 : w2.heap[w.heap.size + 1]? = some (.cells (begA (begL 0)) 160 (0, 0)) := by
  have h1 := heap_alloc_new (w.alloc (.cells begZ 160)) (.cells begZ 160)
  rw [hb2.block _ (by simp)]
  rw [show (w.alloc (.cells begZ 160)).heap.size = w.heap.size + 1 from by simp] at h1
  exact h1
 obtain ⟨b, off, hsl, hlt, hcell⟩ := (rows_of_own u64A u64A_size (by omega) hown).at (by rw [p64_len]; omega)
 have hbge : (w.heap.size + 1) + 1 ≤ b := by
  have := (hown.lt b (by rw [hsl]; rfl)).1
  simpa using this
 obtain ⟨sa, sn, sc⟩ := sl
 injection hsl with h1 h2
 subst h1 h2
 rw [p64_len] at hown ⊢
 clear hown hb2
 have hcell2 := Lib.hid hcell
 clear hcell
 replace hT2 := Lib.hid hT2
 replace hP2 := Lib.hid hP2
 dsimp only [Sl.v]
 go_wp2_with fail
 go_loopw [3] (fun i W => ∃ j : Nat, j ≤ 64 ∧ i = .int .i64 (j : Int) ∧ Hid (W.heap[w.heap.size + 1]? = some (.cells (begA (begL j)) 160 (0, 0))) ∧ Hid (Below (w.heap.size + 1) w2 W) ∧ Hid (W.heap[b]? = w2.heap[b]?)) (fun i _ => 64 - (intOf i).toNat)
 case atStart => exact ⟨0, by omega, rfl, hP2, Lib.hid (Below.refl _ _), Lib.hid rfl⟩
 case round =>
  clear hP2
  obtain ⟨j, hj, rfl, hP, hB, hbk⟩ := hrel
  have j0 : (0 : Int) ≤ (j : Int) := by omega
  by_cases hjx : j < 64
  ·have j1 : (j : Int) < 64 := by omega
   obtain ⟨cs, hrow, rfl⟩ := hcell2.out j (by rw [p64_len]; exact hjx)
   have hc1 := cell_of_row? hrow 0 (by omega)
   rw [Nat.mul_one, Nat.add_zero] at hc1
   have hc : wr.cell? ⟨b, off + j, none⟩ = some (.int .u64 ((p64[j]'(by rw [p64_len]; exact hjx) : Nat) : Int)) := (World.cell?_of_block (a := ⟨b, off + j, none⟩) hbk.out).trans hc1
   have hx := p64_small _ (List.getElem_mem (by rw [p64_len]; exact hjx : j < p64.length))
   have hF3 := fun W => fraction_c (p64[j]'(by rw [p64_len]; exact hjx)) 3 hx (by omega) (by omega) W
   rw [p64_frac_k j hjx] at hF3
   have hF2 := fun W => fraction_c (p64[j]'(by rw [p64_len]; exact hjx)) 2 hx (by omega) (by omega) W
   obtain ⟨x, hx0⟩ : ∃ x, x = p64[j]'(by rw [p64_len]; exact hjx) := ⟨_, rfl⟩
   have hf2 : Hid (j < 8 → frac x 2 = (shaH.at j).toNat) := Lib.hid (fun h => by rw [hx0]; exact p64_frac_h j h)
   rw [← hx0] at hF3 hF2 hc
   replace hx0 := Lib.hid hx0
   clear hc1 hrow hx
   go_wp2_with fail
   refine (hF3 _).mono ?_
   rintro e w5 ⟨rfl, hb5⟩
   have hlt1 : w.heap.size + 1 < wr.heap.size := lt_of_block hP.out
   have hP5 := (hb5.block _ hlt1).trans hP.out
   have hB5 := hB.out.trans (hb5.mono (by omega))
   have hbw : b < wr.heap.size := by
    have := hB.out.size
    omega
   have hbk5 := (hb5.block _ hbw).trans hbk.out
   have hl72 := begL_len j (by omega)
   have y0 := (cell_of_row w5 (w.heap.size + 1) (8 + j) _ _ _ hP5).trans (begA_at (begL j) (8 + j) (by rw [hl72]; omega))
   have g0 := frozen_of_row w5 (w.heap.size + 1) (8 + j) _ _ hP5
   obtain ⟨w6, hw6⟩ : ∃ w6, w6 = w5.setCell ⟨w.heap.size + 1, 8 + j, none⟩ (.int .u32 (((kOf j).toNat : Nat) : Int)) := ⟨_, rfl⟩
   have hP6 : w6.heap[w.heap.size + 1]? = some (.cells (begA ((begL j).set (8 + j) (kOf j))) 160 (0, 0)) := by
    rw [hw6, ← begA_set]
    exact heap_set w5 (w.heap.size + 1) (8 + j) _ _ (u32V (kOf j)) hP5
   have hB6 : Below (w.heap.size + 1) w2 w6 := by
    rw [hw6]
    exact hB5.setCell (p := ⟨w.heap.size + 1, 8 + j, none⟩) (Nat.le_refl _) _
   have hbk6 : w6.heap[b]? = w2.heap[b]? := by
    rw [hw6]
    exact (heap_setCell_other w5 ⟨w.heap.size + 1, 8 + j, none⟩ b _ (by show b ≠ w.heap.size + 1; omega)).trans hbk5
   clear hF3 hP hB hbk hb5 hP5 hB5 hbk5 hc hlt1 hbw
   go_upto_region 7 with fail
   rw [← hw6]
   clear hw6 y0 g0
   by_cases h8 : j < 8
   ·have j8 : (j : Int) < 8 := by omega
    rw [hf2.out h8] at hF2
    obtain ⟨cs, hrow, rfl⟩ := hcell2.out j (by rw [p64_len]; exact hjx)
    have hc1 := cell_of_row? hrow 0 (by omega)
    rw [Nat.mul_one, Nat.add_zero] at hc1
    have hc : w6.cell? ⟨b, off + j, none⟩ = some (.int .u64 ((x : Nat) : Int)) := by
     rw [hx0.out]
     exact (World.cell?_of_block (a := ⟨b, off + j, none⟩) hbk6).trans hc1
    have hlow := begL_low j h8
    have hl72' : ((begL j).set (8 + j) (kOf j)).length = 72 := by rw [List.length_set]; exact hl72
    generalize (begL j).set (8 + j) (kOf j) = bl at *
    clear hrow hc1
    go_wp2_with fail
    refine (hF2 _).mono ?_
    rintro e w7 ⟨rfl, hb7⟩
    have hP7 := (hb7.block _ (lt_of_block hP6)).trans hP6
    have hB7 := hB6.trans (hb7.mono (by have := lt_of_block hP6; omega))
    have hbk7 := (hb7.block _ (by have := hB6.size; omega)).trans hbk6
    have y0 := (cell_of_row w7 (w.heap.size + 1) j _ _ _ hP7).trans (begA_at bl j (by rw [hl72']; omega))
    have g0 := frozen_of_row w7 (w.heap.size + 1) j _ _ hP7
    obtain ⟨w8, hw8⟩ : ∃ w8, w8 = w7.setCell ⟨w.heap.size + 1, j, none⟩ (.int .u32 (((shaH.at j).toNat : Nat) : Int)) := ⟨_, rfl⟩
    have hP8 : w8.heap[w.heap.size + 1]? = some (.cells (begA (begL (j + 1))) 160 (0, 0)) := by
     rw [hw8, ← hlow, ← begA_set]
     exact heap_set w7 (w.heap.size + 1) j _ _ (u32V (shaH.at j)) hP7
    have hB8 : Below (w.heap.size + 1) w2 w8 := by
     rw [hw8]
     exact hB7.setCell (p := ⟨w.heap.size + 1, j, none⟩) (Nat.le_refl _) _
    have hbk8 : w8.heap[b]? = w2.heap[b]? := by
     rw [hw8]
     exact (heap_setCell_other w7 ⟨w.heap.size + 1, j, none⟩ b _ (by show b ≠ w.heap.size + 1; omega)).trans hbk7
    clear hF2 hb7 hP7 hB7 hbk7 hP6 hB6 hbk6 hc hf2
    go_wp2_with fail
    rw [← hw8]
    clear hw8 y0 g0
    go_roundw
    case rel => exact ⟨j + 1, by omega, by go_num, Lib.hid hP8, Lib.hid hB8, Lib.hid hbk8⟩
    case measure => (first | (simp [intOf]; done) | (simp [intOf]; omega))
   ·have j8 : ¬ (j : Int) < 8 := by omega
    rw [begL_high j hjx (by omega)] at hP6
    clear hF2 hf2
    go_wp2_with fail
    go_roundw
    case rel => exact ⟨j + 1, by omega, by go_num, Lib.hid hP6, Lib.hid hB6, Lib.hid hbk6⟩
    case measure => (first | (simp [intOf]; done) | (simp [intOf]; omega))
  ·obtain rfl : j = 64 := by omega
   have hP2 := hP.out
   rw [begL_all] at hP2
   have hsz : (begA begAll).size = 72 := by rw [begA_size]; rfl
   have ho := begA_one begAll
   have hrow : row? wr (w.heap.size + 1) 0 72 = some (begA begAll) := row?_of_heap hP2 hsz
   have hth : there wr w.heap.size 0 72 := there_below hB.out (by omega) hT2.out
   clear hP hP2 hbk hcell2
   obtain ⟨ba, hba⟩ : ∃ ba, ba = begA begAll := ⟨_, rfl⟩
   rw [← hba] at hsz ho hrow
   replace hba := Lib.hid hba
   go_wp2_with fail
   have hrr : row? (putRow wr w.heap.size 0 ba) w.heap.size 0 72 = some ba := row?_put_same _ _ _ _ _ hsz (by omega) hth
   refine ret_row Try.isAgg160 Try.sizeOf160 Begin_res (x := .pointer (some ⟨w.heap.size, 0, none⟩)) w.heap.size 0 rfl rfl (by rw [hrr]; rfl) rfl ?_
   rw [hrr]
   exact ⟨by rw [← hba.out]; rfl, by have h1 := hB2.out; have h2 := hB.out.mono (show w.heap.size ≤ w.heap.size + 1 by omega); (repeat' (first | (with_reducible first | exact Below.refl _ _ | assumption | refine bel_trans (by assumption) ?_ ?_ | refine bel_grown (by assumption) ?_ ?_ ?_ | refine Below.alloc ?_ ?_ _ | refine Below.drew ?_ | refine below_drewN ?_ _ | refine Below.setCell ?_ ?_ _ | refine below_put ?_ ?_ _ _ | exact Nat.le_refl _) | omega | (with_reducible first | refine Nat.le_trans ?_ (Below.size (by assumption)) | refine Nat.le_trans ?_ (World.grownBy.size (by assumption))) | (simp only [World.size_alloc, World.size_setCell, World.size_drew, size_drewN]; omega) | (simp only [World.size_alloc, World.size_setCell, World.size_drew, size_drewN, size_put]; omega) | (intro k hk; simp [Value.ownBlock] at hk; first | done | omega) | (simp [size_drewN] at *; omega)))⟩
end Go.Proofs.Ythdjhbiigmcecaa

/- Contracts of the document's SHA-256: rot, followed. -/
namespace Go.Proofs.Ythdjhbiigmcecaa
open Go.RowKit

theorem rot_sum (x : UInt32) (n k : Nat) (hn : n < 32) (hk : k < 32) (hnk : n + k = 32) (h : (32 : UInt32) - UInt32.ofNat n = UInt32.ofNat k) :
  u32I x / ((2 ^ n : Nat) : Int) + u32I x * ((2 ^ k : Nat) : Int) % 4294967296 = u32I (rotr x (UInt32.ofNat n)) := by
 have hlt := x.toNat_lt
 have hA : u32I x * ((2 ^ k : Nat) : Int) % 4294967296 = ((x.toNat * 2 ^ k % 4294967296 : Nat) : Int) := by unfold u32I; rw [Int.natCast_emod, Int.natCast_mul]; rfl
 have hB : u32I x / ((2 ^ n : Nat) : Int) = ((x.toNat / 2 ^ n : Nat) : Int) := by unfold u32I; rw [Int.natCast_ediv]
 have hb : x.toNat / 2 ^ n < 2 ^ k := by
  rw [Nat.div_lt_iff_lt_mul (Nat.pow_pos (by omega)), ← Nat.pow_add, show k + n = 32 by omega]
  omega
 have ha : x.toNat * 2 ^ k % 4294967296 % 2 ^ k = 0 := by
  rw [Nat.mod_mod_of_dvd _ (by rw [show (4294967296 : Nat) = 2 ^ 32 from rfl]; exact Nat.pow_dvd_pow 2 (by omega))]
  exact Nat.mul_mod_left _ _
 have hk32 : 2 ^ k ≤ 2 ^ 32 := Nat.pow_le_pow_right (by omega) (by omega)
 rw [← rot_or x n k hn hk h, hA, hB, u32_or_nat _ _ (Nat.mod_lt _ (by omega)) (by omega), nat_join k _ _ ha hb]
 omega
theorem rrot2 (x : UInt32) (w : World) :
  Calls Try.prog 171 #[.int .u32 (u32I x), .int .u64 2] w fun e w' => e = .returned (.int .u32 (u32I (rotr x 2))) ∧ w = w' := by
 obtain ⟨h0, h1⟩ := u32I_bd x
 have hr : u32I x / 4 + u32I x * 1073741824 % 4294967296 = u32I (rotr x 2) := rot_sum x 2 30 (by decide) (by decide) (by decide) (by decide)
 obtain ⟨h2, h3⟩ := u32I_bd (rotr x 2)
 generalize u32I (rotr x 2) = r at *
 go_enter Try.func171, Try.ntmps171
 go_wp2_with fail
 go_ret
 exact ⟨rfl, rfl⟩
theorem rrot6 (x : UInt32) (w : World) :
  Calls Try.prog 171 #[.int .u32 (u32I x), .int .u64 6] w fun e w' => e = .returned (.int .u32 (u32I (rotr x 6))) ∧ w = w' := by
 obtain ⟨h0, h1⟩ := u32I_bd x
 have hr : u32I x / 64 + u32I x * 67108864 % 4294967296 = u32I (rotr x 6) := rot_sum x 6 26 (by decide) (by decide) (by decide) (by decide)
 obtain ⟨h2, h3⟩ := u32I_bd (rotr x 6)
 generalize u32I (rotr x 6) = r at *
 go_enter Try.func171, Try.ntmps171
 go_wp2_with fail
 go_ret
 exact ⟨rfl, rfl⟩
theorem rrot7 (x : UInt32) (w : World) :
  Calls Try.prog 171 #[.int .u32 (u32I x), .int .u64 7] w fun e w' => e = .returned (.int .u32 (u32I (rotr x 7))) ∧ w = w' := by
 obtain ⟨h0, h1⟩ := u32I_bd x
 have hr : u32I x / 128 + u32I x * 33554432 % 4294967296 = u32I (rotr x 7) := rot_sum x 7 25 (by decide) (by decide) (by decide) (by decide)
 obtain ⟨h2, h3⟩ := u32I_bd (rotr x 7)
 generalize u32I (rotr x 7) = r at *
 go_enter Try.func171, Try.ntmps171
 go_wp2_with fail
 go_ret
 exact ⟨rfl, rfl⟩
theorem rrot11 (x : UInt32) (w : World) :
  Calls Try.prog 171 #[.int .u32 (u32I x), .int .u64 11] w fun e w' => e = .returned (.int .u32 (u32I (rotr x 11))) ∧ w = w' := by
 obtain ⟨h0, h1⟩ := u32I_bd x
 have hr : u32I x / 2048 + u32I x * 2097152 % 4294967296 = u32I (rotr x 11) := rot_sum x 11 21 (by decide) (by decide) (by decide) (by decide)
 obtain ⟨h2, h3⟩ := u32I_bd (rotr x 11)
 generalize u32I (rotr x 11) = r at *
 go_enter Try.func171, Try.ntmps171
 go_wp2_with fail
 go_ret
 exact ⟨rfl, rfl⟩
theorem rrot13 (x : UInt32) (w : World) :
  Calls Try.prog 171 #[.int .u32 (u32I x), .int .u64 13] w fun e w' => e = .returned (.int .u32 (u32I (rotr x 13))) ∧ w = w' := by
 obtain ⟨h0, h1⟩ := u32I_bd x
 have hr : u32I x / 8192 + u32I x * 524288 % 4294967296 = u32I (rotr x 13) := rot_sum x 13 19 (by decide) (by decide) (by decide) (by decide)
 obtain ⟨h2, h3⟩ := u32I_bd (rotr x 13)
 generalize u32I (rotr x 13) = r at *
 go_enter Try.func171, Try.ntmps171
 go_wp2_with fail
 go_ret
 exact ⟨rfl, rfl⟩
theorem rrot17 (x : UInt32) (w : World) :
  Calls Try.prog 171 #[.int .u32 (u32I x), .int .u64 17] w fun e w' => e = .returned (.int .u32 (u32I (rotr x 17))) ∧ w = w' := by
 obtain ⟨h0, h1⟩ := u32I_bd x
 have hr : u32I x / 131072 + u32I x * 32768 % 4294967296 = u32I (rotr x 17) := rot_sum x 17 15 (by decide) (by decide) (by decide) (by decide)
 obtain ⟨h2, h3⟩ := u32I_bd (rotr x 17)
 generalize u32I (rotr x 17) = r at *
 go_enter Try.func171, Try.ntmps171
 go_wp2_with fail
 go_ret
 exact ⟨rfl, rfl⟩
theorem rrot18 (x : UInt32) (w : World) :
  Calls Try.prog 171 #[.int .u32 (u32I x), .int .u64 18] w fun e w' => e = .returned (.int .u32 (u32I (rotr x 18))) ∧ w = w' := by
 obtain ⟨h0, h1⟩ := u32I_bd x
 have hr : u32I x / 262144 + u32I x * 16384 % 4294967296 = u32I (rotr x 18) := rot_sum x 18 14 (by decide) (by decide) (by decide) (by decide)
 obtain ⟨h2, h3⟩ := u32I_bd (rotr x 18)
 generalize u32I (rotr x 18) = r at *
 go_enter Try.func171, Try.ntmps171
 go_wp2_with fail
 go_ret
 exact ⟨rfl, rfl⟩
theorem rrot19 (x : UInt32) (w : World) :
  Calls Try.prog 171 #[.int .u32 (u32I x), .int .u64 19] w fun e w' => e = .returned (.int .u32 (u32I (rotr x 19))) ∧ w = w' := by
 obtain ⟨h0, h1⟩ := u32I_bd x
 have hr : u32I x / 524288 + u32I x * 8192 % 4294967296 = u32I (rotr x 19) := rot_sum x 19 13 (by decide) (by decide) (by decide) (by decide)
 obtain ⟨h2, h3⟩ := u32I_bd (rotr x 19)
 generalize u32I (rotr x 19) = r at *
 go_enter Try.func171, Try.ntmps171
 go_wp2_with fail
 go_ret
 exact ⟨rfl, rfl⟩
theorem rrot22 (x : UInt32) (w : World) :
  Calls Try.prog 171 #[.int .u32 (u32I x), .int .u64 22] w fun e w' => e = .returned (.int .u32 (u32I (rotr x 22))) ∧ w = w' := by
 obtain ⟨h0, h1⟩ := u32I_bd x
 have hr : u32I x / 4194304 + u32I x * 1024 % 4294967296 = u32I (rotr x 22) := rot_sum x 22 10 (by decide) (by decide) (by decide) (by decide)
 obtain ⟨h2, h3⟩ := u32I_bd (rotr x 22)
 generalize u32I (rotr x 22) = r at *
 go_enter Try.func171, Try.ntmps171
 go_wp2_with fail
 go_ret
 exact ⟨rfl, rfl⟩
theorem rrot25 (x : UInt32) (w : World) :
  Calls Try.prog 171 #[.int .u32 (u32I x), .int .u64 25] w fun e w' => e = .returned (.int .u32 (u32I (rotr x 25))) ∧ w = w' := by
 obtain ⟨h0, h1⟩ := u32I_bd x
 have hr : u32I x / 33554432 + u32I x * 128 % 4294967296 = u32I (rotr x 25) := rot_sum x 25 7 (by decide) (by decide) (by decide) (by decide)
 obtain ⟨h2, h3⟩ := u32I_bd (rotr x 25)
 generalize u32I (rotr x 25) = r at *
 go_enter Try.func171, Try.ntmps171
 go_wp2_with fail
 go_ret
 exact ⟨rfl, rfl⟩

/-! append(o, make([]byte, n)...) -/
section
variable {P : Program} (w : World)
theorem zeroCells_u8 (n : Nat) : Builtin.zeroCells #[.int .u8 0] n = (List.replicate n (Value.int .u8 0)).toArray := by
 apply Array.ext
 ·simp [Builtin.zeroCells]
 ·intro i h1 h2
  simp [Builtin.zeroCells, Nat.mod_one]
theorem run_append_room_zeros (t tx ty e : TypeId) (i : TypeInfo) (ht : P.underlying t = some (.slice e)) (htn : P.underlying tx = some (.int .i64)) (hi : P.info? e = some i) (hz : i.zero = some (.int .u8 0)) (hsize : i.size = 1) (hby : i.bytes = 1)
  (b off sLen sCap n : Nat) (hn : n < 1000000)
  (hroom : sLen + n ≤ sCap) (hc : ∀ j, j < n → (w.cell? ⟨b, off + sLen + j, none⟩).isSome = true) (hf : ∀ j, j < n → w.frozen? ⟨b, off + sLen + j, none⟩ = false) :
  (Builtin.append_ #[t, tx] ty #[.slice (some ⟨b, off, none⟩) sLen sCap, .int .i64 (n : Int)]).run P w = .ok (.slice (some ⟨b, off, none⟩) (sLen + n) sCap) (w.setCells b (off + sLen) (List.replicate n (Value.int .u8 0))) := by
 have hst := run_storeCells_cells (P := P) b (off + sLen) (List.replicate n (Value.int .u8 0)) 0 w (by simpa using hc) (by simpa using hf) (fun u hu => by rw [List.eq_of_mem_replicate hu]; rfl)
 simp only [Nat.add_zero] at hst
 have hw : IntKind.i64.wrap (n : Int) = n := by rw [IntKind.wrap_i64]; omega
 have hneg : ¬ ((n : Int) < 0) := by omega
 have h48i : ¬ (281474976710656 < (n : Int)) := by omega
 by_cases h0 : n = 0
 ·subst h0
  have hw0 : IntKind.i64.wrap 0 = 0 := by decide
  simp at hst hroom
  simp [hw0, Builtin.append_, run_underlying ht, run_underlying htn, sizeOf, typeInfo, zeroValue, hi, hz, asInt, asIntOf, hw, hsize, hby, hroom, Addr.add_lit, hst]
 ·simp [Builtin.append_, run_underlying ht, run_underlying htn, sizeOf, typeInfo, zeroValue, hi, hz, asInt, asIntOf, hw, hsize, hby, h0, hneg, h48i, hroom, Addr.add_lit, hst, zeroCells_u8, Value.cells]
/-- one that grows or stays: zeros behind what is the call's own -/
theorem run_append_zerosC (base : Nat) (t tx ty e : TypeId) (i : TypeInfo) (ht : P.underlying t = some (.slice e)) (htn : P.underlying tx = some (.int .i64)) (hi : P.info? e = some i) (hz : i.zero = some (.int .u8 0)) (hsize : i.size = 1) (hby : i.bytes = 1)
  (s : Sl) (l : List UInt8) (hown : Own w base s.v l) (m : Nat) (hm : m < 1000000) (hl : l.length < 1000000000000) (hne : s.a.isSome = true) (hbase : base ≤ w.heap.size) :
  ∃ (s' : Sl) (w' : World), (Builtin.append_ #[t, tx] ty #[s.v, .int .i64 (m : Int)]).run P w = .ok s'.v w' ∧ Own w' base s'.v (l ++ List.replicate m 0) ∧ w.grownBy w' s.v.ownBlock ∧ (s'.v.ownBlock = s.v.ownBlock ∨ s'.v.ownBlock = some w.heap.size) := by
 obtain ⟨sa, sn, sc⟩ := s
 have hmap : (l ++ List.replicate m 0).map byteV = l.map byteV ++ List.replicate m (Value.int .u8 0) := by simp [byteV]
 rcases hown.2 with ⟨h0, _⟩ | ⟨g, cap, hv, hbg, hglt, hnc, hcm, hc, hf, hx⟩
 ·injection h0 with h0
  subst h0
  cases hne
 ·injection hv with h1 h2 h3
  subst h1 h2 h3
  dsimp only at hnc hcm hc hf hx
  have hlen : (l ++ List.replicate m 0).length = l.length + m := by simp
  by_cases hroom : l.length + m ≤ sc
  ·have hr := run_append_room_zeros (P := P) w t tx ty e i ht htn hi hz hsize hby g 0 l.length sc m hm hroom (fun j hj => hc _ (by omega)) (fun j hj => hf _ (by omega))
   rw [Nat.zero_add] at hr
   have hnl : (List.replicate m (Value.int .u8 0)).length = m := by simp
   generalize hnews : List.replicate m (Value.int .u8 0) = news at *
   have hin := World.cell?_setCells_in g news l.length w (fun j hj => hc _ (by omega))
   have hsz := setCells_size g news l.length w
   have hblk := fun b hb => setCells_far g news l.length w b hb
   have hmisc := setCells_misc g news l.length w
   refine ⟨⟨some ⟨g, 0, none⟩, l.length + m, sc⟩, _, hr, ?_, ⟨hmisc.1, hmisc.2.1, hmisc.2.2, by rw [hsz]; exact Nat.le_refl _, fun k _ hk => hblk k (fun e => hk (by rw [e]; rfl))⟩, .inl rfl⟩
   refine ⟨by rw [List.length_map, Nat.mul_one], .inr ⟨g, sc, by rw [hlen], hbg, by rw [hsz]; exact hglt, by rw [hlen]; exact hroom, hcm, fun j hj => ?_, fun j hj => by rw [World.frozen?_setCells]; exact hf j hj, fun j u hu => ?_⟩⟩
   ·by_cases hin' : l.length ≤ j ∧ j < l.length + news.length
    ·have := hin (j - l.length) (by omega)
     rw [show l.length + (j - l.length) = j by omega] at this
     rw [this]; rfl
    ·rw [World.cell?_setCells_out g news _ w _ (fun _ _ => by simp only; omega)]
     exact hc j hj
   ·rw [hmap] at hu
    have hj : j < (l.map byteV).length + news.length := by
     rcases Nat.lt_or_ge j ((l.map byteV).length + news.length) with h | h
     ·exact h
     ·rw [List.getElem?_eq_none (by simpa using h)] at hu; cases hu
    rw [List.length_map] at hj
    by_cases hjx : j < l.length
    ·rw [List.getElem?_append_left (by rw [List.length_map]; exact hjx)] at hu
     rw [World.cell?_setCells_out g news _ w _ (fun _ _ => by simp only; omega)]
     exact hx j u hu
    ·rw [List.getElem?_append_right (by rw [List.length_map]; omega), List.length_map] at hu
     have hjl : j - l.length < news.length := by omega
     have := hin (j - l.length) hjl
     rw [show l.length + (j - l.length) = j by omega] at this
     rw [this, ← hu, List.getElem?_eq_getElem hjl]
  ·have hold : (Builtin.firstCells i.size l.length (.slice (some ⟨g, 0, none⟩) l.length sc)).run P w.drew = .ok (l.map byteV).toArray w.drew := by
    exact run_firstCells_some (P := P) w.drew i.size l.length ⟨g, 0, none⟩ l.length sc (l.map byteV) (by simp [hsize]) (fun j u hu => by
     have hadd : (⟨g, 0, none⟩ : Addr).add j = ⟨g, j, none⟩ := by unfold Addr.add; split <;> simp_all
     rw [hadd]; exact hx j u hu)
   have hr := Lib.run_append_grow_zeros (P := P) w t tx ty e i _ .i64 .i64 ht htn hi hz (some ⟨g, 0, none⟩) l.length sc (l.map byteV) hold m (by omega) (by omega) (by omega) (by omega) (by rw [hby]; omega) (growslice_fits (by omega) (by rw [hby]; omega))
   rw [show (Value.int IntKind.u8 0).cells = #[.int .u8 0] from rfl, zeroCells_u8 m] at hr
   have hge := grownCap_ge w (l.length + m) sc e
   have hcm2 : grownCap w (l.length + m) sc e ≤ maxLen := grownCap_le_maxLen w (l.length + m) sc e (by simp only [maxLen]; omega)
   refine ⟨⟨some ⟨w.heap.size, 0, none⟩, l.length + m, grownCap w (l.length + m) sc e⟩, _, hr, ?_, ⟨rfl, rfl, rfl, by simp, fun k hk _ => Below.heap_alloc w.drew _ k hk⟩, .inr rfl⟩
   refine OwnC.of_row (e := e) ⟨by rw [List.length_map, Nat.mul_one], .inr ⟨w.heap.size, _, _, by rw [hlen], hbase, heap_alloc_new w.drew _, by rw [hlen]; exact hge, hcm2, ?_, ?_⟩⟩
   ·simp only [Array.size_append, List.size_toArray, size_zeroCells, List.length_map, List.length_replicate, List.length_cons, List.length_nil]
    omega
   ·rw [hmap]
    simp only [Array.toList_append]
    exact List.take_left' (by simp)
end

theorem own_some {w : World} {base : Nat} {s : Sl} {l : List UInt8} (h : Own w base s.v l) (h0 : 0 < l.length) : s.a.isSome = true := by
 rcases h.2 with ⟨_, h1⟩ | ⟨g, cap, hv, _⟩
 ·omega
 ·injection hv with h1
  rw [h1]
  rfl
set_option maxRecDepth 100000 in
set_option maxHeartbeats 1600000 in
theorem followed_c (s : Sl) (m : List UInt8) (w : World) (hs : BytesR w s m) (hl : m.length ≤ 1000000000) :
  Calls Try.prog 170 #[s.v] w fun e w' => ∃ s' : Sl, e = .returned s'.v ∧ Own w' w.heap.size s'.v (shaPad m) ∧ Below w.heap.size w w' := by
 obtain ⟨i0, hi, hy0, hy1, hy2⟩ := info_parts info_u8
 obtain ⟨sa, sn, sc⟩ := s
 obtain rfl : sn = m.length := hs.1
 have Hs := Lib.hid hs
 clear hs
 show Calls Try.prog 170 #[.slice sa m.length sc] w _
 go_enter Try.func170, Try.ntmps170
 go_upto_region 2 with fail
 obtain ⟨z, hz⟩ : ∃ z, z = shaZeros m.length := ⟨_, rfl⟩
 have hz64 : z < 64 := by rw [hz]; exact Nat.mod_lt _ (by omega)
 have hzi : (119 - (m.length : Int) % 64) % 64 = (z : Int) := by rw [hz]; unfold shaZeros; omega
 rw [hzi]
 replace hz := Lib.hid hz
 clear hzi
 have hbz : w.heap.size ≤ w.heap.size := Nat.le_refl _
 have hb7 : byteV 128 = .int .u8 128 := rfl
 have hl2 : ([] : List UInt8).length + m.length ≤ 140737488355328 := by simp; omega
 have hl3 : m.length + [(128 : UInt8)].length ≤ 140737488355328 := by simp; omega
 go_upto_region 3 with (first
  | (at_builtin; refine wpList_append_bytes _ rfl (.const _) (.tmp 10) _ (by rfl) w.heap.size 5 i0 _ Try.underlying32 hi hy0 hy1 hy2 rfl _ [] rfl (Own.nil _ _) ⟨sa, m.length, sc⟩ m rfl Hs.out hl2 hbz ?_; intro v1 w4 o1 g1 e1; have o1 : Own w4 w.heap.size v1 m := o1; have hz4 := g1.size; have hz4' : w.heap.size ≤ (w4.alloc (.cells #[.int .u8 128] 5)).heap.size := by (simp; omega))
  | (at_builtin; refine wpList_append_bytes _ rfl (.tmp 11) (.tmp 12) _ (by rfl) w.heap.size 5 i0 _ Try.underlying32 hi hy0 hy1 hy2 rfl _ m rfl (o1.keep (bel_a _ _)) ⟨some ⟨w4.heap.size, 0, none⟩, 1, 1⟩ [128] (by rfl) (BytesR.one _ _ _ _ _ rfl hb7) hl3 hz4' ?_; intro v2' w5 o2 g2 e2; obtain ⟨⟨s5a, s5n, s5c⟩, rfl⟩ := o2.slice; dsimp only [Sl.v]))
 have b4 : Below w.heap.size w w4 := bel_grown g1 (Below.refl _ _) (Nat.le_refl _) (fun k hk => by cases hk)
 have B5 : Below w.heap.size w w5 := bel_grown g2 (b4.trans ((bel_a w4 _).mono hz4)) hz4' (fun k hk => (o1.lt k hk).1)
 have hla : (m ++ [(128 : UInt8)]).length = m.length + 1 := by simp
 obtain ⟨s6, w6, hr6, o6, g6, e6⟩ := run_append_zerosC (P := Try.prog) w5 w.heap.size 32 3 32 5 i0 Try.underlying32 Try.underlying3 hi hy0 hy1 hy2 ⟨s5a, s5n, s5c⟩ (m ++ [128]) o2 z (by omega) (by omega) (own_some o2 (by omega)) B5.size
 have B6 : Below w.heap.size w w6 := bel_grown g6 B5 B5.size (fun k hk => (o2.lt k hk).1)
 have hlb : (m ++ [128] ++ List.replicate z (0 : UInt8)).length = m.length + 1 + z := by simp; omega
 generalize hL : m ++ [128] ++ List.replicate z (0 : UInt8) = L at *
 replace hL := Lib.hid hL
 obtain ⟨s6a, s6n, s6c⟩ := s6
 clear b4 B5 g1 g2 e1 e2 o1 o2 hz4 hz4' hl2 hl3 hbz hb7 hla g6 e6
 dsimp only [Sl.v] at hr6 o6
 go_upto_region 4 with (at_builtin; refine Lib.wpList_append_run _ rfl (.tmp 14) (.tmp 15) 32 3 rfl _ _ rfl rfl _ _ hr6 ?_)
 clear hr6
 have HP := fun W => rput_c 8 (m.length * 8) W (by omega) (by omega) (by omega)
 have hmul : ((m.length * 8 : Nat) : Int) = (m.length : Int) * 8 := by omega
 rw [hmul] at HP
 clear hmul
 have he8 := be_length 8 (m.length * 8)
 have hPd : shaPad m = L ++ be 8 (m.length * 8) := by rw [← hL.out, hz.out]; rfl
 replace hPd := Lib.hid hPd
 generalize be 8 (m.length * 8) = B8 at *
 have hl4 : L.length + B8.length ≤ 140737488355328 := by omega
 have hb6 := B6.size
 go_wp2_with fail
 refine (HP _).mono ?_
 rintro e w7 ⟨v7, rfl, o7, hb7⟩
 clear HP
 obtain ⟨⟨s7a, s7n, s7c⟩, rfl⟩ := o7.slice
 have r7 := o7.reads
 have o67 := o6.keep hb7
 have B7 : Below w.heap.size w w7 := B6.trans (hb7.mono hb6)
 have hb7s := B7.size
 clear o7 hb7 B6 o6 o1
 dsimp only [Sl.v]
 go_wp2_with (at_builtin; refine wpList_append_bytes _ rfl (.tmp 17) (.tmp 22) _ (by rfl) w.heap.size 5 i0 _ Try.underlying32 hi hy0 hy1 hy2 rfl _ L rfl o67 ⟨s7a, s7n, s7c⟩ B8 rfl r7 hl4 hb7s ?_; intro v8 w8 o8 g8 e8)
 have B9 : Below w.heap.size w w8 := bel_grown g8 B7 hb7s (fun k hk => (o67.lt k hk).1)
 obtain ⟨⟨s8a, s8n, s8c⟩, rfl⟩ := o8.slice
 rw [← hPd.out] at o8
 go_ret
 exact ⟨⟨s8a, s8n, s8c⟩, rfl, o8, B9⟩
end Go.Proofs.Ythdjhbiigmcecaa
