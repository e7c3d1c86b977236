/- Texts of this proof, one behind the other: ShaR6. -/
import Derived.Test.YthdjhbiigmcecaaPAP
import Derived.Test.YthdjhbiigmcecaaPAF
import Derived.Test.YthdjhbiigmcecaaPAG
import Derived.StillTailTactics
set_option linter.unusedVariables false
set_option linter.unusedSimpArgs false
/- Contracts of the document's SHA-256: Begun.Sum. -/
namespace Go.Proofs.Ythdjhbiigmcecaa
open Go.RowKit

theorem sub_reads {W : World} {b : Nat} {P : List UInt8} (h : ∀ (i : Nat) (h : i < P.length), W.cell? ⟨b, i, none⟩ = some (byteV P[i])) (o n c : Nat) (hn : o + n ≤ P.length) (hc : n ≤ c) :
  BytesR W ⟨some ⟨b, o, none⟩, n, c⟩ ((P.drop o).take n) := by
 have hl : ((P.drop o).take n).length = n := by simp; omega
 refine ⟨hl.symm, hc, fun _ => ⟨b, o, rfl, fun i hi => ?_⟩⟩
 have hi' : i < n := by omega
 rw [h (o + i) (by omega)]
 simp
theorem u32I_not (e : UInt32) : bits .xor .u32 IntKind.u32.max (u32I e) = u32I (~~~e) := by
 have h := u32I_xor (0xFFFFFFFF : UInt32) e
 have hm : u32I (0xFFFFFFFF : UInt32) = IntKind.u32.max := by decide
 rw [hm] at h
 exact h.trans (congrArg u32I (UInt32.eq_of_toBitVec_eq BitVec.allOnes_xor))
theorem one_val2 (ta tb tc td te tf tg th kk ww : UInt32) :
  IntKind.u32.wrap (IntKind.u32.wrap (IntKind.u32.wrap (IntKind.u32.wrap (u32I th + bits BinOp.xor IntKind.u32 (bits BinOp.xor IntKind.u32 (u32I (rotr te 6)) (u32I (rotr te 11))) (u32I (rotr te 25))) +
   bits BinOp.xor IntKind.u32 (bits BinOp.and IntKind.u32 (u32I te) (u32I tf)) (bits BinOp.and IntKind.u32 (bits BinOp.xor IntKind.u32 IntKind.u32.max (u32I te)) (u32I tg))) + u32I kk) + u32I ww) = u32I (shaOne kk ww ⟨ta, tb, tc, td, te, tf, tg, th⟩) := by
 simp only [u32I_not, u32I_xor, u32I_and, u32I_add]
 rw [UInt32.and_comm (~~~te) tg]
 rfl
set_option maxRecDepth 100000 in
theorem begAll_k : ∀ j < 64, begAll[8 + j]? = some (kOf j) := by decide +kernel
theorem begA_k (j : Nat) (h : j < 64) : (begA begAll)[8 + j]? = some (.int .u32 (u32I (kOf j))) := by
 unfold begA
 rw [List.getElem?_toArray, List.getElem?_map, begAll_k j h]
 rfl
def outL (S : S8) (j : Nat) : List UInt8 := (S.list.take j).flatMap be4 ++ List.replicate (32 - 4 * j) 0
theorem be4_length (x : UInt32) : (be4 x).length = 4 := be_length 4 _
theorem outL_step (S : S8) (j : Nat) (hj : j < 8) : Go.splice ((outL S j).map byteV) (4 * j) ((be4 (S.at j)).map byteV) = (outL S (j + 1)).map byteV := by
 have ht : S.list.take (j + 1) = S.list.take j ++ [S.at j] := by
  rw [List.take_succ_eq_append_getElem (show j < S.list.length from hj)]
  exact congrArg (fun x => S.list.take j ++ [x]) (S8.at_eq S j hj)
 have hA : ((S.list.take j).flatMap be4).length = 4 * j := by
  have : ∀ l : List UInt32, (l.flatMap be4).length = 4 * l.length := fun l => by
   induction l with
   | nil => rfl
   | cons x l ih => rw [List.flatMap_cons, List.length_append, be4_length, ih, List.length_cons]; omega
  rw [this, List.length_take]
  show 4 * min j 8 = 4 * j
  omega
 unfold outL Go.splice
 rw [ht, List.flatMap_append, List.map_append, List.map_append, List.map_append]
 rw [List.take_left' (by rw [List.length_map, hA]), List.drop_append]
 simp only [List.length_map, hA, be4_length]
 rw [List.drop_of_length_le (by rw [List.length_map, hA]; omega)]
 simp [show 4 * j + 4 - 4 * j = 4 by omega, show 32 - 4 * j - 4 = 32 - 4 * (j + 1) by omega]
theorem outL_0 (S : S8) : ((outL S 0).map byteV).toArray = hashA zeroHash := rfl
theorem outL_8 (S : S8) : ((outL S 8).map byteV).toArray = hashA ⟨shaOut S, shaOut_length S⟩ := by
 unfold outL hashA shaOut
 rw [show S.list.take 8 = S.list from rfl]
 simp
theorem outL_length (S : S8) (j : Nat) (hj : j ≤ 8) : (outL S j).length = 32 := by
 have : ∀ l : List UInt32, (l.flatMap be4).length = 4 * l.length := fun l => by
  induction l with
  | nil => rfl
  | cons x l ih => rw [List.flatMap_cons, List.length_append, be4_length, ih, List.length_cons]; omega
 unfold outL
 rw [List.length_append, this, List.length_replicate, List.length_take]
 show 4 * min j 8 + (32 - 4 * j) = 32
 omega
attribute [local go_sem ↓] load_a8_s store_a8_s
attribute [local go_sem] load_a8 store_a8
theorem bsum_res : Try.f99.results = #[.cell 4 24] := by kernel_rfl
set_option maxRecDepth 100000 in
set_option maxHeartbeats 3200000 in
theorem bsum_c (s : Sl) (m : List UInt8) (w : World) (hs : BytesR w s m) (hl : m.length ≤ 1000000000) :
  Calls Try.prog 99 #[.agg (begA begAll), s.v] w fun e w' => e = .returned (.agg (hashA (shaSum m))) ∧ Below w.heap.size w w' := by
 obtain ⟨sa, sn, sc⟩ := s
 obtain rfl : sn = m.length := hs.1
 have Hs := Lib.hid hs
 clear hs
 show Calls Try.prog 99 #[.agg (begA begAll), .slice sa m.length sc] w _
 obtain ⟨bg, hbg⟩ : ∃ bg, bg = begA begAll := ⟨_, rfl⟩
 rw [← hbg]
 have hbs : bg.size = 72 := by rw [hbg, begA_size]; rfl
 replace hbg := Lib.hid hbg
 obtain ⟨hh, hhe⟩ : ∃ hh, hh = shaSum m := ⟨_, rfl⟩
 rw [← hhe]
 replace hhe := Lib.hid hhe
 go_enter Try.func99, Try.ntmps99
 go_upto_region 1 with fail
 obtain ⟨W2, hW2⟩ : ∃ W2, W2 = (w.alloc (.cells bg 160)).alloc (.cells (hashA zeroHash) 24) := ⟨_, rfl⟩
 have hz2 : W2.heap.size = w.heap.size + 2 := by rw [hW2]; simp
 have hB2 : Below w.heap.size w W2 := by rw [hW2]; (repeat' (first | (with_reducible first | exact Below.refl _ _ | assumption | refine bel_trans (by assumption) ?_ ?_ | refine bel_grown (by assumption) ?_ ?_ ?_ | refine Below.alloc ?_ ?_ _ | refine Below.drew ?_ | refine below_drewN ?_ _ | refine Below.setCell ?_ ?_ _ | refine below_put ?_ ?_ _ _ | exact Nat.le_refl _) | omega | (with_reducible first | refine Nat.le_trans ?_ (Below.size (by assumption)) | refine Nat.le_trans ?_ (World.grownBy.size (by assumption))) | (simp only [World.size_alloc, World.size_setCell, World.size_drew, size_drewN]; omega) | (simp only [World.size_alloc, World.size_setCell, World.size_drew, size_drewN, size_put]; omega) | (intro k hk; simp [Value.ownBlock] at hk; first | done | omega) | (simp [size_drewN] at *; omega)))
 have hG2 : W2.heap[w.heap.size]? = some (.cells bg 160 (0, 0)) := by
  rw [hW2]
  have h1 := heap_alloc_new w (.cells bg 160)
  have h2 := Below.heap_alloc (w.alloc (.cells bg 160)) (.cells (hashA zeroHash) 24) w.heap.size (by simp)
  exact h2.trans h1
 have hT2 : there W2 (w.heap.size + 1) 0 32 := by
  rw [hW2]
  have h1 := there_new (w.alloc (.cells bg 160)) (hashA zeroHash) 24 0 32 (by decide)
  rw [show (w.alloc (.cells bg 160)).heap.size = w.heap.size + 1 from by simp] at h1
  exact h1
 have hr2 : row? W2 w.heap.size 0 8 = some (s8A shaH) := by
  refine row?_of_cells rfl (by omega) fun j hj => ?_
  have hj8 : j < 8 := hj
  rw [Nat.zero_add, cell_of_row W2 w.heap.size j _ _ _ hG2, hbg.out]
  rcases (show j = 0 ∨ j = 1 ∨ j = 2 ∨ j = 3 ∨ j = 4 ∨ j = 5 ∨ j = 6 ∨ j = 7 by omega) with rfl | rfl | rfl | rfl | rfl | rfl | rfl | rfl <;> rfl
 rw [← hW2]
 clear hW2
 have Hs2 := Lib.hid (Hs.out.keep hB2)
 have h8o := s8A_one shaH
 have h8s := s8A_size shaH
 go_upto_region 2 with fail
 obtain ⟨W3, hW3⟩ : ∃ W3, W3 = putRow (W2.alloc (.cells #[.int .u32 0, .int .u32 0, .int .u32 0, .int .u32 0, .int .u32 0, .int .u32 0, .int .u32 0, .int .u32 0] 157)) (w.heap.size + 2) 0 (s8A shaH) := ⟨_, rfl⟩
 have hV3 : W3.heap[w.heap.size + 2]? = some (.cells (s8A shaH) 157 (0, 0)) := by
  rw [hW3, ← hz2]
  exact heap_putNew W2 _ _ _ rfl
 have hz3 : W3.heap.size = w.heap.size + 3 := by rw [hW3, size_put]; simp [hz2]
 have hb3 : Below W2.heap.size W2 W3 := by rw [hW3]; exact below_put (bel_a W2 _) (by omega) _ _
 have hB3 : Below w.heap.size w W3 := hB2.trans (hb3.mono (by omega))
 have hG3 : W3.heap[w.heap.size]? = some (.cells bg 160 (0, 0)) := (hb3.block _ (by omega)).trans hG2
 have hT3 : there W3 (w.heap.size + 1) 0 32 := there_below hb3 (by omega) hT2
 have Hs3 := Hs2.out.keep hb3
 rw [← hW3]
 clear hW3 hb3 hT2 hG2 hr2 hB2 Hs2 h8o h8s
 have HF := followed_c ⟨sa, m.length, sc⟩ m W3 Hs3 hl
 obtain ⟨P, hP⟩ : ∃ P, P = shaPad m := ⟨_, rfl⟩
 have hP64 : P.length % 64 = 0 := by rw [hP]; exact shaPad_length m
 have hPl : P.length ≤ 2000000000 := by
  rw [hP, shaPad, List.length_append, List.length_append, List.length_append, List.length_replicate, be_length]
  have : shaZeros m.length < 64 := Nat.mod_lt _ (by omega)
  simp
  omega
 have hP0 : 0 < P.length := by rw [hP, shaPad]; simp; omega
 have hfin : Hid (hh = ⟨shaOut (shaRun shaH P), shaOut_length _⟩) := Lib.hid (by rw [hhe.out, hP]; rfl)
 rw [← hP] at HF
 clear hP Hs3 Hs
 dsimp only [Sl.v] at HF
 go_upto_region 3 with fail
 refine HF.mono ?_
 rintro e W4 ⟨sp, rfl, op, hb4⟩
 clear HF
 have hB4 := Lib.hid (hB3.trans (hb4.mono (by omega)))
 have hV4 := Lib.hid ((hb4.block _ (by omega)).trans hV3)
 have hG4 := (hb4.block _ (by omega)).trans hG3
 have hT4 := Lib.hid (there_below hb4 (by omega) hT3)
 obtain ⟨b, off, hsv, hblt, hcell⟩ := op.reads.at hP0
 have hoff : off = 0 := by
  rcases op.2 with ⟨h1, h2⟩ | ⟨g, cap, hv, _⟩
  ·omega
  ·rw [hsv] at hv
   injection hv with h1
   injection h1 with h1
   injection h1 with _ h1
 subst hoff
 have hb3 : w.heap.size + 3 ≤ b := by
  have := (op.lt b (by rw [hsv]; rfl)).1
  omega
 obtain ⟨spa, spn, spc⟩ := sp
 have hnc : spn ≤ spc := op.reads.2.1
 injection hsv with h1 h2
 subst h1 h2
 simp only [Nat.zero_add] at hcell
 clear op hb4 hV3 hG3 hT3 hB3
 replace hcell := Lib.hid hcell
 dsimp only [Sl.v]
 go_wp2_with fail
 go_loopw [6, 7, 8, 9, 10, 11, 12, 13, 14, 15, 16, 17, 18, 19, 20, 21, 22, 23] (fun v _ _ _ _ _ _ _ _ _ _ _ _ _ _ _ _ _ W => ∃ (k : Nat) (S : S8) (o : Nat), 64 * k ≤ P.length ∧ v = .slice (some ⟨b, o, none⟩) (P.length - 64 * k) (spc - 64 * k) ∧ (64 * k < P.length → o = 64 * k) ∧ Hid (shaRun S (P.drop (64 * k)) = shaRun shaH P) ∧ Hid (W.heap[w.heap.size + 2]? = some (.cells (s8A S) 157 (0, 0))) ∧ Hid (Below (w.heap.size + 2) W4 W) ∧ Hid (W.heap[b]? = W4.heap[b]?)) (fun v _ _ _ _ _ _ _ _ _ _ _ _ _ _ _ _ _ _ => match v with | .slice _ n _ => n | _ => 0)
 case atStart => exact ⟨0, shaH, 0, by omega, rfl, fun _ => rfl, Lib.hid rfl, hV4, Lib.hid (Below.refl _ _), Lib.hid rfl⟩
 case round =>
  clear hV4
  obtain ⟨k, S, o, hk, rfl, ho, hrun, hV, hB, hbk⟩ := hrel
  by_cases hkx : 64 * k < P.length
  ·obtain rfl := ho hkx
   clear ho
   have j0 : (0 : Int) < ((P.length - 64 * k : Nat) : Int) := by omega
   obtain ⟨n, hn⟩ : ∃ n, n = P.length - 64 * k := ⟨_, rfl⟩
   rw [← hn] at j0 ⊢
   have hn64 : 64 ≤ n := by omega
   have hn0 : 0 < n := by omega
   have hnP : n ≤ P.length ∧ 64 * k + n = P.length := by omega
   obtain ⟨hnP1, hnP2⟩ := hnP
   replace hnP2 := Lib.hid hnP2
   replace hn := Lib.hid hn
   have hcw : Hid (∀ (i : Nat) (h : i < P.length), wr.cell? ⟨b, i, none⟩ = some (byteV P[i])) := Lib.hid fun i h => by
    exact (World.cell?_of_block (a := ⟨b, i, none⟩) hbk.out).trans (hcell.out i h)
   have hbw : b < wr.heap.size := by have := hB.out.size; omega
   go_wp2_with fail
   rename World => wo
   obtain ⟨B, hBk⟩ : ∃ B, B = (P.drop (64 * k)).take 64 := ⟨_, rfl⟩
   have hBl : B.length = 64 := by rw [hBk]; simp; omega
   replace hBk := Lib.hid hBk
   have hgetB : Hid (∀ (W : World) (j c : Nat), Below wo.heap.size wo W → j < 16 → 4 ≤ c → BytesR W ⟨some ⟨b, 64 * k + 4 * j, none⟩, 4, c⟩ ((B.drop (4 * j)).take 4)) := Lib.hid fun W j c hW hj hc => by
    have h1 := sub_reads (W := W) (b := b) (P := P) (fun i h => (hW.cell (p := ⟨b, i, none⟩) hbw).trans (hcw.out i h)) (64 * k + 4 * j) 4 c (by omega) hc
    rw [hBk.out, List.drop_take, List.drop_drop, List.take_take, show min 4 (64 - 4 * j) = 4 by omega]
    exact h1
   have hzw : wo.heap.size < (wo.alloc (.cells (begA (List.replicate 64 0)) 158)).heap.size := by simp
   go_loopw [8, 9, 10] (fun i _ _ W => ∃ j : Nat, j ≤ 64 ∧ i = .int .i64 j ∧ Hid (Below wo.heap.size wo W) ∧ Hid (there W wo.heap.size 0 64) ∧ Hid (∀ q < j, W.cell? ⟨wo.heap.size, q, none⟩ = some (.int .u32 (u32I (sch B q))))) (fun i _ _ _ => 64 - (intOf i).toNat)
   case atStart => exact ⟨0, Nat.zero_le _, rfl, Lib.hid (bel_a _ _), Lib.hid (there_new _ _ _ _ _ (by decide)), Lib.hid (fun j hj => absurd hj (Nat.not_lt_zero j))⟩
   case round =>
    obtain ⟨j, hj, rfl, hB2, hT2, hc2⟩ := hrel
    have j1 : (0 : Int) ≤ (j : Int) := by omega
    by_cases hjx : j < 64
    ·have j2 : (j : Int) < 64 := by omega
     by_cases hj16 : j < 16
     ·
      -- DEV<
      as_aux_lemma =>
       have j3 : (j : Int) < 16 := by omega
       have j4 : (0 : Int) ≤ 4 * (j : Int) := by omega
       have j5 : 4 * (j : Int) + 4 ≤ (n : Int) := by omega
       have j6 : 4 * (j : Int) ≤ 4 * (j : Int) + 4 := by omega
       have hG := fun W c hW hc => rget_c ⟨some ⟨b, 64 * k + 4 * j, none⟩, 4, c⟩ ((B.drop (4 * j)).take 4) W (hgetB.out W j c hW hj16 hc) (by simp; omega)
       dsimp only [Sl.v] at hG
       have hwd : Hid (((numOf ((B.drop (4 * j)).take 4) : Nat) : Int) % 4294967296 = u32I (sch B j)) := Lib.hid (by
        rw [sch_low B j hj16]
        unfold wd u32I
        rw [UInt32.toNat_ofNat', Int.natCast_emod]
        rfl)
       generalize numOf ((B.drop (4 * j)).take 4) = nm at *
       have hcw2 := (hT2.out j (by omega))
       rw [Nat.zero_add] at hcw2
       obtain ⟨t0, t1⟩ := hcw2
       obtain ⟨v0, hv0⟩ := Option.isSome_iff_exists.1 t0
       clear t0
       have j7 : 4 ≤ spc - 64 * k - 4 * j := by omega
       go_wp2_with fail
       refine (hG _ _ hB2.out j7).mono ?_
       rintro e w5 ⟨rfl, nd, rfl⟩
       clear hG
       have hv1 : (wr.drewN nd).cell? ⟨wo.heap.size, j, none⟩ = some v0 := (cell_drewN _ _ _).trans hv0
       have t2 : (wr.drewN nd).frozen? ⟨wo.heap.size, j, none⟩ = false := t1
       have hwd2 := hwd.out
       go_wp2_with fail
       have hB3 := Lib.hid (show Below wo.heap.size wo ((wr.drewN nd).setCell ⟨wo.heap.size, j, none⟩ (.int .u32 (u32I (sch B j)))) from by have := hB2.out; (repeat' (first | (with_reducible first | exact Below.refl _ _ | assumption | refine bel_trans (by assumption) ?_ ?_ | refine bel_grown (by assumption) ?_ ?_ ?_ | refine Below.alloc ?_ ?_ _ | refine Below.drew ?_ | refine below_drewN ?_ _ | refine Below.setCell ?_ ?_ _ | refine below_put ?_ ?_ _ _ | exact Nat.le_refl _) | omega | (with_reducible first | refine Nat.le_trans ?_ (Below.size (by assumption)) | refine Nat.le_trans ?_ (World.grownBy.size (by assumption))) | (simp only [World.size_alloc, World.size_setCell, World.size_drew, size_drewN]; omega) | (simp only [World.size_alloc, World.size_setCell, World.size_drew, size_drewN, size_put]; omega) | (intro k hk; simp [Value.ownBlock] at hk; first | done | omega) | (simp [size_drewN] at *; omega))))
       have hT3 := Lib.hid (there_set (wr.drewN nd) ⟨wo.heap.size, j, none⟩ (.int .u32 (u32I (sch B j))) _ _ _ (there_drewN _ _ _ _ _ hT2.out))
       have hc3 := Lib.hid (ws_set (W := wr.drewN nd) (f := sch B) hc2.out (by rw [hv1]; rfl))
       clear hv0 hv1 t1 t2 hwd2 hB2 hT2 hc2
       go_roundw
       case rel => exact ⟨j + 1, by omega, by go_num, hB3, hT3, hc3⟩
       case measure => (first | omega | (simp [intOf]; done) | (simp [intOf]; omega))
      -- DEV>
     ·
      -- DEV<
      as_aux_lemma =>
       have hk1 : 16 ≤ j := by omega
       have j3 : ¬ (j : Int) < 16 := by omega
       have hsch := Lib.hid (sch_high B j hk1)
       have x2 := hc2.out (j - 2) (by omega)
       have x15 := hc2.out (j - 15) (by omega)
       have x7 := hc2.out (j - 7) (by omega)
       have x16 := hc2.out (j - 16) (by omega)
       generalize sch B (j - 2) = y2 at *
       generalize sch B (j - 15) = y15 at *
       generalize sch B (j - 7) = y7 at *
       generalize sch B (j - 16) = y16 at *
       have a2 : (0 : Int) ≤ (j : Int) - 2 ∧ (j : Int) - 2 < 64 ∧ ((j : Int) - 2).toNat = j - 2 ∧ (2 : Int) ≤ (j : Int) := by omega
       have a15 : (0 : Int) ≤ (j : Int) - 15 ∧ (j : Int) - 15 < 64 ∧ ((j : Int) - 15).toNat = j - 15 ∧ (15 : Int) ≤ (j : Int) := by omega
       have a7 : (0 : Int) ≤ (j : Int) - 7 ∧ (j : Int) - 7 < 64 ∧ ((j : Int) - 7).toNat = j - 7 ∧ (7 : Int) ≤ (j : Int) := by omega
       have a16 : (0 : Int) ≤ (j : Int) - 16 ∧ (j : Int) - 16 < 64 ∧ ((j : Int) - 16).toNat = j - 16 ∧ (16 : Int) ≤ (j : Int) := by omega
       have v2 : IntKind.i64.wrap ((j : Int) - 2) = (j : Int) - 2 := IntWalk.i64_in _ (by omega)
       have v15 : IntKind.i64.wrap ((j : Int) - 15) = (j : Int) - 15 := IntWalk.i64_in _ (by omega)
       have v7 : IntKind.i64.wrap ((j : Int) - 7) = (j : Int) - 7 := IntWalk.i64_in _ (by omega)
       have v16 : IntKind.i64.wrap ((j : Int) - 16) = (j : Int) - 16 := IntWalk.i64_in _ (by omega)
       have z2 := fun n => (cell_drewN wr n ⟨wo.heap.size, j - 2, none⟩).trans x2
       have z15 := fun n => (cell_drewN wr n ⟨wo.heap.size, j - 15, none⟩).trans x15
       obtain ⟨a21, a22, a23, a24⟩ := a2
       obtain ⟨a151, a152, a153, a154⟩ := a15
       obtain ⟨a71, a72, a73, a74⟩ := a7
       obtain ⟨a161, a162, a163, a164⟩ := a16
       have hcw2 := (hT2.out j (by omega))
       rw [Nat.zero_add] at hcw2
       obtain ⟨t0, t1⟩ := hcw2
       obtain ⟨v0, hv0⟩ := Option.isSome_iff_exists.1 t0
       clear t0
       go_upto_region 11 with fail
       go_quiet (fail)
       go_upto_region 12 with fail
       clear x2 x15 z2 z15 a21 a22 a23 a24 a151 a152 a153 a154 v2 v15
       have hS0 : (wr.drewN nq).drew.cell? ⟨wo.heap.size, j - 7, none⟩ = some (.int .u32 (u32I y7)) ∧ (wr.drewN nq).drew.cell? ⟨wo.heap.size, j - 16, none⟩ = some (.int .u32 (u32I y16)) := ⟨x7, x16⟩
       have n7 : ∀ (W : World) (v : Value), (W.setCell ⟨wo.heap.size, j, none⟩ v).cell? ⟨wo.heap.size, j - 7, none⟩ = W.cell? ⟨wo.heap.size, j - 7, none⟩ := fun W v => World.cell?_setCell_other _ _ _ _ (fun h => by injection h with _ h _; omega)
       have n16 : ∀ (W : World) (v : Value), (W.setCell ⟨wo.heap.size, j, none⟩ v).cell? ⟨wo.heap.size, j - 16, none⟩ = W.cell? ⟨wo.heap.size, j - 16, none⟩ := fun W v => World.cell?_setCell_other _ _ _ _ (fun h => by injection h with _ h _; omega)
       go_region_held3 (fun W => W.cell? ⟨wo.heap.size, j - 7, none⟩ = some (.int .u32 (u32I y7)) ∧ W.cell? ⟨wo.heap.size, j - 16, none⟩ = some (.int .u32 (u32I y16))) (go_keep)
        (first
         | (go_simp; go_at_call 171; ((with_reducible refine (rrot17 _ _).mono ?_); rintro e w2 ⟨rfl, rfl⟩))
         | (go_simp; go_at_call 171; ((with_reducible refine (rrot19 _ _).mono ?_); rintro e w2 ⟨rfl, rfl⟩))
         | (go_simp; go_at_call 171; ((with_reducible refine (rrot7 _ _).mono ?_); rintro e w2 ⟨rfl, rfl⟩))
         | (go_simp; go_at_call 171; ((with_reducible refine (rrot18 _ _).mono ?_); rintro e w2 ⟨rfl, rfl⟩)))
       rename_i hHeld
       clear hHeld hS0
       rw [sched_val, ← hsch.out]
       have hB3 := Lib.hid (show Below wo.heap.size wo ((wr.drewN (nq + 1)).setCell ⟨wo.heap.size, j, none⟩ (.int .u32 (u32I (sch B j)))) from by have := hB2.out; (repeat' (first | (with_reducible first | exact Below.refl _ _ | assumption | refine bel_trans (by assumption) ?_ ?_ | refine bel_grown (by assumption) ?_ ?_ ?_ | refine Below.alloc ?_ ?_ _ | refine Below.drew ?_ | refine below_drewN ?_ _ | refine Below.setCell ?_ ?_ _ | refine below_put ?_ ?_ _ _ | exact Nat.le_refl _) | omega | (with_reducible first | refine Nat.le_trans ?_ (Below.size (by assumption)) | refine Nat.le_trans ?_ (World.grownBy.size (by assumption))) | (simp only [World.size_alloc, World.size_setCell, World.size_drew, size_drewN]; omega) | (simp only [World.size_alloc, World.size_setCell, World.size_drew, size_drewN, size_put]; omega) | (intro k hk; simp [Value.ownBlock] at hk; first | done | omega) | (simp [size_drewN] at *; omega))))
       have hT3 := Lib.hid (there_set (wr.drewN (nq + 1)) ⟨wo.heap.size, j, none⟩ (.int .u32 (u32I (sch B j))) _ _ _ (there_drewN _ _ _ _ _ hT2.out))
       have hc3 := Lib.hid (ws_set (W := wr.drewN (nq + 1)) (f := sch B) hc2.out (by rw [cell_drewN, hv0]; rfl))
       clear x7 x16 n7 n16 hv0 t1 v7 v16 a71 a72 a73 a74 a161 a162 a163 a164 hB2 hT2 hc2
       go_wp2_with fail
       go_roundw
       case rel => exact ⟨j + 1, by omega, by go_num, hB3, hT3, hc3⟩
       case measure => (first | omega | (simp [intOf]; done) | (simp [intOf]; omega))
      -- DEV>
    ·have hj64 : (j : Int) = 64 := by omega
     obtain rfl : j = 64 := by omega
     rw [hj64]
     clear hgetB hT2 hcw hj64
     -- DEV<
     have hVr : wr.heap[w.heap.size + 2]? = some (.cells (s8A S) 157 (0, 0)) := (hB2.out.block _ (lt_of_block hV.out)).trans hV.out
     have hvc := fun i => cell_of_row wr (w.heap.size + 2) i _ _ _ hVr
     have v0 := hvc 0
     have v1 := hvc 1
     have v2 := hvc 2
     have v3 := hvc 3
     have v4 := hvc 4
     have v5 := hvc 5
     have v6 := hvc 6
     have v7 := hvc 7
     clear hvc
     have hc3 := hc2
     have hBo := hB2
     have hS0 : shaComp B S 0 = S := rfl
     have hwz := (hB2.out).size
     have hwolt : wo.heap.size < wr.heap.size := lt_of_cell (hc2.out 0 (by omega))
     have hVS := Lib.hid hVr
     have hRS := hrun
     have hsd := Lib.hid (show shaBlk S B = S.add (shaComp B S 64) from rfl)
     obtain ⟨T, hT⟩ : ∃ T, T = S := ⟨_, rfl⟩
     rw [← hT] at v0 v1 v2 v3 v4 v5 v6 v7
     have hT0 := Lib.hid (show shaComp B S 0 = T from hT.symm)
     clear hT hVr hS0
     obtain ⟨ta, tb, tc, td, te, tf, tg, th⟩ := T
     simp only [s8A, List.getElem?_toArray, List.getElem?_cons_succ, List.getElem?_cons_zero] at v0 v1 v2 v3 v4 v5 v6 v7
     go_upto_region 13 with fail
     go_quiet (fail)
     clear v0 v1 v2 v3 v4 v5 v6 v7
     go_wp2_with fail
     rename World => wp
     have hGp := (hBo.out.block _ (by have := lt_of_block hV.out; omega)).trans ((hB.out.block _ (by omega)).trans hG4)
     go_loopw [11, 12, 13, 14, 15, 16, 17, 18, 19, 20, 21] (fun a b c d e f g h i _ _ W => ∃ (j : Nat) (t : S8), j ≤ 64 ∧ i = .int .i64 j ∧ a = .int .u32 (u32I t.a) ∧ b = .int .u32 (u32I t.b) ∧ c = .int .u32 (u32I t.c) ∧ d = .int .u32 (u32I t.d) ∧ e = .int .u32 (u32I t.e) ∧ f = .int .u32 (u32I t.f) ∧ g = .int .u32 (u32I t.g) ∧ h = .int .u32 (u32I t.h) ∧ Hid (shaComp B S j = t) ∧ Hid (Below wp.heap.size wp W)) (fun _ _ _ _ _ _ _ _ i _ _ _ => 64 - (intOf i).toNat)
     case atStart => exact ⟨0, ⟨ta, tb, tc, td, te, tf, tg, th⟩, by omega, rfl, rfl, rfl, rfl, rfl, rfl, rfl, rfl, rfl, hT0, Lib.hid (by (repeat' (first | (with_reducible first | exact Below.refl _ _ | assumption | refine bel_trans (by assumption) ?_ ?_ | refine bel_grown (by assumption) ?_ ?_ ?_ | refine Below.alloc ?_ ?_ _ | refine Below.drew ?_ | refine below_drewN ?_ _ | refine Below.setCell ?_ ?_ _ | refine below_put ?_ ?_ _ _ | exact Nat.le_refl _) | omega | (with_reducible first | refine Nat.le_trans ?_ (Below.size (by assumption)) | refine Nat.le_trans ?_ (World.grownBy.size (by assumption))) | (simp only [World.size_alloc, World.size_setCell, World.size_drew, size_drewN]; omega) | (simp only [World.size_alloc, World.size_setCell, World.size_drew, size_drewN, size_put]; omega) | (intro k hk; simp [Value.ownBlock] at hk; first | done | omega) | (simp [size_drewN] at *; omega))))⟩
     case round =>
      clear hT0
      obtain ⟨j, t, hj, rfl, rfl, rfl, rfl, rfl, rfl, rfl, rfl, rfl, hT, hB3⟩ := hrel
      have j1 : (0 : Int) ≤ (j : Int) := by omega
      obtain ⟨ta, tb, tc, td, te, tf, tg, th⟩ := t
      dsimp only
      by_cases hjx : j < 64
      ·
       -- DEV<
       as_aux_lemma =>
        have j2 : (j : Int) < 64 := by omega
        have hkk : wr.cell? ⟨w.heap.size, 8 + j, none⟩ = some (.int .u32 (u32I (kOf j))) := by
         rw [cell_of_row wr w.heap.size (8 + j) _ _ _ ((hB3.out.block _ (by omega)).trans hGp), hbg.out]
         exact begA_k j hjx
        have hww : wr.cell? ⟨wo.heap.size, j, none⟩ = some (.int .u32 (u32I (sch B j))) := (hB3.out.cell (p := ⟨wo.heap.size, j, none⟩) (by show wo.heap.size < wp.heap.size; omega)).trans (hc3.out j hjx)
        have hst := Lib.hid (show shaComp B S (j + 1) = shaRnd (kOf j) (sch B j) (shaComp B S j) from rfl)
        generalize kOf j = kk at *
        generalize sch B j = ww at *
        go_upto_region 17 with fail
        have hS0 : wr.cell? ⟨w.heap.size, 8 + j, none⟩ = some (.int .u32 (u32I kk)) ∧ wr.cell? ⟨wo.heap.size, j, none⟩ = some (.int .u32 (u32I ww)) := ⟨hkk, hww⟩
        go_region_held3 (fun W => W.cell? ⟨w.heap.size, 8 + j, none⟩ = some (.int .u32 (u32I kk)) ∧ W.cell? ⟨wo.heap.size, j, none⟩ = some (.int .u32 (u32I ww))) (go_keep)
         (first
          | (go_simp; go_at_call 171; ((with_reducible refine (rrot6 _ _).mono ?_); rintro e w2 ⟨rfl, rfl⟩))
          | (go_simp; go_at_call 171; ((with_reducible refine (rrot11 _ _).mono ?_); rintro e w2 ⟨rfl, rfl⟩))
          | (go_simp; go_at_call 171; ((with_reducible refine (rrot25 _ _).mono ?_); rintro e w2 ⟨rfl, rfl⟩)))
        rename_i hHeld
        clear hHeld hS0
        rw [one_val2 ta tb tc td]
        have hone := Lib.hid (show shaRnd kk ww ⟨ta, tb, tc, td, te, tf, tg, th⟩ = ⟨shaOne kk ww ⟨ta, tb, tc, td, te, tf, tg, th⟩ + shaTwo ⟨ta, tb, tc, td, te, tf, tg, th⟩, ta, tb, tc, td + shaOne kk ww ⟨ta, tb, tc, td, te, tf, tg, th⟩, te, tf, tg⟩ from rfl)
        have htwo := two_val ta tb tc td te tf tg th
        rw [IntKind.wrap_u32'] at htwo
        replace htwo := Lib.hid htwo
        generalize shaOne kk ww ⟨ta, tb, tc, td, te, tf, tg, th⟩ = one at *
        generalize shaTwo ⟨ta, tb, tc, td, te, tf, tg, th⟩ = two at *
        clear hkk hww
        go_upto_region 18 with fail
        go_upto_region 19 with (first
          | (go_at_call 171; ((with_reducible refine (rrot2 _ _).mono ?_); rintro e w2 ⟨rfl, rfl⟩))
          | (go_at_call 171; ((with_reducible refine (rrot13 _ _).mono ?_); rintro e w2 ⟨rfl, rfl⟩))
          | (go_at_call 171; ((with_reducible refine (rrot22 _ _).mono ?_); rintro e w2 ⟨rfl, rfl⟩)))
        rw [htwo.out]
        have hs1 := u32I_add' td one
        have hs2 := u32I_add' one two
        have hn := Lib.hid (show shaComp B S (j + 1) = ⟨one + two, ta, tb, tc, td + one, te, tf, tg⟩ from hst.out.trans ((congrArg _ hT.out).trans hone.out))
        have hB5 := Lib.hid (show Below wp.heap.size wp wr.drew from by have := hB3.out; (repeat' (first | (with_reducible first | exact Below.refl _ _ | assumption | refine bel_trans (by assumption) ?_ ?_ | refine bel_grown (by assumption) ?_ ?_ ?_ | refine Below.alloc ?_ ?_ _ | refine Below.drew ?_ | refine below_drewN ?_ _ | refine Below.setCell ?_ ?_ _ | refine below_put ?_ ?_ _ _ | exact Nat.le_refl _) | omega | (with_reducible first | refine Nat.le_trans ?_ (Below.size (by assumption)) | refine Nat.le_trans ?_ (World.grownBy.size (by assumption))) | (simp only [World.size_alloc, World.size_setCell, World.size_drew, size_drewN]; omega) | (simp only [World.size_alloc, World.size_setCell, World.size_drew, size_drewN, size_put]; omega) | (intro k hk; simp [Value.ownBlock] at hk; first | done | omega) | (simp [size_drewN] at *; omega))))
        clear htwo hst hone hB3 hT
        go_wp2_with fail
        go_roundw
        case rel => exact ⟨j + 1, ⟨one + two, ta, tb, tc, td + one, te, tf, tg⟩, by omega, by go_num, rfl, rfl, rfl, rfl, rfl, rfl, rfl, rfl, hn, hB5⟩
        case measure => (first | omega | (simp [intOf]; done) | (simp [intOf]; omega))
       -- DEV>
      ·have hj64 : (j : Int) = 64 := by omega
       obtain rfl : j = 64 := by omega
       rw [hj64]
       clear hc3 hc2 hj64
       obtain ⟨T, hTT⟩ : ∃ T : S8, T = ⟨ta, tb, tc, td, te, tf, tg, th⟩ := ⟨_, rfl⟩
       have hTl : #[.int .u32 (u32I ta), .int .u32 (u32I tb), .int .u32 (u32I tc), .int .u32 (u32I td), .int .u32 (u32I te), .int .u32 (u32I tf), .int .u32 (u32I tg), .int .u32 (u32I th)] = s8A T := by rw [hTT]; rfl
       have hso := s8A_one T
       have hss := s8A_size T
       rw [← hTT] at hT
       replace hTT := Lib.hid hTT
       go_upto_region 28 with fail
       clear hTl hso hss
       obtain ⟨W6, hW6⟩ : ∃ W6, W6 = putRow (wr.alloc (.cells #[.int .u32 0, .int .u32 0, .int .u32 0, .int .u32 0, .int .u32 0, .int .u32 0, .int .u32 0, .int .u32 0] 157)) wr.heap.size 0 (s8A T) := ⟨_, rfl⟩
       have hM6 : W6.heap[wr.heap.size]? = some (.cells (s8A T) 157 (0, 0)) := by
        rw [hW6]
        exact heap_putNew wr _ _ _ rfl
       have hb6 : Below wr.heap.size wr W6 := by rw [hW6]; exact below_put (bel_a wr _) (by omega) _ _
       have hlo : w.heap.size + 2 < wo.heap.size := lt_of_block hV.out
       have hBo6 : Below wo.heap.size wo W6 := hBo.out.trans ((hB3.out.mono (by omega)).trans (hb6.mono (by have := hB3.out.size; omega)))
       have hE6 : W6.heap[w.heap.size + 2]? = some (.cells (begA (mixL S.list T.list 0)) 157 (0, 0)) := (hBo6.block _ hlo).trans hV.out
       have hB6 : Below (w.heap.size + 2) W4 W6 := hB.out.trans (hBo6.mono (by omega))
       have hbk6 : W6.heap[b]? = W4.heap[b]? := (hBo6.block _ hbw).trans hbk.out
       have hmb : w.heap.size + 2 < wr.heap.size := by have := hB3.out.size; omega
       have hbm : b < wr.heap.size := by have := hB3.out.size; omega
       rw [← hW6]
       clear hW6 hb6 hBo6 hB3 hGp hVS hBo hB hV hbk hwz
       generalize wr.heap.size = mb at *
       replace hE6 := Lib.hid hE6
       replace hM6 := Lib.hid hM6
       replace hB6 := Lib.hid hB6
       replace hbk6 := Lib.hid hbk6
       go_wp2_with fail
       go_loopw [23] (fun i W => ∃ j : Nat, j ≤ 8 ∧ i = .int .i64 j ∧ Hid (W.heap[mb]? = some (.cells (s8A T) 157 (0, 0))) ∧ Hid (W.heap[w.heap.size + 2]? = some (.cells (begA (mixL S.list T.list j)) 157 (0, 0))) ∧ Hid (Below (w.heap.size + 2) W4 W) ∧ Hid (W.heap[b]? = W4.heap[b]?)) (fun i _ => 8 - (intOf i).toNat)
       case atStart => exact ⟨0, by omega, rfl, hM6, hE6, hB6, hbk6⟩
       case round =>
        clear hM6 hE6 hB6 hbk6
        obtain ⟨j, hj, rfl, hM, hE, hB, hbk⟩ := hrel
        by_cases hjx : j < 8
        ·have hlen := mixL_length S.list T.list j rfl rfl hj
         have v0 := cell_of_row wr mb j _ _ _ hM.out
         have r0 := (cell_of_row wr (w.heap.size + 2) j _ _ _ hE.out).trans (begA_at _ j (by omega))
         have fr := frozen_of_row wr (w.heap.size + 2) j _ _ hE.out
         have hmk := mixS_at S T j hjx
         rw [List.getElem?_eq_getElem (by omega)] at hmk
         rw [Option.some.inj hmk, u32V_eq] at r0
         rw [s8A_at T j hjx] at v0
         have hset := heap_set wr (w.heap.size + 2) j _ _ (u32V (S.at j + T.at j)) hE.out
         rw [begA_set, mixS_step S T j hjx] at hset
         replace hset := Lib.hid hset
         clear hmk hlen
         generalize S.at j = x at *
         generalize T.at j = y at *
         have hsum := u32I_add x y
         have j0 : (0 : Int) ≤ (j : Int) := by omega
         have j2 : (j : Int) < 8 := by omega
         go_upto_region 31 with fail
         refine wp_region_still_tail 9 (by kernel_rfl) (by kernel_rfl) ?_
         simp only [List.take_succ_cons, List.take_zero, List.drop_succ_cons, List.drop_zero]
         iterate 9 still_step
         try refine wpStill_nil ?_
         go_wp2_with fail
         have hM7 := Lib.hid (show (wr.setCell ⟨w.heap.size + 2, j, none⟩ (.int .u32 (u32I (x + y)))).drew.heap[mb]? = some (.cells (s8A T) 157 (0, 0)) from (Below.heap_setCell wr ⟨w.heap.size + 2, j, none⟩ _ mb (by show mb ≠ w.heap.size + 2; omega)).trans hM.out)
         have hE7 := Lib.hid (show (wr.setCell ⟨w.heap.size + 2, j, none⟩ (.int .u32 (u32I (x + y)))).drew.heap[w.heap.size + 2]? = some (.cells (begA (mixL S.list T.list (j + 1))) 157 (0, 0)) from hset.out)
         have hB7 := Lib.hid (show Below (w.heap.size + 2) W4 (wr.setCell ⟨w.heap.size + 2, j, none⟩ (.int .u32 (u32I (x + y)))).drew from by have := hB.out; (repeat' (first | (with_reducible first | exact Below.refl _ _ | assumption | refine bel_trans (by assumption) ?_ ?_ | refine bel_grown (by assumption) ?_ ?_ ?_ | refine Below.alloc ?_ ?_ _ | refine Below.drew ?_ | refine below_drewN ?_ _ | refine Below.setCell ?_ ?_ _ | refine below_put ?_ ?_ _ _ | exact Nat.le_refl _) | omega | (with_reducible first | refine Nat.le_trans ?_ (Below.size (by assumption)) | refine Nat.le_trans ?_ (World.grownBy.size (by assumption))) | (simp only [World.size_alloc, World.size_setCell, World.size_drew, size_drewN]; omega) | (simp only [World.size_alloc, World.size_setCell, World.size_drew, size_drewN, size_put]; omega) | (intro k hk; simp [Value.ownBlock] at hk; first | done | omega) | (simp [size_drewN] at *; omega))))
         have hbk7 := Lib.hid (show (wr.setCell ⟨w.heap.size + 2, j, none⟩ (.int .u32 (u32I (x + y)))).drew.heap[b]? = W4.heap[b]? from (Below.heap_setCell wr ⟨w.heap.size + 2, j, none⟩ _ b (by show b ≠ w.heap.size + 2; omega)).trans hbk.out)
         go_roundw
         case rel => exact ⟨j + 1, by omega, by go_num, hM7, hE7, hB7, hbk7⟩
         case measure => (first | omega | (simp [intOf]; done) | (simp [intOf]; omega))
        ·obtain rfl : j = 8 := by omega
         have hE9 := Lib.hid (show wr.heap[w.heap.size + 2]? = some (.cells (s8A (shaBlk S B)) 157 (0, 0)) from by rw [hsd.out, hT.out]; exact hE.out)
         have hQ : (P.drop (64 * k)).length = n := by rw [List.length_drop]; exact hn.out.symm
         have hrun9 : shaRun (shaBlk S B) (P.drop (64 * (k + 1))) = shaRun shaH P := by
          rw [← hrun.out, shaRun_long S (P.drop (64 * k)) (by omega), List.drop_drop, hBk.out, Nat.mul_succ]
         replace hrun9 := Lib.hid hrun9
         clear hM hE hQ
         go_wp2_with fail
         go_roundw
         case rel =>
          have hh := hnP2.out
          refine ⟨k + 1, shaBlk S B, if spc - 64 * k = 64 then 64 * k else 64 * k + 64, by omega, ?_, fun h => ?_, hrun9, hE9, hB, hbk⟩
          ·rw [show P.length - 64 * (k + 1) = n - 64 by omega, show spc - 64 * (k + 1) = spc - 64 * k - 64 by omega]
           split <;> rfl
          ·rw [if_neg (by omega)]
           omega
         case measure => (show n - 64 < n; omega)
       -- DEV>
  ·obtain hk0 : 64 * k = P.length := by omega
   have hSe : S = shaRun shaH P := by
    rw [← hrun.out, List.drop_of_length_le (by omega), shaRun_short _ _ (by simp)]
   have hfin2 := Lib.hid (show hashA hh = ((outL S 8).map byteV).toArray from by rw [outL_8, hSe]; exact congrArg hashA hfin.out)
   clear hrun hfin hbk hcell hSe hhe
   have hn0 : P.length - 64 * k = 0 := by omega
   rw [hn0]
   generalize spc - 64 * k = cc at *
   clear hn0 ho
   replace hk0 := Lib.hid hk0
   go_upto_region 33 with fail
   obtain ⟨W7, hW7⟩ : ∃ W7, W7 = wr.alloc (.cells (hashA zeroHash) 24) := ⟨_, rfl⟩
   have hO7 := Lib.hid (show W7.heap[wr.heap.size]? = some (.cells ((outL S 0).map byteV).toArray 24 (0, 0)) from by rw [hW7, outL_0]; exact heap_alloc_new wr _)
   have hob : w.heap.size + 2 < wr.heap.size := lt_of_block hV.out
   have hb7 : Below wr.heap.size wr W7 := by rw [hW7]; exact bel_a wr _
   have hE7 := (hb7.block _ hob).trans hV.out
   have hB7 := Lib.hid (hB.out.trans (hb7.mono (by omega)))
   have hz7 : W7.heap.size = wr.heap.size + 1 := by rw [hW7]; simp
   have hB70 := Lib.hid (Below.refl wr.heap.size W7)
   rw [← hW7]
   clear hW7 hb7 hB hV
   generalize wr.heap.size = ob at *
   go_wp2_with fail
   go_loopw [25] (fun i W => ∃ j : Nat, j ≤ 8 ∧ i = .int .i64 j ∧ Hid (W.heap[ob]? = some (.cells ((outL S j).map byteV).toArray 24 (0, 0))) ∧ Hid (Below ob W7 W)) (fun i _ => 8 - (intOf i).toNat)
   case atStart => exact ⟨0, by omega, rfl, hO7, hB70⟩
   case round =>
    clear hO7 hB70
    obtain ⟨j, hj, rfl, hO, hBo⟩ := hrel
    have j0 : (0 : Int) ≤ (j : Int) := by omega
    by_cases hjx : j < 8
    ·have j2 : (j : Int) < 8 := by omega
     have j3 : (0 : Int) ≤ 4 * (j : Int) := by omega
     have j4 : 4 * (j : Int) ≤ 32 := by omega
     have r0 := (cell_of_row wr (w.heap.size + 2) j _ _ _ ((hBo.out.block _ hob).trans hE7)).trans (s8A_at S j hjx)
     have r7 := (cell_of_row W7 (w.heap.size + 2) j _ _ _ hE7).trans (s8A_at S j hjx)
     have HP := fun W => rput_c 4 (S.at j).toNat W (by omega) (by omega) (by have := (S.at j).toNat_lt; omega)
     have hstp := Lib.hid (outL_step S j hjx)
     have hbe : be 4 (S.at j).toNat = be4 (S.at j) := rfl
     rw [hbe] at HP
     have hux : u32I (S.at j) = ((S.at j).toNat : Int) := rfl
     rw [hux] at r0 r7
     have hx1 : (0 : Int) ≤ ((S.at j).toNat : Int) := by omega
     have hx2 : ((S.at j).toNat : Int) < 4294967296 := by have := (S.at j).toNat_lt; omega
     clear hbe hux
     have hl4 := be4_length (S.at j)
     generalize be4 (S.at j) = B4 at *
     generalize (S.at j).toNat = x at *
     have hol : ob < wr.heap.size := lt_of_block hO.out
     have hw4 : IntKind.i64.wrap (4 * (j : Int)) = 4 * (j : Int) := IntWalk.i64_in _ (by omega)
     have hn4 : (4 * (j : Int)).toNat = 4 * j := by omega
     go_upto_region 36 with fail
     have hx3 : IntKind.u64.wrap (x : Int) = (x : Int) := by rw [IntKind.wrap_u64]; omega
     have HPd := HP wr.drew
     rw [show ((4 : Nat) : Int) = 4 from rfl] at HPd
     clear HP
     have hS0 : wr.drew.cell? ⟨w.heap.size + 2, j, none⟩ = some (.int .u32 (x : Int)) := r0
     have hl32 := outL_length S j hj
     have hOd : wr.drew.heap[ob]? = some (.cells ((outL S j).map byteV).toArray 24 (0, 0)) := hO.out
     have hBd : Below ob W7 wr.drew := by have := hBo.out; (repeat' (first | (with_reducible first | exact Below.refl _ _ | assumption | refine bel_trans (by assumption) ?_ ?_ | refine bel_grown (by assumption) ?_ ?_ ?_ | refine Below.alloc ?_ ?_ _ | refine Below.drew ?_ | refine below_drewN ?_ _ | refine Below.setCell ?_ ?_ _ | refine below_put ?_ ?_ _ _ | exact Nat.le_refl _) | omega | (with_reducible first | refine Nat.le_trans ?_ (Below.size (by assumption)) | refine Nat.le_trans ?_ (World.grownBy.size (by assumption))) | (simp only [World.size_alloc, World.size_setCell, World.size_drew, size_drewN]; omega) | (simp only [World.size_alloc, World.size_setCell, World.size_drew, size_drewN, size_put]; omega) | (intro k hk; simp [Value.ownBlock] at hk; first | done | omega) | (simp [size_drewN] at *; omega)))
     have hol2 : ob < wr.drew.heap.size := hol
     have hno : ¬ 32 = 4 * j := by omega
     have hcs : (B4.map byteV).length = Nat.min 4 (32 - 4 * j) := by
      rw [List.length_map, hl4]
      show 4 = min 4 (32 - 4 * j)
      omega
     have hc1 : ∀ v ∈ B4.map byteV, v.oneCell' = true := fun v hv => by
      obtain ⟨x, _, rfl⟩ := List.mem_map.1 hv
      rfl
     have hft : 4 * j + (B4.map byteV).length ≤ ((outL S j).map byteV).length := by rw [List.length_map, List.length_map, hl4, hl32]; omega
     go_region_held3 (fun W => W.cell? ⟨w.heap.size + 2, j, none⟩ = some (.int .u32 (x : Int))) (go_keep)
      (first
       | (go_simp; go_at_call 152; (with_reducible refine HPd.mono ?_); rintro e w5 ⟨v5, rfl, o5, hb5⟩; obtain ⟨⟨s5a, s5n, s5c⟩, rfl⟩ := o5.slice; have r5 : w5.cell? ⟨w.heap.size + 2, j, none⟩ = some (.int .u32 (x : Int)) := (hb5.cell (p := ⟨w.heap.size + 2, j, none⟩) (Nat.lt_trans hob hol2)).trans r0; have g5 : w5.heap[ob]? = some (.cells ((outL S j).map byteV).toArray 24 (0, 0)) := (hb5.block _ hol2).trans hOd; have b5 : Below ob W7 w5 := hBd.trans (hb5.mono (Nat.le_of_lt hol2)); have rd5 := o5.reads; have hn5 : s5n = 4 := rd5.1.trans hl4; subst hn5; dsimp only [Sl.v])
       | (refine step_copy_splice (by rfl) (.tmp 197) (.tmp 202) 32 32 (by rfl) 5 Try.underlying32 (by kernel_rfl) (some ⟨ob, 4 * j, none⟩) s5a (32 - 4 * j) (32 - 4 * j) 4 s5c (by rfl) (by rfl) ob (4 * j) ((outL S j).map byteV) 24 g5 (B4.map byteV) hcs (copy_at rd5 _) hft hc1 ob W7 b5 (Nat.le_refl _) ?_; intro w6 hg6 hb6; have r6 : w6.cell? ⟨w.heap.size + 2, j, none⟩ = some (.int .u32 (x : Int)) := (hb6.cell (p := ⟨w.heap.size + 2, j, none⟩) hob).trans r7))
     have hO8 := Lib.hid (hg6.out.trans (congrArg (fun l => some (Obj.cells l.toArray 24 (0, 0))) hstp.out))
     have hB8 := Lib.hid hb6
     clear hg6 hb6 hstp
     go_wp2_with fail
     go_roundw
     case rel => exact ⟨j + 1, by omega, by go_num, hO8, hB8⟩
     case measure => (first | omega | (simp [intOf]; done) | (simp [intOf]; omega))
    ·obtain rfl : j = 8 := by omega
     have hO8 := hO.out
     rw [← hfin2.out] at hO8
     have hrow : row? wr ob 0 32 = some (hashA hh) := row?_of_heap hO8 (by simp)
     have hth : there wr (w.heap.size + 1) 0 32 := there_below hBo.out (by omega) (there_below hB7.out (by omega) hT4.out)
     have hsz : (hashA hh).size = 32 := by simp
     go_wp2_with fail
     have hrr : row? (putRow wr (w.heap.size + 1) 0 (hashA hh)) (w.heap.size + 1) 0 32 = some (hashA hh) := row?_put_same _ _ _ _ _ hsz (by omega) hth
     refine ret_row Try.isAgg24 Try.sizeOf24 bsum_res (x := .pointer (some ⟨w.heap.size + 1, 0, none⟩)) (w.heap.size + 1) 0 rfl rfl (by rw [hrr]; rfl) rfl ?_
     rw [hrr]
     exact ⟨rfl, below_put (hB4.out.trans ((hB7.out.mono (by omega)).trans (hBo.out.mono (by omega)))) (by omega) _ _⟩
end Go.Proofs.Ythdjhbiigmcecaa
