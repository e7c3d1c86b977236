/- Texts of this proof, one behind the other: Stays. -/
import Derived.Test.YtkocpihfdpahpaaRC
import Derived.Deep.RegionHeld3
set_option linter.unusedVariables false
set_option linter.unusedSimpArgs false
/- The walk of landmarklaw11.RegistryStays. -/
namespace Go.Proofs.Ytkocpihfdpahpaa
open Go.RowKit

/-- a register whose memory does not hang on a block -/
def RegOff (p : Nat) (W : World) (g : GReg) (r : Reg) : Prop := ∀ W2 : World, W.heap.size ≤ W2.heap.size → (∀ k, k ≠ p → k < W.heap.size → W2.heap[k]? = W.heap[k]?) → RegR W2 g r
theorem RegOff.reg {p : Nat} {W : World} {g : GReg} {r : Reg} (h : RegOff p W g r) : RegR W g r := h W (Nat.le_refl _) fun _ _ _ => rfl
theorem RegOff.keep {p : Nat} {W W' : World} {g : GReg} {r : Reg} (h : RegOff p W g r) (hb : Below W.heap.size W W') : RegOff p W' g r := fun W2 h2 hb2 =>
  h W2 (Nat.le_trans hb.size h2) fun k h3 h4 => (hb2 k h3 (Nat.lt_of_lt_of_le h4 hb.size)).trans (hb.block k h4)
theorem RegOff.put {p : Nat} {W : World} {g : GReg} {r : Reg} (h : RegOff p W g r) (off : Nat) (xs : Array Value) : RegOff p (putRow W p off xs) g r := fun W2 h2 hb2 => by
  rw [size_put] at h2 hb2
  exact h W2 h2 fun k h3 h4 => (hb2 k h3 h4).trans (put_far _ _ _ _ k h3)
theorem RegAt.off {B p : Nat} {W : World} {g : GReg} {r : Reg} (h : RegAt B W g r) (hp : p < B) : RegOff p W g r := fun W2 h2 hb2 => h W2 h2 fun k h3 h4 => hb2 k (by omega) h4
theorem RegAt.offNew {B : Nat} {W W' : World} {g : GReg} {r : Reg} (h : RegAt B W g r) (hb : Below W.heap.size W W') : RegOff W.heap.size W' g r := fun W2 h2 hb2 =>
  h W2 (Nat.le_trans hb.size h2) fun k _ h4 => (hb2 k (by omega) (Nat.lt_of_lt_of_le h4 hb.size)).trans (hb.block k h4)
/-- the variable that holds a register -/
structure RVar (W : World) (p : Nat) (g : GReg) (r : Reg) : Prop where
  row : row? W p 0 4 = some (regA g)
  thr : there W p 0 4
  off : RegOff p W g r
theorem RVar.lt {W : World} {p : Nat} {g : GReg} {r : Reg} (h : RVar W p g r) : p < W.heap.size := lt_of_row h.row
theorem RVar.keep {W W' : World} {p : Nat} {g : GReg} {r : Reg} (h : RVar W p g r) (hb : Below W.heap.size W W') : RVar W' p g r := ⟨(row?_below _ _ _ hb h.lt).trans h.row, there_below hb h.lt h.thr, h.off.keep hb⟩
theorem RVar.set {W : World} {p : Nat} {g g' : GReg} {r r' : Reg} (h : RVar W p g r) (h' : RegOff p W g' r') : RVar (putRow W p 0 (regA g')) p g' r' :=
  ⟨row?_put_same _ _ _ _ _ (by rfl) (by omega) h.thr, there_put _ _ _ _ _ _ _ h.thr, h'.put _ _⟩
theorem RVar.box {W : World} {p : Nat} {g : GReg} {r : Reg} (h : RVar W p g r) : RBox W p g r := ⟨h.row, h.off.reg⟩
theorem hash_guard_s : Try.prog.eqGuardType Try.prog.depth 24 = false := by kernel_rfl
theorem hdr_epoch {w : World} {b off : Nat} {g : GHeader} (h : row? w b off 34 = some (headerA g)) : w.cell? ⟨b, off + 32, none⟩ = some (.int .u64 (g.epoch.toNat : Int)) := by
  have h1 := cell_of_row? h 32 (by omega)
  simp only [headerA_epoch] at h1
  exact h1
theorem two_box (W : World) (Z : Array Value) (t : TypeId) (hZ : Z.size = 35) : ∃ wz, ((W.alloc (.cells Z t)).alloc (.cells Z t)).drew = wz ∧ Below W.heap.size W wz ∧ wz.heap.size = W.heap.size + 2 ∧ there wz W.heap.size 0 35 ∧ there wz (W.heap.size + 1) 0 35 := by
  refine ⟨_, rfl, ((bel_a W _).trans ((bel_a _ _).mono (by simp))).drew, by simp, ?_, ?_⟩
  · exact there_old (W.alloc _) _ _ _ _ (by simp) (there_new W Z t 0 35 (by omega))
  · have h := there_new (W.alloc (.cells Z t)) Z t 0 35 (by omega)
    have e : (W.alloc (.cells Z t)).heap.size = W.heap.size + 1 := by simp
    rw [e] at h
    exact h
theorem one_box (W : World) (Z : Array Value) (t : TypeId) (hZ : Z.size = 35) (x : Mbr) : ∃ w1 w2, (W.alloc (.cells Z t)).drew = w1 ∧ Below W.heap.size W w1 ∧ w1.heap.size = W.heap.size + 1 ∧ there w1 W.heap.size 0 35 ∧
    (storeAgg 123 (.pointer (some ⟨W.heap.size, 0, none⟩)) (.agg (mbrA x))).run Try.prog w1 = .ok () (putRow w1 W.heap.size 0 (mbrA x)) ∧ (putRow w1 W.heap.size 0 (mbrA x)).alloc (.cells Z t) = w2 ∧ Below W.heap.size W w2 ∧ w2.heap.size = W.heap.size + 2 ∧
    (∀ y : Mbr, (storeAgg 123 (.pointer (some ⟨W.heap.size + 1, 0, none⟩)) (.agg (mbrA y))).run Try.prog w2 = .ok () (putRow w2 (W.heap.size + 1) 0 (mbrA y))) ∧
    (∀ y : Mbr, row? (putRow w2 (W.heap.size + 1) 0 (mbrA y)) W.heap.size 0 35 = some (mbrA x) ∧ row? (putRow w2 (W.heap.size + 1) 0 (mbrA y)) (W.heap.size + 1) 0 35 = some (mbrA y)) := by
  have hs : ∀ m : Mbr, (mbrA m).size = 35 := by intro m; simp [mbrA]
  have h1 : there (W.alloc (.cells Z t)).drew W.heap.size 0 35 := there_new W Z t 0 35 (by omega)
  have hb1 : Below W.heap.size W (W.alloc (.cells Z t)).drew := (bel_a W _).drew
  have hz1 : (W.alloc (.cells Z t)).drew.heap.size = W.heap.size + 1 := by simp
  generalize (W.alloc (.cells Z t)).drew = w1 at *
  refine ⟨w1, _, rfl, hb1, hz1, h1, store_mbr _ _ _ _ (hs x) (onesMbr x) h1, rfl, ?_⟩
  have hb2 : Below W.heap.size W (putRow w1 W.heap.size 0 (mbrA x)) := below_put hb1 (Nat.le_refl _) _ _
  have hr : row? (putRow w1 W.heap.size 0 (mbrA x)) W.heap.size 0 35 = some (mbrA x) := row?_put_same _ _ _ _ _ (hs x) (by omega) h1
  have hz2 : (putRow w1 W.heap.size 0 (mbrA x)).heap.size = W.heap.size + 1 := by rw [size_put]; exact hz1
  generalize putRow w1 W.heap.size 0 (mbrA x) = w2 at *
  have h3 := there_new w2 Z t 0 35 (by omega)
  have hr3 : row? (w2.alloc (.cells Z t)) W.heap.size 0 35 = some (mbrA x) := (row?_old _ _ _ _ _ (by omega)).trans hr
  rw [hz2] at h3
  refine ⟨hb2.trans ((bel_a w2 _).mono (by omega)), by simp; omega, fun y => store_mbr _ _ _ _ (hs y) (onesMbr y) h3, fun y => ⟨?_, row?_put_same _ _ _ _ _ (hs y) (by omega) h3⟩⟩
  rw [row?_put_far _ _ _ _ _ _ _ (by omega)]
  exact hr3
theorem put_two (wz : World) (p q : Nat) (x y : Mbr) (hpq : p ≠ q) (tp : there wz p 0 35) (tq : there wz q 0 35) :
    (storeAgg 123 (.pointer (some ⟨p, 0, none⟩)) (.agg (mbrA x))).run Try.prog wz = .ok () (putRow wz p 0 (mbrA x)) ∧
    (storeAgg 123 (.pointer (some ⟨q, 0, none⟩)) (.agg (mbrA y))).run Try.prog (putRow wz p 0 (mbrA x)) = .ok () (putRow (putRow wz p 0 (mbrA x)) q 0 (mbrA y)) ∧
    row? (putRow (putRow wz p 0 (mbrA x)) q 0 (mbrA y)) p 0 35 = some (mbrA x) ∧ row? (putRow (putRow wz p 0 (mbrA x)) q 0 (mbrA y)) q 0 35 = some (mbrA y) := by
  have hs : ∀ m : Mbr, (mbrA m).size = 35 := by intro m; simp [mbrA]
  refine ⟨store_mbr _ _ _ _ (hs x) (onesMbr x) tp, store_mbr _ _ _ _ (hs y) (onesMbr y) (there_put _ _ _ _ _ _ _ tq), ?_, ?_⟩
  · rw [row?_put_far _ _ _ _ _ _ _ hpq]
    exact row?_put_same _ _ _ _ _ (hs x) (by omega) tp
  · exact row?_put_same _ _ _ _ _ (hs y) (by omega) (there_put _ _ _ _ _ _ _ tq)
theorem stays_bounds {r : Reg} (h : RegP r) : r.members.length ≤ 1000000 ∧ r.coming.length ≤ 1000000 ∧ r.going.length ≤ 1000000 := by
  have h1 := h.len.2
  have h2 := h.coming.length_le
  have h3 := h.going.length_le
  omega
set_option maxRecDepth 100000 in
set_option maxHeartbeats 6400000 in
theorem stays_walk (g : GAnc) (a : Anc) (s : Sl) (l : List Hdr) (w : World) (ha : AncR w g a) (hl : HdrsR w s l) :
    Calls Try.prog 11 #[.agg (ancA g), s.v] w fun e w' => e = .returned (.bool true) ∧ Below w.heap.size w w' := by
  have HB0 := ABox.new w g a 113 ha
  have hB0 : Below w.heap.size w (w.alloc (.cells (ancA g) 113)) := bel_a _ _
  have hz0 : (w.alloc (.cells (ancA g) 113)).heap.size = w.heap.size + 1 := by simp
  have n1 := ha.2.1.1
  have n2 := hl.1
  have hep := ha.1
  have hHl := Lib.hid hl
  obtain ⟨gp, ⟨va, vn, vc⟩, gc, gd⟩ := g
  obtain ⟨sa, sn, sc⟩ := s
  simp only at n1 n2 hep
  subst n1 n2 hep
  clear ha hl
  show Calls Try.prog 11 #[.agg _, .slice sa l.length sc] w _
  go_enter Try.func11, Try.ntmps11
  go_upto_region 1 with fail
  generalize w.alloc (.cells (ancA ⟨a.point, ⟨va, a.vals.length, vc⟩, gc, gd⟩) 113) = W0 at *
  obtain ⟨_, c0, c33, _, _, _⟩ := HB0.cells
  have hrowA := HB0.row
  simp only at c0 c33
  dsimp only [Sl.v] at c33
  have HK := fun W => known11_c W
  by_cases s1 : (100 : Int) < (a.vals.length : Int)
  · go_wp2_with (go_at_call 55; (with_reducible refine (HK _).mono ?_); rintro e W4 ⟨rfl, hb4⟩)
    go_ret
    exact ⟨rfl, hB0.trans (hb4.mono (by omega))⟩
  by_cases s2 : (40 : Int) < (l.length : Int)
  · go_wp2_with (go_at_call 55; (with_reducible refine (HK _).mono ?_); rintro e W4 ⟨rfl, hb4⟩)
    go_ret
    exact ⟨rfl, hB0.trans (hb4.mono (by omega))⟩
  have hv1 : a.vals.length ≤ 1000000 := by omega
  have hl40 : l.length ≤ 1000000 := by omega
  have HF := first_c HB0.anc hv1
  have HFP := Lib.hid (show firstP a = if ancMay a then (firstReg a, 0) else (zeroReg, 2) from rfl)
  have hMayP := Lib.hid (show ancMay a = true → RegP (firstReg a) from first_may)
  go_wp2_with fail
  refine HF.mono ?_
  clear HF
  rintro e w2 ⟨g0, rfl, hR0, hb2⟩
  have hz2 := hb2.size
  have hA2 := HB0.keep hb2
  have hB2 := Lib.hid (hB0.trans (hb2.mono (by omega)))
  clear hb2 HB0 hB0 c0 c33 hrowA s1 s2
  obtain ⟨r0, hr0⟩ : ∃ r, r = (firstP a).1 := ⟨_, rfl⟩
  obtain ⟨e0, he0⟩ : ∃ c, c = (firstP a).2 := ⟨_, rfl⟩
  rw [← hr0] at hR0
  rw [← he0]
  replace hr0 := Lib.hid hr0
  replace he0 := Lib.hid he0
  go_upto_region 4 with fail
  obtain ⟨w3, hw3, hr3, ht3, hb3, hz3⟩ := box_reg w2 g0
  rw [← hw3]
  have hV3 : RVar w3 w2.heap.size g0 r0 := ⟨hr3, ht3, hR0.offNew hb3⟩
  clear hw3 hr3 ht3 hR0
  obtain ⟨p5, hp5⟩ : ∃ p, p = w2.heap.size := ⟨_, rfl⟩
  rw [← hp5] at hV3 ⊢
  have hA3 := hA2.keep hb3
  have hB3 := Lib.hid (hB2.out.trans (hb3.mono (by omega)))
  have hwp : w.heap.size < p5 := by omega
  clear hb3 hz3 hA2 hB2 hp5 hz2 hz0
  obtain ⟨_, c0, c33, _, _, hAl⟩ := hA3.cells
  have hrowA := hA3.row
  simp only at c0 c33
  dsimp only [Sl.v] at c33
  have HMA := fun W (hb : Below w3.heap.size w3 W) => fmayAnchor_c (hA3.keep hb).anc hv1
  cases hma : ancMay a
  · have hc : e0 = 2 := by rw [he0.out, HFP.out, hma]; rfl
    subst hc
    have HMA := HMA w3 (Below.refl _ _)
    rw [hma] at HMA
    clear hV3
    go_wp2_with (first
      | (go_at_call 63; (with_reducible refine HMA.mono ?_); rintro e w4 ⟨rfl, hb4⟩)
      | (go_at_call 55; (with_reducible refine (HK _).mono ?_); rintro e w5 ⟨rfl, hb5⟩))
    go_ret
    have hz4 := hb4.size
    have hz3 := hB3.out.size
    exact ⟨rfl, hB3.out.trans ((hb4.mono hz3).trans (hb5.mono (by omega)))⟩
  have hc : e0 = 0 := by rw [he0.out, HFP.out, hma]; rfl
  have hr : r0 = firstReg a := by rw [hr0.out, HFP.out, hma]; rfl
  have hP0 := Lib.hid (show RegP r0 by rw [hr]; exact hMayP.out hma)
  subst hc
  clear hma HMA hr hr0 he0 HFP hMayP c33 hrowA
  replace hV3 := Lib.hid hV3
  have hB33 := Lib.hid (Below.refl w3.heap.size w3)
  replace hA3 := Lib.hid hA3
  go_upto_region 8 with fail
  go_loopw [7, 8] (fun t i W' => ∃ (k : Nat) (rr : Reg) (gr : GReg) (en : UInt64), k ≤ l.length ∧ t = .int .u64 (en.toNat : Int) ∧ i = .int .i64 k ∧ Hid (RegP rr) ∧ Hid (RVar W' p5 gr rr) ∧ Hid (Below w.heap.size w W')) (fun _ i _ => l.length - (intOf i).toNat)
  case atStart => exact ⟨0, r0, g0, a.point.epoch, Nat.zero_le _, rfl, rfl, hP0, hV3, hB3⟩
  case round =>
    clear hV3 hB33 hP0 hA3 c0 hAl hB3
    obtain ⟨k, rr, gr, en, hk, rfl, rfl, hP, hV, hB⟩ := hrel
    by_cases hkx : k < l.length
    · have hkl := Lib.hid (show k + 1 ≤ l.length from hkx)
      obtain ⟨bh, oh, e, hbh, hch⟩ := (HdrsR.keep' hHl.out hB.out).at (by omega)
      have e1 := congrArg Sl.a e
      simp only at e1
      subst e1
      clear e
      obtain ⟨cs, hcx, g1, rfl, hv1⟩ := hch k hkx
      clear hch
      generalize l[k] = h at *
      have k1 : (k : Int) < (l.length : Int) := by omega
      have hbw := hB.out.size
      have HMu := rmuch_c g1 h wr hv1
      have hepg := Lib.hid hv1.2.1
      have hmo := Lib.hid (show rmuch h = false → HdrFits h from fun e => (rmuch_out e).1)
      generalize rmuch h = mu at *
      have hpl := hV.out.lt
      go_wp2_with fail
      refine HMu.mono ?_
      clear HMu
      rintro e w4 ⟨rfl, hb4⟩
      have hz4 := hb4.size
      have hV4 := Lib.hid (hV.out.keep hb4)
      have hB4 := Lib.hid (hB.out.trans (hb4.mono hbw))
      have hv4 := hv1.keep' hb4
      have hcx4 := (row?_below _ _ _ hb4 hbh).trans hcx
      have hbh4 : bh < w4.heap.size := by omega
      clear hb4 hV hv1 hcx hbh
      cases mu
      rotate_left
      · go_wp2_with (go_at_call 55; (with_reducible refine (HK _).mono ?_); rintro e w5 ⟨rfl, hb5⟩)
        go_ret
        exact ⟨rfl, hB4.out.trans (hb5.mono hB4.out.size)⟩
      have hfit := hmo.out rfl
      clear hmo
      obtain ⟨q1, q2, q3⟩ := stays_bounds hP.out
      have hpl4 : p5 < w4.heap.size := by omega
      obtain ⟨nr, hnr⟩ : ∃ x, x = regNext rr h en := ⟨_, rfl⟩
      have HNX := fun W (hb : Below w4.heap.size w4 W) => next_c en (hV4.out.keep hb).off.reg (hv4.keep' hb) q1 q2 q3 hfit
      rw [← hnr] at HNX
      replace hnr := Lib.hid hnr
      obtain ⟨wa, hwa⟩ : ∃ wa, wa = (w4.alloc (.cells #[.slice none 0 0, .slice none 0 0, .slice none 0 0, .int .u64 0] 103)).drew := ⟨_, rfl⟩
      have hba : Below w4.heap.size w4 wa := by rw [hwa]; exact (bel_a w4 _).drew
      have hza : wa.heap.size = w4.heap.size + 1 := by rw [hwa]; simp
      have hta : there wa w4.heap.size 0 4 := by rw [hwa]; exact there_new w4 _ _ 0 4 (by simp)
      have HNA := HNX w4.drew ((Below.refl _ w4).drew)
      have HNB := HNX wa hba
      have S0 : row? w4.drew p5 0 4 = some (regA gr) ∧ row? w4.drew bh (oh + k * 34) 34 = some (headerA g1) := ⟨hV4.out.row, hcx4⟩
      have S1 : row? wa p5 0 4 = some (regA gr) ∧ row? wa bh (oh + k * 34) 34 = some (headerA g1) := ⟨(row?_below _ _ _ hba hpl4).trans hV4.out.row, (row?_below _ _ _ hba hbh4).trans hcx4⟩
      have hwa' := hwa.symm
      clear q1 q2 q3 hfit hv4 HNX hwa
      obtain ⟨N, code⟩ := nr
      go_upto_region 12 with fail
      go_cut [9, 10] from 41 to 146 (fun u c W => ∃ (p9 : Nat) (gN : GReg), u = .pointer (some ⟨p9, 0, none⟩) ∧ c = .int .i64 code ∧ p9 ≠ p5 ∧ Hid (RVar W p9 gN N) ∧ Hid (RegOff p5 W gN N) ∧ Hid (Below w4.heap.size w4 W))
      case first =>
        go_region_held3 (fun W => row? W p5 0 4 = some (regA gr) ∧ row? W bh (oh + k * 34) 34 = some (headerA g1))
          (first | go_keep | (with_reducible exact S0) | (with_reducible exact S1) | (rw [hwa']; with_reducible exact S1) | (with_reducible exact S6) | (with_reducible exact S7) | (with_reducible exact S8))
          (first
            | (go_simp; go_at_call 58; (with_reducible refine HNA.mono ?_); rintro e w6 ⟨gN, rfl, hRN, hb6⟩;
               have S6 : row? w6 p5 0 4 = some (regA gr) ∧ row? w6 bh (oh + k * 34) 34 = some (headerA g1) := ⟨(row?_below _ _ _ (undrew hb6) hpl4).trans S0.1, (row?_below _ _ _ (undrew hb6) hbh4).trans S0.2⟩;
               have l6 : p5 < w6.heap.size := Nat.lt_of_lt_of_le hpl4 hb6.size;
               have m6 : bh < w6.heap.size := Nat.lt_of_lt_of_le hbh4 hb6.size;
               have S7 : row? (w6.alloc (.cells #[.slice none 0 0, .slice none 0 0, .slice none 0 0, .int .u64 0] 103)) p5 0 4 = some (regA gr) ∧ row? (w6.alloc (.cells #[.slice none 0 0, .slice none 0 0, .slice none 0 0, .int .u64 0] 103)) bh (oh + k * 34) 34 = some (headerA g1) := ⟨(row?_old _ _ _ _ _ l6).trans S6.1, (row?_old _ _ _ _ _ m6).trans S6.2⟩;
               have S8 : row? (putRow (w6.alloc (.cells #[.slice none 0 0, .slice none 0 0, .slice none 0 0, .int .u64 0] 103)) w6.heap.size 0 (regA gN)) p5 0 4 = some (regA gr) ∧ row? (putRow (w6.alloc (.cells #[.slice none 0 0, .slice none 0 0, .slice none 0 0, .int .u64 0] 103)) w6.heap.size 0 (regA gN)) bh (oh + k * 34) 34 = some (headerA g1) := ⟨(row?_put_far _ _ _ _ _ _ _ (Nat.ne_of_lt l6)).trans S7.1, (row?_put_far _ _ _ _ _ _ _ (Nat.ne_of_lt m6)).trans S7.2⟩)
            | (go_simp; go_at_call 58; (with_reducible refine HNB.mono ?_); rintro e w6 ⟨gN, rfl, hRN, hb6⟩;
               have S6 : row? w6 p5 0 4 = some (regA gr) ∧ row? w6 bh (oh + k * 34) 34 = some (headerA g1) := ⟨(row?_below _ _ _ hb6 (Nat.lt_of_lt_of_le hpl4 hba.size)).trans S1.1, (row?_below _ _ _ hb6 (Nat.lt_of_lt_of_le hbh4 hba.size)).trans S1.2⟩;
               have ht6 := there_below hb6 (show w4.heap.size < wa.heap.size by omega) hta;
               have hst6 := store_reg w6 w4.heap.size 0 (regA gN) rfl (onesReg _) ht6;
               have S8 : row? (putRow w6 w4.heap.size 0 (regA gN)) p5 0 4 = some (regA gr) ∧ row? (putRow w6 w4.heap.size 0 (regA gN)) bh (oh + k * 34) 34 = some (headerA g1) := ⟨(row?_put_far _ _ _ _ _ _ _ (Nat.ne_of_lt hpl4)).trans S6.1, (row?_put_far _ _ _ _ _ _ _ (Nat.ne_of_lt hbh4)).trans S6.2⟩))
        · obtain ⟨w9, hw9, hr9, ht9, hb9, hz9⟩ := box_reg w6 gN
          rw [← hw9]
          have hV9 : RVar w9 w6.heap.size gN N := ⟨hr9, ht9, hRN.offNew hb9⟩
          have hb49 : Below w4.heap.size w4 w9 := (show Below w4.heap.size w4 w6 from undrew hb6).trans (hb9.mono hb6.size)
          have hV5 := hV4.out.keep hb49
          have hO9 : RegOff p5 w9 gN N := (hRN.keep hb9).off (show p5 < w4.drew.heap.size from hpl4)
          try simp only
          have hne : w6.heap.size ≠ p5 := by omega
          go_wp2_with fail
          go_meet
          exact ⟨w6.heap.size, gN, rfl, rfl, hne, Lib.hid hV9, Lib.hid hO9, Lib.hid hb49⟩
        · obtain ⟨w9, hw9⟩ : ∃ w9, w9 = putRow w6 w4.heap.size 0 (regA gN) := ⟨_, rfl⟩
          have hV9 : RVar w9 w4.heap.size gN N := by
            rw [hw9]
            exact ⟨row?_put_same _ _ _ _ _ (by rfl) (by omega) ht6, there_put _ _ _ _ _ _ _ ht6, (hRN.off (by omega)).put _ _⟩
          have hb49 : Below w4.heap.size w4 w9 := by
            rw [hw9]
            exact below_put (hba.trans (hb6.mono (by omega))) (Nat.le_refl _) _ _
          have hV5 := hV4.out.keep hb49
          have hO9 : RegOff p5 w9 gN N := by
            rw [hw9]
            exact (hRN.put (show w4.heap.size < wa.heap.size by omega)).off (by omega)
          rw [← hw9]
          try simp only
          have hne : w4.heap.size ≠ p5 := by omega
          clear hw9 S6 S8 hRN hb6 ht6 hst6
          obtain ⟨p9, hp9⟩ : ∃ p9, p9 = w4.heap.size := ⟨_, rfl⟩
          rw [← hp9] at hV9 hne ⊢
          go_wp2_with fail
          go_meet
          exact ⟨p9, gN, rfl, rfl, hne, Lib.hid hV9, Lib.hid hO9, Lib.hid hb49⟩
      case rest =>
        obtain ⟨p9, gN, rfl, rfl, hne, hV9, hO9, hb49⟩ := hcut
        generalize wc = w9 at *
        replace hV9 := hV9.out
        replace hO9 := hO9.out
        replace hb49 := hb49.out
        have hV5 := hV4.out.keep hb49
        have hB9 := Lib.hid (hB4.out.trans (hb49.mono hB4.out.size))
        have hcx9 := (row?_below _ _ _ hb49 hbh4).trans hcx4
        have hbh9 : bh < w9.heap.size := Nat.lt_of_lt_of_le hbh4 hb49.size
        have hep1 := Lib.hid (show g1.epoch = h.epoch from hepg.out)
        clear hb49 hwa' S0 S1 hza hba hta HNA HNB hcx4 hbh4 hz4 hbw hpl hpl4
        by_cases hz : code = 0
        rotate_left
        · have bz : (code != 0) = true := by simpa using hz
          clear hz
          replace hV5 := Lib.hid hV5
          replace hV9 := Lib.hid hV9
          replace hO9 := Lib.hid hO9
          go_wp2_with fail
          go_roundw
          case rel => exact ⟨k + 1, rr, gr, en, hkl.out, rfl, by go_num, hP, hV5, hB9⟩
          case measure =>
            have := hkl.out
            simp [intOf]
            omega
        · subst hz
          have hzz : (regNext rr h en).2 = 0 := by rw [← hnr.out]
          have hN : N = (regNext rr h en).1 := by rw [← hnr.out]
          have hP9 := Lib.hid (show RegP N by rw [hN]; exact regNext_may hzz)
          have hold := Lib.hid (show ∀ (j : Nat) (m : Mbr), rr.members[j]? = some m → ∃ m', N.members[j]? = some m' ∧ m'.key = m.key ∧ m'.stake = m.stake ∧ (m.marked = true → m'.marked = true) ∧ m.status ≤ m'.status from fun j m hj => by
            obtain ⟨m', e1, e2, e3, e4, e5, _⟩ := next_old hzz hj
            rw [hN]
            exact ⟨m', e1, e2, e3, e4, e5⟩)
          have hnew := Lib.hid (show ∀ (j : Nat) (m' : Mbr), rr.members.length ≤ j → N.members[j]? = some m' → m'.status = 1 from fun j m' hj hm => by
            rw [hN] at hm
            exact next_new hzz hj hm)
          have hlen : rr.members.length ≤ N.members.length := by rw [hN]; exact next_len hzz
          have hl64 := hP9.out.len.2
          have hsome := Lib.hid (show (N.members.any fun x => decide (x.status = 2)) = true by
            obtain ⟨m, h1, h2⟩ := hP9.out.act
            exact List.any_eq_true.2 ⟨m, h1, decide_eq_true h2⟩)
          clear hzz hN
          have ln := hV9.off.reg.1.1
          have lr := hV5.off.reg.1.1
          obtain ⟨x0, -, -, -, xl9⟩ := hV9.box.cells
          obtain ⟨y0, -, -, -, yl9⟩ := hV5.box.cells
          obtain ⟨⟨na, nn, nc⟩, n1, n2, nch⟩ := gN
          obtain ⟨⟨ra, rn, rc⟩, r1, r2, rch⟩ := gr
          simp only at ln lr x0 y0
          subst ln lr
          dsimp only [Sl.v] at x0 y0
          replace hV5 := Lib.hid hV5
          replace hV9 := Lib.hid hV9
          replace hO9 := Lib.hid hO9
          have hnl : ¬ (N.members.length : Int) < (rr.members.length : Int) := by omega
          have hb99 := Lib.hid (Below.refl w9.heap.size w9)
          go_upto_region 18 with fail
          generalize wr = wo at *
          go_loopw [11, 12] (fun st j W' => ∃ m : Nat, m ≤ N.members.length ∧ st = .bool ((N.members.take m).any fun x => decide (x.status = 2)) ∧ j = .int .i64 m ∧ Hid (Below w9.heap.size w9 W')) (fun _ j _ => N.members.length - (intOf j).toNat)
          case atStart => exact ⟨0, Nat.zero_le _, rfl, rfl, hb99⟩
          case round =>
            clear hb99
            obtain ⟨m, hm, rfl, rfl, hBm⟩ := hrel
            have hzm := hBm.out.size
            have hV9m := hV9.out.keep hBm.out
            have hV5m := hV5.out.keep hBm.out
            have u0 := (hBm.out.cell (p := ⟨p9, 0, none⟩) hV9.out.lt).trans x0
            have v0 := (hBm.out.cell (p := ⟨p5, 0, none⟩) hV5.out.lt).trans y0
            by_cases hmx : m < N.members.length
            · obtain ⟨bn, on, en2, hbn, hrn, -⟩ := mbrs_at hV9m.off.reg.1 (by omega)
              have e1 := congrArg Sl.a en2
              simp only at e1
              subst e1
              clear en2
              have hrowy := hrn m hmx
              clear hrn
              have hgy := List.getElem?_eq_getElem hmx
              have Hany := Lib.hid (any_snoc (fun x : Mbr => decide (x.status = 2)) N.members m hmx)
              generalize N.members[m] = y at *
              have m1 : (m : Int) < (N.members.length : Int) := by omega
              obtain ⟨-, -, ys, -⟩ := mbr_cells hrowy
              obtain ⟨s, hs⟩ : ∃ s, s = (N.members.take m).any fun x => decide (x.status = 2) := ⟨_, rfl⟩
              rw [← hs]
              have Hs := Lib.hid (show ((N.members.take (m + 1)).any fun x => decide (x.status = 2)) = (s || decide (y.status = 2)) by rw [hs]; exact Hany.out)
              clear hs Hany
              have hlk := Lib.hid hlen
              have hm1 := Lib.hid (show m + 1 ≤ N.members.length from hmx)
              go_upto_region 20 with fail
              go_cut [11] from 72 to 138 (fun u W => u = .bool (s || decide (y.status = 2)) ∧ W = wr)
              case first =>
                cases s
                all_goals
                  go_wp2_with fail
                  go_meet
                  exact ⟨congrArg Value.bool (by first | rfl | simp), rfl⟩
              case rest =>
                obtain ⟨rfl, hwc⟩ := hcut
                subst wc
                by_cases hmo : m < rr.members.length
                · have mo1 : ¬ (m : Int) ≥ (rr.members.length : Int) := by omega
                  have mo2 : (m : Int) < (rr.members.length : Int) := by omega
                  obtain ⟨br, orr, er2, hbr, hrr, -⟩ := mbrs_at hV5m.off.reg.1 (by omega)
                  have e1 := congrArg Sl.a er2
                  simp only at e1
                  subst e1
                  clear er2
                  have hrowx := hrr m hmo
                  clear hrr
                  obtain ⟨y', e1, e2, e3, e4, e5⟩ := hold.out m _ (List.getElem?_eq_getElem hmo)
                  rw [hgy] at e1
                  cases e1
                  generalize rr.members[m] = x at *
                  obtain ⟨wz, hwz, hbz, hzz2, tz1, tz2⟩ := two_box wr #[.int .u8 0, .int .u8 0, .int .u8 0, .int .u8 0, .int .u8 0, .int .u8 0, .int .u8 0, .int .u8 0, .int .u8 0, .int .u8 0, .int .u8 0, .int .u8 0, .int .u8 0, .int .u8 0, .int .u8 0, .int .u8 0, .int .u8 0, .int .u8 0, .int .u8 0, .int .u8 0, .int .u8 0, .int .u8 0, .int .u8 0, .int .u8 0, .int .u8 0, .int .u8 0, .int .u8 0, .int .u8 0, .int .u8 0, .int .u8 0, .int .u8 0, .int .u8 0, .int .u64 0, .int .i64 0, .bool false] 123 rfl
                  obtain ⟨sa1, sa2, ra1, ra2⟩ := put_two wz wr.heap.size (wr.heap.size + 1) x y (by omega) tz1 tz2
                  obtain ⟨sb1, sb2, rb1, rb2⟩ := put_two wz (wr.heap.size + 1) wr.heap.size x y (by omega) tz2 tz1
                  have zu0 := (hbz.cell (p := ⟨p9, 0, none⟩) hV9m.lt).trans u0
                  have zv0 := (hbz.cell (p := ⟨p5, 0, none⟩) hV5m.lt).trans v0
                  have zry := (row?_below _ _ _ hbz hbn).trans hrowy
                  have zrx := (row?_below _ _ _ hbz hbr).trans hrowx
                  have zry1 := (row?_put_far wz wr.heap.size 0 (mbrA x) bn (on + m * 35) 35 (by omega)).trans zry
                  have zry2 := (row?_put_far wz (wr.heap.size + 1) 0 (mbrA x) bn (on + m * 35) 35 (by omega)).trans zry
                  have zu1 := (cell_put_far wz wr.heap.size 0 (mbrA x) p9 0 (by omega)).trans zu0
                  have zu2 := (cell_put_far wz (wr.heap.size + 1) 0 (mbrA x) p9 0 (by omega)).trans zu0
                  obtain ⟨w1z, w2z, hw1, hb1z, hs1z, -, sc1, hw2, hb2z, hs2z, sc2, rc⟩ := one_box wr #[.int .u8 0, .int .u8 0, .int .u8 0, .int .u8 0, .int .u8 0, .int .u8 0, .int .u8 0, .int .u8 0, .int .u8 0, .int .u8 0, .int .u8 0, .int .u8 0, .int .u8 0, .int .u8 0, .int .u8 0, .int .u8 0, .int .u8 0, .int .u8 0, .int .u8 0, .int .u8 0, .int .u8 0, .int .u8 0, .int .u8 0, .int .u8 0, .int .u8 0, .int .u8 0, .int .u8 0, .int .u8 0, .int .u8 0, .int .u8 0, .int .u8 0, .int .u8 0, .int .u64 0, .int .i64 0, .bool false] 123 rfl x
                  replace sc2 := sc2 y
                  have hwz1 : w1z.alloc (.cells #[.int .u8 0, .int .u8 0, .int .u8 0, .int .u8 0, .int .u8 0, .int .u8 0, .int .u8 0, .int .u8 0, .int .u8 0, .int .u8 0, .int .u8 0, .int .u8 0, .int .u8 0, .int .u8 0, .int .u8 0, .int .u8 0, .int .u8 0, .int .u8 0, .int .u8 0, .int .u8 0, .int .u8 0, .int .u8 0, .int .u8 0, .int .u8 0, .int .u8 0, .int .u8 0, .int .u8 0, .int .u8 0, .int .u8 0, .int .u8 0, .int .u8 0, .int .u8 0, .int .u64 0, .int .i64 0, .bool false] 123) = wz := by rw [← hw1]; exact hwz
                  obtain ⟨rc1, rc2⟩ := rc y
                  have yu0 := (hb1z.cell (p := ⟨p9, 0, none⟩) hV9m.lt).trans u0
                  have yv0 := (hb1z.cell (p := ⟨p5, 0, none⟩) hV5m.lt).trans v0
                  have yry := (row?_below _ _ _ hb1z hbn).trans hrowy
                  have yrx := (row?_below _ _ _ hb1z hbr).trans hrowx
                  have xu0 := (hb2z.cell (p := ⟨p9, 0, none⟩) hV9m.lt).trans u0
                  have xry := (row?_below _ _ _ hb2z hbn).trans hrowy
                  have yu1 := (cell_put_far w1z wr.heap.size 0 (mbrA x) p9 0 (by omega)).trans yu0
                  have yry1 := (row?_put_far w1z wr.heap.size 0 (mbrA x) bn (on + m * 35) 35 (by omega)).trans yry
                  have yz1 : (putRow w1z wr.heap.size 0 (mbrA x)).heap.size = wr.heap.size + 1 := by rw [size_put]; exact hs1z
                  clear tz1 tz2
                  go_upto_region 24 with fail
                  have hpq : wr.heap.size ≠ wr.heap.size + 1 := by omega
                  have hba := Lib.hid (hBm.out.trans ((below_put (below_put hbz (Nat.le_refl _) 0 (mbrA x)) (show wr.heap.size ≤ wr.heap.size + 1 by omega) 0 (mbrA y)).mono hzm))
                  have hbb := Lib.hid (hBm.out.trans ((below_put (below_put hbz (show wr.heap.size ≤ wr.heap.size + 1 by omega) 0 (mbrA x)) (Nat.le_refl _) 0 (mbrA y)).mono hzm))
                  go_cut [13, 14] from 72 to 138 (fun u v W => ∃ q1 q2 : Nat, u = .pointer (some ⟨q1, 0, none⟩) ∧ v = .pointer (some ⟨q2, 0, none⟩) ∧ Hid (row? W q1 0 35 = some (mbrA x)) ∧ Hid (row? W q2 0 35 = some (mbrA y)) ∧ Hid (Below w9.heap.size w9 W))
                  case first =>
                    go_region
                    · go_wp2_with fail
                      go_meet
                      exact ⟨_, _, rfl, rfl, Lib.hid ra1, Lib.hid ra2, hba⟩
                    · go_wp2_with fail
                      go_meet
                      exact ⟨_, _, rfl, rfl, Lib.hid rb1, Lib.hid rb2, hbb⟩
                  case rest =>
                    obtain ⟨q1, q2, rfl, rfl, rx, ry, hbf⟩ := hcut
                    replace rx := rx.out
                    replace ry := ry.out
                    clear sa1 sa2 ra1 ra2 sb1 sb2 rb1 rb2 sc1 sc2 rc rc1 rc2 hwz hwz1 hw1 hw2 zu0 zv0 zry zrx zry1 zry2 zu1 zu2 yu0 yv0 yry yrx xu0 xry yu1 yry1 yz1
                    obtain ⟨kx, sx, tx, mx⟩ := mbr_cells rx
                    obtain ⟨ky, sy, ty, my⟩ := mbr_cells ry
                    simp only [Nat.zero_add] at kx sx tx mx ky sy ty my
                    rw [e2] at ky
                    rw [e3] at sy
                    have hlt1 : decide (y.status < x.status) = false := by simp; omega
                    clear e2 e3 e5 rx ry hbz hb1z hb2z hrowx hrowy ys u0 v0 hzz2 hs1z hs2z hzm hbn hbr hpq hba hbb
                    generalize x.status = vx at *
                    have hg := hash_guard_s
                    cases hmk : x.marked
                    all_goals
                      try have hmk2 := e4 hmk
                      try rw [hmk2] at my
                      rw [hmk] at mx
                      clear hmk e4
                      try clear hmk2
                      clear hHl hnr hold hnew hsome hP hP9 hB9 hO9 hV9 hV5 hV4 hB4 hV9m hV5m hgy hBm hlk
                      go_wp2_with fail
                      go_roundw
                      case rel => exact ⟨m + 1, hm1.out, by rw [Hs.out], by go_num, hbf⟩
                      case measure =>
                        have := hm1.out
                        simp [intOf]
                        omega
                · have mo1 : (m : Int) ≥ (rr.members.length : Int) := by omega
                  have hst1 : y.status = 1 := hnew.out m y (by omega) hgy
                  rw [hst1] at ys
                  replace hst1 := Lib.hid hst1
                  replace hgy := Lib.hid hgy
                  replace hBm := Lib.hid hBm.out
                  clear hrowy
                  go_wp2_with fail
                  go_roundw
                  case rel => exact ⟨m + 1, hm1.out, by rw [Hs.out, hst1.out], by go_num, hBm⟩
                  case measure =>
                    have := hm1.out
                    simp [intOf]
                    omega
            · obtain rfl : N.members.length = m := by omega
              have m1 : ¬ (N.members.length : Int) < (N.members.length : Int) := by omega
              have hst : ((N.members.take N.members.length).any fun x => decide (x.status = 2)) = true := by rw [List.take_length]; exact hsome.out
              rw [hst]
              obtain ⟨bh2, oh2, e2, hbh2, -⟩ := hHl.out.at (by omega)
              have e1 := congrArg Sl.a e2
              simp only [Option.some.injEq, Addr.mk.injEq, and_true] at e1
              obtain ⟨rfl, rfl⟩ := e1
              clear e2
              have hcxm := (row?_below _ _ _ hBm.out hbh9).trans hcx9
              have hcm := hdr_epoch hcxm
              rw [hep1.out] at hcm
              obtain ⟨wd, hwd⟩ : ∃ wd, wd = wr.drew := ⟨_, rfl⟩
              have hBd : Below w9.heap.size w9 wd := by rw [hwd]; exact hBm.out.drew
              have hVd : RVar wd p5 _ _ := hV5.out.keep hBd
              have hcmd : wd.cell? ⟨bh, oh + k * 34 + 32, none⟩ = some (.int .u64 (h.epoch.toNat : Int)) := by rw [hwd]; exact hcm
              have hcm2 := (cell_put_far wd p5 0 (regA ⟨⟨na, N.members.length, nc⟩, n1, n2, nch⟩) bh (oh + k * 34 + 32) (by omega)).trans hcmd
              have hst5 := store_reg wd p5 0 (regA ⟨⟨na, N.members.length, nc⟩, n1, n2, nch⟩) rfl (onesReg _) hVd.thr
              have hrow9 := (hV9.out.keep hBd).row
              have hV5f := Lib.hid (hVd.set (hO9.out.keep (hBd.mono (Nat.le_refl _))))
              have hBf := Lib.hid (below_put (hB9.out.trans (hBd.mono hB9.out.size)) (show w.heap.size ≤ p5 by omega) 0 (regA ⟨⟨na, N.members.length, nc⟩, n1, n2, nch⟩))
              clear hVd hBd
              replace hwd := hwd.symm
              clear hst v0
              go_upto_region 29 with fail
              go_region
              go_wp2_with fail
              go_roundw
              case rel => exact ⟨k + 1, N, _, h.epoch, hkl.out, rfl, by go_num, hP9, hV5f, hBf⟩
              case measure =>
                have := hkl.out
                simp [intOf]
                omega
    · go_wp2_with (go_at_call 55; (with_reducible refine (HK _).mono ?_); rintro e w5 ⟨rfl, hb5⟩)
      go_ret
      exact ⟨rfl, hB.out.trans (hb5.mono hB.out.size)⟩
end Go.Proofs.Ytkocpihfdpahpaa
