/- Texts of this proof, one behind the other: Joins, OpenU. -/
import Derived.Test.YtkocpihfdpahpaaRE
import Derived.Deep.RegionHeld3
import Derived.Deep.CutRange
import Derived.Deep.CutBlock
import Derived.Deep.QuietTactic
import Derived.BigQuiet
import Derived.Test.YtkocpihfdpahpaaRC
set_option linter.unusedVariables false
set_option linter.unusedSimpArgs false
/- The walk of landmarklaw11.RegistryJoins. -/
namespace Go.Proofs.Ytkocpihfdpahpaa
open Go.RowKit
attribute [local go_sem] regA_size

abbrev EpsR (w : World) (s : Sl) (l : List UInt64) : Prop := SlR 1 (fun cs x => cs = epA x) w s l
theorem eps_at {w : World} {s : Sl} {l : List UInt64} (h : EpsR w s l) (hl : 0 < l.length) : ∃ b off, s = ⟨some ⟨b, off, none⟩, l.length, s.c⟩ ∧ b < w.heap.size ∧ ∀ (i : Nat) (hi : i < l.length), w.cell? ⟨b, off + i, none⟩ = some (.int .u64 (l[i].toNat : Int)) := by
  obtain ⟨b, off, e, hb, hc⟩ := h.at hl
  refine ⟨b, off, e, hb, fun i hi => ?_⟩
  obtain ⟨cs, hr, hcs⟩ := hc i hi
  have hcell := cell_of_row? hr 0 (by omega)
  rw [hcs] at hcell
  simpa [epA] using hcell
set_option maxRecDepth 100000 in
theorem run_bldA2 (s : Sl) (c : UInt64) (W : World) : (bldA #[(1, s.v), (2, .int .u64 (c.toNat : Int))]).run Try.prog W = .ok (.agg (ancA ⟨zeroPt, s, c, 0⟩)) W := by
  unfold bldA
  dsimp only [Sl.v]
  go_simp
  kernel_rfl
theorem bsV_one (v : Val) (w : World) : (bsV 1 #[(0, .agg (valA v))]).run Try.prog w = .ok (.slice (some ⟨w.heap.size, 0, none⟩) 1 1) (w.alloc (.cells (valA v) 125)) := by
  obtain ⟨i0, hi, hy0, hy1, hy2⟩ := info_parts info_vals
  exact run_buildSlice_one w Try.underlying111 hi hy0 hy1 (by simp [Value.cells]) (by omega) (by omega) _ (by simp)
theorem op_set_stake (o : GOp) (s : UInt64) : (opA o).setIfInBounds 33 (.int .u64 (s.toNat : Int)) = opA { o with stake := s } := by
  unfold opA
  rw [Array.setIfInBounds_append_right (by simp)]
  simp
theorem run_bldOd (k : Hash) (s : UInt64) (W : World) : (bldO #[(0, .int .i64 1), (1, .agg (hashA k)), (2, .int .u64 (s.toNat : Int))]).run Try.prog W = .ok (.agg (opA ⟨1, k, s, 0, ⟨none, 0, 0⟩⟩)) W := by
  unfold bldO
  go_simp
  rw [op_set_stake, if_neg (fun h => by have := congrArg Array.size h; simp at this)]
  simp
attribute [local go_sem ↓] fold_bldNm fold_bldV fold_bsV fold_bldA fold_bldO fold_bsO fold_bldH
/-- a header of one operation, its list in a block of its own -/
theorem hdr_one {W : World} {b : Nat} {g : GOp} {o : Op} {e : UInt64} (hr : row? W b 0 36 = some (opA g)) (ho : OpR W g o) : HdrR W ⟨zeroHash, e, ⟨some ⟨b, 0, none⟩, 1, 1⟩⟩ ⟨zeroHash, e, [o]⟩ := by
  refine ⟨rfl, rfl, rfl, Nat.le_refl _, fun _ => ⟨b, 0, rfl, fun i hi => ?_⟩⟩
  have hi1 : i < 1 := hi
  obtain rfl : i = 0 := by omega
  exact ⟨opA g, hr, g, rfl, ho⟩
theorem dep_opR (W : World) (k : Hash) (s : UInt64) : OpR W ⟨1, k, s, 0, ⟨none, 0, 0⟩⟩ ⟨1, k, s, 0, []⟩ := ⟨rfl, rfl, rfl, rfl, SlR.nil _ _ _ _ _⟩
theorem dep_fits (e : UInt64) (k : Hash) (s : UInt64) : HdrFits (depHdr e k s) := ⟨by simp [depHdr], fun o ho => by simp [depHdr] at ho; subst ho; exact ⟨Nat.zero_le _, fun v hv => absurd hv (by simp)⟩⟩
theorem plain_fits (e : UInt64) : HdrFits (plainHdr e) := ⟨by simp [plainHdr], fun o ho => by simp [plainHdr] at ho⟩
/-- what the first loop keeps -/
structure JM (W : World) (p : Nat) (c : UInt64) (n : Nat) (g : GReg) (r : Reg) : Prop where
  var : RVar W p g r
  jp : JP c n r
theorem JM.keep {W W' : World} {p : Nat} {c : UInt64} {n : Nat} {g : GReg} {r : Reg} (h : JM W p c n g r) (hb : Below W.heap.size W W') : JM W' p c n g r := ⟨h.var.keep hb, h.jp⟩
theorem lt_of_there {w : World} {b n : Nat} (h : there w b 0 (n + 1)) : b < w.heap.size := by
  have h0 := (h 0 (by omega)).1
  cases hc : w.cell? ⟨b, 0 + 0, none⟩ with
  | none => rw [hc] at h0; cases h0
  | some v => exact lt_of_cell hc
/-- two facts that a region reads -/
theorem s2_below {B : Nat} {W W' : World} {p b2 o2 : Nat} {A : Array Value} {v : Value} (hb : Below B W W') (h1 : p < B) (h3 : b2 < B)
    (h : row? W p 0 4 = some A ∧ W.cell? ⟨b2, o2, none⟩ = some v) : row? W' p 0 4 = some A ∧ W'.cell? ⟨b2, o2, none⟩ = some v :=
  ⟨(row?_below _ _ _ hb h1).trans h.1, (hb.cell (p := ⟨b2, o2, none⟩) h3).trans h.2⟩
theorem joins_row1 (w : World) (v : Val) : row? (w.alloc (.cells (valA v) 125)) w.heap.size 0 33 = some (valA v) := by
  rw [row?_new]
  simp
set_option maxRecDepth 100000 in
set_option maxHeartbeats 6400000 in
theorem joins_walk (c : UInt64) (s : Sl) (l : List UInt64) (w : World) (hl : EpsR w s l) :
    Calls Try.prog 12 #[.int .u64 (c.toNat : Int), s.v] w fun e w' => e = .returned (.bool true) ∧ Below w.heap.size w w' := by
  have n2 := hl.1
  have hHl := Lib.hid hl
  obtain ⟨sa, sn, sc⟩ := s
  simp only at n2
  subst n2
  clear hl
  have HK := fun W => known11_c W
  have HJ := Lib.hid (fun (h1 : 1 ≤ c.toNat) (h2 : c.toNat ≤ 1048576) => jp_start h1 h2)
  have ha : ∀ (b : Nat) W, (bldA #[(1, .slice (some ⟨b, 0, none⟩) 1 1), (2, .int .u64 (c.toNat : Int))]).run Try.prog W = .ok (.agg (ancA ⟨zeroPt, ⟨some ⟨b, 0, none⟩, 1, 1⟩, c, 0⟩)) W := fun b W => run_bldA2 ⟨some ⟨b, 0, none⟩, 1, 1⟩ c W
  have hn1 : ∀ W, (bldNm #[(0, .int .u8 255)]).run Try.prog W = .ok (.agg (hashA (nmk 255))) W := fun W => run_bldNm 255 (by decide) W
  have hv1 : ∀ W, (bldV #[(0, .agg (hashA (nmk 255))), (1, .int .u64 1)]).run Try.prog W = .ok (.agg (valA ⟨nmk 255, 1⟩)) W := fun W => run_bldV _ 1 W
  have hs1 := fun W => bsV_one ⟨nmk 255, 1⟩ W
  have hAR : AncR (w.alloc (.cells (valA ⟨nmk 255, 1⟩) 125)) ⟨zeroPt, ⟨some ⟨w.heap.size, 0, none⟩, 1, 1⟩, c, 0⟩ (jAnc c) := by
    refine ⟨rfl, ⟨rfl, Nat.le_refl _, fun _ => ⟨w.heap.size, 0, rfl, fun i hi => ⟨_, ?_, rfl⟩⟩⟩, rfl, rfl⟩
    have hi2 : i < 1 := hi
    obtain rfl : i = 0 := by omega
    exact joins_row1 w _
  have HF := first_c hAR (show 1 ≤ 1000000 by decide)
  have hB1 : Below w.heap.size w (w.alloc (.cells (valA ⟨nmk 255, 1⟩) 125)) := bel_a _ _
  have hFP := Lib.hid (show ancMay (jAnc c) = true → firstP (jAnc c) = (firstReg (jAnc c), 0) from fun h => if_pos h)
  generalize hvv1 : (⟨nmk 255, 1⟩ : Val) = v1 at *
  generalize hnn1 : nmk 255 = m1 at *
  obtain ⟨cn, hcn⟩ : ∃ cn, cn = c.toNat := ⟨_, rfl⟩
  rw [← hcn] at ha HJ ⊢
  replace hcn := Lib.hid hcn
  replace hvv1 := Lib.hid hvv1
  replace hnn1 := Lib.hid hnn1
  replace hAR := Lib.hid hAR
  generalize jAnc c = ja at *
  show Calls Try.prog 12 #[.int .u64 (cn : Int), .slice sa l.length sc] w _
  go_enter Try.func12, Try.ntmps12
  by_cases s1 : (cn : Int) < 1
  · clear HF ha hn1 hv1 hs1 hB1
    go_wp2_with (go_at_call 55; (with_reducible refine (HK _).mono ?_); rintro e W4 ⟨rfl, hb4⟩)
    go_ret
    exact ⟨rfl, hb4⟩
  by_cases s2 : (1048576 : Int) < (cn : Int)
  · clear HF ha hn1 hv1 hs1 hB1
    go_wp2_with (go_at_call 55; (with_reducible refine (HK _).mono ?_); rintro e W4 ⟨rfl, hb4⟩)
    go_ret
    exact ⟨rfl, hb4⟩
  by_cases s3 : (20 : Int) < (l.length : Int)
  · clear HF ha hn1 hv1 hs1 hB1
    go_wp2_with (go_at_call 55; (with_reducible refine (HK _).mono ?_); rintro e W4 ⟨rfl, hb4⟩)
    go_ret
    exact ⟨rfl, hb4⟩
  obtain ⟨hmay, hJP0⟩ := HJ.out (by omega) (by omega)
  rw [hFP.out hmay] at HF
  have hc1 : 1 ≤ cn := by omega
  have hc20 : cn ≤ 1048576 := by omega
  have hl20 : l.length ≤ 20 := by omega
  replace hJP0 := Lib.hid hJP0
  clear hmay hFP HJ
  generalize firstReg ja = r0 at *
  go_wp2_with fail
  refine HF.mono ?_
  clear HF
  rintro e w2 ⟨g0, he, hR0, hb2⟩
  replace he : e = .returned (.tuple #[.agg (regA g0), .int .i64 0]) := he
  subst he
  have hB2 := Lib.hid (hB1.trans (hb2.mono (by simp)))
  have hz2 := hB2.out.size
  clear hb2 hB1 ha hn1 hv1 hs1 hvv1 hAR
  go_upto_region 4 with fail
  obtain ⟨w3, hw3, hr3, ht3, hb3, hz3⟩ := box_reg w2 g0
  rw [← hw3]
  have hV3 : RVar w3 w2.heap.size g0 r0 := ⟨hr3, ht3, hR0.offNew hb3⟩
  clear hw3 hr3 ht3 hR0
  obtain ⟨p5, hp5⟩ : ∃ p, p = w2.heap.size := ⟨_, rfl⟩
  rw [← hp5] at hV3 ⊢
  have hB3 := Lib.hid (hB2.out.trans (hb3.mono hz2))
  have hwp : w.heap.size ≤ p5 := by omega
  have hJM := Lib.hid (show JM w3 p5 c 0 g0 r0 from ⟨hV3, hJP0.out⟩)
  clear hb3 hz3 hB2 hp5 hz2 hV3 hJP0
  go_upto_region 7 with fail
  go_loopw [7] (fun i W' => ∃ (k : Nat) (gr : GReg) (rr : Reg), k ≤ l.length ∧ i = .int .i64 k ∧ Hid (JM W' p5 c k gr rr) ∧ Hid (Below w.heap.size w W')) (fun i _ => l.length - (intOf i).toNat)
  case atStart => exact ⟨0, g0, r0, Nat.zero_le _, rfl, hJM, hB3⟩
  case round =>
    clear hJM hB3
    obtain ⟨k, gr, rr, hk, rfl, hJM, hB⟩ := hrel
    by_cases hkx : k < l.length
    · skip
      -- DEV<
      have hks := Lib.hid (show k + 1 ≤ l.length from hkx)
      obtain ⟨bl, ol, e, hbl, hcl⟩ := eps_at (SlR.keep hHl.out hB.out fun _ _ h => h) (by omega)
      have e1 := congrArg Sl.a e
      simp only at e1
      subst e1
      clear e
      have hcx := hcl k hkx
      clear hcl
      generalize l[k] = sku at *
      obtain ⟨sk, hsk⟩ : ∃ x, x = sku.toNat := ⟨_, rfl⟩
      rw [← hsk] at hcx
      replace hsk := Lib.hid hsk
      have k1 : (k : Int) < (l.length : Int) := by omega
      by_cases t1 : (sk : Int) < 1
      · go_wp2_with (go_at_call 55; (with_reducible refine (HK _).mono ?_); rintro e W4 ⟨rfl, hb4⟩)
        go_ret
        exact ⟨rfl, hB.out.trans (hb4.mono hB.out.size)⟩
      by_cases t2 : (cn : Int) < (sk : Int)
      · go_wp2_with (go_at_call 55; (with_reducible refine (HK _).mono ?_); rintro e W4 ⟨rfl, hb4⟩)
        go_ret
        exact ⟨rfl, hB.out.trans (hb4.mono hB.out.size)⟩
      have hne : c.toNat = cn := hcn.out.symm
      have h1n : 1 ≤ sku.toNat := by rw [← hsk.out]; omega
      have h2n : sku.toNat ≤ c.toNat := by rw [← hsk.out, hne]; omega
      have hk20 : k < 20 := by omega
      have hek : (UInt64.ofNat (k + 1)).toNat = k + 1 := by rw [UInt64.toNat_ofNat']; omega
      have hak : (UInt64.ofNat k).toNat = k := by rw [UInt64.toNat_ofNat']; omega
      obtain ⟨hND, hJN⟩ := next_dep hJM.out.jp (by rw [hne]; exact hc20) hk20 hek hak h1n h2n
      have hfit := dep_fits (UInt64.ofNat (k + 1)) (nmk k) sku
      have hdH : depHdr (UInt64.ofNat (k + 1)) (nmk k) sku = ⟨zeroHash, UInt64.ofNat (k + 1), [⟨1, nmk k, sku, 0, []⟩]⟩ := rfl
      rw [hdH] at hND hfit
      obtain ⟨q1, q2, q3⟩ := stays_bounds hJM.out.jp.may
      have hpl := hJM.out.var.lt
      have hrow := hJM.out.var.row
      have HNX := fun W (b : Nat) (hb : Below wr.heap.size wr W) (hr : row? W b 0 36 = some (opA ⟨1, nmk k, sku, 0, ⟨none, 0, 0⟩⟩)) => next_c (UInt64.ofNat k) (hJM.out.var.keep hb).off.reg (hdr_one (e := UInt64.ofNat (k + 1)) hr (dep_opR W (nmk k) sku)) q1 q2 q3 hfit
      rw [hND, hak] at HNX
      have hnk : ∀ W, (bldNm #[(0, .int .u8 (k : Int))]).run Try.prog W = .ok (.agg (hashA (nmk k))) W := fun W => run_bldNm k (by omega) W
      have hbo : ∀ W, (bldO #[(0, .int .i64 1), (1, .agg (hashA (nmk k))), (2, .int .u64 (sku.toNat : Int))]).run Try.prog W = .ok (.agg (opA ⟨1, nmk k, sku, 0, ⟨none, 0, 0⟩⟩)) W := fun W => run_bldOd (nmk k) sku W
      have hbh : ∀ (b : Nat) W, (bldH #[(1, .int .u64 ((k : Int) + 1)), (2, .slice (some ⟨b, 0, none⟩) 1 1)]).run Try.prog W = .ok (.agg (headerA ⟨zeroHash, UInt64.ofNat (k + 1), ⟨some ⟨b, 0, none⟩, 1, 1⟩⟩)) W := fun b W => by
        have := run_bldH (UInt64.ofNat (k + 1)) ⟨some ⟨b, 0, none⟩, 1, 1⟩ W
        rw [hek] at this
        exact this
      have hso := fun W => bsO_one ⟨1, nmk k, sku, 0, ⟨none, 0, 0⟩⟩ W
      generalize hN : regDep rr (nmk k) sku = N at *
      rw [← hsk.out] at hbo
      generalize (⟨1, nmk k, sku, 0, ⟨none, 0, 0⟩⟩ : GOp) = go at *
      generalize UInt64.ofNat (k + 1) = ek at *
      generalize UInt64.ofNat k = ak at *
      generalize nmk k = nk at *
      have hnpl : p5 < wr.heap.size := hpl
      have x1 : IntKind.u64.wrap (k : Int) = (k : Int) := by rw [IntKind.wrap_u64]; omega
      have x2 : IntKind.u64.wrap ((k : Int) + 1) = (k : Int) + 1 := by rw [IntKind.wrap_u64]; omega
      have x3 : IntKind.u8.wrap (k : Int) = (k : Int) := by rw [IntKind.wrap_u8]; omega
      have k0 : (0 : Int) ≤ (k : Int) := by omega
      replace hJN := Lib.hid hJN
      clear hND hfit hdH hek hak h1n h2n hne hN q1 q2 q3
      have S0 : row? wr.drew p5 0 4 = some (regA gr) ∧ wr.drew.cell? ⟨bl, ol + k, none⟩ = some (.int .u64 (sk : Int)) := ⟨hrow, hcx⟩
      obtain ⟨wb, hwb⟩ : ∃ wb, wb = (wr.alloc (.cells (opA go) 83)).drew := ⟨_, rfl⟩
      have bb : Below wr.heap.size wr wb := by rw [hwb]; exact (bel_a wr _).drew
      have zb : wb.heap.size = wr.heap.size + 1 := by rw [hwb]; simp
      have rb : row? wb wr.heap.size 0 36 = some (opA go) := by
        rw [hwb, row?_drew, row?_new]
        simp
      obtain ⟨wba, hwba⟩ : ∃ x, x = wb.alloc (.cells #[.slice none 0 0, .slice none 0 0, .slice none 0 0, .int .u64 0] 103) := ⟨_, rfl⟩
      have bba : Below wb.heap.size wb wba := by rw [hwba]; exact bel_a wb _
      have tba : there wba wb.heap.size 0 4 := by rw [hwba]; exact there_new wb _ _ 0 4 (by simp)
      have zba : wba.heap.size = wb.heap.size + 1 := by rw [hwba]; simp
      obtain ⟨wa, hwa⟩ : ∃ wa, wa = (wr.alloc (.cells #[.slice none 0 0, .slice none 0 0, .slice none 0 0, .int .u64 0] 103)).drew := ⟨_, rfl⟩
      have ba : Below wr.heap.size wr wa := by rw [hwa]; exact (bel_a wr _).drew
      have za : wa.heap.size = wr.heap.size + 1 := by rw [hwa]; simp
      have ta : there wa wr.heap.size 0 4 := by rw [hwa]; exact there_new wr _ _ 0 4 (by simp)
      obtain ⟨wab, hwab⟩ : ∃ x, x = wa.alloc (.cells (opA go) 83) := ⟨_, rfl⟩
      have bab : Below wa.heap.size wa wab := by rw [hwab]; exact bel_a wa _
      have zab : wab.heap.size = wa.heap.size + 1 := by rw [hwab]; simp
      have rab : row? wab wa.heap.size 0 36 = some (opA go) := by
        rw [hwab, row?_new]
        simp
      have tab := there_below bab (show wr.heap.size < wa.heap.size by omega) ta
      have rba := (row?_below _ _ _ bba (show wr.heap.size < wb.heap.size by omega)).trans rb
      have Sb := s2_below bb hpl hbl S0
      have Sba := s2_below bba (Nat.lt_of_lt_of_le hpl bb.size) (Nat.lt_of_lt_of_le hbl bb.size) Sb
      have Sa := s2_below ba hpl hbl S0
      have Sab := s2_below bab (Nat.lt_of_lt_of_le hpl ba.size) (Nat.lt_of_lt_of_le hbl ba.size) Sa
      have bba' : Below wr.heap.size wr wba := bb.trans (bba.mono bb.size)
      have bab' : Below wr.heap.size wr wab := ba.trans (bab.mono ba.size)
      have HNb := HNX wb _ bb rb
      have HNba := HNX wba _ bba' rba
      have HNab := HNX wab _ bab' rab
      have hwb' := hwb.symm
      have hwa' := hwa.symm
      have hwba' := hwba.symm
      have hwab' := hwab.symm
      clear hwb hwa hwba hwab HNX rb rab rba
      replace zb := Lib.hid zb
      replace za := Lib.hid za
      replace zba := Lib.hid zba
      replace zab := Lib.hid zab
      go_upto_region 11 with fail
      go_cut [8, 9] from 40 to 82 (fun u c W => ∃ (p9 : Nat) (gN : GReg), u = .pointer (some ⟨p9, 0, none⟩) ∧ c = .int .i64 0 ∧ p9 ≠ p5 ∧ Hid (row? W p9 0 4 = some (regA gN)) ∧ Hid (RegAt wr.heap.size W gN N) ∧ Hid (Below wr.heap.size wr W))
      case first =>
        go_region_held3 (fun W => row? W p5 0 4 = some (regA gr) ∧ W.cell? ⟨bl, ol + k, none⟩ = some (.int .u64 (sk : Int)))
          (first | go_keep | (with_reducible exact S0) | (with_reducible exact Sb) | (with_reducible exact Sba) | (with_reducible exact Sa) | (with_reducible exact Sab) | (rw [hwb']; with_reducible exact Sb) | (rw [hwa']; with_reducible exact Sa) | (rw [hwba']; with_reducible exact Sba) | (rw [hwab']; with_reducible exact Sab) | (with_reducible exact S6) | (with_reducible exact S7) | (with_reducible exact S8))
          (first
            | (go_simp; go_at_call 58; (with_reducible refine HNb.mono ?_); rintro e w6 ⟨gN, rfl, hRN, hb6⟩;
               have l6 : p5 < wb.heap.size := Nat.lt_of_lt_of_le hpl bb.size;
               have m6 : bl < wb.heap.size := Nat.lt_of_lt_of_le hbl bb.size;
               have S6 := s2_below hb6 l6 m6 Sb;
               have S7 := s2_below (bel_a w6 (.cells #[.slice none 0 0, .slice none 0 0, .slice none 0 0, .int .u64 0] 103)) (Nat.lt_of_lt_of_le l6 hb6.size) (Nat.lt_of_lt_of_le m6 hb6.size) S6;
               have S8 := s2_below (below_put (bel_a w6 (.cells #[.slice none 0 0, .slice none 0 0, .slice none 0 0, .int .u64 0] 103)) (Nat.le_refl _) 0 (regA gN)) (Nat.lt_of_lt_of_le l6 hb6.size) (Nat.lt_of_lt_of_le m6 hb6.size) S6)
            | (go_simp; go_at_call 58; (with_reducible refine HNba.mono ?_); rintro e w6 ⟨gN, rfl, hRN, hb6⟩;
               have l6 : p5 < wb.heap.size := Nat.lt_of_lt_of_le hpl bb.size;
               have m6 : bl < wb.heap.size := Nat.lt_of_lt_of_le hbl bb.size;
               have S6 := s2_below hb6 (Nat.lt_of_lt_of_le l6 bba.size) (Nat.lt_of_lt_of_le m6 bba.size) Sba;
               have ht6 := there_below hb6 (lt_of_there tba) tba;
               have hst6 := store_reg w6 wb.heap.size 0 (regA gN) rfl (onesReg _) ht6;
               have S8 := s2_below (below_put (hb6.mono (Nat.le_of_lt (lt_of_there tba))) (Nat.le_refl _) 0 (regA gN)) l6 m6 Sba)
            | (go_simp; go_at_call 58; (with_reducible refine HNab.mono ?_); rintro e w6 ⟨gN, rfl, hRN, hb6⟩;
               have l6 : p5 < wab.heap.size := Nat.lt_of_lt_of_le hpl bab'.size;
               have m6 : bl < wab.heap.size := Nat.lt_of_lt_of_le hbl bab'.size;
               have S6 := s2_below hb6 l6 m6 Sab;
               have ht6 := there_below hb6 (lt_of_there tab) tab;
               have hst6 := store_reg w6 wr.heap.size 0 (regA gN) rfl (onesReg _) ht6;
               have S8 := s2_below (below_put (hb6.mono (Nat.le_of_lt (lt_of_there tab))) (Nat.le_refl _) 0 (regA gN)) hpl hbl Sab))
        · obtain ⟨w9, hw9, hr9, ht9, hb9, hz9⟩ := box_reg w6 gN
          rw [← hw9]
          have hb49 : Below wr.heap.size wr w9 := (bb.trans (hb6.mono bb.size)).trans (hb9.mono (Nat.le_trans bb.size hb6.size))
          have hRN9 : RegAt wr.heap.size w9 gN N := (hRN.keep hb9).more bb.size
          try simp only
          have hne : w6.heap.size ≠ p5 := by
            have := hb6.size
            omega
          clear hw9 hwb' hwa' hwba' hwab'
          go_wp2_with fail
          go_meet
          exact ⟨w6.heap.size, gN, rfl, rfl, hne, Lib.hid hr9, Lib.hid hRN9, Lib.hid hb49⟩
        · obtain ⟨w9, hw9⟩ : ∃ w9, w9 = putRow w6 wb.heap.size 0 (regA gN) := ⟨_, rfl⟩
          have hr9 : row? w9 wb.heap.size 0 4 = some (regA gN) := by rw [hw9]; exact row?_put_same _ _ _ _ _ (by rfl) (by omega) ht6
          have hb49 : Below wr.heap.size wr w9 := by
            rw [hw9]
            exact below_put (bba'.trans (hb6.mono bba'.size)) bb.size _ _
          have hRN9 : RegAt wr.heap.size w9 gN N := by
            rw [hw9]
            exact (hRN.put (lt_of_there tba)).more bba'.size
          rw [← hw9]
          try simp only
          have hne : wb.heap.size ≠ p5 := by omega
          clear hw9 hwb' hwa' hwba' hwab' hst6
          obtain ⟨p9, hp9⟩ : ∃ p9, p9 = wb.heap.size := ⟨_, rfl⟩
          rw [← hp9] at hr9 hne ⊢
          replace hp9 := Lib.hid hp9
          go_wp2_with fail
          go_meet
          exact ⟨p9, gN, rfl, rfl, hne, Lib.hid hr9, Lib.hid hRN9, Lib.hid hb49⟩
        · obtain ⟨w9, hw9⟩ : ∃ w9, w9 = putRow w6 wr.heap.size 0 (regA gN) := ⟨_, rfl⟩
          have hr9 : row? w9 wr.heap.size 0 4 = some (regA gN) := by rw [hw9]; exact row?_put_same _ _ _ _ _ (by rfl) (by omega) ht6
          have hb49 : Below wr.heap.size wr w9 := by
            rw [hw9]
            exact below_put (bab'.trans (hb6.mono bab'.size)) (Nat.le_refl _) _ _
          have hRN9 : RegAt wr.heap.size w9 gN N := by
            rw [hw9]
            exact (hRN.put (lt_of_there tab)).more bab'.size
          rw [← hw9]
          try simp only
          have hne : wr.heap.size ≠ p5 := by omega
          clear hw9 hwb' hwa' hwba' hwab' hst6
          obtain ⟨p9, hp9⟩ : ∃ p9, p9 = wr.heap.size := ⟨_, rfl⟩
          rw [← hp9] at hr9 hne ⊢
          replace hp9 := Lib.hid hp9
          go_wp2_with fail
          go_meet
          exact ⟨p9, gN, rfl, rfl, hne, Lib.hid hr9, Lib.hid hRN9, Lib.hid hb49⟩
      case rest =>
        obtain ⟨p9, gN, rfl, rfl, hne, hr9, hRN9, hb49⟩ := hcut
        generalize wc = w9 at *
        replace hr9 := hr9.out
        have hV9 := hJM.out.var.keep hb49.out
        have hst := store_reg w9 p5 0 (regA gN) rfl (onesReg _) hV9.thr
        have hJ10 := Lib.hid (show JM (putRow w9 p5 0 (regA gN)) p5 c (k + 1) gN N from ⟨hV9.set (hRN9.out.off hpl), hJN.out⟩)
        have hB10 := Lib.hid (below_put (hB.out.trans (hb49.out.mono hB.out.size)) hwp 0 (regA gN))
        clear hJM hB S0 bb bba ba bab bba' bab' tba ta tab Sb Sba Sa Sab HNb HNba HNab hwb' hwa' hwba' hwab' hnk hbo hbh hso hRN9 hb49 hV9 hJN zb za zba zab hrow hcx
        go_wp2_with fail
        go_roundw
        case rel => exact ⟨k + 1, gN, N, hks.out, by go_num, hJ10, hB10⟩
        case measure =>
          have := hks.out
          simp [intOf]
          omega
    -- DEV>
    · obtain rfl : k = l.length := by omega
      have knl : ¬ (l.length : Int) < (l.length : Int) := by omega
      have y1 : IntKind.u64.wrap (l.length : Int) = (l.length : Int) := by rw [IntKind.wrap_u64]; omega
      have hcl : rr.coming.length ≤ l.length + 1 := by
        have := hJM.out.jp.may.coming.length_le
        rw [hJM.out.jp.len] at this
        exact this
      clear hkx hk
      rename World => wx
      go_upto_region 17 with fail
      go_loopw [10, 11] (fun t i W' => ∃ (n A : Nat) (gr : GReg) (rr : Reg), Hid (A = l.length + n) ∧ t = .int .u64 (A : Int) ∧ i = .int .i64 n ∧ n + rr.coming.length ≤ l.length + 1 ∧ Hid (JM W' p5 c l.length gr rr) ∧ Hid (Below w.heap.size w W')) (fun _ i _ => 60 - (intOf i).toNat)
      case atStart => exact ⟨0, l.length, gr, rr, Lib.hid rfl, rfl, rfl, by omega, hJM, hB⟩
      case round =>
        clear hJM hB hcl gr rr
        obtain ⟨n, A, gr, rr, hA, rfl, rfl, hnc, hJM, hB⟩ := hrel
        obtain ⟨c0, c1, -, -, -⟩ := hJM.out.var.box.cells
        have lm := hJM.out.var.off.reg.1.1
        have lc := hJM.out.var.off.reg.2.1.1
        obtain ⟨⟨ma, mn, mc⟩, ⟨ca, cn', cc⟩, gg, gch⟩ := gr
        simp only at lm lc c0 c1
        subst lm lc
        dsimp only [Sl.v] at c0 c1
        have n60 : (n : Int) < 60 := by omega
        by_cases hc0 : rr.coming.length = 0
        · have Hc := Lib.hid hc0
          have d0 : ¬ (0 : Int) < (rr.coming.length : Int) := by omega
          have b0 : ((rr.coming.length : Int) == 0) = true := by rw [hc0]; rfl
          clear hc0
          go_wp2_with (go_at_call 55; (with_reducible refine (HK _).mono ?_); rintro e W4 ⟨rfl, hb4⟩)
          go_ret
          exact ⟨rfl, hB.out.trans (hb4.mono hB.out.size)⟩
        · have d0 : (0 : Int) < (rr.coming.length : Int) := by omega
          have hP := Lib.hid hJM.out.jp.may
          have hcr : rr.churn.toNat = cn := by rw [hJM.out.jp.chn, hcn.out]
          obtain ⟨K, hK⟩ : ∃ K, K = turnN rr.members cn rr.coming 0 := ⟨_, rfl⟩
          have hK1 : 1 ≤ K := by
            rw [hK]
            exact turnN_one (by omega) fun m hm => by
              have := hJM.out.jp.sml m hm
              rw [← hcn.out] at this
              exact this
          have hKl : K ≤ rr.coming.length := by rw [hK]; exact turnN_le _ _ _ _
          have hA2 := hA.out
          have hpl := next_plain hJM.out.jp.may (UInt64.ofNat A) (UInt64.ofNat (A + 1)) (by rw [UInt64.toNat_ofNat', UInt64.toNat_ofNat']; omega) (by rw [UInt64.toNat_ofNat']; omega)
          rw [hcr] at hpl
          have hJN := Lib.hid (hJM.out.jp.turn cn)
          have htt := turned_tot hJM.out.jp.may hJM.out.jp.goi cn
          have hNc : (turned rr cn).coming.length = rr.coming.length - K := by
            show (rr.coming.drop _).length = _
            rw [List.length_drop, hK]
          have hci : comeIn rr cn = rr.coming.take K := by rw [comeIn, hK]
          rw [hci] at htt
          have ht1 := tot_le hJM.out.jp.may _ (Nat.le_refl _)
          change totN rr ≤ _ at ht1
          have ht2 := tot_le hJN.out.may _ (Nat.le_refl _)
          change totN (turned rr cn) ≤ _ at ht2
          have HT1 := fun W (hb : Below wr.heap.size wr W) => regTotal_c (hJM.out.var.keep hb).off.reg (stays_bounds hP.out).1
          rw [totW_tot hP.out] at HT1
          have hm64 := hP.out.len.2
          have hsl : ∀ k, sumL rr.members (rr.coming.take k) ≤ rr.coming.length * 4294967296 := fun k => Nat.le_trans (sumL_le rr.members (fun m hm => (hP.out.stakes m hm).2) _) (Nat.mul_le_mul_right _ (by rw [List.length_take]; omega))
          have hrng := Lib.hid hP.out.coming.range
          have Htest := Lib.hid (fun (k : Nat) (hk : k ≤ K) (x : Int) (hx : rr.coming[k]? = some x) => (show sumL rr.members (rr.coming.take k) + stakeAt rr.members x ≤ cn ↔ k < K by rw [hK] at hk ⊢; exact turnN_test rr.members cn rr.coming k hk x hx))
          have Hsn := Lib.hid (fun (k : Nat) (x : Int) (hx : rr.coming[k]? = some x) => sumL_snoc rr.members rr.coming k x hx)
          obtain ⟨SK, hSK⟩ : ∃ x, x = sumL rr.members (rr.coming.take K) := ⟨_, rfl⟩
          rw [← hSK] at htt
          generalize turned rr cn = N at *
          obtain ⟨T, hT⟩ : ∃ x, x = totN rr := ⟨_, rfl⟩
          rw [← hT] at htt ht1 HT1
          obtain ⟨T2, hT2⟩ : ∃ x, x = totN N := ⟨_, rfl⟩
          rw [← hT2] at htt ht2
          have z1 : IntKind.u64.wrap ((T : Int) + (SK : Int)) = (T2 : Int) := by rw [IntKind.wrap_u64]; omega
          obtain ⟨cd, hcd⟩ : ∃ x, x = N.coming.length := ⟨_, rfl⟩
          rw [← hcd] at hNc
          have z2 : IntKind.i64.wrap ((rr.coming.length : Int) - (K : Int)) = (cd : Int) := by rw [IntKind.wrap_i64]; omega
          have z3 : IntKind.u64.wrap ((A : Int) + 1) = (A : Int) + 1 := by rw [IntKind.wrap_u64]; omega
          have hsl9 : rr.coming.length * 4294967296 ≤ 281474976710656 := by omega
          have hdec := Lib.hid (show n + 1 + cd ≤ l.length + 1 by omega)
          replace hK := Lib.hid hK
          replace hSK := Lib.hid hSK
          replace hT := Lib.hid hT
          replace hT2 := Lib.hid hT2
          replace hcd := Lib.hid hcd
          replace hpl := Lib.hid hpl
          replace hsl := Lib.hid hsl
          clear htt ht1 ht2 hNc hci hcr hA2
          rename World => wo
          go_upto_block 4 with fail
          go_cut [12, 13] from 86 to 171 (fun su ki W => su = .int .u64 (SK : Int) ∧ ki = .int .i64 (K : Int) ∧ Hid (Below wo.heap.size wo W))
          case first =>
            go_upto_region 20 with fail
            go_loopw [12, 13] (fun su ki W' => ∃ k : Nat, k ≤ K ∧ su = .int .u64 (sumL rr.members (rr.coming.take k) : Nat) ∧ ki = .int .i64 k ∧ Hid (Below wo.heap.size wo W')) (fun _ ki _ => K - (intOf ki).toNat)
            case atStart => exact ⟨0, Nat.zero_le _, rfl, rfl, Lib.hid (Below.refl _ _)⟩
            case round =>
              obtain ⟨k, hk, rfl, rfl, hB4⟩ := hrel
              have Hk := Lib.hid hk
              have c0r := (hB4.out.cell (p := ⟨p5, 0, none⟩) hJM.out.var.lt).trans c0
              have c1r := (hB4.out.cell (p := ⟨p5, 1, none⟩) hJM.out.var.lt).trans c1
              by_cases hkl : k < rr.coming.length
              · have hRr := (hJM.out.var.keep hB4.out).off.reg
                obtain ⟨bc, oc, e, hbc, hcc⟩ := nums_at hRr.2.1 (by omega)
                have e1 := congrArg Sl.a e
                simp only at e1
                subst e1
                clear e
                have hck := hcc k hkl
                clear hcc
                have hget := List.getElem?_eq_getElem hkl
                have hv := hrng.out _ (List.getElem_mem hkl)
                have Ht := Htest.out k hk _ hget
                have Hs2 := Lib.hid (Hsn.out k _ hget)
                generalize rr.coming[k] = x at *
                obtain ⟨i, rfl⟩ : ∃ i : Nat, x = (i : Int) + 1 := ⟨(x - 1).toNat, by omega⟩
                have hi : i < rr.members.length := by omega
                obtain ⟨bm, om, em, hbm, hrm, -⟩ := mbrs_at hRr.1 (by omega)
                have e1 := congrArg Sl.a em
                simp only at e1
                subst e1
                clear em
                have hrow := hrm i hi
                clear hrm
                have hst9 := stakeAt_succ rr.members i _ (List.getElem?_eq_getElem hi)
                rw [hst9] at Ht Hs2
                have hst32 := (hP.out.stakes _ (List.getElem_mem hi)).2
                generalize rr.members[i] = m at *
                obtain ⟨-, q1, -, -⟩ := mbr_cells hrow
                obtain ⟨st, hst⟩ : ∃ x, x = m.stake.toNat := ⟨_, rfl⟩
                rw [← hst] at Ht Hs2 hst32 q1
                clear hst hst9 hrow hRr hget hv
                have hSb := hsl.out k
                obtain ⟨S, hS⟩ : ∃ x, x = sumL rr.members (rr.coming.take k) := ⟨_, rfl⟩
                rw [← hS] at Ht Hs2 hSb ⊢
                replace hS := Lib.hid hS
                have R0 := fun a => (show (wr.drewN a).cell? ⟨p5, 0, none⟩ = some (.slice (some ⟨bm, om, none⟩) rr.members.length mc) from c0r)
                have R1 := fun a => (show (wr.drewN a).cell? ⟨p5, 1, none⟩ = some (.slice (some ⟨bc, oc, none⟩) rr.coming.length cc) from c1r)
                have R2 := fun a => (show (wr.drewN a).cell? ⟨bc, oc + k, none⟩ = some (.int .i64 ((i : Int) + 1)) from hck)
                have R3 := fun a => (show (wr.drewN a).cell? ⟨bm, om + i * 35 + 32, none⟩ = some (.int .u64 (st : Int)) from q1)
                have k0 : (0 : Int) ≤ (k : Int) := by omega
                have k1 : (k : Int) < (rr.coming.length : Int) := by omega
                have kN : k < rr.coming.length := hkl
                have i0 : (0 : Int) ≤ (i : Int) := by omega
                have i1 : (i : Int) < (rr.members.length : Int) := by omega
                have x1 : IntKind.i64.wrap ((i : Int) + 1 - 1) = (i : Int) := by rw [show (i : Int) + 1 - 1 = i by omega]; exact IntWalk.i64_in _ (by omega)
                have x1' : IntKind.i64.wrap (i : Int) = (i : Int) := IntWalk.i64_in _ (by omega)
                have x2 : IntKind.u64.wrap ((S : Int) + (st : Int)) = (S : Int) + (st : Int) := by rw [IntKind.wrap_u64]; omega
                have x3 : IntKind.i64.wrap ((k : Int) + 1) = (k : Int) + 1 := IntWalk.i64_in _ (by omega)
                by_cases hkK : k < K
                · have le1 : (S : Int) + (st : Int) ≤ (cn : Int) := by
                    have := Ht.2 hkK
                    omega
                  have hks := Lib.hid (show k + 1 ≤ K from hkK)
                  clear Ht hkK hkl hSb hst32 hk
                  go_upto_region 20 with fail
                  go_quiet (fail)
                  go_upto_region 21 with fail
                  go_quiet (fail)
                  go_wp2_with fail
                  go_roundw
                  case rel => exact ⟨k + 1, hks.out, by rw [Hs2.out, Int.natCast_add], by go_num, Lib.hid (by have hB4 := hB4.out; (repeat' (first | (with_reducible exact Below.refl _ _) | (with_reducible assumption) | (with_reducible refine bel_trans (by assumption) ?_ ?_) | (with_reducible refine bel_grown (by assumption) ?_ ?_ ?_) | (with_reducible refine Below.alloc ?_ ?_ _) | (with_reducible refine Below.drew ?_) | (with_reducible refine below_drewN ?_ _) | (with_reducible refine Below.setCell ?_ ?_ _) | (with_reducible refine below_put ?_ ?_ _ _) | (with_reducible exact Nat.le_refl _) | omega | (with_reducible refine Nat.le_trans ?_ (Below.size (by assumption))) | (with_reducible refine Nat.le_trans ?_ (World.grownBy.size (by assumption))) | (simp only [World.size_alloc, World.size_setCell, World.size_drew, size_drewN]; omega) | (simp only [World.size_alloc, World.size_setCell, World.size_drew, size_drewN, size_put]; omega) | (intro k hk; simp [Value.ownBlock] at hk; done) | (intro k hk; simp [Value.ownBlock] at hk; omega) | (simp [size_drewN] at *; omega))))⟩
                  case measure =>
                    have := hks.out
                    simp [intOf]
                    omega
                · have le1 : ¬ (S : Int) + (st : Int) ≤ (cn : Int) := by
                    have := fun h => hkK (Ht.1 h)
                    omega
                  obtain rfl : k = K := by omega
                  have le2 : decide ((S : Int) + (st : Int) ≤ (cn : Int)) = false := decide_eq_false le1
                  have le3 : ¬ S + st ≤ cn := by omega
                  have le4 : cn < S + st := by omega
                  clear Ht hkK hkl hSb hst32 hk le1
                  go_upto_region 20 with fail
                  go_quiet (fail)
                  go_wp2_with fail
                  go_meet
                  exact ⟨by rw [hS.out, ← hSK.out], rfl, Lib.hid (by have hB4 := hB4.out; (repeat' (first | (with_reducible exact Below.refl _ _) | (with_reducible assumption) | (with_reducible refine bel_trans (by assumption) ?_ ?_) | (with_reducible refine bel_grown (by assumption) ?_ ?_ ?_) | (with_reducible refine Below.alloc ?_ ?_ _) | (with_reducible refine Below.drew ?_) | (with_reducible refine below_drewN ?_ _) | (with_reducible refine Below.setCell ?_ ?_ _) | (with_reducible refine below_put ?_ ?_ _ _) | (with_reducible exact Nat.le_refl _) | omega | (with_reducible refine Nat.le_trans ?_ (Below.size (by assumption))) | (with_reducible refine Nat.le_trans ?_ (World.grownBy.size (by assumption))) | (simp only [World.size_alloc, World.size_setCell, World.size_drew, size_drewN]; omega) | (simp only [World.size_alloc, World.size_setCell, World.size_drew, size_drewN, size_put]; omega) | (intro k hk; simp [Value.ownBlock] at hk; done) | (intro k hk; simp [Value.ownBlock] at hk; omega) | (simp [size_drewN] at *; omega))))⟩
              · obtain rfl : k = K := by omega
                have k1 : ¬ (k : Int) < (rr.coming.length : Int) := by omega
                have kN : ¬ k < rr.coming.length := hkl
                have R1 := fun a => (show (wr.drewN a).cell? ⟨p5, 1, none⟩ = some (.slice ca rr.coming.length cc) from c1r)
                clear hkl hk
                go_upto_region 20 with fail
                go_quiet (fail)
                go_wp2_with fail
                go_meet
                exact ⟨by rw [← hSK.out], rfl, Lib.hid (by have hB4 := hB4.out; (repeat' (first | (with_reducible exact Below.refl _ _) | (with_reducible assumption) | (with_reducible refine bel_trans (by assumption) ?_ ?_) | (with_reducible refine bel_grown (by assumption) ?_ ?_ ?_) | (with_reducible refine Below.alloc ?_ ?_ _) | (with_reducible refine Below.drew ?_) | (with_reducible refine below_drewN ?_ _) | (with_reducible refine Below.setCell ?_ ?_ _) | (with_reducible refine below_put ?_ ?_ _ _) | (with_reducible exact Nat.le_refl _) | omega | (with_reducible refine Nat.le_trans ?_ (Below.size (by assumption))) | (with_reducible refine Nat.le_trans ?_ (World.grownBy.size (by assumption))) | (simp only [World.size_alloc, World.size_setCell, World.size_drew, size_drewN]; omega) | (simp only [World.size_alloc, World.size_setCell, World.size_drew, size_drewN, size_put]; omega) | (intro k hk; simp [Value.ownBlock] at hk; done) | (intro k hk; simp [Value.ownBlock] at hk; omega) | (simp [size_drewN] at *; omega))))⟩
          case rest =>
            obtain ⟨rfl, rfl, hB4⟩ := hcut
            have hJM4 := Lib.hid (hJM.out.keep hB4.out)
            have hBw4 := Lib.hid (hB.out.trans (hB4.out.mono hB.out.size))
            have hrow4 := hJM4.out.var.row
            have HT1 := HT1 wc hB4.out
            clear hJM hB4 c0 c1 hrng Htest Hsn
            go_wp2_with fail
            refine HT1.mono ?_
            clear HT1
            rintro e w5 ⟨rfl, hb5⟩
            have hJM5 := Lib.hid (hJM4.out.keep hb5)
            have hB5 := Lib.hid (hBw4.out.trans (hb5.mono hBw4.out.size))
            have hrow5 := hJM5.out.var.row
            have he1 : (UInt64.ofNat (A + 1)).toNat = A + 1 := by rw [UInt64.toNat_ofNat']; have := hA.out; omega
            have ha1 : (UInt64.ofNat A).toNat = A := by rw [UInt64.toNat_ofNat']; have := hA.out; omega
            have hbh : ∀ W, (bldH #[(1, .int .u64 ((A : Int) + 1))]).run Try.prog W = .ok (.agg (headerA ⟨zeroHash, UInt64.ofNat (A + 1), ⟨none, 0, 0⟩⟩)) W := fun W => by
              have := run_bldH1 (UInt64.ofNat (A + 1)) W
              rw [he1] at this
              exact this
            obtain ⟨q1, q2, q3⟩ := stays_bounds hP.out
            have HN := next_c (w := w5) (gh := ⟨zeroHash, UInt64.ofNat (A + 1), ⟨none, 0, 0⟩⟩) (h := plainHdr (UInt64.ofNat (A + 1))) (UInt64.ofNat A) hJM5.out.var.off.reg ⟨rfl, rfl, SlR.nil _ _ _ _ _⟩ q1 q2 q3 (plain_fits _)
            rw [hpl.out, ha1] at HN
            generalize UInt64.ofNat (A + 1) = eA at *
            clear hb5 hJM4 hBw4 hrow4 q1 q2 q3 he1 ha1
            go_wp2_with fail
            refine HN.mono ?_
            clear HN
            rintro e w6 ⟨gN, rfl, hRN, hb6⟩
            have hJM6 := Lib.hid (hJM5.out.keep hb6)
            have hB6 := Lib.hid (hB5.out.trans (hb6.mono hB5.out.size))
            have hp6 := Lib.hid hJM5.out.var.lt
            replace hRN := Lib.hid hRN
            clear hb6 hJM5 hB5 hrow5 hbh
            go_upto_region 25 with fail
            obtain ⟨w9, hw9, hr9, ht9, hb9, hz9⟩ := box_reg w6 gN
            rw [← hw9]
            have hJM9 := Lib.hid (hJM6.out.keep hb9)
            have hB9 := Lib.hid (hB6.out.trans (hb9.mono hB6.out.size))
            have hRN9 := Lib.hid (hRN.out.keep hb9)
            obtain ⟨p9, hp9⟩ : ∃ p9, p9 = w6.heap.size := ⟨_, rfl⟩
            rw [← hp9] at hr9 ⊢
            have hne : p9 ≠ p5 := by
              have := hJM6.out.var.lt
              omega
            have hBX : RBox w9 p9 gN N := ⟨hr9, hRN9.out.reg⟩
            obtain ⟨-, d1, -, -, -⟩ := hBX.cells
            obtain ⟨-, e1, -, -, -⟩ := hJM9.out.var.box.cells
            have lN := hRN9.out.reg.2.1.1
            have HT2 := regTotal_c hRN9.out.reg (stays_bounds hJN.out.may).1
            rw [totW_tot hJN.out.may, ← hT2.out] at HT2
            obtain ⟨gn1, ⟨na, nn, nc⟩, gn3, gn4⟩ := gN
            simp only at lN d1 e1
            rw [← hcd.out] at lN
            subst lN
            dsimp only [Sl.v] at d1 e1
            replace hp9 := Lib.hid hp9
            have k1 : ¬ (K : Int) < 1 := by omega
            clear hw9 hb9 hz9 hJM6 hB6 hRN hBX ht9
            go_wp2_with fail
            refine HT2.mono ?_
            clear HT2
            rintro e wf ⟨rfl, hbf⟩
            have hpf := lt_of_row hr9
            have d1f := (hbf.cell (p := ⟨p9, 1, none⟩) hpf).trans d1
            have e1f := (hbf.cell (p := ⟨p5, 1, none⟩) hJM9.out.var.lt).trans e1
            have hrf := (row?_below _ _ _ hbf hpf).trans hr9
            have hJMf := Lib.hid (hJM9.out.keep hbf)
            have hBf := Lib.hid (hB9.out.trans (hbf.mono hB9.out.size))
            have hst := store_reg wf p5 0 (regA ⟨gn1, ⟨na, nn, nc⟩, gn3, gn4⟩) rfl (onesReg _) hJMf.out.var.thr
            have hoff : RegOff p5 wf ⟨gn1, ⟨na, nn, nc⟩, gn3, gn4⟩ N := (hRN9.out.keep hbf).off hp6.out
            have hJ10 := Lib.hid (show JM (putRow wf p5 0 (regA ⟨gn1, ⟨na, nn, nc⟩, gn3, gn4⟩)) p5 c l.length ⟨gn1, ⟨na, nn, nc⟩, gn3, gn4⟩ N from ⟨hJMf.out.var.set hoff, hJN.out⟩)
            have hB10 := Lib.hid (below_put hBf.out hwp 0 (regA ⟨gn1, ⟨na, nn, nc⟩, gn3, gn4⟩))
            have hAn := Lib.hid (show A + 1 = l.length + (n + 1) by rw [hA.out]; omega)
            have hbz : ((T2 : Int) != (T2 : Int)) = false := by simp
            have hbz2 : ((nn : Int) != (nn : Int)) = false := by simp
            clear hoff hJM9 hB9 hRN9 hbf d1 e1 hr9
            go_wp2_with fail
            go_roundw
            case rel => exact ⟨n + 1, A + 1, _, N, hAn, by go_num, by go_num, by rw [← hcd.out]; exact hdec.out, hJ10, hB10⟩
            case measure =>
              simp [intOf]
              omega
end Go.Proofs.Ytkocpihfdpahpaa

/- Numbers, slices of numbers, and registers among the arguments, opened. -/
namespace Go.Proofs.Ytkocpihfdpahpaa
open Go.ChangeShapes Go.WideShapes Go.ChangeAt Go.RowKit

set_option maxRecDepth 100000 in
theorem open_u {H : Type} {enc : TypeId × Value → H} {w : World} {base : Nat} {spare : Nat → Bool} {held : Bool} {r : Reach} {b0 : Nat} {v : Value} {d : DataW H} {p : List MemPlace} (hv : Value.okWide Try.prog w r b0 22 v) (h : DataW.Trod enc Try.prog w base spare held 22 v d p) : ∃ n : UInt64, v = .int .u64 (n.toNat : Int) := by
  obtain ⟨x, rfl, rfl, rfl, wx⟩ := open_int Try.underlying22 hv h
  have bx : 0 ≤ x ∧ x ≤ 18446744073709551615 := by simpa [Lit.wf, IntKind.min, IntKind.max, IntKind.signed, IntKind.bits] using wx
  refine ⟨UInt64.ofNat x.toNat, ?_⟩
  have : (UInt64.ofNat x.toNat).toNat = x.toNat := by simp; omega
  rw [this, Int.toNat_of_nonneg bx.1]
set_option maxRecDepth 100000 in
theorem open_es {H : Type} {enc : TypeId × Value → H} {w : World} {base : Nat} {spare : Nat → Bool} {held : Bool} {r : Reach} {b0 : Nat} {v : Value} {d : DataW H} {p : List MemPlace} (hv : Value.okWide Try.prog w r b0 91 v) (h : DataW.Trod enc Try.prog w base spare held 91 v d p) :
    ∃ (s : Sl) (l : List UInt64), v = s.v ∧ SlR 1 (fun cs x => cs = epA x) w s l :=
  open_rowsA (R := fun cs x => cs = epA x) Try.underlying91 u64_cells (by decide) (fun _ _ _ h => by
    obtain ⟨n, rfl⟩ := open_u64 Try.underlying22 h
    exact ⟨n, rfl⟩) hv h

theorem mbr_under : Try.prog.underlying 123 = some (.struct (Try.prog.fieldsOf 123)) := by kernel_rfl
theorem mbr_cellsOf : Try.prog.cellsOf 123 = 35 := by kernel_rfl
theorem st_cellsOf : Try.prog.cellsOf 121 = 1 := by kernel_rfl
theorem bool_cellsOf : Try.prog.cellsOf 4 = 1 := by kernel_rfl
theorem mbrs_cellsOf : Try.prog.cellsOf 101 = 1 := by kernel_rfl
theorem ints_cellsOf : Try.prog.cellsOf 58 = 1 := by kernel_rfl
theorem reg_fields : (Try.prog.fieldsOf 103).toList.map (fun f => (f.name, f.type, f.offset)) = [("Members", 101, 0), ("Coming", 58, 1), ("Going", 58, 2), ("Churn", 22, 3)] := by kernel_rfl
theorem reg_under : Try.prog.underlying 103 = some (.struct (Try.prog.fieldsOf 103)) := by kernel_rfl
theorem reg_cellsOf : Try.prog.cellsOf 103 = 4 := by kernel_rfl
section
variable {H : Type} {enc : TypeId × Value → H} {w : World} {base : Nat} {spare : Nat → Bool} {held : Bool} {fuel : Nat} {cs : List Value} {x : DataW H × List MemPlace}
theorem open_mbr_l (h : DataW.trod enc Try.prog w base spare held fuel 123 cs = some x) : ∃ m : Mbr, cs = (mbrA m).toList := by
  obtain ⟨n, hl, hx⟩ := field_open mbr_under mbr_fields h
  obtain ⟨y0, h0⟩ := hx 0 _ _ _ rfl
  obtain ⟨y1, h1⟩ := hx 1 _ _ _ rfl
  obtain ⟨y2, h2⟩ := hx 2 _ _ _ rfl
  obtain ⟨y3, h3⟩ := hx 3 _ _ _ rfl
  rw [mbr_cellsOf] at hl
  rw [hash_cells, List.drop_zero] at h0
  rw [u64_cells] at h1
  rw [st_cellsOf] at h2
  rw [bool_cellsOf, List.take_of_length_le (by rw [List.length_drop, hl]; decide)] at h3
  obtain ⟨key, c0⟩ := open_hash Try.underlying24 Try.underlying5 u8_cells hash_cells h0
  obtain ⟨st, c1⟩ := open_u64 Try.underlying22 h1
  obtain ⟨s, c2⟩ := open_i64 Try.underlying121 h2
  obtain ⟨b, c3, _⟩ := DataW.trod_bool Try.underlying4 h3
  refine ⟨⟨key, st, s, b⟩, ?_⟩
  have e1 : cs = cs.take 32 ++ cs.drop 32 := (List.take_append_drop 32 cs).symm
  rw [e1, c0, drop_cut cs 32 1 33 rfl, c1, drop_cut cs 33 1 34 rfl, c2, c3]
  simp [mbrA]
theorem open_mbrs_l (h : DataW.trod enc Try.prog w base spare held fuel 101 cs = some x) : ∃ (s : Sl) (l : List Mbr), cs = [s.v] ∧ MbrsR w s l :=
  open_rows (R := fun cs m => cs = mbrA m) Try.underlying101 mbr_cellsOf (by decide) (fun fuel cs x h => by
    obtain ⟨m, hc⟩ := open_mbr_l h
    exact ⟨m, by rw [hc]⟩) h
theorem open_ints_l (h : DataW.trod enc Try.prog w base spare held fuel 58 cs = some x) : ∃ (s : Sl) (l : List Int), cs = [s.v] ∧ NumsR w s l :=
  open_rows (R := fun cs n => cs = intA n) Try.underlying58 int_cells (by decide) (fun fuel cs x h => by
    obtain ⟨n, hc⟩ := open_i64 Try.underlying3 h
    exact ⟨n, by rw [hc]; rfl⟩) h
theorem open_reg_l (h : DataW.trod enc Try.prog w base spare held fuel 103 cs = some x) : ∃ (g : GReg) (r : Reg), cs = (regA g).toList ∧ RegR w g r := by
  obtain ⟨n, hl, hx⟩ := field_open reg_under reg_fields h
  obtain ⟨y0, h0⟩ := hx 0 _ _ _ rfl
  obtain ⟨y1, h1⟩ := hx 1 _ _ _ rfl
  obtain ⟨y2, h2⟩ := hx 2 _ _ _ rfl
  obtain ⟨y3, h3⟩ := hx 3 _ _ _ rfl
  rw [reg_cellsOf] at hl
  rw [mbrs_cellsOf, List.drop_zero] at h0
  rw [ints_cellsOf] at h1 h2
  rw [u64_cells, List.take_of_length_le (by rw [List.length_drop, hl]; decide)] at h3
  obtain ⟨s0, l0, c0, r0⟩ := open_mbrs_l h0
  obtain ⟨s1, l1, c1, r1⟩ := open_ints_l h1
  obtain ⟨s2, l2, c2, r2⟩ := open_ints_l h2
  obtain ⟨ch, c3⟩ := open_u64 Try.underlying22 h3
  refine ⟨⟨s0, s1, s2, ch⟩, ⟨l0, l1, l2, ch⟩, ?_, r0, r1, r2, rfl⟩
  have e1 : cs = cs.take 1 ++ cs.drop 1 := (List.take_append_drop 1 cs).symm
  rw [e1, c0, drop_cut cs 1 1 2 rfl, c1, drop_cut cs 2 1 3 rfl, c2, c3]
  simp [regA]
end
set_option maxRecDepth 100000 in
theorem open_reg {H : Type} {enc : TypeId × Value → H} {w : World} {base : Nat} {spare : Nat → Bool} {held : Bool} {r : Reach} {b0 : Nat} {v : Value} {d : DataW H} {p : List MemPlace} (hv : Value.okWide Try.prog w r b0 103 v) (h : DataW.Trod enc Try.prog w base spare held 103 v d p) :
    ∃ (g : GReg) (a : Reg), v = .agg (regA g) ∧ RegR w g a := by
  obtain ⟨cs, rfl, hsz⟩ := okWide_struct reg_under hv
  obtain ⟨fuel, hf⟩ := h
  obtain ⟨g, u, hp, hr⟩ := open_reg_l hf
  exact ⟨g, u, congrArg Value.agg (Array.ext' (by simpa [Value.cells] using hp)), hr⟩
end Go.Proofs.Ytkocpihfdpahpaa
