/- Texts of this proof, one behind the other: RfF, RfM. -/
import Derived.Test.YtkocpihfdpahpaaRK
import Derived.Test.YtkocpihfdpahpaaRC
import Derived.Test.YtkocpihfdpahpaaRH
import Derived.Deep.CutRange
import Derived.Test.YtkocpihfdpahpaaQE
set_option linter.unusedVariables false
set_option linter.unusedSimpArgs false
/- Contract of the document's layer 11: First. -/
namespace Go.Proofs.Ytkocpihfdpahpaa
open Go.RowKit
attribute [local go_sem ↓] fold_bsM fold_bldM fold_bldR
attribute [local go_sem] regA_size

def LitM (vm : Mbr) (x : Value) (W : World) : Prop := ∃ b, x = .slice (some ⟨b, 0, none⟩) 1 1 ∧ ∃ (t : TypeId) (fr : Nat × Nat), W.heap[b]? = some (.cells (mbrA vm) t fr)
theorem LitM.keep {vm : Mbr} {x : Value} {W W' : World} (h : LitM vm x W) (hb : Below W.heap.size W W') : LitM vm x W' := by
  obtain ⟨b, h1, t, fr, h2⟩ := h
  refine ⟨b, h1, t, fr, ?_⟩
  have hlt : b < W.heap.size := by
    rcases Nat.lt_or_ge b W.heap.size with hlt | hge
    · exact hlt
    · rw [Array.getElem?_eq_none hge] at h2; cases h2
  rw [hb.block b hlt]
  exact h2
def OwnMv (B : Nat) (vs : List Mbr) (x : Value) (W : World) : Prop := OwnC W B 35 x vs.length (flatC mbrA vs)
theorem OwnMv.keep {B : Nat} {vs : List Mbr} {x : Value} {W W' : World} (h : OwnMv B vs x W) (hb : Below W.heap.size W W') : OwnMv B vs x W' := OwnC.keep h hb
theorem OwnMv.slice {B : Nat} {vs : List Mbr} {x : Value} {W : World} (h : OwnMv B vs x W) : ∃ s : Sl, x = s.v := OwnC.slice h
/-- a register of members alone that is being made, in a variable -/
structure MV (W : World) (B pr : Nat) (s : Sl) (ms : List Mbr) (ch : UInt64) : Prop where
  row : row? W pr 0 4 = some (regA ⟨s, ⟨none, 0, 0⟩, ⟨none, 0, 0⟩, ch⟩)
  thr : there W pr 0 4
  own : OwnC W B 35 s.v ms.length (flatC mbrA ms)
  lt : pr < B
  hB : B ≤ W.heap.size
section
variable {W W' : World} {B pr : Nat} {s t : Sl} {ms ms' : List Mbr} {ch : UInt64}
theorem MV.cell (h : MV W B pr s ms ch) : W.cell? ⟨pr, 0, none⟩ = some s.v := by
  have h1 := cell_of_row? h.row 0 (by omega)
  simpa [regA] using h1
theorem splice_reg_mem (g : GReg) (s : Sl) : splice (regA g) 0 #[s.v] = regA { g with members := s } := by
  simp [splice, regA]
theorem MV.set (h : MV W B pr s ms ch) (hb : Below B W W') (ho : OwnMv B ms' t.v W') :
    W'.cell? ⟨pr, 0, none⟩ = some s.v ∧ W'.frozen? ⟨pr, 0, none⟩ = false ∧ MV (W'.setCell ⟨pr, 0, none⟩ t.v) B pr t ms' ch ∧ Below pr W (W'.setCell ⟨pr, 0, none⟩ t.v) := by
  have hlt := h.lt
  have hrow := (row?_below _ _ _ hb hlt).trans h.row
  have hthr := there_below hb hlt h.thr
  have hcell : W'.cell? ⟨pr, 0, none⟩ = some s.v := (hb.cell (p := ⟨pr, 0, none⟩) hlt).trans h.cell
  have hfz := (hthr 0 (by omega)).2
  simp only [Nat.zero_add] at hfz
  have hs := size_setCell W' ⟨pr, 0, none⟩ t.v
  refine ⟨hcell, hfz, ⟨?_, there_set _ _ _ _ _ _ hthr, ?_, hlt, by rw [hs]; exact Nat.le_trans h.hB hb.size⟩, (hb.mono (Nat.le_of_lt hlt)).setCell (Nat.le_refl _) _⟩
  · rw [row?_set_in _ _ _ _ _ (by omega) (by rw [hrow]; rfl), hrow, Option.map_some, splice_reg_mem]
  · refine OwnC.keepB ho (by rw [hs]; exact Nat.le_refl _) fun g hg _ => Below.heap_setCell W' ⟨pr, 0, none⟩ t.v g ?_
    have := (OwnC.lt ho g hg).1
    show g ≠ pr
    omega
end
end Go.Proofs.Ytkocpihfdpahpaa

/- Contracts of the document's layer 10: MayPoint, MayVote, MayOp, MayHeader. -/
namespace Go.Proofs.Ytkocpihfdpahpaa
open Go.RowKit

theorem tmayPoint_c (p : Pt) (w : World) : Calls Try.prog 208 #[.agg (pointA p)] w fun e w' => e = .returned (.bool (mayPt p)) ∧ Below w.heap.size w w' := by
  go_enter Try.func208, Try.ntmps208
  go_wp2_with fail
  go_ret
  exact ⟨ret_bool (by simp [mayPt]; omega), by (repeat' (first | (with_reducible exact Below.refl _ _) | (with_reducible assumption) | (with_reducible refine bel_trans (by assumption) ?_ ?_) | (with_reducible refine bel_grown (by assumption) ?_ ?_ ?_) | (with_reducible refine Below.alloc ?_ ?_ _) | (with_reducible refine Below.drew ?_) | (with_reducible refine below_drewN ?_ _) | (with_reducible refine Below.setCell ?_ ?_ _) | (with_reducible refine below_put ?_ ?_ _ _) | (with_reducible exact Nat.le_refl _) | omega | (with_reducible refine Nat.le_trans ?_ (Below.size (by assumption))) | (with_reducible refine Nat.le_trans ?_ (World.grownBy.size (by assumption))) | (simp only [World.size_alloc, World.size_setCell, World.size_drew, size_drewN]; omega) | (simp only [World.size_alloc, World.size_setCell, World.size_drew, size_drewN, size_put]; omega) | (intro k hk; simp [Value.ownBlock] at hk; done) | (intro k hk; simp [Value.ownBlock] at hk; omega) | (simp [size_drewN] at *; omega)))⟩
set_option maxRecDepth 100000 in
theorem tmayVote_c (v : GVote) (w : World) : Calls Try.prog 203 #[.agg (voteA v)] w fun e w' => e = .returned (.bool (mayV v)) ∧ Below w.heap.size w w' := by
  go_enter Try.func203, Try.ntmps203
  go_wp2_with (go_at_call 208; refine (tmayPoint_c _ _).mono ?_; rintro e w1 ⟨rfl, hb⟩; obtain ⟨k1, k2, k3⟩ := kept hb; have hz : w.heap.size < w1.heap.size := by (have := hb.size; (try simp at this); omega))
  all_goals go_ret
  all_goals exact ⟨ret_bool (by simp_all [mayV, mayMem] <;> omega), by (repeat' (first | (with_reducible exact Below.refl _ _) | (with_reducible assumption) | (with_reducible refine bel_trans (by assumption) ?_ ?_) | (with_reducible refine bel_grown (by assumption) ?_ ?_ ?_) | (with_reducible refine Below.alloc ?_ ?_ _) | (with_reducible refine Below.drew ?_) | (with_reducible refine below_drewN ?_ _) | (with_reducible refine Below.setCell ?_ ?_ _) | (with_reducible refine below_put ?_ ?_ _ _) | (with_reducible exact Nat.le_refl _) | omega | (with_reducible refine Nat.le_trans ?_ (Below.size (by assumption))) | (with_reducible refine Nat.le_trans ?_ (World.grownBy.size (by assumption))) | (simp only [World.size_alloc, World.size_setCell, World.size_drew, size_drewN]; omega) | (simp only [World.size_alloc, World.size_setCell, World.size_drew, size_drewN, size_put]; omega) | (intro k hk; simp [Value.ownBlock] at hk; done) | (intro k hk; simp [Value.ownBlock] at hk; omega) | (simp [size_drewN] at *; omega)))⟩
set_option maxRecDepth 100000 in
set_option maxHeartbeats 1600000 in
theorem tmayOp_c (g : GOp) (o : Op) (w : World) (h : OpR w g o) :
    Calls Try.prog 189 #[.agg (opA g)] w fun e w' => e = .returned (.bool (opMay o)) ∧ Below w.heap.size w w' := by
  have hz := zero_hash
  have hq := eq_hash_guard
  have hM := opMay_doc o
  have n1 := h.2.2.2.2.1
  rw [← h.1, ← h.2.1, ← h.2.2.1, ← h.2.2.2.1] at hM
  have Hv := Lib.hid h.2.2.2.2
  have hrow : row? (w.alloc (.cells (opA g) 83)) w.heap.size 0 36 = some (opA g) := by rw [row?_new]; simp
  have hB : Below w.heap.size w (w.alloc (.cells (opA g) 83)) := bel_a _ _
  have hsz : w.heap.size < (w.alloc (.cells (opA g) 83)).heap.size := by simp
  have HM := Lib.hid hM
  clear hM h
  obtain ⟨gk, gkey, gst, gv, ⟨ea, en, ec⟩⟩ := g
  simp only at n1
  subst n1
  go_enter Try.func189, Try.ntmps189
  go_upto_region 1 with fail
  generalize hw1 : w.alloc (.cells (opA ⟨gk, gkey, gst, gv, ⟨ea, o.evidence.length, ec⟩⟩) 83) = w1 at *
  clear hw1
  obtain ⟨c0, c1, c2, c3⟩ := opA_cells hrow
  have ck := row?_sub hrow 1 32 (by omega)
  simp only [Nat.zero_add, Nat.reduceAdd, opA_key] at ck
  have hsz0 := stake_zero gst
  go_cut [3] from 4 (fun x W => x = .bool (!decide (gkey = zeroHash)) ∧ W = w1)
  case first =>
    by_cases hk : gkey = zeroHash
    · have hd := dec_true hk
      clear hk
      go_wp2_with fail
      go_meet
      case rel => exact ⟨by rw [hd]; rfl, rfl⟩
    · have hd := dec_false hk
      clear hk
      go_wp2_with fail
      go_meet
      case rel => exact ⟨by rw [hd]; rfl, rfl⟩
  case rest =>
    obtain ⟨rfl, rfl⟩ := hcut
    simp only at HM
    generalize decide (gkey = zeroHash) = kz at *
    have nl := nil_len o.evidence
    by_cases e1 : gk = 1
    · have b1 : (gk == 1) = true := by simp [e1]
      have Hm := Lib.hid (HM.out.trans (if_pos e1))
      clear e1 HM hsz0
      obtain ⟨gn, hgn⟩ : ∃ x, x = gst.toNat := ⟨_, rfl⟩
      obtain ⟨ev, hev⟩ : ∃ x, x = decide (o.evidence = []) := ⟨_, rfl⟩
      rw [← hgn, ← hev] at Hm
      rw [← hev] at nl
      rw [← hgn] at c1
      clear hgn hev
      by_cases g1 : 1 ≤ gn
      rotate_left
      · have Hr := Lib.hid (show opMay o = false by rw [Hm.out, decide_eq_false g1, Bool.and_false]; rfl)
        have g1' : ¬ (1 : Int) ≤ (gn : Int) := by omega
        have g1'' : decide ((1 : Int) ≤ (gn : Int)) = false := decide_eq_false g1'
        clear g1 Hm
        go_wp2_with fail
        all_goals go_ret
        all_goals exact ⟨ret_bool Hr.out.symm, hB⟩
      by_cases g2 : gn ≤ 4294967296
      rotate_left
      · have Hr := Lib.hid (show opMay o = false by rw [Hm.out, decide_eq_false g2, Bool.and_false])
        have g2' : ¬ (gn : Int) ≤ 4294967296 := by omega
        clear g2 Hm
        go_wp2_with fail
        all_goals go_ret
        all_goals exact ⟨ret_bool Hr.out.symm, hB⟩
      have Hr := Lib.hid (show opMay o = (decide (gv = 0) && ev) by rw [Hm.out, decide_eq_true g1, decide_eq_true g2, Bool.and_true, Bool.and_true])
      have g1' : (1 : Int) ≤ (gn : Int) := by omega
      have g2' : (gn : Int) ≤ 4294967296 := by omega
      clear g1 g2 Hm
      by_cases g3 : gv = 0
      · have Hr2 := Lib.hid (show opMay o = ev by rw [Hr.out, decide_eq_true g3]; rfl)
        have b9 : (gv == 0) = true := by simp [g3]
        clear g3 Hr
        go_wp2_with fail
        all_goals go_ret
        all_goals exact ⟨ret_bool Hr2.out.symm, hB⟩
      · have Hr2 := Lib.hid (show opMay o = false by rw [Hr.out, decide_eq_false g3]; rfl)
        have b9 : (gv == 0) = false := by simp [g3]
        clear g3 Hr
        go_wp2_with fail
        all_goals go_ret
        all_goals exact ⟨ret_bool Hr2.out.symm, hB⟩
    have Hm := Lib.hid (HM.out.trans (if_neg e1))
    have b1 : (gk == 1) = false := by simp [e1]
    clear e1 HM
    generalize decide (gst = 0) = sz at *
    by_cases e2 : gk = 2
    · have b2 : (gk == 2) = true := by simp [e2]
      have Hm := Lib.hid (Hm.out.trans (if_pos e2))
      clear e2
      cases kz <;> cases sz
      all_goals go_wp2_with fail
      all_goals go_ret
      all_goals exact ⟨ret_bool (by rw [Hm.out, Bool.eq_iff_iff]; simp_all [mayMem]; try omega), hB⟩
    have Hm := Lib.hid (Hm.out.trans (if_neg e2))
    have b2 : (gk == 2) = false := by simp [e2]
    clear e2
    by_cases e3 : gk = 3
    · have b3 : (gk == 3) = true := by simp [e3]
      have Hm := Lib.hid (Hm.out.trans (if_pos e3))
      clear e3
      by_cases m2 : o.evidence.length = 2
      · obtain ⟨a, b, hab⟩ : ∃ a b, o.evidence = [a, b] := by
          match he : o.evidence, m2 with
          | [a, b], _ => exact ⟨a, b, rfl⟩
        have hv := VotesR.keep' Hv.out hB
        rw [hab] at hv
        obtain ⟨bl, off, ga, gb, s1, s2, s3, hlt, r0, v0, r1, v1⟩ := votes_two hv
        have Hm := Lib.hid (show opMay o = ((kz && sz) && mayMem gv && (mayV ga && mayV gb)) by rw [Hm.out, hab, v0.may, v1.may]; simp [Bool.and_assoc])
        simp only at s1 s2 s3
        subst s1
        rw [m2] at c3
        dsimp only [Sl.v] at c3
        clear m2 hab hv v0 v1 s2 nl Hv
        cases kz <;> cases sz
        all_goals go_wp2_with (first
          | (go_at_call 203; (with_reducible refine (tmayVote_c ga _).mono ?_); rintro e w2 ⟨rfl, hb2⟩; obtain ⟨k1, k2, k3⟩ := kept hb2; have c3 := (k1 _ _ hsz).trans c3; have r1 := (k3 _ _ _ hlt).trans r1)
          | (go_at_call 203; (with_reducible refine (tmayVote_c gb _).mono ?_); rintro e w3 ⟨rfl, hb3⟩))
        all_goals go_ret
        all_goals exact ⟨ret_bool (by rw [Hm.out, Bool.eq_iff_iff]; simp_all [mayMem]; try omega), by (repeat' (first | (with_reducible exact Below.refl _ _) | (with_reducible assumption) | (with_reducible refine bel_trans (by assumption) ?_ ?_) | (with_reducible refine bel_grown (by assumption) ?_ ?_ ?_) | (with_reducible refine Below.alloc ?_ ?_ _) | (with_reducible refine Below.drew ?_) | (with_reducible refine below_drewN ?_ _) | (with_reducible refine Below.setCell ?_ ?_ _) | (with_reducible refine below_put ?_ ?_ _ _) | (with_reducible exact Nat.le_refl _) | omega | (with_reducible refine Nat.le_trans ?_ (Below.size (by assumption))) | (with_reducible refine Nat.le_trans ?_ (World.grownBy.size (by assumption))) | (simp only [World.size_alloc, World.size_setCell, World.size_drew, size_drewN]; omega) | (simp only [World.size_alloc, World.size_setCell, World.size_drew, size_drewN, size_put]; omega) | (intro k hk; simp [Value.ownBlock] at hk; done) | (intro k hk; simp [Value.ownBlock] at hk; omega) | (simp [size_drewN] at *; omega)))⟩
      · have b4 : ((o.evidence.length : Int) == 2) = false := by simp; omega
        have Hf := Lib.hid (show opMay o = false by rw [Hm.out]; simp [m2])
        clear m2 nl Hm
        cases kz <;> cases sz
        all_goals go_wp2_with fail
        all_goals go_ret
        all_goals exact ⟨ret_bool Hf.out.symm, hB⟩
    · have b3 : (gk == 3) = false := by simp [e3]
      have Hm := Lib.hid (Hm.out.trans (if_neg e3))
      clear e3
      go_wp2_with fail
      go_ret
      exact ⟨ret_bool Hm.out.symm, hB⟩
set_option maxRecDepth 100000 in
set_option maxHeartbeats 1600000 in
theorem tmayHeader_c (g : GHeader) (h : Hdr) (w : World) (hr : HdrR w g h) (hl : h.ops.length ≤ 1000000) :
    Calls Try.prog 132 #[.agg (headerA g)] w fun e w' => e = .returned (.bool (hdrMay h)) ∧ Below w.heap.size w w' := by
  have n1 := hr.2.2.1
  have hE := hr.2.1
  obtain ⟨gp, ge, ⟨oa, on, oc⟩⟩ := g
  simp only at n1 hE
  subst n1
  have HM := Lib.hid (show hdrMay h = (decide (1 ≤ ge.toNat ∧ ge.toNat ≤ 4611686018427387904) && decide (h.ops.length ≤ 16) && h.ops.all opMay) by rw [hdrMay, hE])
  have Hr := Lib.hid hr.2.2
  clear hE hr
  have hB0 := Lib.hid (show Below w.heap.size w (w.alloc (.cells (headerA ⟨gp, ge, ⟨oa, h.ops.length, oc⟩⟩) 49)) from bel_a _ _)
  have hrow : row? (w.alloc (.cells (headerA ⟨gp, ge, ⟨oa, h.ops.length, oc⟩⟩) 49)) w.heap.size 0 34 = some (headerA ⟨gp, ge, ⟨oa, h.ops.length, oc⟩⟩) := by rw [row?_new]; simp
  obtain ⟨c32, c33⟩ := headerA_cells hrow
  have hz0 : w.heap.size < (w.alloc (.cells (headerA ⟨gp, ge, ⟨oa, h.ops.length, oc⟩⟩) 49)).heap.size := by simp
  clear hrow
  go_enter Try.func132, Try.ntmps132
  go_upto_region 1 with fail
  generalize w.alloc (.cells (headerA ⟨gp, ge, ⟨oa, h.ops.length, oc⟩⟩) 49) = w1 at *
  have hb11 := Lib.hid (Below.refl w1.heap.size w1)
  go_upto_region 2 with fail
  go_loopw [3] (fun i w' => ∃ k : Nat, k ≤ h.ops.length ∧ Hid ((h.ops.take k).all opMay = true) ∧ i = .int .i64 k ∧ Hid (Below w1.heap.size w1 w')) (fun i _ => h.ops.length - (intOf i).toNat)
  case atStart => exact ⟨0, Nat.zero_le _, Lib.hid (by simp), rfl, hb11⟩
  case round =>
    clear hb11
    obtain ⟨k, hk, hb, rfl, hB⟩ := hrel
    have hBB := Lib.hid (hB0.out.trans (hB.out.mono (Nat.le_of_lt hz0)))
    have c33 : wr.cell? ⟨w.heap.size, 33, none⟩ = some (.slice oa h.ops.length oc) := (hB.out.cell (p := ⟨w.heap.size, 33, none⟩) hz0).trans c33
    by_cases hkx : k < h.ops.length
    · obtain ⟨bl, off, e, hbs, hc⟩ := (OpsR.keep' Hr.out hBB.out).at (by omega)
      have e1 := congrArg Sl.a e
      simp only at e1
      subst e1
      clear e
      obtain ⟨cs, hcx, g1, rfl, hv1⟩ := hc k hkx
      clear hc
      have hat := all_take_succ opMay h.ops k hkx
      have haf := all_false opMay h.ops k hkx
      generalize h.ops[k] = ok at *
      have Hat := Lib.hid hat
      have Haf := Lib.hid haf
      have HO := tmayOp_c g1 ok wr hv1
      clear hat haf hv1
      have i0 : (0 : Int) ≤ (k : Int) := by omega
      have i1 : (k : Int) < (h.ops.length : Int) := by omega
      have hks := Lib.hid (show k + 1 ≤ h.ops.length from hkx)
      obtain ⟨om, hom⟩ : ∃ x, x = opMay ok := ⟨_, rfl⟩
      rw [← hom] at HO
      replace hom := Lib.hid hom
      have hle := hBB.out.size
      have hle1 := hB.out.size
      go_wp2_with fail
      refine HO.mono ?_
      clear HO
      rintro e w2 ⟨rfl, hb1⟩
      have hB1 := Lib.hid (hB.out.trans (hb1.mono hle1))
      have hBB1 := Lib.hid (hBB.out.trans (hb1.mono hle))
      clear hb1
      cases om
      · have Hf := Lib.hid (show hdrMay h = false by rw [HM.out, Haf.out hom.out.symm, Bool.and_false])
        go_wp2_with fail
        go_ret
        exact ⟨ret_bool Hf.out.symm, hBB1.out⟩
      · go_wp2_with fail
        go_roundw
        case rel => exact ⟨k + 1, hks.out, Lib.hid (by rw [Hat.out, ← hom.out, Bool.and_true]; exact hb.out), by go_num, hB1⟩
        case measure =>
          have := hks.out
          simp [intOf]
          omega
    · have Hm := Lib.hid (show hdrMay h = (decide (1 ≤ ge.toNat ∧ ge.toNat ≤ 4611686018427387904) && decide (h.ops.length ≤ 16)) by
        have h1 := hb.out
        rw [List.take_of_length_le (by omega)] at h1
        rw [HM.out, h1, Bool.and_true])
      have c32r := (hB.out.cell (p := ⟨w.heap.size, 32, none⟩) hz0).trans c32
      obtain ⟨en, hen⟩ : ∃ x, x = ge.toNat := ⟨_, rfl⟩
      rw [← hen] at Hm c32r
      clear hen c32 hk
      have i1 : ¬ (k : Int) < (h.ops.length : Int) := by omega
      go_wp2_with fail
      all_goals go_ret
      all_goals exact ⟨ret_bool (by rw [Hm.out, Bool.eq_iff_iff]; simp; omega), hBB.out⟩
end Go.Proofs.Ytkocpihfdpahpaa
