/- Texts of this proof, one behind the other: TenE, TenF, TenG, TenH, TenI, TenJ, TenK, TenL, TenM, Much, Acts. -/
import Derived.Test.YthdjhbiigmcecaaKD
import Derived.Test.YthdjhbiigmcecaaKF
import Derived.Test.YthdjhbiigmcecaaQE
import Derived.Test.YthdjhbiigmcecaaKA
import Derived.Test.YthdjhbiigmcecaaRB
import Derived.BigQuiet
import Derived.Deep.CutRange
import Derived.Test.YthdjhbiigmcecaaKB
import Derived.Test.YthdjhbiigmcecaaQB
import Derived.Test.YthdjhbiigmcecaaQA
set_option linter.unusedVariables false
set_option linter.unusedSimpArgs false
/- Contracts: landmarkref03.Sum, landmarkref10.Name. -/
namespace Go.Proofs.Ythdjhbiigmcecaa
open Go.RowKit

attribute [local go_sem] load_bg store_bg
attribute [local go_sem ↓] load_bg_s store_bg_s zero_bg
theorem rsum_res : Try.f124.results = #[.cell 2 24] := by kernel_rfl
set_option maxRecDepth 100000 in
set_option maxHeartbeats 1600000 in
theorem rsum_c (s : Sl) (m : List UInt8) (w : World) (hs : BytesR w s m) (hl : m.length ≤ 1000000000) :
    Calls Try.prog 124 #[s.v] w fun e w' => e = .returned (.agg (hashA (shaSum m))) ∧ Below w.heap.size w w' := by
  obtain ⟨sa, sn, sc⟩ := s
  obtain rfl : sn = m.length := hs.1
  show Calls Try.prog 124 #[.slice sa m.length sc] w _
  have HS0 := fun W h => bsum_c ⟨sa, m.length, sc⟩ m W h hl
  obtain ⟨sh, hsh⟩ : ∃ sh, sh = shaSum m := ⟨_, rfl⟩
  obtain ⟨bg, hbg⟩ : ∃ bg, bg = begA begAll := ⟨_, rfl⟩
  have hbs : bg.size = 72 := by rw [hbg]; decide +kernel
  have hbo : oneCells bg := by rw [hbg]; exact begA_one _
  rw [← hsh, ← hbg] at HS0
  have HB := fun W => begin_c W
  rw [← hbg] at HB
  rw [← hsh]
  have hB0 : Below w.heap.size w (w.alloc (.cells (hashA zeroHash) 24)) := bel_a _ _
  have hrow0 : row? (w.alloc (.cells (hashA zeroHash) 24)) w.heap.size 0 32 = some (hashA zeroHash) := by rw [row?_new]; simp
  have hth0 : there (w.alloc (.cells (hashA zeroHash) 24)) w.heap.size 0 32 := there_new _ _ _ _ _ (by simp)
  have hz0 : (w.alloc (.cells (hashA zeroHash) 24)).heap.size = w.heap.size + 1 := by simp
  have hs1 := Lib.hid (hs.keep hB0)
  replace hsh := Lib.hid hsh
  replace hbg := Lib.hid hbg
  clear hs hl
  go_enter Try.func124, Try.ntmps124
  go_upto_region 1 with fail
  generalize w.alloc (.cells (hashA zeroHash) 24) = w1 at *
  replace hz0 := Lib.hid hz0
  go_wp2_with fail
  refine (HB _).mono ?_
  rintro e w2 ⟨rfl, hb2⟩
  have h1 : w.heap.size < w1.heap.size := by have := hz0.out; omega
  replace hrow0 := (row?_below _ _ _ hb2 h1).trans hrow0
  replace hth0 := there_below hb2 h1 hth0
  have hB2 : Below w.heap.size w w2 := hB0.trans (hb2.mono (by omega))
  have hs2 := hs1.out.keep hb2
  obtain ⟨w3, hw3, hrow3, hth3, hB3, hz3⟩ := box_row w2 begZ bg 160 72 (by omega) (by decide +kernel) hbs
  have h12 := hb2.size
  have hw1z : w.heap.size < w2.heap.size := by omega
  replace hrow0 := (row?_below _ _ _ hB3 hw1z).trans hrow0
  replace hth0 := there_below hB3 hw1z hth0
  have hs3 := hs2.keep hB3
  have hB3' : Below w.heap.size w w3 := hB2.trans (hB3.mono (by omega))
  have HS1 := HS0 w3 hs3
  clear hs2 hs3 hB2 hB0 HS0 HB hb2 hB3 hs1
  replace hz3 := Lib.hid hz3
  have hst : (storeAgg 160 (.pointer (some ⟨w2.heap.size, 0, none⟩)) (.agg bg)).run Try.prog (w2.alloc (.cells begZ 160)) = .ok () w3 := by
    rw [hw3]
    exact store_bg _ _ _ _ hbs hbo (there_new w2 begZ 160 0 72 (by decide +kernel))
  clear hw3
  go_upto_region 2 with fail
  clear hst
  dsimp only [Sl.v] at HS1
  go_wp2_with fail
  (with_reducible refine HS1.mono ?_)
  rintro e w4 ⟨rfl, hb4⟩
  have hz2 := hz3.out
  have h03 : w.heap.size < w3.heap.size := by omega
  have hrow4 := (row?_below _ _ _ hb4 h03).trans hrow0
  have hth4 := there_below hb4 h03 hth0
  have hB4 : Below w.heap.size w w4 := hB3'.trans (hb4.mono (by omega))
  clear hb4 HS1 hrow0 hth0 hrow3 hth3 hB3' hz2 hbs hbo
  go_wp2_with (with_reducible refine ret_row Try.isAgg24 Try.sizeOf24 rsum_res (x := .pointer (some ⟨w.heap.size, 0, none⟩)) (w.heap.size) 0 ?rrhx (Eq.refl _) ?rrh ?rrhd ?rrhR; (case rrhx => simp only [Array.getD_eq_getD_getElem?, List.getElem?_toArray, List.getElem?_cons_succ, List.getElem?_cons_zero, Option.getD_some]); (case rrhd => exact rfl); (case rrh => go_simp); (case rrhR => ((refine ⟨?_, ?_⟩; (case refine_1 => (go_simp; done)); (case refine_2 => ((repeat' (first | (with_reducible exact Below.refl _ _) | (with_reducible assumption) | (with_reducible refine bel_trans (by assumption) ?_ ?_) | (with_reducible refine bel_grown (by assumption) ?_ ?_ ?_) | (with_reducible refine Below.alloc ?_ ?_ _) | (with_reducible refine Below.drew ?_) | (with_reducible refine below_drewN ?_ _) | (with_reducible refine Below.setCell ?_ ?_ _) | (with_reducible refine below_put ?_ ?_ _ _) | (with_reducible exact Nat.le_refl _) | omega | (with_reducible refine Nat.le_trans ?_ (Below.size (by assumption))) | (with_reducible refine Nat.le_trans ?_ (World.grownBy.size (by assumption))) | (simp only [World.size_alloc, World.size_setCell, World.size_drew, size_drewN]; omega) | (simp only [World.size_alloc, World.size_setCell, World.size_drew, size_drewN, size_put]; omega) | (intro k hk; simp [Value.ownBlock] at hk; done) | (intro k hk; simp [Value.ownBlock] at hk; omega) | (simp [size_drewN] at *; omega)))))))))
theorem rname_res : Try.f51.results = #[.cell 2 24] := by kernel_rfl
set_option maxRecDepth 100000 in
set_option maxHeartbeats 1600000 in
/-- the name of a header that may be -/
theorem rname_c (g : GHeader) (h : Hdr) (w : World) (hr : HdrR w g h) (hm : hdrMay h = true) :
    Calls Try.prog 51 #[.agg (headerA g)] w fun e w' => e = .returned (.agg (hashA (hdName h))) ∧ Below w.heap.size w w' := by
  obtain ⟨hl, hm2⟩ := hdrMay_out hm
  have hnm : shaSum (nmText h) = hdName h := by unfold hdName; rw [if_pos hm]
  have hlen : (nmText h).length ≤ 1000000000 := by
    have := hdBytes_length hl hm2
    unfold nmText
    simp only [List.length_append, List.length_cons, List.length_nil]
    omega
  have HT := fun W hW => ttext_c g h W hW hl hm2
  have HS := fun s W hW => rsum_c s (nmText h) W hW hlen
  rw [hnm] at HS
  obtain ⟨tx, htx⟩ : ∃ tx, tx = nmText h := ⟨_, rfl⟩
  obtain ⟨hn, hhn⟩ : ∃ hn, hn = hdName h := ⟨_, rfl⟩
  rw [← htx] at HS HT
  rw [← hhn] at HS ⊢
  have hB0 : Below w.heap.size w ((w.alloc (.cells (headerA g) 49)).alloc (.cells (hashA zeroHash) 24)) := by (repeat' (first | (with_reducible exact Below.refl _ _) | (with_reducible assumption) | (with_reducible refine bel_trans (by assumption) ?_ ?_) | (with_reducible refine bel_grown (by assumption) ?_ ?_ ?_) | (with_reducible refine Below.alloc ?_ ?_ _) | (with_reducible refine Below.drew ?_) | (with_reducible refine below_drewN ?_ _) | (with_reducible refine Below.setCell ?_ ?_ _) | (with_reducible refine below_put ?_ ?_ _ _) | (with_reducible exact Nat.le_refl _) | omega | (with_reducible refine Nat.le_trans ?_ (Below.size (by assumption))) | (with_reducible refine Nat.le_trans ?_ (World.grownBy.size (by assumption))) | (simp only [World.size_alloc, World.size_setCell, World.size_drew, size_drewN]; omega) | (simp only [World.size_alloc, World.size_setCell, World.size_drew, size_drewN, size_put]; omega) | (intro k hk; simp [Value.ownBlock] at hk; done) | (intro k hk; simp [Value.ownBlock] at hk; omega) | (simp [size_drewN] at *; omega)))
  have hz0 : ((w.alloc (.cells (headerA g) 49)).alloc (.cells (hashA zeroHash) 24)).heap.size = w.heap.size + 2 := by simp
  have hrow0 : row? ((w.alloc (.cells (headerA g) 49)).alloc (.cells (hashA zeroHash) 24)) (w.heap.size + 1) 0 32 = some (hashA zeroHash) := by rw [row?_new_at _ _ _ _ _ _ (by simp)]; simp
  have hrowh : row? ((w.alloc (.cells (headerA g) 49)).alloc (.cells (hashA zeroHash) 24)) w.heap.size 0 34 = some (headerA g) := by rw [row?_old _ _ _ _ _ (by simp), row?_new]; simp
  have hth0 : there ((w.alloc (.cells (headerA g) 49)).alloc (.cells (hashA zeroHash) 24)) (w.heap.size + 1) 0 32 := there_new_at _ _ _ _ _ _ (by simp) (by simp)
  have hr0 := Lib.hid (hr.keep' hB0)
  replace htx := Lib.hid htx
  replace hhn := Lib.hid hhn
  clear hr hm hm2 hl hnm hlen
  go_enter Try.func51, Try.ntmps51
  go_upto_region 1 with fail
  generalize (w.alloc (.cells (headerA g) 49)).alloc (.cells (hashA zeroHash) 24) = w1 at *
  replace hz0 := Lib.hid hz0
  have HT1 := HT w1 hr0.out
  clear HT
  go_wp2_with fail
  (with_reducible refine HT1.mono ?_)
  rintro e w2 ⟨x, rfl, ho, hb2⟩
  obtain ⟨s, rfl⟩ := ho.slice
  have h1 : w.heap.size + 1 < w1.heap.size := by have := hz0.out; omega
  replace hrow0 := (row?_below _ _ _ hb2 h1).trans hrow0
  replace hth0 := there_below hb2 h1 hth0
  have hB2 : Below w.heap.size w w2 := hB0.trans (hb2.mono (by omega))
  have HS2 := HS s w2 ho.reads
  have h12 := hb2.size
  have h2 : w.heap.size + 1 < w2.heap.size := by omega
  clear HT1 HS hrowh hB0 hb2 ho
  go_wp2_with fail
  (with_reducible refine HS2.mono ?_)
  rintro e w3 ⟨rfl, hb3⟩
  replace hrow0 := (row?_below _ _ _ hb3 h2).trans hrow0
  replace hth0 := there_below hb3 h2 hth0
  have hB3 : Below w.heap.size w w3 := hB2.trans (hb3.mono (by omega))
  clear HS2 hB2 hb3
  go_wp2_with (with_reducible refine ret_row Try.isAgg24 Try.sizeOf24 rname_res (x := .pointer (some ⟨w.heap.size + 1, 0, none⟩)) (w.heap.size + 1) 0 ?rrhx (Eq.refl _) ?rrh ?rrhd ?rrhR; (case rrhx => simp only [Array.getD_eq_getD_getElem?, List.getElem?_toArray, List.getElem?_cons_succ, List.getElem?_cons_zero, Option.getD_some]); (case rrhd => exact rfl); (case rrh => go_simp); (case rrhR => ((refine ⟨?_, ?_⟩; (case refine_1 => (go_simp; done)); (case refine_2 => ((repeat' (first | (with_reducible exact Below.refl _ _) | (with_reducible assumption) | (with_reducible refine bel_trans (by assumption) ?_ ?_) | (with_reducible refine bel_grown (by assumption) ?_ ?_ ?_) | (with_reducible refine Below.alloc ?_ ?_ _) | (with_reducible refine Below.drew ?_) | (with_reducible refine below_drewN ?_ _) | (with_reducible refine Below.setCell ?_ ?_ _) | (with_reducible refine below_put ?_ ?_ _ _) | (with_reducible exact Nat.le_refl _) | omega | (with_reducible refine Nat.le_trans ?_ (Below.size (by assumption))) | (with_reducible refine Nat.le_trans ?_ (World.grownBy.size (by assumption))) | (simp only [World.size_alloc, World.size_setCell, World.size_drew, size_drewN]; omega) | (simp only [World.size_alloc, World.size_setCell, World.size_drew, size_drewN, size_put]; omega) | (intro k hk; simp [Value.ownBlock] at hk; done) | (intro k hk; simp [Value.ownBlock] at hk; omega) | (simp [size_drewN] at *; omega)))))))))
end Go.Proofs.Ythdjhbiigmcecaa

/- Contracts: landmarkref10's MayPoint, MayVote, MayOp, MayHeader. -/
namespace Go.Proofs.Ythdjhbiigmcecaa
open Go.RowKit

theorem tmayPoint_c (p : Pt) (w : World) : Calls Try.prog 227 #[.agg (pointA p)] w fun e w' => e = .returned (.bool (mayPt p)) ∧ Below w.heap.size w w' := by
  go_enter Try.func227, Try.ntmps227
  go_wp2_with fail
  go_ret
  exact ⟨ret_bool (by simp [mayPt]; omega), by (repeat' (first | (with_reducible exact Below.refl _ _) | (with_reducible assumption) | (with_reducible refine bel_trans (by assumption) ?_ ?_) | (with_reducible refine bel_grown (by assumption) ?_ ?_ ?_) | (with_reducible refine Below.alloc ?_ ?_ _) | (with_reducible refine Below.drew ?_) | (with_reducible refine below_drewN ?_ _) | (with_reducible refine Below.setCell ?_ ?_ _) | (with_reducible refine below_put ?_ ?_ _ _) | (with_reducible exact Nat.le_refl _) | omega | (with_reducible refine Nat.le_trans ?_ (Below.size (by assumption))) | (with_reducible refine Nat.le_trans ?_ (World.grownBy.size (by assumption))) | (simp only [World.size_alloc, World.size_setCell, World.size_drew, size_drewN]; omega) | (simp only [World.size_alloc, World.size_setCell, World.size_drew, size_drewN, size_put]; omega) | (intro k hk; simp [Value.ownBlock] at hk; done) | (intro k hk; simp [Value.ownBlock] at hk; omega) | (simp [size_drewN] at *; omega)))⟩

set_option maxRecDepth 100000 in
theorem tmayVote_c (v : GVote) (w : World) : Calls Try.prog 209 #[.agg (voteA v)] w fun e w' => e = .returned (.bool (mayV v)) ∧ Below w.heap.size w w' := by
  go_enter Try.func209, Try.ntmps209
  go_wp2_with (go_at_call 227; refine (tmayPoint_c _ _).mono ?_; rintro e w1 ⟨rfl, hb⟩; obtain ⟨k1, k2, k3⟩ := kept hb; have hz : w.heap.size < w1.heap.size := by (have := hb.size; (try simp at this); omega))
  all_goals go_ret
  all_goals exact ⟨ret_bool (by simp_all [mayV, mayMem] <;> omega), by (repeat' (first | (with_reducible exact Below.refl _ _) | (with_reducible assumption) | (with_reducible refine bel_trans (by assumption) ?_ ?_) | (with_reducible refine bel_grown (by assumption) ?_ ?_ ?_) | (with_reducible refine Below.alloc ?_ ?_ _) | (with_reducible refine Below.drew ?_) | (with_reducible refine below_drewN ?_ _) | (with_reducible refine Below.setCell ?_ ?_ _) | (with_reducible refine below_put ?_ ?_ _ _) | (with_reducible exact Nat.le_refl _) | omega | (with_reducible refine Nat.le_trans ?_ (Below.size (by assumption))) | (with_reducible refine Nat.le_trans ?_ (World.grownBy.size (by assumption))) | (simp only [World.size_alloc, World.size_setCell, World.size_drew, size_drewN]; omega) | (simp only [World.size_alloc, World.size_setCell, World.size_drew, size_drewN, size_put]; omega) | (intro k hk; simp [Value.ownBlock] at hk; done) | (intro k hk; simp [Value.ownBlock] at hk; omega) | (simp [size_drewN] at *; omega)))⟩

set_option maxRecDepth 100000 in
set_option maxHeartbeats 1600000 in
theorem tmayOp_c (g : GOp) (o : Op) (w : World) (h : OpR w g o) :
    Calls Try.prog 185 #[.agg (opA g)] w fun e w' => e = .returned (.bool (opMay o)) ∧ Below w.heap.size w w' := by
  have hz := zero_hash
  have hq := eq_hash_guard
  have hM := opMay_doc o
  have n1 := h.2.2.2.2.1
  rw [← h.1, ← h.2.1, ← h.2.2.1, ← h.2.2.2.1] at hM
  have Hv := Lib.hid h.2.2.2.2
  have hrow : row? (w.alloc (.cells (opA g) 97)) w.heap.size 0 36 = some (opA g) := by rw [row?_new]; simp
  have hB : Below w.heap.size w (w.alloc (.cells (opA g) 97)) := bel_a _ _
  have hsz : w.heap.size < (w.alloc (.cells (opA g) 97)).heap.size := by simp
  have HM := Lib.hid hM
  clear hM h
  obtain ⟨gk, gkey, gst, gv, ⟨ea, en, ec⟩⟩ := g
  simp only at n1
  subst n1
  go_enter Try.func185, Try.ntmps185
  go_upto_region 1 with fail
  generalize hw1 : w.alloc (.cells (opA ⟨gk, gkey, gst, gv, ⟨ea, o.evidence.length, ec⟩⟩) 97) = w1 at *
  clear hw1
  obtain ⟨c0, c1, c2, c3⟩ := opA_cells hrow
  have ck := row?_sub hrow 1 32 (by omega)
  simp only [Nat.zero_add, Nat.reduceAdd, opA_key] at ck
  have hsz0 := stake_zero gst
  go_cut [3] from 4 (fun x W => x = .bool (!decide (gkey = zeroHash)) ∧ W = w1)
  case first =>
    by_cases hk : gkey = zeroHash
    · have hd := dec_true hk
      clear hk
      go_wp2_with fail
      go_meet
      case rel => exact ⟨by rw [hd]; rfl, rfl⟩
    · have hd := dec_false hk
      clear hk
      go_wp2_with fail
      go_meet
      case rel => exact ⟨by rw [hd]; rfl, rfl⟩
  case rest =>
    obtain ⟨rfl, rfl⟩ := hcut
    simp only at HM
    generalize decide (gkey = zeroHash) = no at *
    have nl := nil_len o.evidence
    by_cases e1 : gk = 1
    · have b1 : (gk == 1) = true := by simp [e1]
      have Hm := Lib.hid (HM.out.trans (if_pos e1))
      clear e1 HM
      go_wp2_with fail
      all_goals go_ret
      all_goals exact ⟨ret_bool (by rw [Hm.out, Bool.eq_iff_iff]; simp_all; try (first | omega | exact ⟨fun q => ⟨⟨q, by omega⟩, by omega⟩, fun q => q.1.1⟩)), hB⟩
    have Hm := Lib.hid (HM.out.trans (if_neg e1))
    have b1 : (gk == 1) = false := by simp [e1]
    clear e1 HM
    by_cases e2 : gk = 2
    · have b2 : (gk == 2) = true := by simp [e2]
      have Hm := Lib.hid (Hm.out.trans (if_pos e2))
      clear e2
      cases no
      all_goals go_wp2_with fail
      all_goals go_ret
      all_goals exact ⟨ret_bool (by rw [Hm.out, Bool.eq_iff_iff]; simp_all [mayMem]; try omega), hB⟩
    have Hm := Lib.hid (Hm.out.trans (if_neg e2))
    have b2 : (gk == 2) = false := by simp [e2]
    clear e2
    by_cases e3 : gk = 3
    · have b3 : (gk == 3) = true := by simp [e3]
      have Hm := Lib.hid (Hm.out.trans (if_pos e3))
      clear e3
      by_cases m2 : o.evidence.length = 2
      · obtain ⟨a, b, hab⟩ : ∃ a b, o.evidence = [a, b] := by
          match he : o.evidence, m2 with
          | [a, b], _ => exact ⟨a, b, rfl⟩
        have hv := VotesR.keep' Hv.out hB
        rw [hab] at hv
        obtain ⟨bl, off, ga, gb, s1, s2, s3, hlt, r0, v0, r1, v1⟩ := votes_two hv
        have HmF := Lib.hid (show opMay o = (no && decide (gst = 0) && mayMem gv && (mayV ga && mayV gb)) by rw [Hm.out, hab, v0.may, v1.may]; simp [Bool.and_assoc])
        simp only at s1 s2 s3
        subst s1
        rw [m2] at c3
        dsimp only [Sl.v] at c3
        clear m2 hab hv v0 v1 s2 nl Hv
        cases no
        all_goals go_wp2_with (first
          | (go_at_call 209; (with_reducible refine (tmayVote_c ga _).mono ?_); rintro e w2 ⟨rfl, hb2⟩; obtain ⟨k1, k2, k3⟩ := kept hb2; have c3 := (k1 _ _ hsz).trans c3; have r1 := (k3 _ _ _ hlt).trans r1)
          | (go_at_call 209; (with_reducible refine (tmayVote_c gb _).mono ?_); rintro e w3 ⟨rfl, hb3⟩))
        all_goals go_ret
        all_goals exact ⟨ret_bool (by rw [HmF.out, Bool.eq_iff_iff]; simp_all [mayMem]; try omega), by (repeat' (first | (with_reducible exact Below.refl _ _) | (with_reducible assumption) | (with_reducible refine bel_trans (by assumption) ?_ ?_) | (with_reducible refine bel_grown (by assumption) ?_ ?_ ?_) | (with_reducible refine Below.alloc ?_ ?_ _) | (with_reducible refine Below.drew ?_) | (with_reducible refine below_drewN ?_ _) | (with_reducible refine Below.setCell ?_ ?_ _) | (with_reducible refine below_put ?_ ?_ _ _) | (with_reducible exact Nat.le_refl _) | omega | (with_reducible refine Nat.le_trans ?_ (Below.size (by assumption))) | (with_reducible refine Nat.le_trans ?_ (World.grownBy.size (by assumption))) | (simp only [World.size_alloc, World.size_setCell, World.size_drew, size_drewN]; omega) | (simp only [World.size_alloc, World.size_setCell, World.size_drew, size_drewN, size_put]; omega) | (intro k hk; simp [Value.ownBlock] at hk; done) | (intro k hk; simp [Value.ownBlock] at hk; omega) | (simp [size_drewN] at *; omega)))⟩
      · have b4 : ((o.evidence.length : Int) == 2) = false := by simp; omega
        have Hf := Lib.hid (show opMay o = false by rw [Hm.out]; simp [m2])
        clear m2 nl Hm
        cases no
        all_goals go_wp2_with fail
        all_goals go_ret
        all_goals exact ⟨ret_bool Hf.out.symm, hB⟩
    · have b3 : (gk == 3) = false := by simp [e3]
      have Hm := Lib.hid (Hm.out.trans (if_neg e3))
      clear e3
      go_wp2_with fail
      go_ret
      exact ⟨ret_bool Hm.out.symm, hB⟩
set_option maxRecDepth 100000 in
set_option maxHeartbeats 1600000 in
theorem tmayHeader_c (g : GHeader) (h : Hdr) (w : World) (hr : HdrR w g h) (hl : h.ops.length ≤ 1000000) :
    Calls Try.prog 118 #[.agg (headerA g)] w fun e w' => e = .returned (.bool (hdrMay h)) ∧ Below w.heap.size w w' := by
  have n1 := hr.2.2.1
  have hE := hr.2.1
  obtain ⟨gp, ge, ⟨oa, on, oc⟩⟩ := g
  simp only at n1 hE
  subst n1
  have HG : hdrGood h = (decide (1 ≤ ge.toNat ∧ ge.toNat ≤ 4611686018427387904) && decide (h.ops.length ≤ 16)) := by rw [hdrGood, hE]
  have Hr := Lib.hid hr.2.2
  have HM := Lib.hid (hdrMay_eq h)
  clear hE hr
  have hB0 : Below w.heap.size w (w.alloc (.cells (headerA ⟨gp, ge, ⟨oa, h.ops.length, oc⟩⟩) 49)) := bel_a _ _
  have hrow : row? (w.alloc (.cells (headerA ⟨gp, ge, ⟨oa, h.ops.length, oc⟩⟩) 49)) w.heap.size 0 34 = some (headerA ⟨gp, ge, ⟨oa, h.ops.length, oc⟩⟩) := by rw [row?_new]; simp
  obtain ⟨c32, c33⟩ := headerA_cells hrow
  have hz0 : w.heap.size < (w.alloc (.cells (headerA ⟨gp, ge, ⟨oa, h.ops.length, oc⟩⟩) 49)).heap.size := by simp
  replace HG := Lib.hid HG
  clear hrow
  go_enter Try.func118, Try.ntmps118
  go_upto_region 1 with fail
  generalize w.alloc (.cells (headerA ⟨gp, ge, ⟨oa, h.ops.length, oc⟩⟩) 49) = w1 at *
  have HM' := HM
  have hl0 : ∀ k : Nat, k < h.ops.length → (k : Int) < (h.ops.length : Int) := fun k hk => by omega
  go_wp2_with fail
  go_loopw [3] (fun i w' => ∃ k : Nat, k ≤ h.ops.length ∧ Hid ((h.ops.take k).all opMay = true) ∧ i = .int .i64 k ∧ Below w1.heap.size w1 w') (fun i _ => h.ops.length - (intOf i).toNat)
  case atStart => exact ⟨0, Nat.zero_le _, Lib.hid (by simp), rfl, Below.refl _ _⟩
  case round =>
    obtain ⟨k, hk, hb, rfl, hB⟩ := hrel
    have hBB : Below w.heap.size w wr := hB0.trans (hB.mono (Nat.le_of_lt hz0))
    have c33 : wr.cell? ⟨w.heap.size, 33, none⟩ = some (.slice oa h.ops.length oc) := (hB.cell (p := ⟨w.heap.size, 33, none⟩) hz0).trans c33
    have c32 : wr.cell? ⟨w.heap.size, 32, none⟩ = some (.int .u64 (ge.toNat : Int)) := (hB.cell (p := ⟨w.heap.size, 32, none⟩) hz0).trans c32
    have hzz := hB.size
    by_cases hkx : k < h.ops.length
    · obtain ⟨bl, off, e, hbs, hc⟩ := (OpsR.keep' Hr.out hBB).at (by omega)
      have e1 := congrArg Sl.a e
      simp only at e1
      subst e1
      clear e
      obtain ⟨cs, hcx, g1, rfl, hv1⟩ := hc k hkx
      clear hc
      have hat := all_take_succ opMay h.ops k hkx
      have haf := all_false opMay h.ops k hkx
      generalize h.ops[k] = ok at *
      have Hat := Lib.hid hat
      have Haf := Lib.hid haf
      have Hv1 := Lib.hid hv1
      clear hat haf hv1
      have i0 : (0 : Int) ≤ (k : Int) := by omega
      have i1 : (k : Int) < (h.ops.length : Int) := by omega
      go_wp2_with fail
      (with_reducible refine (tmayOp_c g1 ok _ Hv1.out).mono ?_)
      rintro e w2 ⟨rfl, hb1⟩
      have hB1 : Below w1.heap.size w1 w2 := hB.trans (hb1.mono hzz)
      cases hm : opMay ok
      · have Hf := Lib.hid (show hdrMay h = false by rw [HM.out, Haf.out hm, Bool.and_false])
        clear hm
        go_wp2_with fail
        go_ret
        exact ⟨ret_bool Hf.out.symm, hB0.trans (hB1.mono (Nat.le_of_lt hz0))⟩
      · have Hm := Lib.hid hm
        clear hm
        go_wp2_with fail
        go_roundw
        case rel => exact ⟨k + 1, by omega, Lib.hid (by rw [Hat.out, Hm.out, Bool.and_true]; exact hb.out), by go_num, hB1⟩
        case measure => simp [intOf]; omega
    · have Hf := Lib.hid (show hdrMay h = (decide (1 ≤ ge.toNat ∧ ge.toNat ≤ 4611686018427387904) && decide (h.ops.length ≤ 16)) by
        have := hb.out
        rw [List.take_of_length_le (by omega)] at this
        rw [HM.out, this, Bool.and_true, HG.out])
      go_wp2_with fail
      all_goals go_ret
      all_goals exact ⟨ret_bool (by rw [Hf.out, Bool.eq_iff_iff]; simp; omega), hBB⟩
end Go.Proofs.Ythdjhbiigmcecaa

/- The document's chain in memory; landmarkref10.(*Chain).At. -/
namespace Go.Proofs.Ythdjhbiigmcecaa
open Go.RowKit

def parI : Option Nat → Int
  | none => -1
  | some j => (j : Int)
/-- a block of the document's -/
def rblkA (p : Pt) (g : GHeader) (o : Option Nat) : Array Value := pointA p ++ headerA g ++ #[.int .i64 (parI o)]
theorem rblkA_size (p : Pt) (g : GHeader) (o : Option Nat) : (rblkA p g o).size = 68 := by simp [rblkA]
theorem rblkA_point (p : Pt) (g : GHeader) (o : Option Nat) : (rblkA p g o).extract 0 33 = pointA p := by
  unfold rblkA
  rw [Array.append_assoc, Array.extract_append]
  simp [ext_self]
theorem rblkA_par (p : Pt) (g : GHeader) (o : Option Nat) : (rblkA p g o)[67]? = some (.int .i64 (parI o)) := by
  unfold rblkA
  rw [Array.getElem?_append_right (by simp)]
  simp
/-- the chain in memory: the box at cb, its rows from the head of block rb on; its headers lie in memory that was there in w0 -/
structure RefC (w0 W : World) (cb rb cap : Nat) (G : List GHeader) (C : List Blk) : Prop where
  bel : Below w0.heap.size w0 W
  cbl : w0.heap.size ≤ cb
  rbl : w0.heap.size ≤ rb
  ne : cb ≠ rb
  ob : W.heap[cb]? = some (.cells #[.slice (some ⟨rb, 0, none⟩) C.length cap] 69 (0, 0))
  lt : rb < W.heap.size
  cap : C.length ≤ cap
  len : G.length = C.length
  row : ∀ i x b, G[i]? = some x → C[i]? = some b → row? W rb (i * 68) 68 = some (rblkA b.p x b.par) ∧ HdrR w0 x b.h
section
variable {w0 W W' : World} {cb rb cap : Nat} {G : List GHeader} {C : List Blk}
theorem RefC.off (h : RefC w0 W cb rb cap G C) {M : Nat → Prop} (hb : Asd M W W') (hM : ∀ k, M k → w0.heap.size ≤ k) (h1 : ¬ M cb) (h2 : ¬ M rb) : RefC w0 W' cb rb cap G C := by
  have hc : cb < W.heap.size := (Array.getElem?_eq_some_iff.1 h.ob).1
  have hz := h.bel.size
  exact ⟨h.bel.trans (hb.below hz fun k _ hk => hM k hk), h.cbl, h.rbl, h.ne, (hb.block cb hc h1).trans h.ob, Nat.lt_of_lt_of_le h.lt hb.size, h.cap, h.len, fun i x b q1 q2 => ⟨hb.row h2 (h.row i x b q1 q2).1, (h.row i x b q1 q2).2⟩⟩
theorem RefC.keep (h : RefC w0 W cb rb cap G C) (hb : Below W.heap.size W W') : RefC w0 W' cb rb cap G C := by
  refine h.off (M := fun _ => False) (below_fresh hb _) (fun _ q => q.elim) (fun q => q) (fun q => q)
theorem RefC.cbW (h : RefC w0 W cb rb cap G C) : cb < W.heap.size := (Array.getElem?_eq_some_iff.1 h.ob).1
theorem RefC.c0 (h : RefC w0 W cb rb cap G C) : W.cell? ⟨cb, 0, none⟩ = some (.slice (some ⟨rb, 0, none⟩) C.length cap) := by
  rw [cell_of_row W cb 0 _ _ _ h.ob]
  rfl
theorem RefC.at (h : RefC w0 W cb rb cap G C) {i : Nat} (hi : i < C.length) : ∃ x, G[i]? = some x ∧ row? W rb (i * 68) 68 = some (rblkA C[i].p x C[i].par) ∧ HdrR w0 x C[i].h := by
  have hg : i < G.length := by rw [h.len]; exact hi
  obtain ⟨q1, q2⟩ := h.row i G[i] C[i] (List.getElem?_eq_getElem hg) (List.getElem?_eq_getElem hi)
  exact ⟨G[i], List.getElem?_eq_getElem hg, q1, q2⟩
end
theorem rblk_cells {W : World} {b o : Nat} {p : Pt} {g : GHeader} {q : Option Nat} (h : row? W b o 68 = some (rblkA p g q)) :
    row? W b o 33 = some (pointA p) ∧ row? W b (o + 1) 32 = some (hashA p.name) ∧ W.cell? ⟨b, o, none⟩ = some (.int .u64 (p.epoch.toNat : Int)) ∧ W.cell? ⟨b, o + 67, none⟩ = some (.int .i64 (parI q)) := by
  have h1 := row_part h 0 33 (by omega)
  rw [Nat.add_zero] at h1
  have e1 : (rblkA p g q).extract 0 33 = pointA p := rblkA_point p g q
  simp only [Nat.zero_add, e1] at h1
  have h2 := row_part h1 1 32 (by omega)
  have h3 := cell_of_row? h1 0 (by omega)
  have h4 := cell_of_row? h 67 (by omega)
  rw [rblkA_par] at h4
  refine ⟨h1, ?_, ?_, h4⟩
  · simpa using h2
  · simpa using h3
theorem t10_hash_guard : Try.prog.eqGuardType Try.prog.depth 24 = false := by kernel_rfl
/-- not among the first k -/
def noAt (C : List Blk) (n : Hash) (k : Nat) : Prop := ∀ j b, j < k → C[j]? = some b → b.p.name ≠ n
theorem chAt_hit {C : List Blk} {n : Hash} {k : Nat} (hk : k < C.length) (hno : noAt C n k) (he : C[k].p.name = n) : chAt C n = some k := by
  unfold chAt
  rw [List.findIdx?_eq_some_iff_getElem]
  refine ⟨hk, by simpa using he, fun j hj => ?_⟩
  have := hno j C[j] hj (List.getElem?_eq_getElem (by omega))
  simpa using this
theorem chAt_miss {C : List Blk} {n : Hash} (hno : noAt C n C.length) : chAt C n = none := by
  unfold chAt
  rw [List.findIdx?_eq_none_iff]
  intro b hb
  obtain ⟨j, hj, rfl⟩ := List.getElem_of_mem hb
  have := hno j C[j] hj (List.getElem?_eq_getElem hj)
  simpa using this
theorem noAt_succ {C : List Blk} {n : Hash} {k : Nat} (hk : k < C.length) (hno : noAt C n k) (he : C[k].p.name ≠ n) : noAt C n (k + 1) := fun j b hj hb => by
  rcases Nat.lt_succ_iff_lt_or_eq.1 hj with h | rfl
  · exact hno j b h hb
  · rw [List.getElem?_eq_getElem hk] at hb
    injection hb with hb
    subst hb
    exact he
set_option maxRecDepth 100000 in
set_option maxHeartbeats 1600000 in
theorem rat_c {w0 W : World} {cb rb cap : Nat} {G : List GHeader} {C : List Blk} (h : RefC w0 W cb rb cap G C) (hl : C.length ≤ 1000000) (n : Hash) :
    Calls Try.prog 173 #[ptrV cb, .agg (hashA n)] W fun e w' => e = .returned (.int .i64 (parI (chAt C n))) ∧ Below W.heap.size W w' := by
  have hB0 : Below W.heap.size W (W.alloc (.cells (hashA n) 24)) := bel_a _ _
  have hz0 : (W.alloc (.cells (hashA n) 24)).heap.size = W.heap.size + 1 := by simp
  have hrow0 : row? (W.alloc (.cells (hashA n) 24)) W.heap.size 0 32 = some (hashA n) := by rw [row?_new]; simp
  have h1 := Lib.hid (h.keep hB0)
  have hgd := t10_hash_guard
  clear h
  unfold ptrV
  go_enter Try.func173, Try.ntmps173
  go_upto_region 1 with fail
  generalize W.alloc (.cells (hashA n) 24) = w1 at *
  have c0 := h1.out.c0
  obtain ⟨bh, hbh⟩ : ∃ b, b = W.heap.size := ⟨_, rfl⟩
  rw [← hbh] at hrow0 ⊢
  replace hbh := Lib.hid hbh
  replace hz0 := Lib.hid hz0
  replace hB0 := Lib.hid hB0
  go_wp2_with fail
  go_loopw [5] (fun i W' => ∃ k j : Nat, k ≤ C.length ∧ i = .int .i64 k ∧ W' = w1.drewN j ∧ Hid (noAt C n k)) (fun i _ => C.length - (intOf i).toNat)
  case atStart => exact ⟨0, 0, Nat.zero_le _, rfl, rfl, Lib.hid fun j b hj => absurd hj (Nat.not_lt_zero j)⟩
  case round =>
    obtain ⟨k, j, hk, rfl, rfl, hT⟩ := hrel
    have R0 := fun n => (show (w1.drewN n).cell? ⟨cb, 0, none⟩ = _ from c0)
    by_cases hkx : k < C.length
    · obtain ⟨x, -, hrw, -⟩ := h1.out.at hkx
      obtain ⟨-, hnm, -, -⟩ := rblk_cells hrw
      have R1 := fun j => (show row? (w1.drewN j) bh 0 32 = _ from hrow0)
      have R2 := fun j => (show row? (w1.drewN j) rb (k * 68 + 1) 32 = _ from hnm)
      have k0 : (0 : Int) ≤ (k : Int) := by omega
      have k1 : (k : Int) < (C.length : Int) := by omega
      have x6 : IntKind.i64.wrap ((k : Int) + 1) = k + 1 := IntWalk.i64_in _ (by omega)
      have hks := Lib.hid (show k + 1 ≤ C.length from hkx)
      by_cases hxy : C[k].p.name = n
      · have dx : decide (C[k].p.name = n) = true := decide_eq_true hxy
        have hr := Lib.hid (chAt_hit hkx hT.out hxy)
        generalize C[k].p.name = nm at *
        clear hxy hT hnm hrw hkx hk
        go_upto_region 4 with fail
        go_quiet (fail)
        go_wp2_with fail
        go_ret
        exact ⟨by rw [hr.out]; rfl, by have hB9 := hB0.out; have hb9 := hbh.out; (repeat' (first | (with_reducible exact Below.refl _ _) | (with_reducible assumption) | (with_reducible refine bel_trans (by assumption) ?_ ?_) | (with_reducible refine bel_grown (by assumption) ?_ ?_ ?_) | (with_reducible refine Below.alloc ?_ ?_ _) | (with_reducible refine Below.drew ?_) | (with_reducible refine below_drewN ?_ _) | (with_reducible refine Below.setCell ?_ ?_ _) | (with_reducible refine below_put ?_ ?_ _ _) | (with_reducible exact Nat.le_refl _) | omega | (with_reducible refine Nat.le_trans ?_ (Below.size (by assumption))) | (with_reducible refine Nat.le_trans ?_ (World.grownBy.size (by assumption))) | (simp only [World.size_alloc, World.size_setCell, World.size_drew, size_drewN]; omega) | (simp only [World.size_alloc, World.size_setCell, World.size_drew, size_drewN, size_put]; omega) | (intro k hk; simp [Value.ownBlock] at hk; done) | (intro k hk; simp [Value.ownBlock] at hk; omega) | (simp [size_drewN] at *; omega)))⟩
      · have dx : decide (C[k].p.name = n) = false := decide_eq_false hxy
        have hT2 := Lib.hid (noAt_succ hkx hT.out hxy)
        generalize C[k].p.name = nm at *
        clear hxy hT hnm hrw hkx hk
        go_upto_region 4 with fail
        go_quiet (fail)
        go_wp2_with fail
        go_roundw
        case rel => exact ⟨k + 1, _, hks.out, by go_num, rfl, hT2⟩
        case measure =>
          have := hks.out
          simp [intOf]
          omega
    · have hr := Lib.hid (chAt_miss (show noAt C n C.length by
        have := hT.out
        rwa [show k = C.length by omega] at this))
      have knl : ¬ (k : Int) < (C.length : Int) := by omega
      clear hT
      go_wp2_with fail
      go_ret
      exact ⟨by rw [hr.out]; rfl, by have hB9 := hB0.out; have hb9 := hbh.out; (repeat' (first | (with_reducible exact Below.refl _ _) | (with_reducible assumption) | (with_reducible refine bel_trans (by assumption) ?_ ?_) | (with_reducible refine bel_grown (by assumption) ?_ ?_ ?_) | (with_reducible refine Below.alloc ?_ ?_ _) | (with_reducible refine Below.drew ?_) | (with_reducible refine below_drewN ?_ _) | (with_reducible refine Below.setCell ?_ ?_ _) | (with_reducible refine below_put ?_ ?_ _ _) | (with_reducible exact Nat.le_refl _) | omega | (with_reducible refine Nat.le_trans ?_ (Below.size (by assumption))) | (with_reducible refine Nat.le_trans ?_ (World.grownBy.size (by assumption))) | (simp only [World.size_alloc, World.size_setCell, World.size_drew, size_drewN]; omega) | (simp only [World.size_alloc, World.size_setCell, World.size_drew, size_drewN, size_put]; omega) | (intro k hk; simp [Value.ownBlock] at hk; done) | (intro k hk; simp [Value.ownBlock] at hk; omega) | (simp [size_drewN] at *; omega)))⟩
end Go.Proofs.Ythdjhbiigmcecaa

/- landmarkref10.New. -/
namespace Go.Proofs.Ythdjhbiigmcecaa
open Go.RowKit

attribute [simp] rblkA_size
def bldR (parts : Array (Nat × Value)) : Sem Value := Instr.build 71 parts
theorem fold_bldR (parts : Array (Nat × Value)) : Instr.build 71 parts = bldR parts := rfl
theorem zero_rblk : Try.zeroCells71 = rblkA zeroPt zeroG3 (some 0) := by kernel_rfl
theorem rblk_head (p q : Pt) (g : GHeader) (o : Option Nat) : pointA p ++ (rblkA q g o).extract 33 68 = rblkA p g o := by
  simp [rblkA, Array.extract_append, ext_self, ext_none]
theorem rblk_set (p : Pt) (g : GHeader) (o q : Option Nat) : (rblkA p g o).setIfInBounds 67 (.int .i64 (parI q)) = rblkA p g q := by
  unfold rblkA
  rw [Array.setIfInBounds_append_right (by simp)]
  simp
theorem rblk_hdr (p : Pt) (g g' : GHeader) (o : Option Nat) : splice (rblkA p g o) 33 (headerA g') = rblkA p g' o := by
  simp [splice, rblkA, Array.extract_append, ext_self, ext_none]
theorem bldr_new (p : Pt) (W : World) : (bldR #[(0, .agg (pointA p)), (2, .int .i64 (-1))]).run Try.prog W = .ok (.agg (rblkA p zeroG3 none)) W := by
  unfold bldR
  go_simp
  rw [zero_rblk, fold0_splice _ _ 33 (by simp) (by simp), splice_zero_head _ _ 33 (by simp) (by simp), rblkA_size, rblk_head p zeroPt]
  rw [if_neg (by simp), show (Value.int .i64 (-1)) = .int .i64 (parI none) from rfl, rblk_set]
  rfl
theorem bldr_blk (p : Pt) (g : GHeader) (o : Option Nat) (W : World) : (bldR #[(0, .agg (pointA p)), (1, .agg (headerA g)), (2, .int .i64 (parI o))]).run Try.prog W = .ok (.agg (rblkA p g o)) W := by
  unfold bldR
  go_simp
  rw [zero_rblk, fold0_splice _ _ 33 (by simp) (by simp), splice_zero_head _ _ 33 (by simp) (by simp), rblkA_size, rblk_head p zeroPt, fold_splice _ _ 33 34 (by simp) (by simp), rblk_hdr, if_neg (by simp), if_neg (by simp), rblk_set]
  rfl
theorem info_rblk : (Try.prog.info? 71).map (fun i => (i.zero, i.size, i.bytes)) = some (some (.agg (rblkA zeroPt zeroG3 (some 0))), 68, 112) := by kernel_rfl
def bsR (parts : Array (Nat × Value)) : Sem Value := Instr.buildSlice 67 1 parts
theorem fold_bsR (parts : Array (Nat × Value)) : Instr.buildSlice 67 1 parts = bsR parts := rfl
theorem bsR_one (xs : Array Value) (h : xs.size = 68) (w : World) : (bsR #[(0, .agg xs)]).run Try.prog w = .ok (.slice (some ⟨w.heap.size, 0, none⟩) 1 1) (w.alloc (.cells xs 71)) := by
  obtain ⟨i0, hi, hy0, hy1, hy2⟩ := info_parts info_rblk
  exact run_buildSlice_one w Try.underlying67 hi hy0 hy1 (by simp [Value.cells]) (by omega) (by omega) _ h
attribute [local go_sem ↓] fold_bldR fold_bsR
set_option maxRecDepth 100000 in
set_option maxHeartbeats 1600000 in
theorem rnew_c (w0 W : World) (hB : Below w0.heap.size w0 W) (p : Pt) : Calls Try.prog 33 #[.agg (pointA p)] W fun e w' => ∃ cb rb, e = .returned (ptrV cb) ∧ W.heap.size ≤ cb ∧ W.heap.size ≤ rb ∧ RefC w0 w' cb rb 1 [zeroG3] (chNew p) ∧ Below W.heap.size W w' := by
  have hB0 : Below W.heap.size W (W.alloc (.cells (pointA p) 26)) := bel_a _ _
  have hz0 : (W.alloc (.cells (pointA p) 26)).heap.size = W.heap.size + 1 := by simp
  have hrow : row? (W.alloc (.cells (pointA p) 26)) W.heap.size 0 33 = some (pointA p) := by rw [row?_new]; simp
  have hbl := bldr_new p
  have hbs := bsR_one (rblkA p zeroG3 none) (rblkA_size _ _ _)
  have hzW := hB.size
  go_enter Try.func33, Try.ntmps33
  go_upto_region 1 with fail
  generalize W.alloc (.cells (pointA p) 26) = w1 at *
  replace hz0 := Lib.hid hz0
  go_wp2_with fail
  have hz := hz0.out
  have h1 : (w1.alloc (.cells (rblkA p zeroG3 none) 71)).heap.size = w1.heap.size + 1 := by simp
  have hBa : Below W.heap.size W ((w1.alloc (.cells (rblkA p zeroG3 none) 71)).alloc (.cells #[.slice (some ⟨w1.heap.size, 0, none⟩) 1 1] 69)) := hB0.trans (((bel_a w1 _).trans ((bel_a _ _).mono (by omega))).mono (by omega))
  have o1 := heap_alloc_new w1 (.cells (rblkA p zeroG3 none) 71)
  have o2 := heap_alloc_new (w1.alloc (.cells (rblkA p zeroG3 none) 71)) (.cells #[.slice (some ⟨w1.heap.size, 0, none⟩) 1 1] 69)
  rw [h1] at o2
  have o3 := ((Below.heap_alloc (w1.alloc (.cells (rblkA p zeroG3 none) 71)) (.cells #[.slice (some ⟨w1.heap.size, 0, none⟩) 1 1] 69)) w1.heap.size (by omega)).trans o1
  have hsz2 : ((w1.alloc (.cells (rblkA p zeroG3 none) 71)).alloc (.cells #[.slice (some ⟨w1.heap.size, 0, none⟩) 1 1] 69)).heap.size = w1.heap.size + 2 := by simp
  have hfin : RefC w0 ((w1.alloc (.cells (rblkA p zeroG3 none) 71)).alloc (.cells #[.slice (some ⟨w1.heap.size, 0, none⟩) 1 1] 69)) (w1.heap.size + 1) w1.heap.size 1 [zeroG3] (chNew p) := by
    refine ⟨hB.trans (hBa.mono hzW), by omega, by omega, by omega, o2, by omega, Nat.le_refl _, rfl, fun i x b hx hb => ?_⟩
    have hi : i = 0 := by
      have := (List.getElem?_eq_some_iff.1 hx).1
      simpa using this
    subst hi
    simp only [List.getElem?_cons_zero, Option.some.injEq, chNew] at hx hb
    subst hx hb
    exact ⟨rowHeap o3 (by simp), rfl, rfl, SlR.nil _ _ _ _ _⟩
  have hfin' := Lib.hid hfin
  have hBa' := Lib.hid hBa
  clear hfin hBa o1 o2 o3
  go_ret
  exact ⟨w1.heap.size + 1, w1.heap.size, by unfold ptrV; simp, by omega, by omega, hfin'.out, hBa'.out⟩
end Go.Proofs.Ythdjhbiigmcecaa

/- landmarkref10.(*Chain).Check. -/
namespace Go.Proofs.Ythdjhbiigmcecaa
open Go.RowKit

theorem ptz : (pointA zeroPt = #[]) = False := eq_false fun h => by have := congrArg Array.size h; simp at this
/-- a point is made and stored into a box of its own -/
def HPt (W0 : World) (hp : Array Value) (L : List Bool) (V : List Value) (w : World) : Prop :=
  Below W0.heap.size W0 w ∧ (L.getD 1 false = true → ∃ b, V.getD 1 undef = ptrV b ∧ W0.heap.size ≤ b ∧ b < w.heap.size ∧ there w b 0 33 ∧ (L.getD 2 false = true → row? w b 0 33 = some hp))
section
variable {W0 w w' : World} {hp : Array Value} {l0 l1 l2 : Bool} {v0 v1 v2 : Value}
theorem HPt.grow (h : HPt W0 hp [l0, l1, l2] [v0, v1, v2] w) (hb : Below w.heap.size w w') {x : Value} : HPt W0 hp [true, l1, l2] [x, v1, v2] w' := by
  refine ⟨h.1.trans (hb.mono h.1.size), fun q => ?_⟩
  obtain ⟨b, q1, q2, q3, q4, q5⟩ := h.2 q
  exact ⟨b, q1, q2, Nat.lt_of_lt_of_le q3 hb.size, there_below hb q3 q4, fun q => (row?_below _ _ _ hb q3).trans (q5 q)⟩
theorem HPt.alloc (h : HPt W0 hp [l0, l1, l2] [v0, v1, v2] w) (h2 : l2 = false) : HPt W0 hp [l0, true, l2] [v0, ptrV w.heap.size, v2] (w.alloc (.cells (pointA zeroPt) 26)) := by
  subst h2
  exact ⟨h.1.trans ((bel_a _ _).mono h.1.size), fun _ => ⟨w.heap.size, rfl, h.1.size, by simp, there_new _ _ _ _ _ (by simp), fun q => by cases q⟩⟩
theorem HPt.put {p : Pt} {b : Nat} (h : HPt W0 (pointA p) [l0, l1, l2] [v0, v1, v2] w) (h1 : l1 = true) (e : v1 = ptrV b) : (storeAgg 26 (ptrV b) (.agg (pointA p))).run Try.prog w = .ok () (putRow w b 0 (pointA p)) ∧ HPt W0 (pointA p) [l0, l1, true] [v0, v1, undef] (putRow w b 0 (pointA p)) := by
  subst h1
  obtain ⟨b', q1, q2, q3, q4, -⟩ := h.2 rfl
  obtain rfl : b' = b := by
    have := q1.symm.trans e
    unfold ptrV at this
    injection this with this
    injection this with this
    injection this
  refine ⟨?_, below_put h.1 q2 _ _, fun _ => ⟨b', q1, q2, by rw [size_put]; exact q3, there_put _ _ _ _ _ _ _ q4, fun _ => row?_put_same _ _ _ _ _ (by simp) (by omega) q4⟩⟩
  unfold ptrV
  exact store_point w b' 0 _ (by simp) (onesPoint p) q4
end
theorem rcheck_res : Try.f101.results = #[.cell 4 26, .tmp 5] := by kernel_rfl
set_option maxRecDepth 100000 in
set_option maxHeartbeats 3200000 in
theorem rcheck_c {w0 W : World} {cb rb cap : Nat} {G : List GHeader} {C : List Blk} (hR : RefC w0 W cb rb cap G C) (hok : ChnOk C) {g : GHeader} {h : Hdr} (hr : HdrR W g h) (hl : h.ops.length ≤ 1000000) :
    Calls Try.prog 101 #[ptrV cb, .agg (headerA g)] W fun r w' => r = .returned (.tuple #[.agg (pointA (chCheck C h).1), .int .i64 (chCheck C h).2]) ∧ Below W.heap.size W w' := by
  have hB0 : Below W.heap.size W ((W.alloc (.cells (headerA g) 49)).alloc (.cells (pointA zeroPt) 26)) := by (repeat' (first | (with_reducible exact Below.refl _ _) | (with_reducible assumption) | (with_reducible refine bel_trans (by assumption) ?_ ?_) | (with_reducible refine bel_grown (by assumption) ?_ ?_ ?_) | (with_reducible refine Below.alloc ?_ ?_ _) | (with_reducible refine Below.drew ?_) | (with_reducible refine below_drewN ?_ _) | (with_reducible refine Below.setCell ?_ ?_ _) | (with_reducible refine below_put ?_ ?_ _ _) | (with_reducible exact Nat.le_refl _) | omega | (with_reducible refine Nat.le_trans ?_ (Below.size (by assumption))) | (with_reducible refine Nat.le_trans ?_ (World.grownBy.size (by assumption))) | (simp only [World.size_alloc, World.size_setCell, World.size_drew, size_drewN]; omega) | (simp only [World.size_alloc, World.size_setCell, World.size_drew, size_drewN, size_put]; omega) | (intro k hk; simp [Value.ownBlock] at hk; done) | (intro k hk; simp [Value.ownBlock] at hk; omega) | (simp [size_drewN] at *; omega)))
  have hz0 : ((W.alloc (.cells (headerA g) 49)).alloc (.cells (pointA zeroPt) 26)).heap.size = W.heap.size + 2 := by simp
  have hrow0 : row? ((W.alloc (.cells (headerA g) 49)).alloc (.cells (pointA zeroPt) 26)) W.heap.size 0 34 = some (headerA g) := by rw [row?_old _ _ _ _ _ (by simp), row?_new]; simp
  have hrow1 : row? ((W.alloc (.cells (headerA g) 49)).alloc (.cells (pointA zeroPt) 26)) (W.heap.size + 1) 0 33 = some (pointA zeroPt) := by rw [row?_new_at _ _ _ _ _ _ (by simp)]; simp
  have hth : there ((W.alloc (.cells (headerA g) 49)).alloc (.cells (pointA zeroPt) 26)) (W.heap.size + 1) 0 33 := there_new_at _ _ _ _ _ _ (by simp) (by simp)
  have hR0 := Lib.hid (hR.keep hB0)
  have hr0 := Lib.hid (hr.keep' hB0)
  have g1 := hr.1
  have g2 := hr.2.1
  have hcW := hR.cbW
  clear hR hr
  obtain ⟨p, k, hpk⟩ : ∃ p k, (p, k) = chCheck C h := ⟨_, _, rfl⟩
  rw [← hpk]
  replace hpk := Lib.hid hpk
  have hclen := hok.len
  have hMay := fun W hW => tmayHeader_c g h W hW hl
  unfold ptrV
  go_enter Try.func101, Try.ntmps101
  go_upto_region 1 with fail
  generalize (W.alloc (.cells (headerA g) 49)).alloc (.cells (pointA zeroPt) 26) = w1 at *
  have HM := hMay w1 hr0.out
  clear hMay
  obtain ⟨er, her⟩ : ∃ n, n = hdrMay h := ⟨_, rfl⟩
  rw [← her] at HM
  go_wp2_with fail
  (with_reducible refine HM.mono ?_)
  clear HM
  rintro r w2 ⟨rfl, hb2⟩
  have hz2 := hb2.size
  have hR2 := Lib.hid (hR0.out.keep hb2)
  have hr2 := Lib.hid (hr0.out.keep' hb2)
  have hB2 := hB0.trans (hb2.mono (by omega))
  have hrow2 := (row?_below _ _ _ hb2 (by omega)).trans hrow0
  have hrow12 := (row?_below _ _ _ hb2 (by omega)).trans hrow1
  have hth2 := there_below hb2 (show W.heap.size + 1 < w1.heap.size by omega) hth
  clear hb2 hrow0 hrow1 hth hR0 hr0 hB0
  have hE : (p, k) = if hdrMay h then (match chAt C (hdName h) with | some _ => ((zeroPt, 11) : Pt × Int) | none => match chAt C h.parent with | none => ((zeroPt, 12) : Pt × Int) | some i => if h.epoch.toNat ≤ epAt C i then ((zeroPt, 13) : Pt × Int) else if 4096 < C.length then ((zeroPt, 5) : Pt × Int) else (⟨h.epoch, hdName h⟩, 0)) else ((zeroPt, 2) : Pt × Int) := by
    rw [hpk.out]
    rfl
  clear hpk
  obtain ⟨b4, hb4⟩ : ∃ b, b = W.heap.size + 1 := ⟨_, rfl⟩
  rw [← hb4] at hrow12 hth2 ⊢
  have q1 : W.heap.size < b4 := by omega
  have q2 : b4 < w2.heap.size := by omega
  cases hm : hdrMay h
  · rw [hm] at hE her
    subst her
    simp only [Bool.false_eq_true, if_false, Prod.mk.injEq] at hE
    obtain ⟨rfl, rfl⟩ := hE
    clear hm hrow2 hb4 hz2 hz0
    go_wp2_with (with_reducible refine ret_row2 Try.isAgg26 Try.sizeOf26 rcheck_res (x := .pointer (some ⟨b4, 0, none⟩)) (y := .int .i64 2) (b4) 0 ?rrhx (Eq.refl _) ?rrhy ?rrh ?rrhd ?rrhR; (case rrhx => simp only [Array.getD_eq_getD_getElem?, List.getElem?_toArray, List.getElem?_cons_succ, List.getElem?_cons_zero, Option.getD_some]); (case rrhy => simp only [Array.getD_eq_getD_getElem?, List.getElem?_toArray, List.getElem?_cons_succ, List.getElem?_cons_zero, Option.getD_some]); (case rrhd => exact rfl); (case rrh => go_simp); (case rrhR => ((refine ⟨?_, ?_⟩; (case refine_1 => (go_simp; done)); (case refine_2 => ((repeat' (first | (with_reducible exact Below.refl _ _) | (with_reducible assumption) | (with_reducible refine bel_trans (by assumption) ?_ ?_) | (with_reducible refine bel_grown (by assumption) ?_ ?_ ?_) | (with_reducible refine Below.alloc ?_ ?_ _) | (with_reducible refine Below.drew ?_) | (with_reducible refine below_drewN ?_ _) | (with_reducible refine Below.setCell ?_ ?_ _) | (with_reducible refine below_put ?_ ?_ _ _) | (with_reducible exact Nat.le_refl _) | omega | (with_reducible refine Nat.le_trans ?_ (Below.size (by assumption))) | (with_reducible refine Nat.le_trans ?_ (World.grownBy.size (by assumption))) | (simp only [World.size_alloc, World.size_setCell, World.size_drew, size_drewN]; omega) | (simp only [World.size_alloc, World.size_setCell, World.size_drew, size_drewN, size_put]; omega) | (intro k hk; simp [Value.ownBlock] at hk; done) | (intro k hk; simp [Value.ownBlock] at hk; omega) | (simp [size_drewN] at *; omega)))))))))
  rw [hm] at hE her
  subst her
  simp only [if_true] at hE
  have HN := fun W hW => rname_c g h W hW hm
  obtain ⟨hn, hhn⟩ : ∃ n, n = hdName h := ⟨_, rfl⟩
  rw [← hhn] at HN hE
  replace hhn := Lib.hid hhn
  replace hb4 := Lib.hid hb4
  obtain ⟨bh, hbh⟩ : ∃ b, b = W.heap.size := ⟨_, rfl⟩
  rw [← hbh] at hrow2 ⊢
  have hbw : bh < w2.heap.size := by omega
  replace hbh := Lib.hid hbh
  have c32 := cell_of_row? hrow2 32 (by omega)
  rw [headerA_epoch, g2, Nat.zero_add] at c32
  clear hm
  go_upto_region 3 with fail
  refine wp_region_freeI_l (by kernel_rfl) [12, 13, 14, 15, 16, 6, 57]
    [(fun v => v = .pointer (some ⟨bh, 32, none⟩)), (fun v => v = .int .u64 (h.epoch.toNat : Int)), (fun v => v = .agg (headerA g)), (fun v => v = .agg (hashA hn)), (fun v => v = .agg (pointA ⟨h.epoch, hn⟩)), (fun v => ∃ b, v = ptrV b), (fun _ => True)]
    [3, 5, 6] (HPt w2 (pointA ⟨h.epoch, hn⟩)) [[1, 4, 6], [4, 6], [3, 4, 6], [4, 6], [6], [6], []] (by kernel_rfl) (by kernel_rfl) ?_ ?_ ?_
  · show HPt w2 (pointA ⟨h.epoch, hn⟩) [false, false, false] [_, _, _] _
    exact ⟨(Below.refl _ _).drew, fun q => by cases q⟩
  · refine ⟨?_, ?_, ?_, ?_, ?_, ?_, ?_, trivial⟩
    · intro L ax W hf hLi hno hd
      try simp [Region.binds] at hd
      have e3 : ax.tmps[3]?.getD undef = .pointer (some ⟨bh, 0, none⟩) := hf.out 3 (by decide) rfl
      refine ⟨fun _ => ?_, fun h => absurd trivial h⟩
      refine freeI_run (v := .pointer (some ⟨bh, 32, none⟩)) rfl hf (by decide) ?_ rfl
      go_simp
    · intro L ax W hf hLi hno hd
      simp [Region.binds] at hd
      have e12 : ax.tmps[12]?.getD undef = .pointer (some ⟨bh, 32, none⟩) := slv (hf.got 0 (by decide) (by simp [hd]))
      refine ⟨fun _ => ?_, fun h => absurd trivial h⟩
      have hG : HPt w2 (pointA ⟨h.epoch, hn⟩) [L 3, L 5, L 6] [sl ax 15, sl ax 6, sl ax 57] W := hf.glob
      have h1 := (hG.1.cell (p := ⟨bh, 32, none⟩) hbw).trans c32
      refine freeI_run (v := .int .u64 (h.epoch.toNat : Int)) rfl hf (by decide) ?_ rfl
      go_simp
    · intro L ax W hf hLi hno hd
      try simp [Region.binds] at hd
      have e3 : ax.tmps[3]?.getD undef = .pointer (some ⟨bh, 0, none⟩) := hf.out 3 (by decide) rfl
      refine ⟨fun _ => ?_, fun h => absurd trivial h⟩
      have hG : HPt w2 (pointA ⟨h.epoch, hn⟩) [L 3, L 5, L 6] [sl ax 15, sl ax 6, sl ax 57] W := hf.glob
      have h1 := (row?_below _ _ _ hG.1 hbw).trans hrow2
      refine freeI_run (v := .agg (headerA g)) rfl hf (by decide) ?_ rfl
      go_simp
    · intro L ax W hf hLi hno hd
      simp [Region.binds] at hd
      have e14 : ax.tmps[14]?.getD undef = .agg (headerA g) := slv (hf.got 2 (by decide) (by simp [hd]))
      refine ⟨fun _ => ?_, fun h => absurd trivial h⟩
      have hG : HPt w2 (pointA ⟨h.epoch, hn⟩) [L 3, L 5, L 6] [sl ax 15, sl ax 6, sl ax 57] W := hf.glob
      refine freeI_call (f := 51) (args := #[.agg (headerA g)]) rfl (by go_simp) ?_
      refine (HN W (hr2.out.keep' hG.1)).mono ?_
      rintro e w' ⟨rfl, hb⟩
      exact ⟨_, rfl, rfl, hG.grow hb⟩
    · intro L ax W hf hLi hno hd
      simp [Region.binds] at hd
      have e13 : ax.tmps[13]?.getD undef = .int .u64 (h.epoch.toNat : Int) := slv (hf.got 1 (by decide) (by simp [hd]))
      have f15 : (fun v => v = .agg (hashA hn)) (sl ax 15) := hf.got 3 (by decide) (by simp [hd])
      refine ⟨fun _ => ?_, fun h => absurd trivial h⟩
      have hG : HPt w2 (pointA ⟨h.epoch, hn⟩) [L 3, L 5, L 6] [sl ax 15, sl ax 6, sl ax 57] W := hf.glob
      have e15 := slv f15
      have hpz := ptz
      refine freeI_run (v := .agg (pointA ⟨h.epoch, hn⟩)) rfl hf (by decide) ?_ rfl
      go_simp
    · intro L ax W hf hLi hno hd
      try simp [Region.binds] at hd
      refine ⟨fun _ => ?_, fun h => absurd trivial h⟩
      have hG : HPt w2 (pointA ⟨h.epoch, hn⟩) [L 3, L 5, L 6] [sl ax 15, sl ax 6, sl ax 57] W := hf.glob
      refine freeI_val (v := ptrV W.heap.size) (W' := W.alloc (.cells (pointA zeroPt) 26)) rfl ?_ ⟨_, rfl⟩ (hG.alloc (hno 6 (by decide)))
      unfold ptrV
      go_simp
    · intro L ax W hf hLi hno hd
      simp [Region.binds] at hd
      have f6 : (fun v => ∃ b, v = ptrV b) (sl ax 6) := hf.got 5 (by decide) (by simp [hd])
      have e16 : ax.tmps[16]?.getD undef = .agg (pointA ⟨h.epoch, hn⟩) := slv (hf.got 4 (by decide) (by simp [hd]))
      refine ⟨fun _ => ?_, fun h => absurd trivial h⟩
      have hG : HPt w2 (pointA ⟨h.epoch, hn⟩) [L 3, L 5, L 6] [sl ax 15, sl ax 6, sl ax 57] W := hf.glob
      obtain ⟨b, e6⟩ := f6
      have e6' := slv e6
      obtain ⟨hst, hH⟩ := hG.put (by simp [hd]) e6
      refine freeI_store (W' := putRow W b 0 (pointA ⟨h.epoch, hn⟩)) rfl ?_ trivial hH
      unfold ptrV at e6' hst
      go_simp
  · intro vs w3 hl' hF hG
    obtain ⟨g', hg1, hg2⟩ := vs_litI vs hl' hF
    obtain ⟨hB3, hb⟩ := hG
    obtain ⟨b6, v6, hb6, hb6w, -, hrow6⟩ := hb rfl
    replace hrow6 := hrow6 rfl
    rw [hg1] at v6
    simp only [List.length_cons, List.length_nil, Nat.reduceAdd, List.map_cons, List.map_nil, show List.range 7 = [0, 1, 2, 3, 4, 5, 6] from rfl, List.getD_cons_zero, List.getD_cons_succ] at v6
    have hR3 := Lib.hid (hR2.out.keep hB3)
    have hB03 : Below W.heap.size W w3 := hB2.trans (hB3.mono (by omega))
    have hrow3 := (row?_below _ _ _ hB3 hbw).trans hrow2
    have hrow13 := (row?_below _ _ _ hB3 q2).trans hrow12
    have hth3 := there_below hB3 q2 hth2
    have q3 : b4 < b6 := by omega
    have q4 : b4 < w3.heap.size := by omega
    have q5 : bh < w3.heap.size := by have := hB3.size; omega
    rw [hg1]
    simp only [List.length_cons, List.length_nil, Nat.reduceAdd, show List.range 7 = [0, 1, 2, 3, 4, 5, 6] from rfl, List.map_cons, List.map_nil, slotsIn, putL, List.setIfInBounds_toArray, List.set_cons_succ, List.set_cons_zero, v6, List.size_toArray, Nat.reduceLT, if_true, if_false]
    clear hg1 hg2 hl' hF hb v6 hB3 hR2 hr2 hrow2 hrow12 hth2 hB2 c32 HN
    have hn6 := row_part hrow6 1 32 (by omega)
    rw [Nat.zero_add, pointA_name] at hn6
    have HA := rat_c hR3.out (by omega) hn
    unfold ptrV at HA ⊢
    go_wp2_with fail
    (with_reducible refine HA.mono ?_)
    clear HA
    rintro e w4 ⟨rfl, hb4⟩
    have hR4 := Lib.hid (hR3.out.keep hb4)
    have hB4 : Below W.heap.size W w4 := hB03.trans (hb4.mono hB03.size)
    have hrow4 := (row?_below _ _ _ hb4 q5).trans hrow3
    have hrow14 := (row?_below _ _ _ hb4 q4).trans hrow13
    have hrow64 := (row?_below _ _ _ hb4 hb6w).trans hrow6
    have hth4 := there_below hb4 q4 hth3
    have q6 : b4 < w4.heap.size := by have := hb4.size; omega
    have q7 : bh < w4.heap.size := by have := hb4.size; omega
    have q8 : b6 < w4.heap.size := by have := hb4.size; omega
    clear hb4 hR3 hB03 hrow3 hrow13 hrow6 hth3 hn6 q4 q5 hb6w hb6
    cases hi : chAt C hn with
    | some i0 =>
      rw [hi] at hE
      simp only [Prod.mk.injEq] at hE
      obtain ⟨rfl, rfl⟩ := hE
      simp only [parI]
      have n0 : (0 : Int) ≤ (i0 : Int) := by omega
      clear hi hrow4
      go_wp2_with (with_reducible refine ret_row2 Try.isAgg26 Try.sizeOf26 rcheck_res (x := .pointer (some ⟨b4, 0, none⟩)) (y := .int .i64 11) (b4) 0 ?rrhx (Eq.refl _) ?rrhy ?rrh ?rrhd ?rrhR; (case rrhx => simp only [Array.getD_eq_getD_getElem?, List.getElem?_toArray, List.getElem?_cons_succ, List.getElem?_cons_zero, Option.getD_some]); (case rrhy => simp only [Array.getD_eq_getD_getElem?, List.getElem?_toArray, List.getElem?_cons_succ, List.getElem?_cons_zero, Option.getD_some]); (case rrhd => exact rfl); (case rrh => go_simp); (case rrhR => ((refine ⟨?_, ?_⟩; (case refine_1 => (go_simp; done)); (case refine_2 => ((repeat' (first | (with_reducible exact Below.refl _ _) | (with_reducible assumption) | (with_reducible refine bel_trans (by assumption) ?_ ?_) | (with_reducible refine bel_grown (by assumption) ?_ ?_ ?_) | (with_reducible refine Below.alloc ?_ ?_ _) | (with_reducible refine Below.drew ?_) | (with_reducible refine below_drewN ?_ _) | (with_reducible refine Below.setCell ?_ ?_ _) | (with_reducible refine below_put ?_ ?_ _ _) | (with_reducible exact Nat.le_refl _) | omega | (with_reducible refine Nat.le_trans ?_ (Below.size (by assumption))) | (with_reducible refine Nat.le_trans ?_ (World.grownBy.size (by assumption))) | (simp only [World.size_alloc, World.size_setCell, World.size_drew, size_drewN]; omega) | (simp only [World.size_alloc, World.size_setCell, World.size_drew, size_drewN, size_put]; omega) | (intro k hk; simp [Value.ownBlock] at hk; done) | (intro k hk; simp [Value.ownBlock] at hk; omega) | (simp [size_drewN] at *; omega)))))))))
    | none =>
      rw [hi] at hE
      simp only at hE
      simp only [parI]
      clear hi
      have hp0 := row_part hrow4 0 32 (by omega)
      rw [headerA_parent, g1, Nat.zero_add] at hp0
      have HA := rat_c hR4.out (by omega) h.parent
      unfold ptrV at HA
      go_wp2_with fail
      (with_reducible refine HA.mono ?_)
      clear HA
      rintro e w5 ⟨rfl, hb5⟩
      have hR5 := Lib.hid (hR4.out.keep hb5)
      have hB5 : Below W.heap.size W w5 := hB4.trans (hb5.mono hB4.size)
      have hrow5 := (row?_below _ _ _ hb5 q7).trans hrow4
      have hrow15 := (row?_below _ _ _ hb5 q6).trans hrow14
      have hrow65 := (row?_below _ _ _ hb5 q8).trans hrow64
      have hth5 := there_below hb5 q6 hth4
      have q9 : b4 < w5.heap.size := by have := hb5.size; omega
      have q10 : b6 < w5.heap.size := by have := hb5.size; omega
      clear hb5 hR4 hB4 hrow4 hrow14 hrow64 hth4 hp0 q6 q7 q8
      cases hj : chAt C h.parent with
      | none =>
        rw [hj] at hE
        simp only [Prod.mk.injEq] at hE
        obtain ⟨rfl, rfl⟩ := hE
        simp only [parI]
        clear hj hrow5
        go_wp2_with (with_reducible refine ret_row2 Try.isAgg26 Try.sizeOf26 rcheck_res (x := .pointer (some ⟨b4, 0, none⟩)) (y := .int .i64 12) (b4) 0 ?rrhx (Eq.refl _) ?rrhy ?rrh ?rrhd ?rrhR; (case rrhx => simp only [Array.getD_eq_getD_getElem?, List.getElem?_toArray, List.getElem?_cons_succ, List.getElem?_cons_zero, Option.getD_some]); (case rrhy => simp only [Array.getD_eq_getD_getElem?, List.getElem?_toArray, List.getElem?_cons_succ, List.getElem?_cons_zero, Option.getD_some]); (case rrhd => exact rfl); (case rrh => go_simp); (case rrhR => ((refine ⟨?_, ?_⟩; (case refine_1 => (go_simp; done)); (case refine_2 => ((repeat' (first | (with_reducible exact Below.refl _ _) | (with_reducible assumption) | (with_reducible refine bel_trans (by assumption) ?_ ?_) | (with_reducible refine bel_grown (by assumption) ?_ ?_ ?_) | (with_reducible refine Below.alloc ?_ ?_ _) | (with_reducible refine Below.drew ?_) | (with_reducible refine below_drewN ?_ _) | (with_reducible refine Below.setCell ?_ ?_ _) | (with_reducible refine below_put ?_ ?_ _ _) | (with_reducible exact Nat.le_refl _) | omega | (with_reducible refine Nat.le_trans ?_ (Below.size (by assumption))) | (with_reducible refine Nat.le_trans ?_ (World.grownBy.size (by assumption))) | (simp only [World.size_alloc, World.size_setCell, World.size_drew, size_drewN]; omega) | (simp only [World.size_alloc, World.size_setCell, World.size_drew, size_drewN, size_put]; omega) | (intro k hk; simp [Value.ownBlock] at hk; done) | (intro k hk; simp [Value.ownBlock] at hk; omega) | (simp [size_drewN] at *; omega)))))))))
      | some i =>
        rw [hj] at hE
        simp only at hE
        simp only [parI]
        have hil := chAt_lt hj
        obtain ⟨b, hb⟩ : ∃ b, C[i]? = some b := ⟨_, List.getElem?_eq_getElem hil⟩
        rw [epAt_of hb] at hE
        have n0 : ¬ (i : Int) < 0 := by omega
        have n1 : (0 : Int) ≤ (i : Int) := by omega
        have i1 : (i : Int) < (C.length : Int) := by omega
        clear hj
        obtain ⟨x, -, hrw, -⟩ := hR5.out.at hil
        have hCb : C[i] = b := by
          rw [List.getElem?_eq_getElem hil] at hb
          injection hb
        rw [hCb] at hrw
        obtain ⟨-, -, x0, -⟩ := rblk_cells hrw
        have h32 := cell_of_row? hrow5 32 (by omega)
        rw [headerA_epoch, g2, Nat.zero_add] at h32
        have c05 := hR5.out.c0
        have c0 := fun m => show (w5.drewN m).cell? ⟨cb, 0, none⟩ = _ from c05
        have f2 := fun m => show (w5.drewN m).cell? ⟨rb, i * 68, none⟩ = _ from x0
        have f3 := fun m => show (w5.drewN m).cell? ⟨bh, 32, none⟩ = _ from h32
        clear hb hrw hCb hrow5
        by_cases hle : (h.epoch.toNat : Int) ≤ (b.p.epoch.toNat : Int)
        · rw [if_pos (by omega)] at hE
          simp only [Prod.mk.injEq] at hE
          obtain ⟨rfl, rfl⟩ := hE
          go_upto_region 9 with fail
          go_quiet (fail)
          have hB6 := below_drewN hB5 nq
          have hrow6 : row? (w5.drewN nq) b4 0 33 = _ := hrow15
          have hth6 : there (w5.drewN nq) b4 0 33 := hth5
          clear c0 f2 f3 h32 x0 hB5 hrow15 hth5 hR5 hrow65 c05
          replace q9 : b4 < (w5.drewN nq).heap.size := q9
          generalize w5.drewN nq = w6 at *
          go_wp2_with (with_reducible refine ret_row2 Try.isAgg26 Try.sizeOf26 rcheck_res (x := .pointer (some ⟨b4, 0, none⟩)) (y := .int .i64 13) (b4) 0 ?rrhx (Eq.refl _) ?rrhy ?rrh ?rrhd ?rrhR; (case rrhx => simp only [Array.getD_eq_getD_getElem?, List.getElem?_toArray, List.getElem?_cons_succ, List.getElem?_cons_zero, Option.getD_some]); (case rrhy => simp only [Array.getD_eq_getD_getElem?, List.getElem?_toArray, List.getElem?_cons_succ, List.getElem?_cons_zero, Option.getD_some]); (case rrhd => exact rfl); (case rrh => go_simp); (case rrhR => ((refine ⟨?_, ?_⟩; (case refine_1 => (go_simp; done)); (case refine_2 => ((repeat' (first | (with_reducible exact Below.refl _ _) | (with_reducible assumption) | (with_reducible refine bel_trans (by assumption) ?_ ?_) | (with_reducible refine bel_grown (by assumption) ?_ ?_ ?_) | (with_reducible refine Below.alloc ?_ ?_ _) | (with_reducible refine Below.drew ?_) | (with_reducible refine below_drewN ?_ _) | (with_reducible refine Below.setCell ?_ ?_ _) | (with_reducible refine below_put ?_ ?_ _ _) | (with_reducible exact Nat.le_refl _) | omega | (with_reducible refine Nat.le_trans ?_ (Below.size (by assumption))) | (with_reducible refine Nat.le_trans ?_ (World.grownBy.size (by assumption))) | (simp only [World.size_alloc, World.size_setCell, World.size_drew, size_drewN]; omega) | (simp only [World.size_alloc, World.size_setCell, World.size_drew, size_drewN, size_put]; omega) | (intro k hk; simp [Value.ownBlock] at hk; done) | (intro k hk; simp [Value.ownBlock] at hk; omega) | (simp [size_drewN] at *; omega)))))))))
        · rw [if_neg (by omega)] at hE
          go_upto_region 9 with fail
          go_quiet (fail)
          have hB6 := below_drewN hB5 nq
          have hrow6 : row? (w5.drewN nq) b4 0 33 = _ := hrow15
          have hth6 : there (w5.drewN nq) b4 0 33 := hth5
          have hrow66 : row? (w5.drewN nq) b6 0 33 = _ := hrow65
          have c06 : (w5.drewN nq).cell? ⟨cb, 0, none⟩ = _ := c05
          clear c0 f2 f3 h32 x0 hB5 hrow15 hth5 hR5 hrow65 c05
          replace q9 : b4 < (w5.drewN nq).heap.size := q9
          replace q10 : b6 < (w5.drewN nq).heap.size := q10
          generalize w5.drewN nq = w6 at *
          by_cases hfl : (4096 : Int) < (C.length : Int)
          · rw [if_pos (by omega)] at hE
            simp only [Prod.mk.injEq] at hE
            obtain ⟨rfl, rfl⟩ := hE
            go_wp2_with (with_reducible refine ret_row2 Try.isAgg26 Try.sizeOf26 rcheck_res (x := .pointer (some ⟨b4, 0, none⟩)) (y := .int .i64 5) (b4) 0 ?rrhx (Eq.refl _) ?rrhy ?rrh ?rrhd ?rrhR; (case rrhx => simp only [Array.getD_eq_getD_getElem?, List.getElem?_toArray, List.getElem?_cons_succ, List.getElem?_cons_zero, Option.getD_some]); (case rrhy => simp only [Array.getD_eq_getD_getElem?, List.getElem?_toArray, List.getElem?_cons_succ, List.getElem?_cons_zero, Option.getD_some]); (case rrhd => exact rfl); (case rrh => go_simp); (case rrhR => ((refine ⟨?_, ?_⟩; (case refine_1 => (go_simp; done)); (case refine_2 => ((repeat' (first | (with_reducible exact Below.refl _ _) | (with_reducible assumption) | (with_reducible refine bel_trans (by assumption) ?_ ?_) | (with_reducible refine bel_grown (by assumption) ?_ ?_ ?_) | (with_reducible refine Below.alloc ?_ ?_ _) | (with_reducible refine Below.drew ?_) | (with_reducible refine below_drewN ?_ _) | (with_reducible refine Below.setCell ?_ ?_ _) | (with_reducible refine below_put ?_ ?_ _ _) | (with_reducible exact Nat.le_refl _) | omega | (with_reducible refine Nat.le_trans ?_ (Below.size (by assumption))) | (with_reducible refine Nat.le_trans ?_ (World.grownBy.size (by assumption))) | (simp only [World.size_alloc, World.size_setCell, World.size_drew, size_drewN]; omega) | (simp only [World.size_alloc, World.size_setCell, World.size_drew, size_drewN, size_put]; omega) | (intro k hk; simp [Value.ownBlock] at hk; done) | (intro k hk; simp [Value.ownBlock] at hk; omega) | (simp [size_drewN] at *; omega)))))))))
          · rw [if_neg (by omega)] at hE
            simp only [Prod.mk.injEq] at hE
            obtain ⟨rfl, rfl⟩ := hE
            go_wp2_with (with_reducible refine ret_row2 Try.isAgg26 Try.sizeOf26 rcheck_res (x := .pointer (some ⟨b4, 0, none⟩)) (y := .int .i64 0) (b4) 0 ?rrhx (Eq.refl _) ?rrhy ?rrh ?rrhd ?rrhR; (case rrhx => simp only [Array.getD_eq_getD_getElem?, List.getElem?_toArray, List.getElem?_cons_succ, List.getElem?_cons_zero, Option.getD_some]); (case rrhy => simp only [Array.getD_eq_getD_getElem?, List.getElem?_toArray, List.getElem?_cons_succ, List.getElem?_cons_zero, Option.getD_some]); (case rrhd => exact rfl); (case rrh => go_simp); (case rrhR => ((refine ⟨?_, ?_⟩; (case refine_1 => (go_simp; done)); (case refine_2 => ((repeat' (first | (with_reducible exact Below.refl _ _) | (with_reducible assumption) | (with_reducible refine bel_trans (by assumption) ?_ ?_) | (with_reducible refine bel_grown (by assumption) ?_ ?_ ?_) | (with_reducible refine Below.alloc ?_ ?_ _) | (with_reducible refine Below.drew ?_) | (with_reducible refine below_drewN ?_ _) | (with_reducible refine Below.setCell ?_ ?_ _) | (with_reducible refine below_put ?_ ?_ _ _) | (with_reducible exact Nat.le_refl _) | omega | (with_reducible refine Nat.le_trans ?_ (Below.size (by assumption))) | (with_reducible refine Nat.le_trans ?_ (World.grownBy.size (by assumption))) | (simp only [World.size_alloc, World.size_setCell, World.size_drew, size_drewN]; omega) | (simp only [World.size_alloc, World.size_setCell, World.size_drew, size_drewN, size_put]; omega) | (intro k hk; simp [Value.ownBlock] at hk; done) | (intro k hk; simp [Value.ownBlock] at hk; omega) | (simp [size_drewN] at *; omega)))))))))
end Go.Proofs.Ythdjhbiigmcecaa

/- landmarkref10.(*Chain).Path. -/
namespace Go.Proofs.Ythdjhbiigmcecaa
open Go.RowKit

def natV (n : Nat) : Value := .int .i64 (n : Int)
abbrev OwnN (w : World) (E : Nat) (v : Value) (l : List Nat) : Prop := OwnC w E 1 v l.length (l.map natV)
/-- a block and its ancestors; none of none -/
def pthO (C : List Blk) : Option Nat → List Nat
  | none => []
  | some j => pth C j
theorem pth_step {C : List Blk} (h : ChnOk C) (i : Nat) : pth C i = i :: pthO C (parAt C i) := by
  rw [pth]
  cases hp : parAt C i with
  | none => rfl
  | some j =>
    have hj := (parAt_some h hp).1
    simp only [pthO, dif_pos hj]
attribute [local go_sem ↓] fold_appN fold_bsN
end Go.Proofs.Ythdjhbiigmcecaa

/- landmarkref10.(*Chain).Under. -/
namespace Go.Proofs.Ythdjhbiigmcecaa
open Go.RowKit

theorem OwnN.at {w : World} {E : Nat} {s : Sl} {l : List Nat} (h : OwnN w E s.v l) (hl : 0 < l.length) : ∃ g cap, s = ⟨some ⟨g, 0, none⟩, l.length, cap⟩ ∧ E ≤ g ∧ g < w.heap.size ∧ ∀ (k : Nat) (hk : k < l.length), w.cell? ⟨g, k, none⟩ = some (.int .i64 (l[k] : Int)) := by
  rcases h.2 with ⟨_, hn⟩ | ⟨g, cap, hv, h2, h3, h4, h5, h6, h7, h8⟩
  · omega
  · obtain ⟨sa, sn, sc⟩ := s
    unfold Sl.v at hv
    simp only at hv
    injection hv with e1 e2 e3
    subst e1 e2 e3
    exact ⟨g, _, rfl, h2, h3, fun k hk => h8 k _ (by simp [natV, hk])⟩
end Go.Proofs.Ythdjhbiigmcecaa

/- landmarkref10's rows of blocks: copied, and one more. -/
namespace Go.Proofs.Ythdjhbiigmcecaa
open Go.RowKit

abbrev RB := Pt × GHeader × Option Nat
def rA (x : RB) : Array Value := rblkA x.1 x.2.1 x.2.2
theorem rA_size (x : RB) : (rA x).size = 68 := rblkA_size _ _ _
theorem rA_one (x : RB) : ∀ u ∈ (rA x).toList, u.oneCell' = true := by
  have h : (rA x).all (·.oneCell') = true := oneApp (oneApp (onePoint _) (oneHeader _)) (by simp [Value.oneCell'])
  intro u hu
  rw [Array.all_eq_true_iff_forall_mem] at h
  exact h u (Array.mem_toList_iff.1 hu)
def rowsOf (G : List GHeader) (C : List Blk) : List RB := List.zipWith (fun g b => (b.p, g, b.par)) G C
theorem rowsOf_length {G : List GHeader} {C : List Blk} (h : G.length = C.length) : (rowsOf G C).length = C.length := by simp [rowsOf, h]
theorem RefC.rows {w0 W : World} {cb rb cap : Nat} {G : List GHeader} {C : List Blk} (h : RefC w0 W cb rb cap G C) : SlR 68 (fun cs x => cs = rA x) W ⟨some ⟨rb, 0, none⟩, C.length, cap⟩ (rowsOf G C) := by
  refine ⟨(rowsOf_length h.len).symm, h.cap, fun _ => ⟨rb, 0, rfl, fun i hi => ?_⟩⟩
  have hiC : i < C.length := by rw [rowsOf_length h.len] at hi; exact hi
  have hiG : i < G.length := by rw [h.len]; exact hiC
  have h1 := (h.row i G[i] C[i] (List.getElem?_eq_getElem hiG) (List.getElem?_eq_getElem hiC)).1
  refine ⟨_, by rw [Nat.zero_add]; exact h1, ?_⟩
  simp [rowsOf, rA]
theorem rowsSrc {α : Type} (A : α → Array Value) {k : Nat} (hk : ∀ x, (A x).size = k) (h0 : 0 < k) (h1 : ∀ x, ∀ u ∈ (A x).toList, u.oneCell' = true) {P : Program} {w : World} {s : Sl} {l : List α} (h : SlR k (fun cs x => cs = A x) w s l) (hne : l ≠ []) {t e : TypeId} (ht : P.underlying t = some (.slice e)) :
    Src P k t s.v l.length (flatC A l) w := by
  obtain ⟨b, off, ha, hc⟩ := h.2.2 hne
  obtain ⟨a, n, c⟩ := s
  simp only at ha
  subst ha
  obtain rfl : n = l.length := h.1
  refine Src.ofSlice w ht ⟨b, off, none⟩ l.length c (flatC A l) (flatC_length A hk l) (fun j u hu => ?_) (flatC_onecell A h1 l)
  have hj : j < l.length * k := by
    rw [← flatC_length A hk l]
    exact (List.getElem?_eq_some_iff.1 hu).1
  have hadd : (⟨b, off, none⟩ : Addr).add j = ⟨b, off + j, none⟩ := by unfold Addr.add; split <;> simp_all
  have hd : j / k < l.length := by rw [Nat.div_lt_iff_lt_mul h0]; exact hj
  have hm : j % k < k := Nat.mod_lt _ h0
  obtain ⟨cs, hr, rfl⟩ := hc (j / k) hd
  have h3 := cell_of_row? hr (j % k) hm
  have h4 := flatC_get A hk l (j / k) (j % k) hd hm
  have hj2 : j / k * k + j % k = j := by rw [Nat.mul_comm]; exact Nat.div_add_mod j k
  rw [hj2] at h4
  rw [hadd, show off + j = off + j / k * k + j % k by omega, h3, ← h4, hu]
def appR (args : Array Value) : Sem Value := Builtin.append_ #[67, 67] 67 args
theorem fold_appR (args : Array Value) : Builtin.append_ #[67, 67] 67 args = appR args := rfl
theorem run_copyR {W : World} {s : Sl} {l : List RB} (h : SlR 68 (fun cs x => cs = rA x) W s l) (hne : l ≠ []) (hl : l.length ≤ 1000000) :
    ∃ (s' : Sl) (w' : World), (appR #[.slice none 0 0, s.v]).run Try.prog W = .ok s'.v w' ∧ OwnC w' W.heap.size 68 s'.v l.length (flatC rA l) ∧ Below W.heap.size W w' := by
  obtain ⟨i0, hi, hy0, hy1, hy2⟩ := info_parts info_rblk
  obtain ⟨v', w', e1, e2, e3, e4⟩ := run_append_ownC (P := Try.prog) W W.heap.size 67 67 67 71 i0 _ 68 112 Try.underlying67 hi hy0 hy1 hy2 (by simp [Value.cells]) (.slice none 0 0) 0 [] (OwnC.nil _ _ _) s.v l.length (flatC rA l) (rowsSrc rA rA_size (by omega) rA_one h hne Try.underlying67) (by simp only [maxLen]; omega) (by omega) (Nat.le_refl _)
  rw [Nat.zero_add, List.nil_append] at e2
  obtain ⟨s', rfl⟩ := e2.slice
  exact ⟨s', w', e1, e2, (Below.refl _ _).grown e3 (Nat.le_refl _) (fun k hk => by simp [Value.ownBlock] at hk)⟩
theorem run_appR {W : World} {B : Nat} {s : Sl} {l : List RB} (h : OwnC W B 68 s.v l.length (flatC rA l)) (hB : B ≤ W.heap.size) (hl : l.length ≤ 1000000) (x : RB) (a : Nat) (ha : W.heap[a]? = some (.cells (rA x) 71 (0, 0))) :
    ∃ (s' : Sl) (W' : World), (appR #[s.v, .slice (some ⟨a, 0, none⟩) 1 1]).run Try.prog W = .ok s'.v W' ∧ OwnC W' B 68 s'.v (l ++ [x]).length (flatC rA (l ++ [x])) ∧ W.grownBy W' s.v.ownBlock := by
  obtain ⟨i0, hi, hy0, hy1, hy2⟩ := info_parts info_rblk
  obtain ⟨s', W', h1, h2, h3, -⟩ := run_append_one rA rA_size (P := Try.prog) W 67 rA_one B 71 i0 _ 112 Try.underlying67 hi hy0 hy1 hy2 (by simp [Value.cells]) s.v l h a 1 x ha hl (by omega) hB
  exact ⟨s', W', h1, h2, h3⟩
/-- a chain with one more block -/
theorem RefC.grow {w0 W W' : World} {cb rb cap : Nat} {G : List GHeader} {C : List Blk} (h : RefC w0 W cb rb cap G C) (hok : C.length ≤ 1000000) {s : Sl} {g : GHeader} {b : Blk} (hg : HdrR w0 g b.h) (hBW : Below w0.heap.size w0 W') (ho : OwnC W' W.heap.size 68 s.v (rowsOf G C ++ [(b.p, g, b.par)]).length (flatC rA (rowsOf G C ++ [(b.p, g, b.par)])))
    (hob : W'.heap[cb]? = some (.cells #[s.v] 69 (0, 0))) : ∃ rb' cap', W.heap.size ≤ rb' ∧ RefC w0 W' cb rb' cap' (G ++ [g]) (C ++ [b]) := by
  have hl : (rowsOf G C ++ [(b.p, g, b.par)]).length = C.length + 1 := by rw [List.length_append, rowsOf_length h.len]; rfl
  obtain ⟨hlen, hv | ⟨rb', cap', hv, h1, h2, h3, h4, h5, h6, h7⟩⟩ := ho
  · omega
  · have hrow : ∀ i (hi : i < (rowsOf G C ++ [(b.p, g, b.par)]).length), row? W' rb' (i * 68) 68 = some (rA (rowsOf G C ++ [(b.p, g, b.par)])[i]) := fun i hi => own_row rA rA_size (by omega) (B := W.heap.size) (c := cap') (n := (rowsOf G C ++ [(b.p, g, b.par)]).length) (w := W') (g := rb') ⟨hlen, .inr ⟨rb', cap', rfl, h1, h2, h3, h4, h5, h6, h7⟩⟩ i hi
    have hz := h.bel.size
    have hc := h.cbW
    refine ⟨rb', cap', h1, hBW, h.cbl, by omega, by omega, ?_, h2, by rw [List.length_append]; simp; omega, by simp [h.len], fun i x y hx hy => ?_⟩
    · rw [hob, hv, hl]
      simp
    · have hi : i < (C ++ [b]).length := (List.getElem?_eq_some_iff.1 hy).1
      have hi2 : i < (rowsOf G C ++ [(b.p, g, b.par)]).length := by rw [hl]; simpa using hi
      have hr := hrow i hi2
      by_cases hiC : i < C.length
      · rw [List.getElem?_append_left (by rw [h.len]; exact hiC)] at hx
        rw [List.getElem?_append_left hiC] at hy
        refine ⟨?_, (h.row i x y hx hy).2⟩
        rw [hr]
        have e1 := (List.getElem?_eq_some_iff.1 hx).2
        have e2 := (List.getElem?_eq_some_iff.1 hy).2
        rw [← e1, ← e2]
        rw [List.getElem_append_left (by rw [rowsOf_length h.len]; exact hiC)]
        simp [rowsOf, rA]
      · obtain rfl : i = C.length := by simp at hi; omega
        rw [List.getElem?_append_right (by rw [h.len]; exact Nat.le_refl _), h.len, Nat.sub_self] at hx
        rw [List.getElem?_append_right (Nat.le_refl _), Nat.sub_self] at hy
        simp only [List.getElem?_cons_zero, Option.some.injEq] at hx hy
        subst hx hy
        refine ⟨?_, hg⟩
        rw [hr, List.getElem_append_right (by rw [rowsOf_length h.len]; exact Nat.le_refl _)]
        simp [rA]
end Go.Proofs.Ythdjhbiigmcecaa

/- landmarkref10.(*Chain).Add. -/
namespace Go.Proofs.Ythdjhbiigmcecaa
open Go.RowKit

/-- a row of blocks is copied, one more is appended, the row is put into the chain's box -/
def HRad (W0 : World) (cb : Nat) (rows : List RB) (x : RB) (L : List Bool) (V : List Value) (w : World) : Prop :=
  (L.getD 4 false = true → ∃ (s : Sl) (w1 : World), Below W0.heap.size W0 w1 ∧ OwnC w1 W0.heap.size 68 s.v (rows ++ [x]).length (flatC rA (rows ++ [x])) ∧ w = w1.setCell ⟨cb, 0, none⟩ s.v) ∧
  (L.getD 4 false = false → Below W0.heap.size W0 w ∧
    (L.getD 0 false = true → L.getD 3 false = false → ∃ s : Sl, V.getD 0 undef = s.v ∧ OwnC w W0.heap.size 68 s.v rows.length (flatC rA rows)) ∧
    (L.getD 2 false = true → L.getD 3 false = false → ∃ b, V.getD 2 undef = .slice (some ⟨b, 0, none⟩) 1 1 ∧ w.heap[b]? = some (.cells (rA x) 71 (0, 0))) ∧
    (L.getD 3 false = true → ∃ s : Sl, V.getD 3 undef = s.v ∧ OwnC w W0.heap.size 68 s.v (rows ++ [x]).length (flatC rA (rows ++ [x]))))
section
variable {W0 w w' : World} {cb : Nat} {rows : List RB} {x : RB} {l0 l1 l2 l3 l4 : Bool} {v0 v1 v2 v3 v4 : Value}
theorem HRad.zero (V : List Value) : HRad W0 cb rows x [false, false, false, false, false] V W0.drew :=
  ⟨fun q => (by cases q), fun _ => ⟨(Below.refl _ _).drew, fun q => (by cases q), fun q => (by cases q), fun q => (by cases q)⟩⟩
theorem HRad.bel (h : HRad W0 cb rows x [l0, l1, l2, l3, l4] [v0, v1, v2, v3, v4] w) (h4 : l4 = false) : Below W0.heap.size W0 w := (h.2 h4).1
theorem HRad.call (h : HRad W0 cb rows x [l0, l1, l2, l3, l4] [v0, v1, v2, v3, v4] w) (h4 : l4 = false) (hb : Below w.heap.size w w') {v : Value} : HRad W0 cb rows x [l0, true, l2, l3, l4] [v0, v, v2, v3, v4] w' := by
  subst h4
  obtain ⟨q0, q1, q2, q3⟩ := h.2 rfl
  refine ⟨fun q => (by cases q), fun _ => ⟨q0.trans (hb.mono q0.size), fun a1 a2 => ?_, fun a1 a2 => ?_, fun a1 => ?_⟩⟩
  · obtain ⟨s, r1, r2⟩ := q1 a1 a2
    exact ⟨s, r1, r2.keep hb⟩
  · obtain ⟨b, r1, r2⟩ := q2 a1 a2
    exact ⟨b, r1, (hb.block b (Array.getElem?_eq_some_iff.1 r2).1).trans r2⟩
  · obtain ⟨s, r1, r2⟩ := q3 a1
    exact ⟨s, r1, r2.keep hb⟩
theorem HRad.copy (h : HRad W0 cb rows x [l0, l1, l2, l3, l4] [v0, v1, v2, v3, v4] w) (_h0 : l0 = false) (h3 : l3 = false) (h4 : l4 = false) {s : Sl} (hs : SlR 68 (fun cs x => cs = rA x) w s rows) (hne : rows ≠ []) (hl : rows.length ≤ 100000) :
    ∃ (s' : Sl) (w' : World), (appR #[.slice none 0 0, s.v]).run Try.prog w = .ok s'.v w' ∧ HRad W0 cb rows x [true, l1, l2, l3, l4] [s'.v, v1, v2, v3, v4] w' := by
  subst h3 h4
  obtain ⟨q0, q1, q2, q3⟩ := h.2 rfl
  obtain ⟨s', w', e1, e2, e3⟩ := run_copyR hs hne (by omega)
  refine ⟨s', w', e1, fun q => (by cases q), fun _ => ⟨q0.trans (e3.mono q0.size), fun _ _ => ⟨s', rfl, e2.more q0.size⟩, fun a1 a2 => ?_, fun q => (by cases q)⟩⟩
  obtain ⟨b, r1, r2⟩ := q2 a1 a2
  exact ⟨b, r1, (e3.block b (Array.getElem?_eq_some_iff.1 r2).1).trans r2⟩
theorem HRad.lit (h : HRad W0 cb rows x [l0, l1, l2, l3, l4] [v0, v1, v2, v3, v4] w) (h3 : l3 = false) (h4 : l4 = false) : HRad W0 cb rows x [l0, l1, true, l3, l4] [v0, v1, .slice (some ⟨w.heap.size, 0, none⟩) 1 1, v3, v4] (w.alloc (.cells (rA x) 71)) := by
  subst h3 h4
  obtain ⟨q0, q1, q2, q3⟩ := h.2 rfl
  refine ⟨fun q => (by cases q), fun _ => ⟨q0.trans ((bel_a _ _).mono q0.size), fun a1 a2 => ?_, fun _ _ => ⟨w.heap.size, rfl, heap_alloc_new w _⟩, fun q => (by cases q)⟩⟩
  obtain ⟨s, r1, r2⟩ := q1 a1 a2
  exact ⟨s, r1, r2.keep (bel_a _ _)⟩
theorem HRad.app (h : HRad W0 cb rows x [l0, l1, l2, l3, l4] [v0, v1, v2, v3, v4] w) (h0 : l0 = true) (h2 : l2 = true) (h3 : l3 = false) (h4 : l4 = false) (hl : rows.length ≤ 100000) {s : Sl} {b : Nat} (e0 : v0 = s.v) (e2 : v2 = .slice (some ⟨b, 0, none⟩) 1 1) :
    ∃ (s' : Sl) (w' : World), (appR #[s.v, .slice (some ⟨b, 0, none⟩) 1 1]).run Try.prog w = .ok s'.v w' ∧ HRad W0 cb rows x [l0, l1, l2, true, l4] [v0, v1, v2, s'.v, v4] w' := by
  subst h0 h2 h3 h4
  obtain ⟨q0, q1, q2, q3⟩ := h.2 rfl
  obtain ⟨s0, r1, r2⟩ := q1 rfl rfl
  obtain ⟨b0, r3, r4⟩ := q2 rfl rfl
  have r1' : v0 = s0.v := r1
  have r3' : v2 = .slice (some ⟨b0, 0, none⟩) 1 1 := r3
  rw [e0] at r1'
  rw [e2] at r3'
  have hb : b = b0 := by
    injection r3' with r3'
    injection r3' with r3'
    injection r3'
  subst hb
  rw [← r1'] at r2
  obtain ⟨s', w', f1, f2, f3⟩ := run_appR r2 q0.size (by omega) x b r4
  exact ⟨s', w', f1, fun q => (by cases q), fun _ => ⟨q0.grown f3 q0.size fun k hk => (OwnC.lt r2 k hk).1, fun _ q => (by cases q), fun _ q => (by cases q), fun _ => ⟨s', rfl, f2⟩⟩⟩
theorem HRad.put (h : HRad W0 cb rows x [l0, l1, l2, l3, l4] [v0, v1, v2, v3, v4] w) (h3 : l3 = true) (h4 : l4 = false) {s : Sl} (e : v3 = s.v) : HRad W0 cb rows x [l0, l1, l2, l3, true] [v0, v1, v2, v3, undef] (w.setCell ⟨cb, 0, none⟩ s.v) := by
  subst h3 h4
  obtain ⟨q0, q1, q2, q3⟩ := h.2 rfl
  obtain ⟨s0, r1, r2⟩ := q3 rfl
  have r1' : v3 = s0.v := r1
  rw [e] at r1'
  rw [← r1'] at r2
  exact ⟨fun _ => ⟨s, w, q0, r2, rfl⟩, fun q => (by cases q)⟩
end
attribute [local go_sem ↓] fold_bldR fold_bsR fold_appR
theorem radd_res : Try.f102.results = #[.cell 4 26, .tmp 5] := by kernel_rfl
set_option maxRecDepth 100000 in
set_option maxHeartbeats 3200000 in
theorem radd_c {w0 W : World} {cb rb cap : Nat} {G : List GHeader} {C : List Blk} (hR : RefC w0 W cb rb cap G C) (hok : ChnOk C) {g : GHeader} {h : Hdr} (hr : HdrR w0 g h) (hl : h.ops.length ≤ 1000000) :
    Calls Try.prog 102 #[ptrV cb, .agg (headerA g)] W fun r w' => r = .returned (.tuple #[.agg (pointA (chCheck C h).1), .int .i64 (chCheck C h).2]) ∧ (∃ rb' cap' G', (rb' = rb ∨ W.heap.size ≤ rb') ∧ RefC w0 w' cb rb' cap' G' (chAdd C h)) ∧ Asd (fun k => k = cb) W w' := by
  have hB0 : Below W.heap.size W ((W.alloc (.cells (headerA g) 49)).alloc (.cells (pointA zeroPt) 26)) := by (repeat' (first | (with_reducible exact Below.refl _ _) | (with_reducible assumption) | (with_reducible refine bel_trans (by assumption) ?_ ?_) | (with_reducible refine bel_grown (by assumption) ?_ ?_ ?_) | (with_reducible refine Below.alloc ?_ ?_ _) | (with_reducible refine Below.drew ?_) | (with_reducible refine below_drewN ?_ _) | (with_reducible refine Below.setCell ?_ ?_ _) | (with_reducible refine below_put ?_ ?_ _ _) | (with_reducible exact Nat.le_refl _) | omega | (with_reducible refine Nat.le_trans ?_ (Below.size (by assumption))) | (with_reducible refine Nat.le_trans ?_ (World.grownBy.size (by assumption))) | (simp only [World.size_alloc, World.size_setCell, World.size_drew, size_drewN]; omega) | (simp only [World.size_alloc, World.size_setCell, World.size_drew, size_drewN, size_put]; omega) | (intro k hk; simp [Value.ownBlock] at hk; done) | (intro k hk; simp [Value.ownBlock] at hk; omega) | (simp [size_drewN] at *; omega)))
  have hz0 : ((W.alloc (.cells (headerA g) 49)).alloc (.cells (pointA zeroPt) 26)).heap.size = W.heap.size + 2 := by simp
  have hrow0 : row? ((W.alloc (.cells (headerA g) 49)).alloc (.cells (pointA zeroPt) 26)) W.heap.size 0 34 = some (headerA g) := by rw [row?_old _ _ _ _ _ (by simp), row?_new]; simp
  have hrow1 : row? ((W.alloc (.cells (headerA g) 49)).alloc (.cells (pointA zeroPt) 26)) (W.heap.size + 1) 0 33 = some (pointA zeroPt) := by rw [row?_new_at _ _ _ _ _ _ (by simp)]; simp
  have hth : there ((W.alloc (.cells (headerA g) 49)).alloc (.cells (pointA zeroPt) 26)) (W.heap.size + 1) 0 33 := there_new_at _ _ _ _ _ _ (by simp) (by simp)
  have hR0 := Lib.hid (hR.keep hB0)
  have hcW := hR.cbW
  have hrW := hR.lt
  have g1 := hr.1
  have hclen := hok.len
  have HC := rcheck_c hR0.out hok (hr.keep' hR0.out.bel) hl
  obtain ⟨p, k, hpk⟩ : ∃ p k, (p, k) = chCheck C h := ⟨_, _, rfl⟩
  rw [← hpk] at HC ⊢
  replace hpk := Lib.hid hpk
  have hRi := Lib.hid hR
  have hri := Lib.hid hr
  clear hR hr
  unfold ptrV at HC ⊢
  go_enter Try.func102, Try.ntmps102
  go_upto_region 1 with fail
  generalize (W.alloc (.cells (headerA g) 49)).alloc (.cells (pointA zeroPt) 26) = w1 at *
  go_wp2_with fail
  (with_reducible refine HC.mono ?_)
  clear HC
  rintro r w2 ⟨rfl, hb2⟩
  have hz2 := hb2.size
  have hR2 := Lib.hid (hR0.out.keep hb2)
  have hB2 := hB0.trans (hb2.mono (by omega))
  have hrow2 := (row?_below _ _ _ hb2 (by omega)).trans hrow0
  have hrow12 := (row?_below _ _ _ hb2 (by omega)).trans hrow1
  have hth2 := there_below hb2 (show W.heap.size + 1 < w1.heap.size by omega) hth
  clear hb2 hrow0 hrow1 hth hR0 hB0
  go_upto_region 2 with fail
  obtain ⟨w3, hw3, hrow6, -, hb3', hz3⟩ := box_row w2 (pointA zeroPt) (pointA p) 26 33 (by omega) (by simp) (by simp)
  rw [← hw3]
  clear hw3
  have hR3 := Lib.hid (hR2.out.keep hb3')
  have hB3 := hB2.trans (hb3'.mono (by omega))
  have hrow3 := (row?_below _ _ _ hb3' (by omega)).trans hrow2
  have hrow13 := (row?_below _ _ _ hb3' (by omega)).trans hrow12
  have hth3 := there_below hb3' (show W.heap.size + 1 < w2.heap.size by omega) hth2
  obtain ⟨b4, hb4⟩ : ∃ b, b = W.heap.size + 1 := ⟨_, rfl⟩
  obtain ⟨b6, hb6e⟩ : ∃ b, b = w2.heap.size := ⟨_, rfl⟩
  obtain ⟨b3, hb3e⟩ : ∃ b, b = W.heap.size := ⟨_, rfl⟩
  rw [← hb4] at hrow13 hth3 ⊢
  rw [← hb6e] at hrow6 ⊢
  rw [← hb3e] at hrow3 ⊢
  have hb3 : b3 < w3.heap.size := by omega
  have hb6 : b6 < w3.heap.size := by omega
  have hb4w : b4 < w3.heap.size := by omega
  have hcb3 : cb < b3 := by omega
  have hrb3 : rb < b3 := by omega
  have hc46 : b4 ≠ b6 := by omega
  have hw04 : w0.heap.size ≤ b4 := by have := hRi.out.bel.size; omega
  have hWb4 : W.heap.size ≤ b4 := by omega
  have hrb4 : rb ≠ b4 := by omega
  have hcb4 : cb ≠ b4 := by omega
  have hcb6 : b6 ≠ cb := by omega
  have hc4 : cb < b4 := by omega
  have hc6 : cb < b6 := by omega
  clear hb3' hrow2 hrow12 hth2 hR2 hB2 hz2 hz0
  replace hb4 := Lib.hid hb4
  replace hb6e := Lib.hid hb6e
  replace hb3e := Lib.hid hb3e
  replace hz3 := Lib.hid hz3
  have hput : ∀ (V : World) (rb' cap' : Nat) (G' : List GHeader) (C' : List Blk), RefC w0 V cb rb' cap' G' C' → rb' ≠ b4 → RefC w0 (putRow V b4 0 (pointA p)) cb rb' cap' G' C' := fun V rb' cap' G' C' hV hr => hV.off (asd_put V b4 0 (pointA p)) (fun k hk => by rw [hk]; exact hw04) hcb4 hr
  by_cases hk : k = 0
  · have hck : (chCheck C h).2 = 0 := by rw [← hpk.out, hk]
    have hcp : (chCheck C h).1 = p := by rw [← hpk.out]
    obtain ⟨o, ho⟩ : ∃ o, o = chAt C h.parent := ⟨_, rfl⟩
    have hadd := Lib.hid (show chAdd C h = C ++ [⟨p, h, o⟩] by
      unfold chAdd
      rw [if_pos hck, hcp, ho])
    have HAt := fun W hb => rat_c (W := W) (hR3.out.keep hb) (by omega) h.parent
    rw [← ho] at HAt
    have hpos := hok.pos
    have hrlen := rowsOf_length hR3.out.len
    have hne : rowsOf G C ≠ [] := fun e => by
      rw [e] at hrlen
      simp at hrlen
      omega
    have hrl : (rowsOf G C).length ≤ 100000 := by omega
    have hpar3 := row_part hrow3 0 32 (by omega)
    rw [headerA_parent, g1, Nat.zero_add] at hpar3
    replace ho := Lib.hid ho
    subst hk
    clear hck hcp hrlen hpk
    go_upto_region 3 with fail
    refine wp_region_freeI_l (by kernel_rfl) [16, 17, 18, 19, 20, 21, 22, 23, 24, 25, 26, 27, 28, 29, 30, 31, 32, 52]
      [(fun v => v = .pointer (some ⟨cb, 0, none⟩)), (fun v => v = .pointer (some ⟨cb, 0, none⟩)), (fun v => v = .pointer (some ⟨cb, 0, none⟩)), (fun v => v = .pointer (some ⟨cb, 0, none⟩)), (fun v => v = .slice (some ⟨rb, 0, none⟩) C.length cap), (fun v => ∃ s : Sl, v = s.v), (fun v => v = .agg (pointA p)), (fun v => v = .agg (headerA g)), (fun v => v = .pointer (some ⟨cb, 0, none⟩)), (fun v => v = .pointer (some ⟨b3, 0, none⟩)), (fun v => v = .agg (hashA h.parent)), (fun v => v = .int .i64 (parI o)), (fun v => v = .agg (rblkA p g o)), (fun v => ∃ b, v = .slice (some ⟨b, 0, none⟩) 1 1), (fun v => ∃ s : Sl, v = s.v), (fun v => v = .pointer (some ⟨cb, 0, none⟩)), (fun v => v = .pointer (some ⟨cb, 0, none⟩)), (fun _ => True)]
      [5, 11, 13, 14, 17] (HRad w3 cb (rowsOf G C) (p, g, o)) [[15, 16, 17], [2, 3, 4, 5, 14, 17], [3, 4, 5, 14, 17], [4, 5, 14, 17], [5, 14, 17], [14, 17], [12, 13, 14, 17], [12, 13, 14, 17], [11, 12, 13, 14, 17], [10, 11, 12, 13, 14, 17], [11, 12, 13, 14, 17], [12, 13, 14, 17], [13, 14, 17], [14, 17], [17], [16, 17], [17], []] (by kernel_rfl) (by kernel_rfl) ?_ ?_ ?_
    · show HRad w3 cb (rowsOf G C) (p, g, o) [false, false, false, false, false] [_, _, _, _, _] _
      exact HRad.zero _
    · refine ⟨?_, ?_, ?_, ?_, ?_, ?_, ?_, ?_, ?_, ?_, ?_, ?_, ?_, ?_, ?_, ?_, ?_, ?_, trivial⟩
      · intro L ax W hf hLi hno hd
        try simp [Region.binds] at hd
        have e0 : ax.tmps[0]?.getD undef = .pointer (some ⟨cb, 0, none⟩) := hf.out 0 (by decide) rfl
        refine ⟨fun _ => ?_, fun h => absurd trivial h⟩
        refine freeI_run (v := .pointer (some ⟨cb, 0, none⟩)) rfl hf (by decide) ?_ rfl
        go_simp
      · intro L ax W hf hLi hno hd
        try simp [Region.binds] at hd
        have e0 : ax.tmps[0]?.getD undef = .pointer (some ⟨cb, 0, none⟩) := hf.out 0 (by decide) rfl
        refine ⟨fun _ => ?_, fun h => absurd trivial h⟩
        refine freeI_run (v := .pointer (some ⟨cb, 0, none⟩)) rfl hf (by decide) ?_ rfl
        go_simp
      · intro L ax W hf hLi hno hd
        simp [Region.binds] at hd
        have e17 : ax.tmps[17]?.getD undef = .pointer (some ⟨cb, 0, none⟩) := slv (hf.got 1 (by decide) (by simp [hd]))
        refine ⟨fun _ => ?_, fun h => absurd trivial h⟩
        refine freeI_run (v := .pointer (some ⟨cb, 0, none⟩)) rfl hf (by decide) ?_ rfl
        go_simp
      · intro L ax W hf hLi hno hd
        simp [Region.binds] at hd
        have e18 : ax.tmps[18]?.getD undef = .pointer (some ⟨cb, 0, none⟩) := slv (hf.got 2 (by decide) (by simp [hd]))
        refine ⟨fun _ => ?_, fun h => absurd trivial h⟩
        refine freeI_run (v := .pointer (some ⟨cb, 0, none⟩)) rfl hf (by decide) ?_ rfl
        go_simp
      · intro L ax W hf hLi hno hd
        simp [Region.binds] at hd
        have e19 : ax.tmps[19]?.getD undef = .pointer (some ⟨cb, 0, none⟩) := slv (hf.got 3 (by decide) (by simp [hd]))
        refine ⟨fun _ => ?_, fun h => absurd trivial h⟩
        have hG : HRad w3 cb (rowsOf G C) (p, g, o) [L 5, L 11, L 13, L 14, L 17] [sl ax 21, sl ax 27, sl ax 29, sl ax 30, sl ax 52] W := hf.glob
        have h1 := (hR3.out.keep (hG.bel (hno 17 (by decide)))).c0
        refine freeI_run (v := .slice (some ⟨rb, 0, none⟩) C.length cap) rfl hf (by decide) ?_ rfl
        go_simp
      · intro L ax W hf hLi hno hd
        simp [Region.binds] at hd
        have e20 : ax.tmps[20]?.getD undef = .slice (some ⟨rb, 0, none⟩) C.length cap := slv (hf.got 4 (by decide) (by simp [hd]))
        refine ⟨fun _ => ?_, fun h => absurd trivial h⟩
        have hG : HRad w3 cb (rowsOf G C) (p, g, o) [L 5, L 11, L 13, L 14, L 17] [sl ax 21, sl ax 27, sl ax 29, sl ax 30, sl ax 52] W := hf.glob
        obtain ⟨s', W', hrun', hH⟩ := hG.copy hLi (hno 14 (by decide)) (hno 17 (by decide)) (hR3.out.keep (hG.bel (hno 17 (by decide)))).rows hne hrl
        have hrun : (appR #[.slice none 0 0, .slice (some ⟨rb, 0, none⟩) C.length cap]).run Try.prog W = .ok s'.v W' := hrun'
        refine freeI_val (v := s'.v) (W' := W') rfl ?_ ⟨s', rfl⟩ hH
        go_simp
      · intro L ax W hf hLi hno hd
        try simp [Region.binds] at hd
        have e6 : ax.tmps[6]?.getD undef = .pointer (some ⟨b6, 0, none⟩) := hf.out 6 (by decide) rfl
        refine ⟨fun _ => ?_, fun h => absurd trivial h⟩
        have hG : HRad w3 cb (rowsOf G C) (p, g, o) [L 5, L 11, L 13, L 14, L 17] [sl ax 21, sl ax 27, sl ax 29, sl ax 30, sl ax 52] W := hf.glob
        have h1 := (row?_below _ _ _ (hG.bel (hno 17 (by decide))) hb6).trans hrow6
        refine freeI_run (v := .agg (pointA p)) rfl hf (by decide) ?_ rfl
        go_simp
      · intro L ax W hf hLi hno hd
        try simp [Region.binds] at hd
        have e3 : ax.tmps[3]?.getD undef = .pointer (some ⟨b3, 0, none⟩) := hf.out 3 (by decide) rfl
        refine ⟨fun _ => ?_, fun h => absurd trivial h⟩
        have hG : HRad w3 cb (rowsOf G C) (p, g, o) [L 5, L 11, L 13, L 14, L 17] [sl ax 21, sl ax 27, sl ax 29, sl ax 30, sl ax 52] W := hf.glob
        have h1 := (row?_below _ _ _ (hG.bel (hno 17 (by decide))) hb3).trans hrow3
        refine freeI_run (v := .agg (headerA g)) rfl hf (by decide) ?_ rfl
        go_simp
      · intro L ax W hf hLi hno hd
        try simp [Region.binds] at hd
        have e0 : ax.tmps[0]?.getD undef = .pointer (some ⟨cb, 0, none⟩) := hf.out 0 (by decide) rfl
        refine ⟨fun _ => ?_, fun h => absurd trivial h⟩
        refine freeI_run (v := .pointer (some ⟨cb, 0, none⟩)) rfl hf (by decide) ?_ rfl
        go_simp
      · intro L ax W hf hLi hno hd
        try simp [Region.binds] at hd
        have e3 : ax.tmps[3]?.getD undef = .pointer (some ⟨b3, 0, none⟩) := hf.out 3 (by decide) rfl
        refine ⟨fun _ => ?_, fun h => absurd trivial h⟩
        refine freeI_run (v := .pointer (some ⟨b3, 0, none⟩)) rfl hf (by decide) ?_ rfl
        go_simp
      · intro L ax W hf hLi hno hd
        simp [Region.binds] at hd
        have e25 : ax.tmps[25]?.getD undef = .pointer (some ⟨b3, 0, none⟩) := slv (hf.got 9 (by decide) (by simp [hd]))
        refine ⟨fun _ => ?_, fun h => absurd trivial h⟩
        have hG : HRad w3 cb (rowsOf G C) (p, g, o) [L 5, L 11, L 13, L 14, L 17] [sl ax 21, sl ax 27, sl ax 29, sl ax 30, sl ax 52] W := hf.glob
        have h1 := (row?_below _ _ _ (hG.bel (hno 17 (by decide))) hb3).trans hpar3
        refine freeI_run (v := .agg (hashA h.parent)) rfl hf (by decide) ?_ rfl
        go_simp
      · intro L ax W hf hLi hno hd
        simp [Region.binds] at hd
        have e24 : ax.tmps[24]?.getD undef = .pointer (some ⟨cb, 0, none⟩) := slv (hf.got 8 (by decide) (by simp [hd]))
        have e26 : ax.tmps[26]?.getD undef = .agg (hashA h.parent) := slv (hf.got 10 (by decide) (by simp [hd]))
        refine ⟨fun _ => ?_, fun h => absurd trivial h⟩
        have hG : HRad w3 cb (rowsOf G C) (p, g, o) [L 5, L 11, L 13, L 14, L 17] [sl ax 21, sl ax 27, sl ax 29, sl ax 30, sl ax 52] W := hf.glob
        refine freeI_call (f := 173) (args := #[ptrV cb, .agg (hashA h.parent)]) rfl (by unfold ptrV; go_simp) ?_
        refine (HAt W (hG.bel (hno 17 (by decide)))).mono ?_
        rintro e w' ⟨rfl, hb⟩
        exact ⟨_, rfl, rfl, hG.call (hno 17 (by decide)) hb⟩
      · intro L ax W hf hLi hno hd
        simp [Region.binds] at hd
        have e22 : ax.tmps[22]?.getD undef = .agg (pointA p) := slv (hf.got 6 (by decide) (by simp [hd]))
        have e23 : ax.tmps[23]?.getD undef = .agg (headerA g) := slv (hf.got 7 (by decide) (by simp [hd]))
        have f27 : (fun v => v = .int .i64 (parI o)) (sl ax 27) := hf.got 11 (by decide) (by simp [hd])
        refine ⟨fun _ => ?_, fun h => absurd trivial h⟩
        have hG : HRad w3 cb (rowsOf G C) (p, g, o) [L 5, L 11, L 13, L 14, L 17] [sl ax 21, sl ax 27, sl ax 29, sl ax 30, sl ax 52] W := hf.glob
        have e27 := slv f27
        have hbd := bldr_blk p g o W
        refine freeI_run (v := .agg (rblkA p g o)) rfl hf (by decide) ?_ rfl
        go_simp
      · intro L ax W hf hLi hno hd
        simp [Region.binds] at hd
        have e28 : ax.tmps[28]?.getD undef = .agg (rblkA p g o) := slv (hf.got 12 (by decide) (by simp [hd]))
        refine ⟨fun _ => ?_, fun h => absurd trivial h⟩
        have hG : HRad w3 cb (rowsOf G C) (p, g, o) [L 5, L 11, L 13, L 14, L 17] [sl ax 21, sl ax 27, sl ax 29, sl ax 30, sl ax 52] W := hf.glob
        have hbs := bsR_one (rblkA p g o) (rblkA_size _ _ _) W
        refine freeI_val (v := .slice (some ⟨W.heap.size, 0, none⟩) 1 1) (W' := W.alloc (.cells (rblkA p g o) 71)) rfl ?_ ⟨_, rfl⟩ (hG.lit (hno 14 (by decide)) (hno 17 (by decide)))
        go_simp
      · intro L ax W hf hLi hno hd
        simp [Region.binds] at hd
        have f21 : (fun v => ∃ s : Sl, v = s.v) (sl ax 21) := hf.got 5 (by decide) (by simp [hd])
        have f29 : (fun v => ∃ b, v = .slice (some ⟨b, 0, none⟩) 1 1) (sl ax 29) := hf.got 13 (by decide) (by simp [hd])
        refine ⟨fun _ => ?_, fun h => absurd trivial h⟩
        have hG : HRad w3 cb (rowsOf G C) (p, g, o) [L 5, L 11, L 13, L 14, L 17] [sl ax 21, sl ax 27, sl ax 29, sl ax 30, sl ax 52] W := hf.glob
        obtain ⟨s21, e21⟩ := f21
        obtain ⟨b29, e29⟩ := f29
        obtain ⟨s', W', hrun, hH⟩ := hG.app (by simp [hd]) (by simp [hd]) hLi (hno 17 (by decide)) hrl e21 e29
        have e21' := slv e21
        have e29' := slv e29
        refine freeI_val (v := s'.v) (W' := W') rfl ?_ ⟨s', rfl⟩ hH
        go_simp
      · intro L ax W hf hLi hno hd
        simp [Region.binds] at hd
        have e16 : ax.tmps[16]?.getD undef = .pointer (some ⟨cb, 0, none⟩) := slv (hf.got 0 (by decide) (by simp [hd]))
        refine ⟨fun _ => ?_, fun h => absurd trivial h⟩
        refine freeI_run (v := .pointer (some ⟨cb, 0, none⟩)) rfl hf (by decide) ?_ rfl
        go_simp
      · intro L ax W hf hLi hno hd
        simp [Region.binds] at hd
        have e31 : ax.tmps[31]?.getD undef = .pointer (some ⟨cb, 0, none⟩) := slv (hf.got 15 (by decide) (by simp [hd]))
        refine ⟨fun _ => ?_, fun h => absurd trivial h⟩
        refine freeI_run (v := .pointer (some ⟨cb, 0, none⟩)) rfl hf (by decide) ?_ rfl
        go_simp
      · intro L ax W hf hLi hno hd
        simp [Region.binds] at hd
        have e32 : ax.tmps[32]?.getD undef = .pointer (some ⟨cb, 0, none⟩) := slv (hf.got 16 (by decide) (by simp [hd]))
        have f30 : (fun v => ∃ s : Sl, v = s.v) (sl ax 30) := hf.got 14 (by decide) (by simp [hd])
        refine ⟨fun _ => ?_, fun h => absurd trivial h⟩
        have hG : HRad w3 cb (rowsOf G C) (p, g, o) [L 5, L 11, L 13, L 14, L 17] [sl ax 21, sl ax 27, sl ax 29, sl ax 30, sl ax 52] W := hf.glob
        obtain ⟨s30, e30⟩ := f30
        have e30' := slv e30
        have hRW := hR3.out.keep (hG.bel hLi)
        have h1 := hRW.c0
        have h2 := frozen_of_row W cb 0 _ _ hRW.ob
        have hH := hG.put (by simp [hd]) hLi e30
        refine freeI_store (W' := W.setCell ⟨cb, 0, none⟩ s30.v) rfl ?_ trivial hH
        go_simp
    · intro vs w4 hl' hF hG
      obtain ⟨g', hg1, hg2⟩ := vs_litI vs hl' hF
      obtain ⟨sx, w5, hb5, ho5, hw4⟩ := hG.1 rfl
      have hA : Asd (fun k => k = cb) w3 w4 := by
        rw [hw4]
        exact (below_fresh hb5 _).trans (asd_set w5 ⟨cb, 0, none⟩ sx.v)
      have hrow64 := hA.row hcb6 hrow6
      have hrow144 := hA.row (Ne.symm hcb4) hrow13
      have hth4 := hA.there (Ne.symm hcb4) hb4w hth3
      have hob5 := (hb5.block cb (by omega)).trans hR3.out.ob
      have ho4 : OwnC w4 w3.heap.size 68 sx.v (rowsOf G C ++ [(p, g, o)]).length (flatC rA (rowsOf G C ++ [(p, g, o)])) := by
        rw [hw4]
        exact OwnC.off ho5 (asd_set w5 ⟨cb, 0, none⟩ sx.v) fun g hg e => by
          have h1 := (OwnC.lt ho5 g hg).1
          have h2 : g = cb := e
          omega
      have hob4 : w4.heap[cb]? = some (.cells #[sx.v] 69 (0, 0)) := by
        rw [hw4]
        exact heap_set w5 cb 0 _ _ sx.v hob5
      have hBW4 : Below w0.heap.size w0 w4 := hR3.out.bel.trans (hA.below hR3.out.bel.size fun k _ hk => by
        have h1 : k = cb := hk
        rw [h1]
        exact hR3.out.cbl)
      obtain ⟨rb', cap', hge, hR4⟩ := hR3.out.grow (b := ⟨p, h, o⟩) (by omega) hri.out hBW4 ho4 hob4
      have hrb' : rb' ≠ b4 := by omega
      have hge2 : W.heap.size ≤ rb' := by have := hB3.size; omega
      have hfin := Lib.hid (show ∃ rb' cap' G', (rb' = rb ∨ W.heap.size ≤ rb') ∧ RefC w0 (putRow w4 b4 0 (pointA p)) cb rb' cap' G' (chAdd C h) by
        rw [hadd.out]
        exact ⟨rb', cap', G ++ [g], .inr hge2, hput _ _ _ _ _ hR4 hrb'⟩)
      have hfA := Lib.hid (show Asd (fun k => k = cb) W (putRow w4 b4 0 (pointA p)) from ((below_fresh hB3 _).trans hA).trans' (asd_put w4 b4 0 (pointA p)) fun k hk e => by
        have h1 : k = b4 := e
        omega)
      rw [hg1]
      simp only [List.length_cons, List.length_nil, Nat.reduceAdd, show List.range 18 = [0, 1, 2, 3, 4, 5, 6, 7, 8, 9, 10, 11, 12, 13, 14, 15, 16, 17] from rfl, List.map_cons, List.map_nil, slotsIn, putL, List.setIfInBounds_toArray, List.set_cons_succ, List.set_cons_zero, List.size_toArray, Nat.reduceLT, if_true, if_false]
      clear hg1 hg2 hG hF hl' hb5 ho5 hw4 hA hob5 ho4 hob4 hBW4 hR4 hrb' hpar3 HAt hR3 hB3 hrow3 hrow13 hth3 hrow6
      go_wp2_with (with_reducible refine ret_row2 Try.isAgg26 Try.sizeOf26 radd_res (x := .pointer (some ⟨b4, 0, none⟩)) (y := .int .i64 0) (b4) 0 ?rrhx (Eq.refl _) ?rrhy ?rrh ?rrhd ?rrhR; (case rrhx => simp only [Array.getD_eq_getD_getElem?, List.getElem?_toArray, List.getElem?_cons_succ, List.getElem?_cons_zero, Option.getD_some]); (case rrhy => simp only [Array.getD_eq_getD_getElem?, List.getElem?_toArray, List.getElem?_cons_succ, List.getElem?_cons_zero, Option.getD_some]); (case rrhd => exact rfl); (case rrh => go_simp); (case rrhR => (exact ⟨(by go_simp), hfin.out, hfA.out⟩)))
  · have hadd : Hid (chAdd C h = C) := Lib.hid (by
      unfold chAdd
      rw [← hpk.out, if_neg hk])
    have hk0 : (k == 0) = false := by simp [hk]
    have hfin := Lib.hid (show ∃ rb' cap' G', (rb' = rb ∨ W.heap.size ≤ rb') ∧ RefC w0 (putRow w3 b4 0 (pointA p)) cb rb' cap' G' (chAdd C h) by
      rw [hadd.out]
      exact ⟨rb, cap, G, .inl rfl, hput _ _ _ _ _ hR3.out hrb4⟩)
    have hfA := Lib.hid (show Asd (fun k => k = cb) W (putRow w3 b4 0 (pointA p)) from below_fresh (below_put hB3 hWb4 _ _) _)
    clear hk hR3 hrow3 hput hB3
    go_wp2_with (with_reducible refine ret_row2 Try.isAgg26 Try.sizeOf26 radd_res (x := .pointer (some ⟨b4, 0, none⟩)) (y := .int .i64 k) (b4) 0 ?rrhx (Eq.refl _) ?rrhy ?rrh ?rrhd ?rrhR; (case rrhx => simp only [Array.getD_eq_getD_getElem?, List.getElem?_toArray, List.getElem?_cons_succ, List.getElem?_cons_zero, Option.getD_some]); (case rrhy => simp only [Array.getD_eq_getD_getElem?, List.getElem?_toArray, List.getElem?_cons_succ, List.getElem?_cons_zero, Option.getD_some]); (case rrhd => exact rfl); (case rrh => go_simp); (case rrhR => (exact ⟨(by go_simp), hfin.out, hfA.out⟩)))
end Go.Proofs.Ythdjhbiigmcecaa

/- Contract: the document's Much (landmarkref10). -/
namespace Go.Proofs.Ythdjhbiigmcecaa
open Go.RowKit

def sigBig (v : Vote) : Bool := decide (5000 < v.sig.length)
def opBig (o : Op) : Bool := decide (4 < o.evidence.length) || o.evidence.any sigBig
def rmuch (h : Hdr) : Bool := decide (30 < h.ops.length) || h.ops.any opBig
theorem rmuch_out {h : Hdr} (hm : rmuch h = false) : HdrFits h ∧ h.ops.length ≤ 30 := by
  simp only [rmuch, Bool.or_eq_false_iff, decide_eq_false_iff_not, List.any_eq_false, opBig, Bool.not_eq_true] at hm
  obtain ⟨h1, h2⟩ := hm
  refine ⟨⟨by omega, fun o ho => ⟨?_, fun v hv => ?_⟩⟩, by omega⟩
  · have := (h2 o ho).1
    omega
  · have := (h2 o ho).2 v hv
    simp only [sigBig, decide_eq_false_iff_not] at this
    omega
theorem any_snoc {α : Type} (p : α → Bool) (l : List α) (k : Nat) (h : k < l.length) : (l.take (k + 1)).any p = ((l.take k).any p || p l[k]) := by
  rw [List.take_succ_eq_append_getElem h, List.any_append]
  simp
theorem any_hit {α : Type} (p : α → Bool) (l : List α) (k : Nat) (h : k < l.length) (hp : p l[k] = true) : l.any p = true := List.any_eq_true.2 ⟨_, List.getElem_mem h, hp⟩
set_option maxRecDepth 100000 in
set_option maxHeartbeats 3200000 in
theorem rmuch_c (g : GHeader) (h : Hdr) (w : World) (hr : HdrR w g h) :
    Calls Try.prog 40 #[.agg (headerA g)] w fun e w' => e = .returned (.bool (rmuch h)) ∧ Below w.heap.size w w' := by
  have n1 := hr.2.2.1
  have hB0 : Below w.heap.size w (w.alloc (.cells (headerA g) 49)) := bel_a _ _
  have hrow : row? (w.alloc (.cells (headerA g) 49)) w.heap.size 0 34 = some (headerA g) := by rw [row?_new]; simp
  have Hr := Lib.hid (hr.keep' hB0).2.2
  have HM := Lib.hid (show rmuch h = (decide (30 < h.ops.length) || h.ops.any opBig) from rfl)
  obtain ⟨gp, ge, ⟨oa, on, oc⟩⟩ := g
  simp only at n1
  subst n1
  clear hr
  go_enter Try.func40, Try.ntmps40
  go_upto_region 1 with fail
  generalize w.alloc (.cells (headerA ⟨gp, ge, ⟨oa, h.ops.length, oc⟩⟩) 49) = W0 at *
  have c33 := cell_of_row? hrow 33 (by omega)
  simp only [Nat.zero_add, headerA_ops] at c33
  dsimp only [Sl.v] at c33
  clear hrow
  by_cases s1 : (30 : Int) < (h.ops.length : Int)
  · have hf := Lib.hid (show rmuch h = true by rw [HM.out, decide_eq_true (by omega)]; rfl)
    go_wp2_with fail
    go_ret
    exact ⟨ret_bool hf.out.symm, hB0⟩
  have HM := Lib.hid (show rmuch h = h.ops.any opBig by rw [HM.out, decide_eq_false (by omega), Bool.false_or])
  go_wp2_with fail
  go_loop [3] (fun i => ∃ k : Nat, k ≤ h.ops.length ∧ Hid ((h.ops.take k).any opBig = false) ∧ i = .int .i64 k) (fun i => h.ops.length - (intOf i).toNat)
  case atStart => exact ⟨0, Nat.zero_le _, Lib.hid rfl, rfl⟩
  case round =>
    obtain ⟨k, hk, hu, rfl⟩ := hrel
    by_cases hkx : k < h.ops.length
    · obtain ⟨bo, oo, e, hbo, hco⟩ := (Hr.out).at (by omega)
      have e1 := congrArg Sl.a e
      simp only at e1
      subst e1
      clear e
      obtain ⟨cs, hcx, g1, rfl, hv1⟩ := hco k hkx
      clear hco
      have Hsn := Lib.hid (any_snoc opBig h.ops k hkx)
      have Hhit := Lib.hid (any_hit opBig h.ops k hkx)
      generalize h.ops[k] = o at *
      have n2 := hv1.2.2.2.2.1
      have Hev := Lib.hid hv1.2.2.2.2
      obtain ⟨gk, gkey, gst, gv, ⟨ea, en, ec⟩⟩ := g1
      simp only at n2
      subst n2
      have c35 := cell_of_row? hcx 35 (by omega)
      rw [opA_evidence] at c35
      dsimp only [Sl.v] at c35
      have Hob := Lib.hid (show opBig o = (decide (4 < o.evidence.length) || o.evidence.any sigBig) from rfl)
      have k1 : (k : Int) < (h.ops.length : Int) := by omega
      clear hcx hv1
      by_cases s2 : (4 : Int) < (o.evidence.length : Int)
      · have hf := Lib.hid (show rmuch h = true by rw [HM.out]; exact Hhit.out (by rw [Hob.out, decide_eq_true (by omega)]; rfl))
        go_wp2_with fail
        go_ret
        exact ⟨ret_bool hf.out.symm, hB0⟩
      have Hob := Lib.hid (show opBig o = o.evidence.any sigBig by rw [Hob.out, decide_eq_false (by omega), Bool.false_or])
      go_wp2_with fail
      go_loop [4] (fun j => ∃ m : Nat, m ≤ o.evidence.length ∧ Hid ((o.evidence.take m).any sigBig = false) ∧ j = .int .i64 m) (fun j => o.evidence.length - (intOf j).toNat)
      case atStart => exact ⟨0, Nat.zero_le _, Lib.hid rfl, rfl⟩
      case round =>
        obtain ⟨m, hm, hv, rfl⟩ := hrel
        by_cases hmx : m < o.evidence.length
        · obtain ⟨be, oe, e, hbe, hce⟩ := (Hev.out).at (by omega)
          have e1 := congrArg Sl.a e
          simp only at e1
          subst e1
          clear e
          obtain ⟨cs, hcx, g2, rfl, hv2⟩ := hce m hmx
          clear hce
          have Hsm := Lib.hid (any_snoc sigBig o.evidence m hmx)
          have Hhm := Lib.hid (any_hit sigBig o.evidence m hmx)
          generalize o.evidence[m] = v at *
          have n3 := hv2.2.2.2.1
          obtain ⟨gv2, gs2, gt2, ⟨pa, pn, pc⟩⟩ := g2
          simp only at n3
          subst n3
          have c67 := cell_of_row? hcx 67 (by omega)
          rw [voteA_sig] at c67
          dsimp only [Sl.v] at c67
          have Hsb := Lib.hid (show sigBig v = decide (5000 < v.sig.length) from rfl)
          have m1 : (m : Int) < (o.evidence.length : Int) := by omega
          clear hcx hv2
          by_cases s3 : (5000 : Int) < (v.sig.length : Int)
          · have hf := Lib.hid (show rmuch h = true by rw [HM.out]; exact Hhit.out (by rw [Hob.out]; exact Hhm.out (by rw [Hsb.out]; exact decide_eq_true (by omega))))
            go_wp2_with fail
            go_ret
            exact ⟨ret_bool hf.out.symm, hB0⟩
          · have hs := Lib.hid (show sigBig v = false by rw [Hsb.out]; exact decide_eq_false (by omega))
            go_wp2_with fail
            go_round
            case rel => exact ⟨m + 1, by omega, Lib.hid (by rw [Hsm.out, hv.out, hs.out]; rfl), by go_num⟩
            case measure => simp [intOf]; omega
        · obtain rfl : o.evidence.length = m := by omega
          have hob := Lib.hid (show opBig o = false by rw [Hob.out]; have := hv.out; rwa [List.take_length] at this)
          go_wp2_with fail
          go_round
          case rel => exact ⟨k + 1, by omega, Lib.hid (by rw [Hsn.out, hu.out, hob.out]; rfl), by go_num⟩
          case measure => simp [intOf]; omega
    · obtain rfl : h.ops.length = k := by omega
      have hf := Lib.hid (show rmuch h = false by rw [HM.out]; have := hu.out; rwa [List.take_length] at this)
      go_wp2_with fail
      go_ret
      exact ⟨ret_bool hf.out.symm, hB0⟩
end Go.Proofs.Ythdjhbiigmcecaa

/- Acts in memory; landmarklaw10.few. -/
namespace Go.Proofs.Ythdjhbiigmcecaa
open Go.RowKit

/-- a header that is added; under another one's, if under is true -/
structure Act where
  h : Hdr
  under : Bool
  n : Int
structure GAct where
  g : GHeader
  under : Bool
  n : Int
def actA (x : GAct) : Array Value := headerA x.g ++ #[.bool x.under, .int .i64 x.n]
def ActR (w : World) (x : GAct) (a : Act) : Prop := HdrR w x.g a.h ∧ x.under = a.under ∧ x.n = a.n
def ActC (w : World) (cs : Array Value) (a : Act) : Prop := ∃ x, cs = actA x ∧ ActR w x a
abbrev ActsR (w : World) (s : Sl) (l : List Act) : Prop := SlR 36 (ActC w) w s l
theorem ActsR.keep' {w w' : World} {s : Sl} {l : List Act} (h : ActsR w s l) (hb : Below w.heap.size w w') : ActsR w' s l :=
  SlR.keep h hb fun _ _ ⟨x, e, h1, h2⟩ => ⟨x, e, h1.keep' hb, h2⟩
theorem act_cells {W : World} {b o : Nat} {x : GAct} (h : row? W b o 36 = some (actA x)) : row? W b o 34 = some (headerA x.g) ∧ W.cell? ⟨b, o + 34, none⟩ = some (.bool x.under) ∧ W.cell? ⟨b, o + 35, none⟩ = some (.int .i64 x.n) := by
  have h1 := row_part h 0 34 (by omega)
  have h2 := cell_of_row? h 34 (by omega)
  have h3 := cell_of_row? h 35 (by omega)
  have e1 : (actA x).extract 0 34 = headerA x.g := by
    simp [actA, Array.extract_append, ext_self, ext_none]
  have e2 : (actA x)[34]? = some (.bool x.under) := by
    unfold actA
    rw [Array.getElem?_append_right (by simp)]
    simp
  have e3 : (actA x)[35]? = some (.int .i64 x.n) := by
    unfold actA
    rw [Array.getElem?_append_right (by simp)]
    simp
  rw [Nat.add_zero, Nat.zero_add, e1] at h1
  rw [e2] at h2
  rw [e3] at h3
  exact ⟨h1, h2, h3⟩
def fewA (l : List Act) (most : Int) : Bool := (l.all fun a => !rmuch a.h) && decide ((l.length : Int) ≤ most)
theorem fewA_out {l : List Act} {most : Int} (h : fewA l most = true) : (∀ a ∈ l, HdrFits a.h ∧ a.h.ops.length ≤ 30) ∧ (l.length : Int) ≤ most := by
  simp only [fewA, Bool.and_eq_true, decide_eq_true_eq, List.all_eq_true, Bool.not_eq_true'] at h
  exact ⟨fun a ha => rmuch_out (h.1 a ha), h.2⟩
set_option maxRecDepth 100000 in
set_option maxHeartbeats 1600000 in
theorem fewA_c {w : World} {s : Sl} {l : List Act} (h : ActsR w s l) (hl : l.length ≤ 9223372036854775807) (most : Int) :
    Calls Try.prog 30 #[s.v, .int .i64 most] w fun e w' => e = .returned (.bool (fewA l most)) ∧ Below w.heap.size w w' := by
  obtain ⟨sa, sn, sc⟩ := s
  obtain rfl : sn = l.length := h.1
  have hs := Lib.hid h
  clear h
  dsimp only [Sl.v]
  go_enter Try.func30, Try.ntmps30
  go_wp2_with fail
  go_loopw [5] (fun i w' => ∃ k : Nat, k ≤ l.length ∧ Hid ((l.take k).all (fun a => !rmuch a.h) = true) ∧ i = .int .i64 k ∧ Below w.heap.size w w') (fun i _ => l.length - (intOf i).toNat)
  case atStart => exact ⟨0, Nat.zero_le _, Lib.hid (by simp), rfl, Below.refl _ _⟩
  case round =>
    obtain ⟨k, hk, hb, rfl, hB⟩ := hrel
    have hz := hB.size
    by_cases hkx : k < l.length
    · obtain ⟨bl, off, e, hbs, hc⟩ := (hs.out.keep' hB).at (by omega)
      have e1 := congrArg Sl.a e
      simp only at e1
      subst e1
      clear e
      obtain ⟨cs, hcx, x, rfl, hx, -⟩ := hc k hkx
      clear hc
      obtain ⟨hrw, -, -⟩ := act_cells hcx
      have hat := Lib.hid (all_take_succ (fun a : Act => !rmuch a.h) l k hkx)
      have haf := Lib.hid (all_false (fun a : Act => !rmuch a.h) l k hkx)
      have HM := rmuch_c x.g l[k].h wr hx
      generalize l[k] = a at *
      have k0 : (0 : Int) ≤ (k : Int) := by omega
      have k1 : (k : Int) < (l.length : Int) := by omega
      clear hcx
      obtain ⟨m, hm⟩ : ∃ m, m = rmuch a.h := ⟨_, rfl⟩
      rw [← hm] at HM
      go_wp2_with fail
      (with_reducible refine HM.mono ?_)
      clear HM
      rintro e w2 ⟨rfl, hb1⟩
      have hB1 : Below w.heap.size w w2 := hB.trans (hb1.mono hz)
      cases m
      · have Hm := Lib.hid hm.symm
        clear hm
        go_wp2_with fail
        go_roundw
        case rel => exact ⟨k + 1, by omega, Lib.hid (by rw [hat.out, hb.out, Hm.out]; rfl), by go_num, hB1⟩
        case measure => simp [intOf]; omega
      · have Hf := Lib.hid (show fewA l most = false by
          unfold fewA
          rw [haf.out (by rw [← hm]; rfl)]
          rfl)
        clear hm
        go_wp2_with fail
        go_ret
        exact ⟨ret_bool Hf.out.symm, hB1⟩
    · have Hf := Lib.hid (show fewA l most = decide ((l.length : Int) ≤ most) by
        have h1 := hb.out
        rw [List.take_of_length_le (by omega)] at h1
        unfold fewA
        rw [h1, Bool.true_and])
      go_wp2_with fail
      all_goals go_ret
      all_goals exact ⟨ret_bool (by rw [Hf.out] <;> first | rfl | (simp_all; done) | (simp; omega)), hB⟩
end Go.Proofs.Ythdjhbiigmcecaa
