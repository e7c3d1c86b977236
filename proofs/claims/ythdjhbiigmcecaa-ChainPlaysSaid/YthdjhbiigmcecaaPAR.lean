/- Texts of this proof, one behind the other: TenE, TenI, ChnI, TenJ, TenK, TenL, TenM, Much, Acts, ChnK, ChnC. -/
import Derived.Test.YthdjhbiigmcecaaPAN
import Derived.Test.YthdjhbiigmcecaaPAQ
import Derived.Test.YthdjhbiigmcecaaPAM
import Derived.Test.YthdjhbiigmcecaaPAF
import Derived.Test.YthdjhbiigmcecaaPAE
import Derived.Deep.CutRange
import Derived.Test.YthdjhbiigmcecaaPAK
import Derived.LaidEqlPtr
set_option linter.unusedVariables false
set_option linter.unusedSimpArgs false
/- Contracts: landmarkref03.Sum, landmarkref10.Name. -/
namespace Go.Proofs.Ythdjhbiigmcecaa
open Go.RowKit

attribute [local go_sem] load_bg store_bg
attribute [local go_sem ↓] load_bg_s store_bg_s zero_bg
theorem rsum_res : Try.f124.results = #[.cell 2 24] := by kernel_rfl
set_option maxRecDepth 100000 in
set_option maxHeartbeats 1600000 in
theorem rsum_c (s : Sl) (m : List UInt8) (w : World) (hs : BytesR w s m) (hl : m.length ≤ 1000000000) :
  Calls Try.prog 124 #[s.v] w fun e w' => e = .returned (.agg (hashA (shaSum m))) ∧ Below w.heap.size w w' := by
 obtain ⟨sa, sn, sc⟩ := s
 obtain rfl : sn = m.length := hs.1
 show Calls Try.prog 124 #[.slice sa m.length sc] w _
 have HS0 := fun W h => bsum_c ⟨sa, m.length, sc⟩ m W h hl
 obtain ⟨sh, hsh⟩ : ∃ sh, sh = shaSum m := ⟨_, rfl⟩
 obtain ⟨bg, hbg⟩ : ∃ bg, bg = begA begAll := ⟨_, rfl⟩
 have hbs : bg.size = 72 := by rw [hbg]; decide +kernel
 have hbo : oneCells bg := by rw [hbg]; exact begA_one _
 rw [← hsh, ← hbg] at HS0
 have HB := fun W => begin_c W
 rw [← hbg] at HB
 rw [← hsh]
 have hB0 : Below w.heap.size w (w.alloc (.cells (hashA zeroHash) 24)) := bel_a _ _
 have hrow0 : row? (w.alloc (.cells (hashA zeroHash) 24)) w.heap.size 0 32 = some (hashA zeroHash) := by rw [row?_new]; simp
 have hth0 : there (w.alloc (.cells (hashA zeroHash) 24)) w.heap.size 0 32 := there_new _ _ _ _ _ (by simp)
 have hz0 : (w.alloc (.cells (hashA zeroHash) 24)).heap.size = w.heap.size + 1 := by simp
 have hs1 := Lib.hid (hs.keep hB0)
 replace hsh := Lib.hid hsh
 replace hbg := Lib.hid hbg
 clear hs hl
 go_enter Try.func124, Try.ntmps124
 go_upto_region 1 with fail
 generalize w.alloc (.cells (hashA zeroHash) 24) = w1 at *
 replace hz0 := Lib.hid hz0
 go_wp2_with fail
 refine (HB _).mono ?_
 rintro e w2 ⟨rfl, hb2⟩
 have h1 : w.heap.size < w1.heap.size := by have := hz0.out; omega
 replace hrow0 := (row?_below _ _ _ hb2 h1).trans hrow0
 replace hth0 := there_below hb2 h1 hth0
 have hB2 : Below w.heap.size w w2 := hB0.trans (hb2.mono (by omega))
 have hs2 := hs1.out.keep hb2
 obtain ⟨w3, hw3, hrow3, hth3, hB3, hz3⟩ := box_row w2 begZ bg 160 72 (by omega) (by decide +kernel) hbs
 have h12 := hb2.size
 have hw1z : w.heap.size < w2.heap.size := by omega
 replace hrow0 := (row?_below _ _ _ hB3 hw1z).trans hrow0
 replace hth0 := there_below hB3 hw1z hth0
 have hs3 := hs2.keep hB3
 have hB3' : Below w.heap.size w w3 := hB2.trans (hB3.mono (by omega))
 have HS1 := HS0 w3 hs3
 clear hs2 hs3 hB2 hB0 HS0 HB hb2 hB3 hs1
 replace hz3 := Lib.hid hz3
 have hst : (storeAgg 160 (.pointer (some ⟨w2.heap.size, 0, none⟩)) (.agg bg)).run Try.prog (w2.alloc (.cells begZ 160)) = .ok () w3 := by
  rw [hw3]
  exact store_bg _ _ _ _ hbs hbo (there_new w2 begZ 160 0 72 (by decide +kernel))
 clear hw3
 go_upto_region 2 with fail
 clear hst
 dsimp only [Sl.v] at HS1
 go_wp2_with fail
 (with_reducible refine HS1.mono ?_)
 rintro e w4 ⟨rfl, hb4⟩
 have hz2 := hz3.out
 have h03 : w.heap.size < w3.heap.size := by omega
 have hrow4 := (row?_below _ _ _ hb4 h03).trans hrow0
 have hth4 := there_below hb4 h03 hth0
 have hB4 : Below w.heap.size w w4 := hB3'.trans (hb4.mono (by omega))
 clear hb4 HS1 hrow0 hth0 hrow3 hth3 hB3' hz2 hbs hbo
 go_wp2_with (with_reducible refine ret_row Try.isAgg24 Try.sizeOf24 rsum_res (x := .pointer (some ⟨w.heap.size, 0, none⟩)) (w.heap.size) 0 ?rrhx (Eq.refl _) ?rrh ?rrhd ?rrhR; (case rrhx => simp only [Array.getD_eq_getD_getElem?, List.getElem?_toArray, List.getElem?_cons_succ, List.getElem?_cons_zero, Option.getD_some]); (case rrhd => exact rfl); (case rrh => go_simp); (case rrhR => ((refine ⟨?_, ?_⟩; (case refine_1 => (go_simp; done)); (case refine_2 => ((repeat' (first | (with_reducible first | exact Below.refl _ _ | assumption | refine bel_trans (by assumption) ?_ ?_ | refine bel_grown (by assumption) ?_ ?_ ?_ | refine Below.alloc ?_ ?_ _ | refine Below.drew ?_ | refine below_drewN ?_ _ | refine Below.setCell ?_ ?_ _ | refine below_put ?_ ?_ _ _ | exact Nat.le_refl _) | omega | (with_reducible first | refine Nat.le_trans ?_ (Below.size (by assumption)) | refine Nat.le_trans ?_ (World.grownBy.size (by assumption))) | (simp only [World.size_alloc, World.size_setCell, World.size_drew, size_drewN]; omega) | (simp only [World.size_alloc, World.size_setCell, World.size_drew, size_drewN, size_put]; omega) | (intro k hk; simp [Value.ownBlock] at hk; first | done | omega) | (simp [size_drewN] at *; omega)))))))))
theorem rname_res : Try.f51.results = #[.cell 2 24] := by kernel_rfl
set_option maxRecDepth 100000 in
set_option maxHeartbeats 1600000 in
/-- the name of a header that may be -/
theorem rname_c (g : GHeader) (h : Hdr) (w : World) (hr : HdrR w g h) (hm : hdrMay h = true) :
  Calls Try.prog 51 #[.agg (headerA g)] w fun e w' => e = .returned (.agg (hashA (hdName h))) ∧ Below w.heap.size w w' := by
 obtain ⟨hl, hm2⟩ := hdrMay_out hm
 have hnm : shaSum (nmText h) = hdName h := by unfold hdName; rw [if_pos hm]
 have hlen : (nmText h).length ≤ 1000000000 := by
  have := hdBytes_length hl hm2
  unfold nmText
  simp only [List.length_append, List.length_cons, List.length_nil]
  omega
 have HT := fun W hW => ttext_c g h W hW hl hm2
 have HS := fun s W hW => rsum_c s (nmText h) W hW hlen
 rw [hnm] at HS
 obtain ⟨tx, htx⟩ : ∃ tx, tx = nmText h := ⟨_, rfl⟩
 obtain ⟨hn, hhn⟩ : ∃ hn, hn = hdName h := ⟨_, rfl⟩
 rw [← htx] at HS HT
 rw [← hhn] at HS ⊢
 have hB0 : Below w.heap.size w ((w.alloc (.cells (headerA g) 49)).alloc (.cells (hashA zeroHash) 24)) := by (repeat' (first | (with_reducible first | exact Below.refl _ _ | assumption | refine bel_trans (by assumption) ?_ ?_ | refine bel_grown (by assumption) ?_ ?_ ?_ | refine Below.alloc ?_ ?_ _ | refine Below.drew ?_ | refine below_drewN ?_ _ | refine Below.setCell ?_ ?_ _ | refine below_put ?_ ?_ _ _ | exact Nat.le_refl _) | omega | (with_reducible first | refine Nat.le_trans ?_ (Below.size (by assumption)) | refine Nat.le_trans ?_ (World.grownBy.size (by assumption))) | (simp only [World.size_alloc, World.size_setCell, World.size_drew, size_drewN]; omega) | (simp only [World.size_alloc, World.size_setCell, World.size_drew, size_drewN, size_put]; omega) | (intro k hk; simp [Value.ownBlock] at hk; first | done | omega) | (simp [size_drewN] at *; omega)))
 have hz0 : ((w.alloc (.cells (headerA g) 49)).alloc (.cells (hashA zeroHash) 24)).heap.size = w.heap.size + 2 := by simp
 have hrow0 : row? ((w.alloc (.cells (headerA g) 49)).alloc (.cells (hashA zeroHash) 24)) (w.heap.size + 1) 0 32 = some (hashA zeroHash) := by rw [row?_new_at _ _ _ _ _ _ (by simp)]; simp
 have hrowh : row? ((w.alloc (.cells (headerA g) 49)).alloc (.cells (hashA zeroHash) 24)) w.heap.size 0 34 = some (headerA g) := by rw [row?_old _ _ _ _ _ (by simp), row?_new]; simp
 have hth0 : there ((w.alloc (.cells (headerA g) 49)).alloc (.cells (hashA zeroHash) 24)) (w.heap.size + 1) 0 32 := there_new_at _ _ _ _ _ _ (by simp) (by simp)
 have hr0 := Lib.hid (hr.keep' hB0)
 replace htx := Lib.hid htx
 replace hhn := Lib.hid hhn
 clear hr hm hm2 hl hnm hlen
 go_enter Try.func51, Try.ntmps51
 go_upto_region 1 with fail
 generalize (w.alloc (.cells (headerA g) 49)).alloc (.cells (hashA zeroHash) 24) = w1 at *
 replace hz0 := Lib.hid hz0
 have HT1 := HT w1 hr0.out
 clear HT
 go_wp2_with fail
 (with_reducible refine HT1.mono ?_)
 rintro e w2 ⟨x, rfl, ho, hb2⟩
 obtain ⟨s, rfl⟩ := ho.slice
 have h1 : w.heap.size + 1 < w1.heap.size := by have := hz0.out; omega
 replace hrow0 := (row?_below _ _ _ hb2 h1).trans hrow0
 replace hth0 := there_below hb2 h1 hth0
 have hB2 : Below w.heap.size w w2 := hB0.trans (hb2.mono (by omega))
 have HS2 := HS s w2 ho.reads
 have h12 := hb2.size
 have h2 : w.heap.size + 1 < w2.heap.size := by omega
 clear HT1 HS hrowh hB0 hb2 ho
 go_wp2_with fail
 (with_reducible refine HS2.mono ?_)
 rintro e w3 ⟨rfl, hb3⟩
 replace hrow0 := (row?_below _ _ _ hb3 h2).trans hrow0
 replace hth0 := there_below hb3 h2 hth0
 have hB3 : Below w.heap.size w w3 := hB2.trans (hb3.mono (by omega))
 clear HS2 hB2 hb3
 go_wp2_with (with_reducible refine ret_row Try.isAgg24 Try.sizeOf24 rname_res (x := .pointer (some ⟨w.heap.size + 1, 0, none⟩)) (w.heap.size + 1) 0 ?rrhx (Eq.refl _) ?rrh ?rrhd ?rrhR; (case rrhx => simp only [Array.getD_eq_getD_getElem?, List.getElem?_toArray, List.getElem?_cons_succ, List.getElem?_cons_zero, Option.getD_some]); (case rrhd => exact rfl); (case rrh => go_simp); (case rrhR => ((refine ⟨?_, ?_⟩; (case refine_1 => (go_simp; done)); (case refine_2 => ((repeat' (first | (with_reducible first | exact Below.refl _ _ | assumption | refine bel_trans (by assumption) ?_ ?_ | refine bel_grown (by assumption) ?_ ?_ ?_ | refine Below.alloc ?_ ?_ _ | refine Below.drew ?_ | refine below_drewN ?_ _ | refine Below.setCell ?_ ?_ _ | refine below_put ?_ ?_ _ _ | exact Nat.le_refl _) | omega | (with_reducible first | refine Nat.le_trans ?_ (Below.size (by assumption)) | refine Nat.le_trans ?_ (World.grownBy.size (by assumption))) | (simp only [World.size_alloc, World.size_setCell, World.size_drew, size_drewN]; omega) | (simp only [World.size_alloc, World.size_setCell, World.size_drew, size_drewN, size_put]; omega) | (intro k hk; simp [Value.ownBlock] at hk; first | done | omega) | (simp [size_drewN] at *; omega)))))))))
end Go.Proofs.Ythdjhbiigmcecaa

/- landmarkref10.(*Chain).Check. -/
namespace Go.Proofs.Ythdjhbiigmcecaa
open Go.RowKit

theorem ptz : (pointA zeroPt = #[]) = False := eq_false fun h => by have := congrArg Array.size h; simp at this
/-- a point is made and stored into a box of its own -/
def HPt (W0 : World) (hp : Array Value) (L : List Bool) (V : List Value) (w : World) : Prop :=
 Below W0.heap.size W0 w ∧ (L.getD 1 false = true → ∃ b, V.getD 1 undef = ptrV b ∧ W0.heap.size ≤ b ∧ b < w.heap.size ∧ there w b 0 33 ∧ (L.getD 2 false = true → row? w b 0 33 = some hp))
section
variable {W0 w w' : World} {hp : Array Value} {l0 l1 l2 : Bool} {v0 v1 v2 : Value}
theorem HPt.grow (h : HPt W0 hp [l0, l1, l2] [v0, v1, v2] w) (hb : Below w.heap.size w w') {x : Value} : HPt W0 hp [true, l1, l2] [x, v1, v2] w' := by
 refine ⟨h.1.trans (hb.mono h.1.size), fun q => ?_⟩
 obtain ⟨b, q1, q2, q3, q4, q5⟩ := h.2 q
 exact ⟨b, q1, q2, Nat.lt_of_lt_of_le q3 hb.size, there_below hb q3 q4, fun q => (row?_below _ _ _ hb q3).trans (q5 q)⟩
theorem HPt.alloc (h : HPt W0 hp [l0, l1, l2] [v0, v1, v2] w) (h2 : l2 = false) : HPt W0 hp [l0, true, l2] [v0, ptrV w.heap.size, v2] (w.alloc (.cells (pointA zeroPt) 26)) := by
 subst h2
 exact ⟨h.1.trans ((bel_a _ _).mono h.1.size), fun _ => ⟨w.heap.size, rfl, h.1.size, by simp, there_new _ _ _ _ _ (by simp), fun q => by cases q⟩⟩
theorem HPt.put {p : Pt} {b : Nat} (h : HPt W0 (pointA p) [l0, l1, l2] [v0, v1, v2] w) (h1 : l1 = true) (e : v1 = ptrV b) : (storeAgg 26 (ptrV b) (.agg (pointA p))).run Try.prog w = .ok () (putRow w b 0 (pointA p)) ∧ HPt W0 (pointA p) [l0, l1, true] [v0, v1, undef] (putRow w b 0 (pointA p)) := by
 subst h1
 obtain ⟨b', q1, q2, q3, q4, -⟩ := h.2 rfl
 obtain rfl : b' = b := by
  have := q1.symm.trans e
  unfold ptrV at this
  injection this with this
  injection this with this
  injection this
 refine ⟨?_, below_put h.1 q2 _ _, fun _ => ⟨b', q1, q2, by rw [size_put]; exact q3, there_put _ _ _ _ _ _ _ q4, fun _ => row?_put_same _ _ _ _ _ (by simp) (by omega) q4⟩⟩
 unfold ptrV
 exact store_point w b' 0 _ (by simp) (onesPoint p) q4
end
theorem rcheck_res : Try.f101.results = #[.cell 4 26, .tmp 5] := by kernel_rfl
set_option maxRecDepth 100000 in
set_option maxHeartbeats 3200000 in
theorem rcheck_c {w0 W : World} {cb rb cap : Nat} {G : List GHeader} {C : List Blk} (hR : RefC w0 W cb rb cap G C) (hok : ChnOk C) {g : GHeader} {h : Hdr} (hr : HdrR W g h) (hl : h.ops.length ≤ 1000000) :
  Calls Try.prog 101 #[ptrV cb, .agg (headerA g)] W fun r w' => r = .returned (.tuple #[.agg (pointA (chCheck C h).1), .int .i64 (chCheck C h).2]) ∧ Below W.heap.size W w' := by
 have hB0 : Below W.heap.size W ((W.alloc (.cells (headerA g) 49)).alloc (.cells (pointA zeroPt) 26)) := by (repeat' (first | (with_reducible first | exact Below.refl _ _ | assumption | refine bel_trans (by assumption) ?_ ?_ | refine bel_grown (by assumption) ?_ ?_ ?_ | refine Below.alloc ?_ ?_ _ | refine Below.drew ?_ | refine below_drewN ?_ _ | refine Below.setCell ?_ ?_ _ | refine below_put ?_ ?_ _ _ | exact Nat.le_refl _) | omega | (with_reducible first | refine Nat.le_trans ?_ (Below.size (by assumption)) | refine Nat.le_trans ?_ (World.grownBy.size (by assumption))) | (simp only [World.size_alloc, World.size_setCell, World.size_drew, size_drewN]; omega) | (simp only [World.size_alloc, World.size_setCell, World.size_drew, size_drewN, size_put]; omega) | (intro k hk; simp [Value.ownBlock] at hk; first | done | omega) | (simp [size_drewN] at *; omega)))
 have hz0 : ((W.alloc (.cells (headerA g) 49)).alloc (.cells (pointA zeroPt) 26)).heap.size = W.heap.size + 2 := by simp
 have hrow0 : row? ((W.alloc (.cells (headerA g) 49)).alloc (.cells (pointA zeroPt) 26)) W.heap.size 0 34 = some (headerA g) := by rw [row?_old _ _ _ _ _ (by simp), row?_new]; simp
 have hrow1 : row? ((W.alloc (.cells (headerA g) 49)).alloc (.cells (pointA zeroPt) 26)) (W.heap.size + 1) 0 33 = some (pointA zeroPt) := by rw [row?_new_at _ _ _ _ _ _ (by simp)]; simp
 have hth : there ((W.alloc (.cells (headerA g) 49)).alloc (.cells (pointA zeroPt) 26)) (W.heap.size + 1) 0 33 := there_new_at _ _ _ _ _ _ (by simp) (by simp)
 have hR0 := Lib.hid (hR.keep hB0)
 have hr0 := Lib.hid (hr.keep' hB0)
 have g1 := hr.1
 have g2 := hr.2.1
 have hcW := hR.cbW
 clear hR hr
 obtain ⟨p, k, hpk⟩ : ∃ p k, (p, k) = chCheck C h := ⟨_, _, rfl⟩
 rw [← hpk]
 replace hpk := Lib.hid hpk
 have hclen := hok.len
 have hMay := fun W hW => tmayHeader_c g h W hW hl
 unfold ptrV
 go_enter Try.func101, Try.ntmps101
 go_upto_region 1 with fail
 generalize (W.alloc (.cells (headerA g) 49)).alloc (.cells (pointA zeroPt) 26) = w1 at *
 have HM := hMay w1 hr0.out
 clear hMay
 obtain ⟨er, her⟩ : ∃ n, n = hdrMay h := ⟨_, rfl⟩
 rw [← her] at HM
 go_wp2_with fail
 (with_reducible refine HM.mono ?_)
 clear HM
 rintro r w2 ⟨rfl, hb2⟩
 have hz2 := hb2.size
 have hR2 := Lib.hid (hR0.out.keep hb2)
 have hr2 := Lib.hid (hr0.out.keep' hb2)
 have hB2 := hB0.trans (hb2.mono (by omega))
 have hrow2 := (row?_below _ _ _ hb2 (by omega)).trans hrow0
 have hrow12 := (row?_below _ _ _ hb2 (by omega)).trans hrow1
 have hth2 := there_below hb2 (show W.heap.size + 1 < w1.heap.size by omega) hth
 clear hb2 hrow0 hrow1 hth hR0 hr0 hB0
 have hE : (p, k) = if hdrMay h then (match chAt C (hdName h) with | some _ => ((zeroPt, 11) : Pt × Int) | none => match chAt C h.parent with | none => ((zeroPt, 12) : Pt × Int) | some i => if h.epoch.toNat ≤ epAt C i then ((zeroPt, 13) : Pt × Int) else if 4096 < C.length then ((zeroPt, 5) : Pt × Int) else (⟨h.epoch, hdName h⟩, 0)) else ((zeroPt, 2) : Pt × Int) := by
  rw [hpk.out]
  rfl
 clear hpk
 obtain ⟨b4, hb4⟩ : ∃ b, b = W.heap.size + 1 := ⟨_, rfl⟩
 rw [← hb4] at hrow12 hth2 ⊢
 have q1 : W.heap.size < b4 := by omega
 have q2 : b4 < w2.heap.size := by omega
 cases hm : hdrMay h
 ·rw [hm] at hE her
  subst her
  simp only [Bool.false_eq_true, if_false, Prod.mk.injEq] at hE
  obtain ⟨rfl, rfl⟩ := hE
  clear hm hrow2 hb4 hz2 hz0
  go_wp2_with (with_reducible refine ret_row2 Try.isAgg26 Try.sizeOf26 rcheck_res (x := .pointer (some ⟨b4, 0, none⟩)) (y := .int .i64 2) (b4) 0 ?rrhx (Eq.refl _) ?rrhy ?rrh ?rrhd ?rrhR; (case rrhx => simp only [Array.getD_eq_getD_getElem?, List.getElem?_toArray, List.getElem?_cons_succ, List.getElem?_cons_zero, Option.getD_some]); (case rrhy => simp only [Array.getD_eq_getD_getElem?, List.getElem?_toArray, List.getElem?_cons_succ, List.getElem?_cons_zero, Option.getD_some]); (case rrhd => exact rfl); (case rrh => go_simp); (case rrhR => ((refine ⟨?_, ?_⟩; (case refine_1 => (go_simp; done)); (case refine_2 => ((repeat' (first | (with_reducible first | exact Below.refl _ _ | assumption | refine bel_trans (by assumption) ?_ ?_ | refine bel_grown (by assumption) ?_ ?_ ?_ | refine Below.alloc ?_ ?_ _ | refine Below.drew ?_ | refine below_drewN ?_ _ | refine Below.setCell ?_ ?_ _ | refine below_put ?_ ?_ _ _ | exact Nat.le_refl _) | omega | (with_reducible first | refine Nat.le_trans ?_ (Below.size (by assumption)) | refine Nat.le_trans ?_ (World.grownBy.size (by assumption))) | (simp only [World.size_alloc, World.size_setCell, World.size_drew, size_drewN]; omega) | (simp only [World.size_alloc, World.size_setCell, World.size_drew, size_drewN, size_put]; omega) | (intro k hk; simp [Value.ownBlock] at hk; first | done | omega) | (simp [size_drewN] at *; omega)))))))))
 rw [hm] at hE her
 subst her
 simp only [if_true] at hE
 have HN := fun W hW => rname_c g h W hW hm
 obtain ⟨hn, hhn⟩ : ∃ n, n = hdName h := ⟨_, rfl⟩
 rw [← hhn] at HN hE
 replace hhn := Lib.hid hhn
 replace hb4 := Lib.hid hb4
 obtain ⟨bh, hbh⟩ : ∃ b, b = W.heap.size := ⟨_, rfl⟩
 rw [← hbh] at hrow2 ⊢
 have hbw : bh < w2.heap.size := by omega
 replace hbh := Lib.hid hbh
 have c32 := cell_of_row? hrow2 32 (by omega)
 rw [headerA_epoch, g2, Nat.zero_add] at c32
 clear hm
 go_upto_region 3 with fail
 refine wp_region_freeI_l (by kernel_rfl) [12, 13, 14, 15, 16, 6, 57]
  [(fun v => v = .pointer (some ⟨bh, 32, none⟩)), (fun v => v = .int .u64 (h.epoch.toNat : Int)), (fun v => v = .agg (headerA g)), (fun v => v = .agg (hashA hn)), (fun v => v = .agg (pointA ⟨h.epoch, hn⟩)), (fun v => ∃ b, v = ptrV b), (fun _ => True)]
  [3, 5, 6] (HPt w2 (pointA ⟨h.epoch, hn⟩)) [[1, 4, 6], [4, 6], [3, 4, 6], [4, 6], [6], [6], []] (by kernel_rfl) (by kernel_rfl) ?_ ?_ ?_
 ·show HPt w2 (pointA ⟨h.epoch, hn⟩) [false, false, false] [_, _, _] _
  exact ⟨(Below.refl _ _).drew, fun q => by cases q⟩
 ·refine ⟨?_, ?_, ?_, ?_, ?_, ?_, ?_, trivial⟩
  ·intro L ax W hf hLi hno hd
   try simp [Region.binds] at hd
   have e3 : ax.tmps[3]?.getD undef = .pointer (some ⟨bh, 0, none⟩) := hf.out 3 (by decide) rfl
   refine ⟨fun _ => ?_, fun h => absurd trivial h⟩
   refine freeI_run (v := .pointer (some ⟨bh, 32, none⟩)) rfl hf (by decide) ?_ rfl
   go_simp
  ·intro L ax W hf hLi hno hd
   simp [Region.binds] at hd
   have e12 : ax.tmps[12]?.getD undef = .pointer (some ⟨bh, 32, none⟩) := slv (hf.got 0 (by decide) (by simp [hd]))
   refine ⟨fun _ => ?_, fun h => absurd trivial h⟩
   have hG : HPt w2 (pointA ⟨h.epoch, hn⟩) [L 3, L 5, L 6] [sl ax 15, sl ax 6, sl ax 57] W := hf.glob
   have h1 := (hG.1.cell (p := ⟨bh, 32, none⟩) hbw).trans c32
   refine freeI_run (v := .int .u64 (h.epoch.toNat : Int)) rfl hf (by decide) ?_ rfl
   go_simp
  ·intro L ax W hf hLi hno hd
   try simp [Region.binds] at hd
   have e3 : ax.tmps[3]?.getD undef = .pointer (some ⟨bh, 0, none⟩) := hf.out 3 (by decide) rfl
   refine ⟨fun _ => ?_, fun h => absurd trivial h⟩
   have hG : HPt w2 (pointA ⟨h.epoch, hn⟩) [L 3, L 5, L 6] [sl ax 15, sl ax 6, sl ax 57] W := hf.glob
   have h1 := (row?_below _ _ _ hG.1 hbw).trans hrow2
   refine freeI_run (v := .agg (headerA g)) rfl hf (by decide) ?_ rfl
   go_simp
  ·intro L ax W hf hLi hno hd
   simp [Region.binds] at hd
   have e14 : ax.tmps[14]?.getD undef = .agg (headerA g) := slv (hf.got 2 (by decide) (by simp [hd]))
   refine ⟨fun _ => ?_, fun h => absurd trivial h⟩
   have hG : HPt w2 (pointA ⟨h.epoch, hn⟩) [L 3, L 5, L 6] [sl ax 15, sl ax 6, sl ax 57] W := hf.glob
   refine freeI_call (f := 51) (args := #[.agg (headerA g)]) rfl (by go_simp) ?_
   refine (HN W (hr2.out.keep' hG.1)).mono ?_
   rintro e w' ⟨rfl, hb⟩
   exact ⟨_, rfl, rfl, hG.grow hb⟩
  ·intro L ax W hf hLi hno hd
   simp [Region.binds] at hd
   have e13 : ax.tmps[13]?.getD undef = .int .u64 (h.epoch.toNat : Int) := slv (hf.got 1 (by decide) (by simp [hd]))
   have f15 : (fun v => v = .agg (hashA hn)) (sl ax 15) := hf.got 3 (by decide) (by simp [hd])
   refine ⟨fun _ => ?_, fun h => absurd trivial h⟩
   have hG : HPt w2 (pointA ⟨h.epoch, hn⟩) [L 3, L 5, L 6] [sl ax 15, sl ax 6, sl ax 57] W := hf.glob
   have e15 := slv f15
   have hpz := ptz
   refine freeI_run (v := .agg (pointA ⟨h.epoch, hn⟩)) rfl hf (by decide) ?_ rfl
   go_simp
  ·intro L ax W hf hLi hno hd
   try simp [Region.binds] at hd
   refine ⟨fun _ => ?_, fun h => absurd trivial h⟩
   have hG : HPt w2 (pointA ⟨h.epoch, hn⟩) [L 3, L 5, L 6] [sl ax 15, sl ax 6, sl ax 57] W := hf.glob
   refine freeI_val (v := ptrV W.heap.size) (W' := W.alloc (.cells (pointA zeroPt) 26)) rfl ?_ ⟨_, rfl⟩ (hG.alloc (hno 6 (by decide)))
   unfold ptrV
   go_simp
  ·intro L ax W hf hLi hno hd
   simp [Region.binds] at hd
   have f6 : (fun v => ∃ b, v = ptrV b) (sl ax 6) := hf.got 5 (by decide) (by simp [hd])
   have e16 : ax.tmps[16]?.getD undef = .agg (pointA ⟨h.epoch, hn⟩) := slv (hf.got 4 (by decide) (by simp [hd]))
   refine ⟨fun _ => ?_, fun h => absurd trivial h⟩
   have hG : HPt w2 (pointA ⟨h.epoch, hn⟩) [L 3, L 5, L 6] [sl ax 15, sl ax 6, sl ax 57] W := hf.glob
   obtain ⟨b, e6⟩ := f6
   have e6' := slv e6
   obtain ⟨hst, hH⟩ := hG.put (by simp [hd]) e6
   refine freeI_store (W' := putRow W b 0 (pointA ⟨h.epoch, hn⟩)) rfl ?_ trivial hH
   unfold ptrV at e6' hst
   go_simp
 ·intro vs w3 hl' hF hG
  obtain ⟨g', hg1, hg2⟩ := vs_litI vs hl' hF
  obtain ⟨hB3, hb⟩ := hG
  obtain ⟨b6, v6, hb6, hb6w, -, hrow6⟩ := hb rfl
  replace hrow6 := hrow6 rfl
  rw [hg1] at v6
  simp only [List.length_cons, List.length_nil, Nat.reduceAdd, List.map_cons, List.map_nil, show List.range 7 = [0, 1, 2, 3, 4, 5, 6] from rfl, List.getD_cons_zero, List.getD_cons_succ] at v6
  have hR3 := Lib.hid (hR2.out.keep hB3)
  have hB03 : Below W.heap.size W w3 := hB2.trans (hB3.mono (by omega))
  have hrow3 := (row?_below _ _ _ hB3 hbw).trans hrow2
  have hrow13 := (row?_below _ _ _ hB3 q2).trans hrow12
  have hth3 := there_below hB3 q2 hth2
  have q3 : b4 < b6 := by omega
  have q4 : b4 < w3.heap.size := by omega
  have q5 : bh < w3.heap.size := by have := hB3.size; omega
  rw [hg1]
  simp only [List.length_cons, List.length_nil, Nat.reduceAdd, show List.range 7 = [0, 1, 2, 3, 4, 5, 6] from rfl, List.map_cons, List.map_nil, slotsIn, putL, List.setIfInBounds_toArray, List.set_cons_succ, List.set_cons_zero, v6, List.size_toArray, Nat.reduceLT, if_true, if_false]
  clear hg1 hg2 hl' hF hb v6 hB3 hR2 hr2 hrow2 hrow12 hth2 hB2 c32 HN
  have hn6 := row_part hrow6 1 32 (by omega)
  rw [Nat.zero_add, pointA_name] at hn6
  have HA := rat_c hR3.out (by omega) hn
  unfold ptrV at HA ⊢
  go_wp2_with fail
  (with_reducible refine HA.mono ?_)
  clear HA
  rintro e w4 ⟨rfl, hb4⟩
  have hR4 := Lib.hid (hR3.out.keep hb4)
  have hB4 : Below W.heap.size W w4 := hB03.trans (hb4.mono hB03.size)
  have hrow4 := (row?_below _ _ _ hb4 q5).trans hrow3
  have hrow14 := (row?_below _ _ _ hb4 q4).trans hrow13
  have hrow64 := (row?_below _ _ _ hb4 hb6w).trans hrow6
  have hth4 := there_below hb4 q4 hth3
  have q6 : b4 < w4.heap.size := by have := hb4.size; omega
  have q7 : bh < w4.heap.size := by have := hb4.size; omega
  have q8 : b6 < w4.heap.size := by have := hb4.size; omega
  clear hb4 hR3 hB03 hrow3 hrow13 hrow6 hth3 hn6 q4 q5 hb6w hb6
  cases hi : chAt C hn with
  | some i0 =>
   rw [hi] at hE
   simp only [Prod.mk.injEq] at hE
   obtain ⟨rfl, rfl⟩ := hE
   simp only [parI]
   have n0 : (0 : Int) ≤ (i0 : Int) := by omega
   clear hi hrow4
   go_wp2_with (with_reducible refine ret_row2 Try.isAgg26 Try.sizeOf26 rcheck_res (x := .pointer (some ⟨b4, 0, none⟩)) (y := .int .i64 11) (b4) 0 ?rrhx (Eq.refl _) ?rrhy ?rrh ?rrhd ?rrhR; (case rrhx => simp only [Array.getD_eq_getD_getElem?, List.getElem?_toArray, List.getElem?_cons_succ, List.getElem?_cons_zero, Option.getD_some]); (case rrhy => simp only [Array.getD_eq_getD_getElem?, List.getElem?_toArray, List.getElem?_cons_succ, List.getElem?_cons_zero, Option.getD_some]); (case rrhd => exact rfl); (case rrh => go_simp); (case rrhR => ((refine ⟨?_, ?_⟩; (case refine_1 => (go_simp; done)); (case refine_2 => ((repeat' (first | (with_reducible first | exact Below.refl _ _ | assumption | refine bel_trans (by assumption) ?_ ?_ | refine bel_grown (by assumption) ?_ ?_ ?_ | refine Below.alloc ?_ ?_ _ | refine Below.drew ?_ | refine below_drewN ?_ _ | refine Below.setCell ?_ ?_ _ | refine below_put ?_ ?_ _ _ | exact Nat.le_refl _) | omega | (with_reducible first | refine Nat.le_trans ?_ (Below.size (by assumption)) | refine Nat.le_trans ?_ (World.grownBy.size (by assumption))) | (simp only [World.size_alloc, World.size_setCell, World.size_drew, size_drewN]; omega) | (simp only [World.size_alloc, World.size_setCell, World.size_drew, size_drewN, size_put]; omega) | (intro k hk; simp [Value.ownBlock] at hk; first | done | omega) | (simp [size_drewN] at *; omega)))))))))
  | none =>
   rw [hi] at hE
   simp only at hE
   simp only [parI]
   clear hi
   have hp0 := row_part hrow4 0 32 (by omega)
   rw [headerA_parent, g1, Nat.zero_add] at hp0
   have HA := rat_c hR4.out (by omega) h.parent
   unfold ptrV at HA
   go_wp2_with fail
   (with_reducible refine HA.mono ?_)
   clear HA
   rintro e w5 ⟨rfl, hb5⟩
   have hR5 := Lib.hid (hR4.out.keep hb5)
   have hB5 : Below W.heap.size W w5 := hB4.trans (hb5.mono hB4.size)
   have hrow5 := (row?_below _ _ _ hb5 q7).trans hrow4
   have hrow15 := (row?_below _ _ _ hb5 q6).trans hrow14
   have hrow65 := (row?_below _ _ _ hb5 q8).trans hrow64
   have hth5 := there_below hb5 q6 hth4
   have q9 : b4 < w5.heap.size := by have := hb5.size; omega
   have q10 : b6 < w5.heap.size := by have := hb5.size; omega
   clear hb5 hR4 hB4 hrow4 hrow14 hrow64 hth4 hp0 q6 q7 q8
   cases hj : chAt C h.parent with
   | none =>
    rw [hj] at hE
    simp only [Prod.mk.injEq] at hE
    obtain ⟨rfl, rfl⟩ := hE
    simp only [parI]
    clear hj hrow5
    go_wp2_with (with_reducible refine ret_row2 Try.isAgg26 Try.sizeOf26 rcheck_res (x := .pointer (some ⟨b4, 0, none⟩)) (y := .int .i64 12) (b4) 0 ?rrhx (Eq.refl _) ?rrhy ?rrh ?rrhd ?rrhR; (case rrhx => simp only [Array.getD_eq_getD_getElem?, List.getElem?_toArray, List.getElem?_cons_succ, List.getElem?_cons_zero, Option.getD_some]); (case rrhy => simp only [Array.getD_eq_getD_getElem?, List.getElem?_toArray, List.getElem?_cons_succ, List.getElem?_cons_zero, Option.getD_some]); (case rrhd => exact rfl); (case rrh => go_simp); (case rrhR => ((refine ⟨?_, ?_⟩; (case refine_1 => (go_simp; done)); (case refine_2 => ((repeat' (first | (with_reducible first | exact Below.refl _ _ | assumption | refine bel_trans (by assumption) ?_ ?_ | refine bel_grown (by assumption) ?_ ?_ ?_ | refine Below.alloc ?_ ?_ _ | refine Below.drew ?_ | refine below_drewN ?_ _ | refine Below.setCell ?_ ?_ _ | refine below_put ?_ ?_ _ _ | exact Nat.le_refl _) | omega | (with_reducible first | refine Nat.le_trans ?_ (Below.size (by assumption)) | refine Nat.le_trans ?_ (World.grownBy.size (by assumption))) | (simp only [World.size_alloc, World.size_setCell, World.size_drew, size_drewN]; omega) | (simp only [World.size_alloc, World.size_setCell, World.size_drew, size_drewN, size_put]; omega) | (intro k hk; simp [Value.ownBlock] at hk; first | done | omega) | (simp [size_drewN] at *; omega)))))))))
   | some i =>
    rw [hj] at hE
    simp only at hE
    simp only [parI]
    have hil := chAt_lt hj
    obtain ⟨b, hb⟩ : ∃ b, C[i]? = some b := ⟨_, List.getElem?_eq_getElem hil⟩
    rw [epAt_of hb] at hE
    have n0 : ¬ (i : Int) < 0 := by omega
    have n1 : (0 : Int) ≤ (i : Int) := by omega
    have i1 : (i : Int) < (C.length : Int) := by omega
    clear hj
    obtain ⟨x, -, hrw, -⟩ := hR5.out.at hil
    have hCb : C[i] = b := by
     rw [List.getElem?_eq_getElem hil] at hb
     injection hb
    rw [hCb] at hrw
    obtain ⟨-, -, x0, -⟩ := rblk_cells hrw
    have h32 := cell_of_row? hrow5 32 (by omega)
    rw [headerA_epoch, g2, Nat.zero_add] at h32
    have c05 := hR5.out.c0
    have c0 := fun m => show (w5.drewN m).cell? ⟨cb, 0, none⟩ = _ from c05
    have f2 := fun m => show (w5.drewN m).cell? ⟨rb, i * 68, none⟩ = _ from x0
    have f3 := fun m => show (w5.drewN m).cell? ⟨bh, 32, none⟩ = _ from h32
    clear hb hrw hCb hrow5
    by_cases hle : (h.epoch.toNat : Int) ≤ (b.p.epoch.toNat : Int)
    ·rw [if_pos (by omega)] at hE
     simp only [Prod.mk.injEq] at hE
     obtain ⟨rfl, rfl⟩ := hE
     go_upto_region 9 with fail
     go_quiet (fail)
     have hB6 := below_drewN hB5 nq
     have hrow6 : row? (w5.drewN nq) b4 0 33 = _ := hrow15
     have hth6 : there (w5.drewN nq) b4 0 33 := hth5
     clear c0 f2 f3 h32 x0 hB5 hrow15 hth5 hR5 hrow65 c05
     replace q9 : b4 < (w5.drewN nq).heap.size := q9
     generalize w5.drewN nq = w6 at *
     go_wp2_with (with_reducible refine ret_row2 Try.isAgg26 Try.sizeOf26 rcheck_res (x := .pointer (some ⟨b4, 0, none⟩)) (y := .int .i64 13) (b4) 0 ?rrhx (Eq.refl _) ?rrhy ?rrh ?rrhd ?rrhR; (case rrhx => simp only [Array.getD_eq_getD_getElem?, List.getElem?_toArray, List.getElem?_cons_succ, List.getElem?_cons_zero, Option.getD_some]); (case rrhy => simp only [Array.getD_eq_getD_getElem?, List.getElem?_toArray, List.getElem?_cons_succ, List.getElem?_cons_zero, Option.getD_some]); (case rrhd => exact rfl); (case rrh => go_simp); (case rrhR => ((refine ⟨?_, ?_⟩; (case refine_1 => (go_simp; done)); (case refine_2 => ((repeat' (first | (with_reducible first | exact Below.refl _ _ | assumption | refine bel_trans (by assumption) ?_ ?_ | refine bel_grown (by assumption) ?_ ?_ ?_ | refine Below.alloc ?_ ?_ _ | refine Below.drew ?_ | refine below_drewN ?_ _ | refine Below.setCell ?_ ?_ _ | refine below_put ?_ ?_ _ _ | exact Nat.le_refl _) | omega | (with_reducible first | refine Nat.le_trans ?_ (Below.size (by assumption)) | refine Nat.le_trans ?_ (World.grownBy.size (by assumption))) | (simp only [World.size_alloc, World.size_setCell, World.size_drew, size_drewN]; omega) | (simp only [World.size_alloc, World.size_setCell, World.size_drew, size_drewN, size_put]; omega) | (intro k hk; simp [Value.ownBlock] at hk; first | done | omega) | (simp [size_drewN] at *; omega)))))))))
    ·rw [if_neg (by omega)] at hE
     go_upto_region 9 with fail
     go_quiet (fail)
     have hB6 := below_drewN hB5 nq
     have hrow6 : row? (w5.drewN nq) b4 0 33 = _ := hrow15
     have hth6 : there (w5.drewN nq) b4 0 33 := hth5
     have hrow66 : row? (w5.drewN nq) b6 0 33 = _ := hrow65
     have c06 : (w5.drewN nq).cell? ⟨cb, 0, none⟩ = _ := c05
     clear c0 f2 f3 h32 x0 hB5 hrow15 hth5 hR5 hrow65 c05
     replace q9 : b4 < (w5.drewN nq).heap.size := q9
     replace q10 : b6 < (w5.drewN nq).heap.size := q10
     generalize w5.drewN nq = w6 at *
     by_cases hfl : (4096 : Int) < (C.length : Int)
     ·rw [if_pos (by omega)] at hE
      simp only [Prod.mk.injEq] at hE
      obtain ⟨rfl, rfl⟩ := hE
      go_wp2_with (with_reducible refine ret_row2 Try.isAgg26 Try.sizeOf26 rcheck_res (x := .pointer (some ⟨b4, 0, none⟩)) (y := .int .i64 5) (b4) 0 ?rrhx (Eq.refl _) ?rrhy ?rrh ?rrhd ?rrhR; (case rrhx => simp only [Array.getD_eq_getD_getElem?, List.getElem?_toArray, List.getElem?_cons_succ, List.getElem?_cons_zero, Option.getD_some]); (case rrhy => simp only [Array.getD_eq_getD_getElem?, List.getElem?_toArray, List.getElem?_cons_succ, List.getElem?_cons_zero, Option.getD_some]); (case rrhd => exact rfl); (case rrh => go_simp); (case rrhR => ((refine ⟨?_, ?_⟩; (case refine_1 => (go_simp; done)); (case refine_2 => ((repeat' (first | (with_reducible first | exact Below.refl _ _ | assumption | refine bel_trans (by assumption) ?_ ?_ | refine bel_grown (by assumption) ?_ ?_ ?_ | refine Below.alloc ?_ ?_ _ | refine Below.drew ?_ | refine below_drewN ?_ _ | refine Below.setCell ?_ ?_ _ | refine below_put ?_ ?_ _ _ | exact Nat.le_refl _) | omega | (with_reducible first | refine Nat.le_trans ?_ (Below.size (by assumption)) | refine Nat.le_trans ?_ (World.grownBy.size (by assumption))) | (simp only [World.size_alloc, World.size_setCell, World.size_drew, size_drewN]; omega) | (simp only [World.size_alloc, World.size_setCell, World.size_drew, size_drewN, size_put]; omega) | (intro k hk; simp [Value.ownBlock] at hk; first | done | omega) | (simp [size_drewN] at *; omega)))))))))
     ·rw [if_neg (by omega)] at hE
      simp only [Prod.mk.injEq] at hE
      obtain ⟨rfl, rfl⟩ := hE
      go_wp2_with (with_reducible refine ret_row2 Try.isAgg26 Try.sizeOf26 rcheck_res (x := .pointer (some ⟨b4, 0, none⟩)) (y := .int .i64 0) (b4) 0 ?rrhx (Eq.refl _) ?rrhy ?rrh ?rrhd ?rrhR; (case rrhx => simp only [Array.getD_eq_getD_getElem?, List.getElem?_toArray, List.getElem?_cons_succ, List.getElem?_cons_zero, Option.getD_some]); (case rrhy => simp only [Array.getD_eq_getD_getElem?, List.getElem?_toArray, List.getElem?_cons_succ, List.getElem?_cons_zero, Option.getD_some]); (case rrhd => exact rfl); (case rrh => go_simp); (case rrhR => ((refine ⟨?_, ?_⟩; (case refine_1 => (go_simp; done)); (case refine_2 => ((repeat' (first | (with_reducible first | exact Below.refl _ _ | assumption | refine bel_trans (by assumption) ?_ ?_ | refine bel_grown (by assumption) ?_ ?_ ?_ | refine Below.alloc ?_ ?_ _ | refine Below.drew ?_ | refine below_drewN ?_ _ | refine Below.setCell ?_ ?_ _ | refine below_put ?_ ?_ _ _ | exact Nat.le_refl _) | omega | (with_reducible first | refine Nat.le_trans ?_ (Below.size (by assumption)) | refine Nat.le_trans ?_ (World.grownBy.size (by assumption))) | (simp only [World.size_alloc, World.size_setCell, World.size_drew, size_drewN]; omega) | (simp only [World.size_alloc, World.size_setCell, World.size_drew, size_drewN, size_put]; omega) | (intro k hk; simp [Value.ownBlock] at hk; first | done | omega) | (simp [size_drewN] at *; omega)))))))))
end Go.Proofs.Ythdjhbiigmcecaa

/- A chain in memory with one block more; lists of places, and of boxes, with one more. -/
namespace Go.Proofs.Ythdjhbiigmcecaa
open Go.RowKit

theorem ChM.grow {B : Nat} {T : Nat → Nat} {W Wf : World} {cb : Nat} {sA s' : Sl} {mb : Nat} {G : List GB} {C : List Blk} {U : List (List Nat)} {ch : Nat → List Nat} {N : List Hash} (h : ChM B T W cb sA mb G C U ch N) {x : GB} {b : Blk} {u : List Nat} {n : Hash}
  (hx : BlkM B T W C.length x b u []) (hch : ch C.length = []) (hA : Asd (fun k => k = cb ∨ k = mb ∨ sA.v.ownBlock = some k) W Wf) (hr : row? Wf cb 0 2 = some #[s'.v, .map (some mb)]) (ht : there Wf cb 0 2)
  (ho : OwnC Wf B 1 s'.v (G ++ [x]).length (flatC ptrA (G ++ [x]))) (he : s'.v.ownBlock = sA.v.ownBlock ∨ ∃ k, s'.v.ownBlock = some k ∧ W.heap.size ≤ k) (hm : MapHv Wf mb (idxs (N ++ [n]))) {T' : Nat → Nat} (hT : ∀ k, k < W.heap.size → T' k = T k) (hT2 : ∀ k, W.heap.size ≤ k → s'.v.ownBlock = some k → T' k = 2) (hT3 : ∀ k, W.heap.size ≤ k → T' k ≠ 0 → B ≤ k) :
  ChM B T' Wf cb s' mb (G ++ [x]) (C ++ [b]) (U ++ [u]) ch (N ++ [n]) ∧ Asd (Mut T) W Wf := by
 have hmm : ∀ k, k < W.heap.size → (k = cb ∨ k = mb ∨ sA.v.ownBlock = some k) → T k = 1 ∨ T k = 2 ∨ T k = 3 := by
  intro k _ hm
  rcases hm with rfl | rfl | hm
  ·exact .inl h.tcb
  ·exact .inr (.inr h.tmap)
  ·exact .inr (.inl (h.tall k hm))
 have hO : Asd (Mut T) W Wf := hA.mono fun k hk hm => by
  unfold Mut
  rcases hmm k hk hm with e | e | e <;> omega
 have hn : ∀ k, k < W.heap.size → T k ≠ 1 → T k ≠ 2 → T k ≠ 3 → ¬ (k = cb ∨ k = mb ∨ sA.v.ownBlock = some k) := fun k hk h1 h2 h3 hm => by
  rcases hmm k hk hm with e | e | e
  ·exact h1 e
  ·exact h2 e
  ·exact h3 e
 have hM' : ∀ P : World → Prop, Safe (Mut T) W P → Safe (Mut T') Wf P := fun P hs => hs.step hO fun k hk hm => by unfold Mut at *; rwa [hT k hk] at hm
 have hblk : ∀ (i : Nat) (y : GB) (bk : Blk) (v w : List Nat), BlkM B T W i y bk v w → BlkM B T' Wf i y bk v w := fun i y bk v w hk => by
  have n1 := hn _ hk.lt (by rw [hk.tb]; omega) (by rw [hk.tb]; omega) (by rw [hk.tb]; omega)
  exact ⟨hA.row n1 hk.row, hA.there n1 hk.lt hk.thr, hk.ob.imp fun _ h => h.imp fun _ h => (hA.block _ hk.lt n1).trans h, (hT _ hk.lt).trans hk.tb, hM' _ hk.hdr, hM' _ hk.up,
   hk.ch.off hA fun g hg => hn g (OwnC.lt hk.ch g hg).2 (by rw [hk.tc g hg]; omega) (by rw [hk.tc g hg]; omega) (by rw [hk.tc g hg]; omega), fun g hg => (hT g (OwnC.lt hk.ch g hg).2).trans (hk.tc g hg)⟩
 refine ⟨⟨hr, ht, (hT _ h.lt).trans h.tcb, ho, fun g hg => ?_, hm, (hT _ h.map.lt).trans h.tmap, fun k hk hk0 => ?_, Nat.le_trans h.hB hO.size, by simp [h.glen], by simp [h.ulen], fun i y bk hy hb => ?_⟩, hO⟩
 ·rcases he with he | ⟨k, he, hk2⟩
  ·rw [he] at hg
   rw [hT g (OwnC.lt h.all g hg).2]
   exact h.tall g hg
  ·have : k = g := by rw [he] at hg; injection hg
   subst this
   exact hT2 k hk2 hg
 ·rcases Nat.lt_or_ge k W.heap.size with hlt | hge
  ·rw [hT k hlt] at hk0
   exact h.tB k hlt hk0
  ·exact hT3 k hge hk0
 ·by_cases hi : i < C.length
  ·rw [List.getElem?_append_left (by rw [h.glen]; exact hi)] at hy
   rw [List.getElem?_append_left hi] at hb
   have e : (U ++ [u]).getD i [] = U.getD i [] := by
    simp only [List.getD_eq_getElem?_getD]
    rw [List.getElem?_append_left (by rw [h.ulen]; exact hi)]
   rw [e]
   exact hblk _ _ _ _ _ (h.blk i y bk hy hb)
  ·have hil : i = C.length := by
    have := (List.getElem?_eq_some_iff.1 hb).1
    simp at this
    omega
   subst hil
   rw [List.getElem?_append_right (by rw [h.glen]; exact Nat.le_refl _), h.glen, Nat.sub_self] at hy
   rw [List.getElem?_append_right (Nat.le_refl _), Nat.sub_self] at hb
   simp only [List.getElem?_cons_zero, Option.some.injEq] at hy hb
   subst hy hb
   have e : (U ++ [u]).getD C.length [] = u := by
    simp only [List.getD_eq_getElem?_getD]
    rw [List.getElem?_append_right (by rw [h.ulen]; exact Nat.le_refl _), h.ulen, Nat.sub_self]
    rfl
   rw [e, hch]
   exact hblk _ _ _ _ _ hx

theorem info_int2 : (Try.prog.info? 3).map (fun i => (i.zero, i.size, i.bytes)) = some (some (.int .i64 0), 1, 8) := by kernel_rfl
theorem info_bp : (Try.prog.info? 166).map (fun i => (i.zero, i.size, i.bytes)) = some (some (.pointer none), 1, 8) := by kernel_rfl
def bsN (parts : Array (Nat × Value)) : Sem Value := Instr.buildSlice 58 1 parts
theorem fold_bsN (parts : Array (Nat × Value)) : Instr.buildSlice 58 1 parts = bsN parts := rfl
theorem bsN_one (x : Nat) (w : World) : (bsN #[(0, .int .i64 (x : Int))]).run Try.prog w = .ok (.slice (some ⟨w.heap.size, 0, none⟩) 1 1) (w.alloc (.cells (natA x) 3)) := by
 obtain ⟨i0, hi, hy0, hy1, hy2⟩ := info_parts info_int2
 have h := run_buildSlice_one (P := Try.prog) w (t := 58) (e := 3) (xs := natA x) Try.underlying58 hi hy0 hy1 (by simp [Value.cells]) (by omega) (by omega) (by rfl)
 have e : Instr.buildSlice 58 1 #[(0, Value.agg (natA x))] = Instr.buildSlice 58 1 #[(0, .int .i64 (x : Int))] := by
  simp [Instr.buildSlice, Instr.fill, Value.cells, natA]
 rw [e] at h
 exact h
def appN (args : Array Value) : Sem Value := Builtin.append_ #[58, 58] 58 args
theorem fold_appN (args : Array Value) : Builtin.append_ #[58, 58] 58 args = appN args := rfl
theorem app_nat {W : World} {B : Nat} {s : Sl} {l : List Nat} (h : OwnC W B 1 s.v l.length (flatC natA l)) (hB : B ≤ W.heap.size) (hl : l.length ≤ 1000000) (x : Nat) : ∃ (s' : Sl) (W' : World), (appN #[s.v, .slice (some ⟨W.heap.size, 0, none⟩) 1 1]).run Try.prog (W.alloc (.cells (natA x) 3)) = .ok s'.v W' ∧ OwnC W' B 1 s'.v (l ++ [x]).length (flatC natA (l ++ [x])) ∧
  (W.alloc (.cells (natA x) 3)).grownBy W' s.v.ownBlock ∧ (s'.v.ownBlock = s.v.ownBlock ∨ s'.v.ownBlock = some (W.heap.size + 1)) := by
 obtain ⟨i0, hi, hy0, hy1, hy2⟩ := info_parts info_int2
 obtain ⟨s', W', h1, h2, h3, h4⟩ := run_append_one natA natA_size (P := Try.prog) (W.alloc (.cells (natA x) 3)) 58 natA_one B 3 i0 _ 8 Try.underlying58 hi hy0 hy1 hy2 (by simp [Value.cells]) s.v l (h.keep (bel_a _ _)) W.heap.size 1 x (heap_alloc_new W _) hl (by omega) (by simp; omega)
 exact ⟨s', W', h1, h2, h3, by simpa using h4⟩
def bsP (parts : Array (Nat × Value)) : Sem Value := Instr.buildSlice 115 1 parts
theorem fold_bsP (parts : Array (Nat × Value)) : Instr.buildSlice 115 1 parts = bsP parts := rfl
def appP (args : Array Value) : Sem Value := Builtin.append_ #[115, 115] 115 args
theorem fold_appP (args : Array Value) : Builtin.append_ #[115, 115] 115 args = appP args := rfl
/-- the literal lies somewhere in memory -/
theorem app_box {W : World} {B : Nat} {s : Sl} {l : List GB} (h : OwnC W B 1 s.v l.length (flatC ptrA l)) (hB : B ≤ W.heap.size) (hl : l.length ≤ 1000000) (x : GB) (a : Nat) {t : TypeId} (ha : W.heap[a]? = some (.cells #[ptrV x.b] t (0, 0))) : ∃ (s' : Sl) (W' : World), (appP #[s.v, .slice (some ⟨a, 0, none⟩) 1 1]).run Try.prog W = .ok s'.v W' ∧ OwnC W' B 1 s'.v (l ++ [x]).length (flatC ptrA (l ++ [x])) ∧
  W.grownBy W' s.v.ownBlock ∧ (s'.v.ownBlock = s.v.ownBlock ∨ s'.v.ownBlock = some W.heap.size) := by
 obtain ⟨i0, hi, hy0, hy1, hy2⟩ := info_parts info_bp
 exact run_append_one ptrA ptrA_size (P := Try.prog) W 115 ptrA_one B 166 i0 _ 8 Try.underlying115 hi hy0 hy1 hy2 (by simp [Value.cells]) s.v l h a 1 x ha hl (by omega) hB
end Go.Proofs.Ythdjhbiigmcecaa

/- landmarkref10.(*Chain).Path. -/
namespace Go.Proofs.Ythdjhbiigmcecaa
open Go.RowKit

def natV (n : Nat) : Value := .int .i64 (n : Int)
theorem OwnC.src1 {P : Program} {w : World} {base n : Nat} {s : Sl} {xs : List Value} (h : OwnC w base 1 s.v n xs) (h1 : ∀ u ∈ xs, u.oneCell' = true) {t e : TypeId} (ht : P.underlying t = some (.slice e)) : Src P 1 t s.v n xs w := by
 obtain ⟨hl, h⟩ := h
 rcases h with ⟨hv, hn⟩ | ⟨g, cap, hv, h2, h3, h4, h5, h6, h7, h8⟩
 ·subst hn
  rw [hv]
  have hx : xs = [] := List.length_eq_zero_iff.1 (by simpa using hl)
  subst hx
  refine ⟨.inl ⟨_, ht⟩, fun _ => rfl, ?_, ?_, by simp, by simp⟩ <;> simp [Builtin.firstCells, loadCells, loadCellsFrom]
 ·rw [hv]
  refine Src.ofSlice w ht ⟨g, 0, none⟩ n cap xs (by omega) (fun j u hu => ?_) h1
  have hadd : (⟨g, 0, none⟩ : Addr).add j = ⟨g, j, none⟩ := by unfold Addr.add; split <;> simp_all
  rw [hadd]
  exact h8 j u hu
abbrev OwnN (w : World) (E : Nat) (v : Value) (l : List Nat) : Prop := OwnC w E 1 v l.length (l.map natV)
theorem run_appI {W : World} {E : Nat} {s : Sl} {l : List Nat} (h : OwnN W E s.v l) (hE : E ≤ W.heap.size) {E' : Nat} {t : Sl} {m : List Nat} (ht : OwnN W E' t.v m) (hl : l.length + m.length ≤ 2000000) :
  ∃ (s' : Sl) (W' : World), (appN #[s.v, t.v]).run Try.prog W = .ok s'.v W' ∧ OwnN W' E s'.v (l ++ m) ∧ W.grownBy W' s.v.ownBlock := by
 obtain ⟨i0, hi, hy0, hy1, hy2⟩ := info_parts info_int2
 obtain ⟨v', W', h1, h2, h3, -⟩ := run_append_ownC (P := Try.prog) W E 58 58 58 3 i0 _ 1 8 Try.underlying58 hi hy0 hy1 hy2 (by simp [Value.cells]) s.v l.length (l.map natV) h t.v m.length (m.map natV) (ht.src1 (fun u hu => by
  obtain ⟨x, _, rfl⟩ := List.mem_map.1 hu
  rfl) Try.underlying58) (by simp only [maxLen]; omega) (by omega) hE
 have h2' : OwnN W' E v' (l ++ m) := by
  unfold OwnN
  rw [List.length_append, List.map_append]
  exact h2
 obtain ⟨s', rfl⟩ := OwnC.slice h2'
 exact ⟨s', W', h1, h2', h3⟩
/-- a block and its ancestors; none of none -/
def pthO (C : List Blk) : Option Nat → List Nat
 | none => []
 | some j => pth C j
theorem pth_step {C : List Blk} (h : ChnOk C) (i : Nat) : pth C i = i :: pthO C (parAt C i) := by
 rw [pth]
 cases hp : parAt C i with
 | none => rfl
 | some j =>
  have hj := (parAt_some h hp).1
  simp only [pthO, dif_pos hj]
attribute [local go_sem ↓] fold_appN fold_bsN
set_option maxRecDepth 100000 in
set_option maxHeartbeats 1600000 in
theorem rpath_c {w0 W : World} {cb rb cap : Nat} {G : List GHeader} {C : List Blk} (hR : RefC w0 W cb rb cap G C) (hok : ChnOk C) (i : Nat) (hi : i < C.length) :
  Calls Try.prog 56 #[ptrV cb, .int .i64 (i : Int)] W fun r w' => ∃ s : Sl, r = .returned s.v ∧ OwnN w' W.heap.size s.v (pth C i).reverse ∧ Below W.heap.size W w' := by
 have hclen := hok.len
 have hcW := hR.cbW
 have hrW := hR.lt
 unfold ptrV
 go_enter Try.func56, Try.ntmps56
 go_wp2_with fail
 go_loopw [1, 5] (fun c l w' => ∃ (o : Option Nat) (d : List Nat) (s : Sl), c = .int .i64 (parI o) ∧ l = s.v ∧ Hid (OwnN w' W.heap.size s.v d) ∧ Hid (pth C i = d.reverse ++ pthO C o) ∧ Hid (∀ j, o = some j → j < C.length) ∧ Hid ((d.length : Int) + parI o ≤ i) ∧ Below W.heap.size W w') (fun c _ _ => (intOf c + 1).toNat)
 case atStart => exact ⟨some i, [], ⟨none, 0, 0⟩, rfl, rfl, Lib.hid (OwnC.nil _ _ _), Lib.hid (by simp [pthO]), Lib.hid (fun j hj => by cases hj; exact hi), Lib.hid (by simp [parI]), Below.refl _ _⟩
 case round =>
  obtain ⟨o, d, s, rfl, rfl, ho, hp, hlt, hd, hB⟩ := hrel
  cases o with
  | none =>
   simp only [parI]
   have hfin := Lib.hid (show OwnN wr W.heap.size s.v (pth C i).reverse by
    rw [hp.out]
    simpa [pthO] using ho.out)
   clear ho hp hlt hd
   go_wp2_with fail
   go_ret
   exact ⟨s, rfl, hfin.out, hB⟩
  | some j =>
   simp only [parI] at hd ⊢
   have hj := hlt.out j rfl
   have hz := hB.size
   have hbl := bsN_one j wr
   have hl1 : OwnN (wr.alloc (.cells (natA j) 3)) W.heap.size (⟨some ⟨wr.heap.size, 0, none⟩, 1, 1⟩ : Sl).v [j] := by
    refine ⟨rfl, .inr ⟨wr.heap.size, 1, rfl, hz, by simp, Nat.le_refl _, by simp [maxLen], fun k hk => ?_, fun k _ => frozen_of_row _ _ _ _ _ (heap_alloc_new wr _), fun k u hu => ?_⟩⟩
    ·obtain rfl : k = 0 := by omega
     rw [cell_of_row _ _ _ _ _ _ (heap_alloc_new wr _)]
     rfl
    ·rw [cell_of_row _ _ _ _ _ _ (heap_alloc_new wr _)]
     simpa [natA, natV] using hu
   have hdl : (d.length : Int) ≤ 5000 := by have := hd.out; omega
   obtain ⟨s2, w2, hrun', ho2, hg2⟩ := run_appI hl1 (by simp; omega) (OwnC.keep ho.out (bel_a wr _)) (by simp; omega)
   have hrun : (appN #[.slice (some ⟨wr.heap.size, 0, none⟩) 1 1, s.v]).run Try.prog (wr.alloc (.cells (natA j) 3)) = .ok s2.v w2 := hrun'
   have hB2 : Below W.heap.size W w2 := (hB.trans ((bel_a wr _).mono hz)).grown hg2 (by simp; omega) fun k hk => by
    have : wr.heap.size = k := by
     injection hk
    omega
   have hR2 := hR.keep hB2
   obtain ⟨x, -, hrw, -⟩ := hR2.at hj
   obtain ⟨-, -, -, hpar⟩ := rblk_cells hrw
   have c0 := hR2.c0
   have hpe : parAt C j = C[j].par := by simp [parAt, hj]
   rw [← hpe] at hpar
   have hstep := pth_step hok j
   have hpar2 := fun k hk => parAt_some (i := j) (j := k) hok hk
   obtain ⟨q, hq⟩ : ∃ q, q = parAt C j := ⟨_, rfl⟩
   rw [← hq] at hpar hstep hpar2
   have n0 : (0 : Int) ≤ (j : Int) := by omega
   have n1 : (j : Int) < (C.length : Int) := by omega
   have hql : Hid (∀ k, q = some k → k < C.length) := Lib.hid (fun k hk => by have := hpar2 k hk; omega)
   have hqd : Hid (((j :: d).length : Int) + parI q ≤ i) := Lib.hid (by
    have h1 := hd.out
    cases q with
    | none => simp only [parI, List.length_cons]; omega
    | some k => have := (hpar2 k rfl).1; simp only [parI, List.length_cons]; omega)
   have hqm : Hid (parI q < j) := Lib.hid (by
    cases q with
    | none => simp only [parI]; omega
    | some k => have := (hpar2 k rfl).1; simp only [parI]; omega)
   have hpq : Hid (pth C i = (j :: d).reverse ++ pthO C q) := Lib.hid (by
    rw [hp.out]
    simp only [pthO, hstep]
    simp)
   have ho2' := Lib.hid (show OwnN w2 W.heap.size s2.v (j :: d) from ho2)
   replace hq := Lib.hid hq
   have hqm1 := Lib.hid (show -1 ≤ parI q by cases q with
    | none => simp [parI]
    | some k => simp only [parI]; omega)
   clear hl1 ho2 hg2 hrun' hR2 hrw hpe hstep hpar2 ho hp hlt hd hdl
   go_wp2_with fail
   go_roundw
   case rel => exact ⟨q, j :: d, s2, rfl, rfl, ho2', hpq, hql, hqd, hB2⟩
   case measure =>
    have h1 := hqm.out
    have h2 := hqm1.out
    simp [intOf]
    omega
end Go.Proofs.Ythdjhbiigmcecaa

/- landmarkref10.(*Chain).Under. -/
namespace Go.Proofs.Ythdjhbiigmcecaa
open Go.RowKit

end Go.Proofs.Ythdjhbiigmcecaa

/- landmarkref10's rows of blocks: copied, and one more. -/
namespace Go.Proofs.Ythdjhbiigmcecaa
open Go.RowKit

abbrev RB := Pt × GHeader × Option Nat
def rA (x : RB) : Array Value := rblkA x.1 x.2.1 x.2.2
theorem rA_size (x : RB) : (rA x).size = 68 := rblkA_size _ _ _
theorem rA_one (x : RB) : ∀ u ∈ (rA x).toList, u.oneCell' = true := by
 have h : (rA x).all (·.oneCell') = true := oneApp (oneApp (onePoint _) (oneHeader _)) (by simp [Value.oneCell'])
 intro u hu
 rw [Array.all_eq_true_iff_forall_mem] at h
 exact h u (Array.mem_toList_iff.1 hu)
def rowsOf (G : List GHeader) (C : List Blk) : List RB := List.zipWith (fun g b => (b.p, g, b.par)) G C
theorem rowsOf_length {G : List GHeader} {C : List Blk} (h : G.length = C.length) : (rowsOf G C).length = C.length := by simp [rowsOf, h]
theorem RefC.rows {w0 W : World} {cb rb cap : Nat} {G : List GHeader} {C : List Blk} (h : RefC w0 W cb rb cap G C) : SlR 68 (fun cs x => cs = rA x) W ⟨some ⟨rb, 0, none⟩, C.length, cap⟩ (rowsOf G C) := by
 refine ⟨(rowsOf_length h.len).symm, h.cap, fun _ => ⟨rb, 0, rfl, fun i hi => ?_⟩⟩
 have hiC : i < C.length := by rw [rowsOf_length h.len] at hi; exact hi
 have hiG : i < G.length := by rw [h.len]; exact hiC
 have h1 := (h.row i G[i] C[i] (List.getElem?_eq_getElem hiG) (List.getElem?_eq_getElem hiC)).1
 refine ⟨_, by rw [Nat.zero_add]; exact h1, ?_⟩
 simp [rowsOf, rA]
theorem rowsSrc {α : Type} (A : α → Array Value) {k : Nat} (hk : ∀ x, (A x).size = k) (h0 : 0 < k) (h1 : ∀ x, ∀ u ∈ (A x).toList, u.oneCell' = true) {P : Program} {w : World} {s : Sl} {l : List α} (h : SlR k (fun cs x => cs = A x) w s l) (hne : l ≠ []) {t e : TypeId} (ht : P.underlying t = some (.slice e)) :
  Src P k t s.v l.length (flatC A l) w := by
 obtain ⟨b, off, ha, hc⟩ := h.2.2 hne
 obtain ⟨a, n, c⟩ := s
 simp only at ha
 subst ha
 obtain rfl : n = l.length := h.1
 refine Src.ofSlice w ht ⟨b, off, none⟩ l.length c (flatC A l) (flatC_length A hk l) (fun j u hu => ?_) (flatC_onecell A h1 l)
 have hj : j < l.length * k := by
  rw [← flatC_length A hk l]
  exact (List.getElem?_eq_some_iff.1 hu).1
 have hadd : (⟨b, off, none⟩ : Addr).add j = ⟨b, off + j, none⟩ := by unfold Addr.add; split <;> simp_all
 have hd : j / k < l.length := by rw [Nat.div_lt_iff_lt_mul h0]; exact hj
 have hm : j % k < k := Nat.mod_lt _ h0
 obtain ⟨cs, hr, rfl⟩ := hc (j / k) hd
 have h3 := cell_of_row? hr (j % k) hm
 have h4 := flatC_get A hk l (j / k) (j % k) hd hm
 have hj2 : j / k * k + j % k = j := by rw [Nat.mul_comm]; exact Nat.div_add_mod j k
 rw [hj2] at h4
 rw [hadd, show off + j = off + j / k * k + j % k by omega, h3, ← h4, hu]
def appR (args : Array Value) : Sem Value := Builtin.append_ #[67, 67] 67 args
theorem fold_appR (args : Array Value) : Builtin.append_ #[67, 67] 67 args = appR args := rfl
theorem run_copyR {W : World} {s : Sl} {l : List RB} (h : SlR 68 (fun cs x => cs = rA x) W s l) (hne : l ≠ []) (hl : l.length ≤ 1000000) :
  ∃ (s' : Sl) (w' : World), (appR #[.slice none 0 0, s.v]).run Try.prog W = .ok s'.v w' ∧ OwnC w' W.heap.size 68 s'.v l.length (flatC rA l) ∧ Below W.heap.size W w' := by
 obtain ⟨i0, hi, hy0, hy1, hy2⟩ := info_parts info_rblk
 obtain ⟨v', w', e1, e2, e3, e4⟩ := run_append_ownC (P := Try.prog) W W.heap.size 67 67 67 71 i0 _ 68 112 Try.underlying67 hi hy0 hy1 hy2 (by simp [Value.cells]) (.slice none 0 0) 0 [] (OwnC.nil _ _ _) s.v l.length (flatC rA l) (rowsSrc rA rA_size (by omega) rA_one h hne Try.underlying67) (by simp only [maxLen]; omega) (by omega) (Nat.le_refl _)
 rw [Nat.zero_add, List.nil_append] at e2
 obtain ⟨s', rfl⟩ := e2.slice
 exact ⟨s', w', e1, e2, (Below.refl _ _).grown e3 (Nat.le_refl _) (fun k hk => by simp [Value.ownBlock] at hk)⟩
theorem run_appR {W : World} {B : Nat} {s : Sl} {l : List RB} (h : OwnC W B 68 s.v l.length (flatC rA l)) (hB : B ≤ W.heap.size) (hl : l.length ≤ 1000000) (x : RB) (a : Nat) (ha : W.heap[a]? = some (.cells (rA x) 71 (0, 0))) :
  ∃ (s' : Sl) (W' : World), (appR #[s.v, .slice (some ⟨a, 0, none⟩) 1 1]).run Try.prog W = .ok s'.v W' ∧ OwnC W' B 68 s'.v (l ++ [x]).length (flatC rA (l ++ [x])) ∧ W.grownBy W' s.v.ownBlock := by
 obtain ⟨i0, hi, hy0, hy1, hy2⟩ := info_parts info_rblk
 obtain ⟨s', W', h1, h2, h3, -⟩ := run_append_one rA rA_size (P := Try.prog) W 67 rA_one B 71 i0 _ 112 Try.underlying67 hi hy0 hy1 hy2 (by simp [Value.cells]) s.v l h a 1 x ha hl (by omega) hB
 exact ⟨s', W', h1, h2, h3⟩
/-- a chain with one more block -/
theorem RefC.grow {w0 W W' : World} {cb rb cap : Nat} {G : List GHeader} {C : List Blk} (h : RefC w0 W cb rb cap G C) (hok : C.length ≤ 1000000) {s : Sl} {g : GHeader} {b : Blk} (hg : HdrR w0 g b.h) (hBW : Below w0.heap.size w0 W') (ho : OwnC W' W.heap.size 68 s.v (rowsOf G C ++ [(b.p, g, b.par)]).length (flatC rA (rowsOf G C ++ [(b.p, g, b.par)])))
  (hob : W'.heap[cb]? = some (.cells #[s.v] 69 (0, 0))) : ∃ rb' cap', W.heap.size ≤ rb' ∧ RefC w0 W' cb rb' cap' (G ++ [g]) (C ++ [b]) := by
 have hl : (rowsOf G C ++ [(b.p, g, b.par)]).length = C.length + 1 := by rw [List.length_append, rowsOf_length h.len]; rfl
 obtain ⟨hlen, hv | ⟨rb', cap', hv, h1, h2, h3, h4, h5, h6, h7⟩⟩ := ho
 ·omega
 ·have hrow : ∀ i (hi : i < (rowsOf G C ++ [(b.p, g, b.par)]).length), row? W' rb' (i * 68) 68 = some (rA (rowsOf G C ++ [(b.p, g, b.par)])[i]) := fun i hi => own_row rA rA_size (by omega) (B := W.heap.size) (c := cap') (n := (rowsOf G C ++ [(b.p, g, b.par)]).length) (w := W') (g := rb') ⟨hlen, .inr ⟨rb', cap', rfl, h1, h2, h3, h4, h5, h6, h7⟩⟩ i hi
  have hz := h.bel.size
  have hc := h.cbW
  refine ⟨rb', cap', h1, hBW, h.cbl, by omega, by omega, ?_, h2, by rw [List.length_append]; simp; omega, by simp [h.len], fun i x y hx hy => ?_⟩
  ·rw [hob, hv, hl]
   simp
  ·have hi : i < (C ++ [b]).length := (List.getElem?_eq_some_iff.1 hy).1
   have hi2 : i < (rowsOf G C ++ [(b.p, g, b.par)]).length := by rw [hl]; simpa using hi
   have hr := hrow i hi2
   by_cases hiC : i < C.length
   ·rw [List.getElem?_append_left (by rw [h.len]; exact hiC)] at hx
    rw [List.getElem?_append_left hiC] at hy
    refine ⟨?_, (h.row i x y hx hy).2⟩
    rw [hr]
    have e1 := (List.getElem?_eq_some_iff.1 hx).2
    have e2 := (List.getElem?_eq_some_iff.1 hy).2
    rw [← e1, ← e2]
    rw [List.getElem_append_left (by rw [rowsOf_length h.len]; exact hiC)]
    simp [rowsOf, rA]
   ·obtain rfl : i = C.length := by simp at hi; omega
    rw [List.getElem?_append_right (by rw [h.len]; exact Nat.le_refl _), h.len, Nat.sub_self] at hx
    rw [List.getElem?_append_right (Nat.le_refl _), Nat.sub_self] at hy
    simp only [List.getElem?_cons_zero, Option.some.injEq] at hx hy
    subst hx hy
    refine ⟨?_, hg⟩
    rw [hr, List.getElem_append_right (by rw [rowsOf_length h.len]; exact Nat.le_refl _)]
    simp [rA]
end Go.Proofs.Ythdjhbiigmcecaa

/- landmarkref10.(*Chain).Add. -/
namespace Go.Proofs.Ythdjhbiigmcecaa
open Go.RowKit

/-- a row of blocks is copied, one more is appended, the row is put into the chain's box -/
def HRad (W0 : World) (cb : Nat) (rows : List RB) (x : RB) (L : List Bool) (V : List Value) (w : World) : Prop :=
 (L.getD 4 false = true → ∃ (s : Sl) (w1 : World), Below W0.heap.size W0 w1 ∧ OwnC w1 W0.heap.size 68 s.v (rows ++ [x]).length (flatC rA (rows ++ [x])) ∧ w = w1.setCell ⟨cb, 0, none⟩ s.v) ∧
 (L.getD 4 false = false → Below W0.heap.size W0 w ∧
  (L.getD 0 false = true → L.getD 3 false = false → ∃ s : Sl, V.getD 0 undef = s.v ∧ OwnC w W0.heap.size 68 s.v rows.length (flatC rA rows)) ∧
  (L.getD 2 false = true → L.getD 3 false = false → ∃ b, V.getD 2 undef = .slice (some ⟨b, 0, none⟩) 1 1 ∧ w.heap[b]? = some (.cells (rA x) 71 (0, 0))) ∧
  (L.getD 3 false = true → ∃ s : Sl, V.getD 3 undef = s.v ∧ OwnC w W0.heap.size 68 s.v (rows ++ [x]).length (flatC rA (rows ++ [x]))))
section
variable {W0 w w' : World} {cb : Nat} {rows : List RB} {x : RB} {l0 l1 l2 l3 l4 : Bool} {v0 v1 v2 v3 v4 : Value}
theorem HRad.zero (V : List Value) : HRad W0 cb rows x [false, false, false, false, false] V W0.drew :=
 ⟨fun q => (by cases q), fun _ => ⟨(Below.refl _ _).drew, fun q => (by cases q), fun q => (by cases q), fun q => (by cases q)⟩⟩
theorem HRad.bel (h : HRad W0 cb rows x [l0, l1, l2, l3, l4] [v0, v1, v2, v3, v4] w) (h4 : l4 = false) : Below W0.heap.size W0 w := (h.2 h4).1
theorem HRad.call (h : HRad W0 cb rows x [l0, l1, l2, l3, l4] [v0, v1, v2, v3, v4] w) (h4 : l4 = false) (hb : Below w.heap.size w w') {v : Value} : HRad W0 cb rows x [l0, true, l2, l3, l4] [v0, v, v2, v3, v4] w' := by
 subst h4
 obtain ⟨q0, q1, q2, q3⟩ := h.2 rfl
 refine ⟨fun q => (by cases q), fun _ => ⟨q0.trans (hb.mono q0.size), fun a1 a2 => ?_, fun a1 a2 => ?_, fun a1 => ?_⟩⟩
 ·obtain ⟨s, r1, r2⟩ := q1 a1 a2
  exact ⟨s, r1, r2.keep hb⟩
 ·obtain ⟨b, r1, r2⟩ := q2 a1 a2
  exact ⟨b, r1, (hb.block b (Array.getElem?_eq_some_iff.1 r2).1).trans r2⟩
 ·obtain ⟨s, r1, r2⟩ := q3 a1
  exact ⟨s, r1, r2.keep hb⟩
theorem HRad.copy (h : HRad W0 cb rows x [l0, l1, l2, l3, l4] [v0, v1, v2, v3, v4] w) (_h0 : l0 = false) (h3 : l3 = false) (h4 : l4 = false) {s : Sl} (hs : SlR 68 (fun cs x => cs = rA x) w s rows) (hne : rows ≠ []) (hl : rows.length ≤ 100000) :
  ∃ (s' : Sl) (w' : World), (appR #[.slice none 0 0, s.v]).run Try.prog w = .ok s'.v w' ∧ HRad W0 cb rows x [true, l1, l2, l3, l4] [s'.v, v1, v2, v3, v4] w' := by
 subst h3 h4
 obtain ⟨q0, q1, q2, q3⟩ := h.2 rfl
 obtain ⟨s', w', e1, e2, e3⟩ := run_copyR hs hne (by omega)
 refine ⟨s', w', e1, fun q => (by cases q), fun _ => ⟨q0.trans (e3.mono q0.size), fun _ _ => ⟨s', rfl, e2.more q0.size⟩, fun a1 a2 => ?_, fun q => (by cases q)⟩⟩
 obtain ⟨b, r1, r2⟩ := q2 a1 a2
 exact ⟨b, r1, (e3.block b (Array.getElem?_eq_some_iff.1 r2).1).trans r2⟩
theorem HRad.lit (h : HRad W0 cb rows x [l0, l1, l2, l3, l4] [v0, v1, v2, v3, v4] w) (h3 : l3 = false) (h4 : l4 = false) : HRad W0 cb rows x [l0, l1, true, l3, l4] [v0, v1, .slice (some ⟨w.heap.size, 0, none⟩) 1 1, v3, v4] (w.alloc (.cells (rA x) 71)) := by
 subst h3 h4
 obtain ⟨q0, q1, q2, q3⟩ := h.2 rfl
 refine ⟨fun q => (by cases q), fun _ => ⟨q0.trans ((bel_a _ _).mono q0.size), fun a1 a2 => ?_, fun _ _ => ⟨w.heap.size, rfl, heap_alloc_new w _⟩, fun q => (by cases q)⟩⟩
 obtain ⟨s, r1, r2⟩ := q1 a1 a2
 exact ⟨s, r1, r2.keep (bel_a _ _)⟩
theorem HRad.app (h : HRad W0 cb rows x [l0, l1, l2, l3, l4] [v0, v1, v2, v3, v4] w) (h0 : l0 = true) (h2 : l2 = true) (h3 : l3 = false) (h4 : l4 = false) (hl : rows.length ≤ 100000) {s : Sl} {b : Nat} (e0 : v0 = s.v) (e2 : v2 = .slice (some ⟨b, 0, none⟩) 1 1) :
  ∃ (s' : Sl) (w' : World), (appR #[s.v, .slice (some ⟨b, 0, none⟩) 1 1]).run Try.prog w = .ok s'.v w' ∧ HRad W0 cb rows x [l0, l1, l2, true, l4] [v0, v1, v2, s'.v, v4] w' := by
 subst h0 h2 h3 h4
 obtain ⟨q0, q1, q2, q3⟩ := h.2 rfl
 obtain ⟨s0, r1, r2⟩ := q1 rfl rfl
 obtain ⟨b0, r3, r4⟩ := q2 rfl rfl
 have r1' : v0 = s0.v := r1
 have r3' : v2 = .slice (some ⟨b0, 0, none⟩) 1 1 := r3
 rw [e0] at r1'
 rw [e2] at r3'
 have hb : b = b0 := by
  injection r3' with r3'
  injection r3' with r3'
  injection r3'
 subst hb
 rw [← r1'] at r2
 obtain ⟨s', w', f1, f2, f3⟩ := run_appR r2 q0.size (by omega) x b r4
 exact ⟨s', w', f1, fun q => (by cases q), fun _ => ⟨q0.grown f3 q0.size fun k hk => (OwnC.lt r2 k hk).1, fun _ q => (by cases q), fun _ q => (by cases q), fun _ => ⟨s', rfl, f2⟩⟩⟩
theorem HRad.put (h : HRad W0 cb rows x [l0, l1, l2, l3, l4] [v0, v1, v2, v3, v4] w) (h3 : l3 = true) (h4 : l4 = false) {s : Sl} (e : v3 = s.v) : HRad W0 cb rows x [l0, l1, l2, l3, true] [v0, v1, v2, v3, undef] (w.setCell ⟨cb, 0, none⟩ s.v) := by
 subst h3 h4
 obtain ⟨q0, q1, q2, q3⟩ := h.2 rfl
 obtain ⟨s0, r1, r2⟩ := q3 rfl
 have r1' : v3 = s0.v := r1
 rw [e] at r1'
 rw [← r1'] at r2
 exact ⟨fun _ => ⟨s, w, q0, r2, rfl⟩, fun q => (by cases q)⟩
end
attribute [local go_sem ↓] fold_bldR fold_bsR fold_appR
theorem radd_res : Try.f102.results = #[.cell 4 26, .tmp 5] := by kernel_rfl
set_option maxRecDepth 100000 in
set_option maxHeartbeats 3200000 in
theorem radd_c {w0 W : World} {cb rb cap : Nat} {G : List GHeader} {C : List Blk} (hR : RefC w0 W cb rb cap G C) (hok : ChnOk C) {g : GHeader} {h : Hdr} (hr : HdrR w0 g h) (hl : h.ops.length ≤ 1000000) :
  Calls Try.prog 102 #[ptrV cb, .agg (headerA g)] W fun r w' => r = .returned (.tuple #[.agg (pointA (chCheck C h).1), .int .i64 (chCheck C h).2]) ∧ (∃ rb' cap' G', (rb' = rb ∨ W.heap.size ≤ rb') ∧ RefC w0 w' cb rb' cap' G' (chAdd C h)) ∧ Asd (fun k => k = cb) W w' := by
 have hB0 : Below W.heap.size W ((W.alloc (.cells (headerA g) 49)).alloc (.cells (pointA zeroPt) 26)) := by (repeat' (first | (with_reducible first | exact Below.refl _ _ | assumption | refine bel_trans (by assumption) ?_ ?_ | refine bel_grown (by assumption) ?_ ?_ ?_ | refine Below.alloc ?_ ?_ _ | refine Below.drew ?_ | refine below_drewN ?_ _ | refine Below.setCell ?_ ?_ _ | refine below_put ?_ ?_ _ _ | exact Nat.le_refl _) | omega | (with_reducible first | refine Nat.le_trans ?_ (Below.size (by assumption)) | refine Nat.le_trans ?_ (World.grownBy.size (by assumption))) | (simp only [World.size_alloc, World.size_setCell, World.size_drew, size_drewN]; omega) | (simp only [World.size_alloc, World.size_setCell, World.size_drew, size_drewN, size_put]; omega) | (intro k hk; simp [Value.ownBlock] at hk; first | done | omega) | (simp [size_drewN] at *; omega)))
 have hz0 : ((W.alloc (.cells (headerA g) 49)).alloc (.cells (pointA zeroPt) 26)).heap.size = W.heap.size + 2 := by simp
 have hrow0 : row? ((W.alloc (.cells (headerA g) 49)).alloc (.cells (pointA zeroPt) 26)) W.heap.size 0 34 = some (headerA g) := by rw [row?_old _ _ _ _ _ (by simp), row?_new]; simp
 have hrow1 : row? ((W.alloc (.cells (headerA g) 49)).alloc (.cells (pointA zeroPt) 26)) (W.heap.size + 1) 0 33 = some (pointA zeroPt) := by rw [row?_new_at _ _ _ _ _ _ (by simp)]; simp
 have hth : there ((W.alloc (.cells (headerA g) 49)).alloc (.cells (pointA zeroPt) 26)) (W.heap.size + 1) 0 33 := there_new_at _ _ _ _ _ _ (by simp) (by simp)
 have hR0 := Lib.hid (hR.keep hB0)
 have hcW := hR.cbW
 have hrW := hR.lt
 have g1 := hr.1
 have hclen := hok.len
 have HC := rcheck_c hR0.out hok (hr.keep' hR0.out.bel) hl
 obtain ⟨p, k, hpk⟩ : ∃ p k, (p, k) = chCheck C h := ⟨_, _, rfl⟩
 rw [← hpk] at HC ⊢
 replace hpk := Lib.hid hpk
 have hRi := Lib.hid hR
 have hri := Lib.hid hr
 clear hR hr
 unfold ptrV at HC ⊢
 go_enter Try.func102, Try.ntmps102
 go_upto_region 1 with fail
 generalize (W.alloc (.cells (headerA g) 49)).alloc (.cells (pointA zeroPt) 26) = w1 at *
 go_wp2_with fail
 (with_reducible refine HC.mono ?_)
 clear HC
 rintro r w2 ⟨rfl, hb2⟩
 have hz2 := hb2.size
 have hR2 := Lib.hid (hR0.out.keep hb2)
 have hB2 := hB0.trans (hb2.mono (by omega))
 have hrow2 := (row?_below _ _ _ hb2 (by omega)).trans hrow0
 have hrow12 := (row?_below _ _ _ hb2 (by omega)).trans hrow1
 have hth2 := there_below hb2 (show W.heap.size + 1 < w1.heap.size by omega) hth
 clear hb2 hrow0 hrow1 hth hR0 hB0
 go_upto_region 2 with fail
 obtain ⟨w3, hw3, hrow6, -, hb3', hz3⟩ := box_row w2 (pointA zeroPt) (pointA p) 26 33 (by omega) (by simp) (by simp)
 rw [← hw3]
 clear hw3
 have hR3 := Lib.hid (hR2.out.keep hb3')
 have hB3 := hB2.trans (hb3'.mono (by omega))
 have hrow3 := (row?_below _ _ _ hb3' (by omega)).trans hrow2
 have hrow13 := (row?_below _ _ _ hb3' (by omega)).trans hrow12
 have hth3 := there_below hb3' (show W.heap.size + 1 < w2.heap.size by omega) hth2
 obtain ⟨b4, hb4⟩ : ∃ b, b = W.heap.size + 1 := ⟨_, rfl⟩
 obtain ⟨b6, hb6e⟩ : ∃ b, b = w2.heap.size := ⟨_, rfl⟩
 obtain ⟨b3, hb3e⟩ : ∃ b, b = W.heap.size := ⟨_, rfl⟩
 rw [← hb4] at hrow13 hth3 ⊢
 rw [← hb6e] at hrow6 ⊢
 rw [← hb3e] at hrow3 ⊢
 have hb3 : b3 < w3.heap.size := by omega
 have hb6 : b6 < w3.heap.size := by omega
 have hb4w : b4 < w3.heap.size := by omega
 have hcb3 : cb < b3 := by omega
 have hrb3 : rb < b3 := by omega
 have hc46 : b4 ≠ b6 := by omega
 have hw04 : w0.heap.size ≤ b4 := by have := hRi.out.bel.size; omega
 have hWb4 : W.heap.size ≤ b4 := by omega
 have hrb4 : rb ≠ b4 := by omega
 have hcb4 : cb ≠ b4 := by omega
 have hcb6 : b6 ≠ cb := by omega
 have hc4 : cb < b4 := by omega
 have hc6 : cb < b6 := by omega
 clear hb3' hrow2 hrow12 hth2 hR2 hB2 hz2 hz0
 replace hb4 := Lib.hid hb4
 replace hb6e := Lib.hid hb6e
 replace hb3e := Lib.hid hb3e
 replace hz3 := Lib.hid hz3
 have hput : ∀ (V : World) (rb' cap' : Nat) (G' : List GHeader) (C' : List Blk), RefC w0 V cb rb' cap' G' C' → rb' ≠ b4 → RefC w0 (putRow V b4 0 (pointA p)) cb rb' cap' G' C' := fun V rb' cap' G' C' hV hr => hV.off (asd_put V b4 0 (pointA p)) (fun k hk => by rw [hk]; exact hw04) hcb4 hr
 by_cases hk : k = 0
 ·have hck : (chCheck C h).2 = 0 := by rw [← hpk.out, hk]
  have hcp : (chCheck C h).1 = p := by rw [← hpk.out]
  obtain ⟨o, ho⟩ : ∃ o, o = chAt C h.parent := ⟨_, rfl⟩
  have hadd := Lib.hid (show chAdd C h = C ++ [⟨p, h, o⟩] by
   unfold chAdd
   rw [if_pos hck, hcp, ho])
  have HAt := fun W hb => rat_c (W := W) (hR3.out.keep hb) (by omega) h.parent
  rw [← ho] at HAt
  have hpos := hok.pos
  have hrlen := rowsOf_length hR3.out.len
  have hne : rowsOf G C ≠ [] := fun e => by
   rw [e] at hrlen
   simp at hrlen
   omega
  have hrl : (rowsOf G C).length ≤ 100000 := by omega
  have hpar3 := row_part hrow3 0 32 (by omega)
  rw [headerA_parent, g1, Nat.zero_add] at hpar3
  replace ho := Lib.hid ho
  subst hk
  clear hck hcp hrlen hpk
  go_upto_region 3 with fail
  refine wp_region_freeI_l (by kernel_rfl) [16, 17, 18, 19, 20, 21, 22, 23, 24, 25, 26, 27, 28, 29, 30, 31, 32, 52]
   [(fun v => v = .pointer (some ⟨cb, 0, none⟩)), (fun v => v = .pointer (some ⟨cb, 0, none⟩)), (fun v => v = .pointer (some ⟨cb, 0, none⟩)), (fun v => v = .pointer (some ⟨cb, 0, none⟩)), (fun v => v = .slice (some ⟨rb, 0, none⟩) C.length cap), (fun v => ∃ s : Sl, v = s.v), (fun v => v = .agg (pointA p)), (fun v => v = .agg (headerA g)), (fun v => v = .pointer (some ⟨cb, 0, none⟩)), (fun v => v = .pointer (some ⟨b3, 0, none⟩)), (fun v => v = .agg (hashA h.parent)), (fun v => v = .int .i64 (parI o)), (fun v => v = .agg (rblkA p g o)), (fun v => ∃ b, v = .slice (some ⟨b, 0, none⟩) 1 1), (fun v => ∃ s : Sl, v = s.v), (fun v => v = .pointer (some ⟨cb, 0, none⟩)), (fun v => v = .pointer (some ⟨cb, 0, none⟩)), (fun _ => True)]
   [5, 11, 13, 14, 17] (HRad w3 cb (rowsOf G C) (p, g, o)) [[15, 16, 17], [2, 3, 4, 5, 14, 17], [3, 4, 5, 14, 17], [4, 5, 14, 17], [5, 14, 17], [14, 17], [12, 13, 14, 17], [12, 13, 14, 17], [11, 12, 13, 14, 17], [10, 11, 12, 13, 14, 17], [11, 12, 13, 14, 17], [12, 13, 14, 17], [13, 14, 17], [14, 17], [17], [16, 17], [17], []] (by kernel_rfl) (by kernel_rfl) ?_ ?_ ?_
  ·show HRad w3 cb (rowsOf G C) (p, g, o) [false, false, false, false, false] [_, _, _, _, _] _
   exact HRad.zero _
  ·refine ⟨?_, ?_, ?_, ?_, ?_, ?_, ?_, ?_, ?_, ?_, ?_, ?_, ?_, ?_, ?_, ?_, ?_, ?_, trivial⟩
   ·intro L ax W hf hLi hno hd
    try simp [Region.binds] at hd
    have e0 : ax.tmps[0]?.getD undef = .pointer (some ⟨cb, 0, none⟩) := hf.out 0 (by decide) rfl
    refine ⟨fun _ => ?_, fun h => absurd trivial h⟩
    refine freeI_run (v := .pointer (some ⟨cb, 0, none⟩)) rfl hf (by decide) ?_ rfl
    go_simp
   ·intro L ax W hf hLi hno hd
    try simp [Region.binds] at hd
    have e0 : ax.tmps[0]?.getD undef = .pointer (some ⟨cb, 0, none⟩) := hf.out 0 (by decide) rfl
    refine ⟨fun _ => ?_, fun h => absurd trivial h⟩
    refine freeI_run (v := .pointer (some ⟨cb, 0, none⟩)) rfl hf (by decide) ?_ rfl
    go_simp
   ·intro L ax W hf hLi hno hd
    simp [Region.binds] at hd
    have e17 : ax.tmps[17]?.getD undef = .pointer (some ⟨cb, 0, none⟩) := slv (hf.got 1 (by decide) (by simp [hd]))
    refine ⟨fun _ => ?_, fun h => absurd trivial h⟩
    refine freeI_run (v := .pointer (some ⟨cb, 0, none⟩)) rfl hf (by decide) ?_ rfl
    go_simp
   ·intro L ax W hf hLi hno hd
    simp [Region.binds] at hd
    have e18 : ax.tmps[18]?.getD undef = .pointer (some ⟨cb, 0, none⟩) := slv (hf.got 2 (by decide) (by simp [hd]))
    refine ⟨fun _ => ?_, fun h => absurd trivial h⟩
    refine freeI_run (v := .pointer (some ⟨cb, 0, none⟩)) rfl hf (by decide) ?_ rfl
    go_simp
   ·intro L ax W hf hLi hno hd
    simp [Region.binds] at hd
    have e19 : ax.tmps[19]?.getD undef = .pointer (some ⟨cb, 0, none⟩) := slv (hf.got 3 (by decide) (by simp [hd]))
    refine ⟨fun _ => ?_, fun h => absurd trivial h⟩
    have hG : HRad w3 cb (rowsOf G C) (p, g, o) [L 5, L 11, L 13, L 14, L 17] [sl ax 21, sl ax 27, sl ax 29, sl ax 30, sl ax 52] W := hf.glob
    have h1 := (hR3.out.keep (hG.bel (hno 17 (by decide)))).c0
    refine freeI_run (v := .slice (some ⟨rb, 0, none⟩) C.length cap) rfl hf (by decide) ?_ rfl
    go_simp
   ·intro L ax W hf hLi hno hd
    simp [Region.binds] at hd
    have e20 : ax.tmps[20]?.getD undef = .slice (some ⟨rb, 0, none⟩) C.length cap := slv (hf.got 4 (by decide) (by simp [hd]))
    refine ⟨fun _ => ?_, fun h => absurd trivial h⟩
    have hG : HRad w3 cb (rowsOf G C) (p, g, o) [L 5, L 11, L 13, L 14, L 17] [sl ax 21, sl ax 27, sl ax 29, sl ax 30, sl ax 52] W := hf.glob
    obtain ⟨s', W', hrun', hH⟩ := hG.copy hLi (hno 14 (by decide)) (hno 17 (by decide)) (hR3.out.keep (hG.bel (hno 17 (by decide)))).rows hne hrl
    have hrun : (appR #[.slice none 0 0, .slice (some ⟨rb, 0, none⟩) C.length cap]).run Try.prog W = .ok s'.v W' := hrun'
    refine freeI_val (v := s'.v) (W' := W') rfl ?_ ⟨s', rfl⟩ hH
    go_simp
   ·intro L ax W hf hLi hno hd
    try simp [Region.binds] at hd
    have e6 : ax.tmps[6]?.getD undef = .pointer (some ⟨b6, 0, none⟩) := hf.out 6 (by decide) rfl
    refine ⟨fun _ => ?_, fun h => absurd trivial h⟩
    have hG : HRad w3 cb (rowsOf G C) (p, g, o) [L 5, L 11, L 13, L 14, L 17] [sl ax 21, sl ax 27, sl ax 29, sl ax 30, sl ax 52] W := hf.glob
    have h1 := (row?_below _ _ _ (hG.bel (hno 17 (by decide))) hb6).trans hrow6
    refine freeI_run (v := .agg (pointA p)) rfl hf (by decide) ?_ rfl
    go_simp
   ·intro L ax W hf hLi hno hd
    try simp [Region.binds] at hd
    have e3 : ax.tmps[3]?.getD undef = .pointer (some ⟨b3, 0, none⟩) := hf.out 3 (by decide) rfl
    refine ⟨fun _ => ?_, fun h => absurd trivial h⟩
    have hG : HRad w3 cb (rowsOf G C) (p, g, o) [L 5, L 11, L 13, L 14, L 17] [sl ax 21, sl ax 27, sl ax 29, sl ax 30, sl ax 52] W := hf.glob
    have h1 := (row?_below _ _ _ (hG.bel (hno 17 (by decide))) hb3).trans hrow3
    refine freeI_run (v := .agg (headerA g)) rfl hf (by decide) ?_ rfl
    go_simp
   ·intro L ax W hf hLi hno hd
    try simp [Region.binds] at hd
    have e0 : ax.tmps[0]?.getD undef = .pointer (some ⟨cb, 0, none⟩) := hf.out 0 (by decide) rfl
    refine ⟨fun _ => ?_, fun h => absurd trivial h⟩
    refine freeI_run (v := .pointer (some ⟨cb, 0, none⟩)) rfl hf (by decide) ?_ rfl
    go_simp
   ·intro L ax W hf hLi hno hd
    try simp [Region.binds] at hd
    have e3 : ax.tmps[3]?.getD undef = .pointer (some ⟨b3, 0, none⟩) := hf.out 3 (by decide) rfl
    refine ⟨fun _ => ?_, fun h => absurd trivial h⟩
    refine freeI_run (v := .pointer (some ⟨b3, 0, none⟩)) rfl hf (by decide) ?_ rfl
    go_simp
   ·intro L ax W hf hLi hno hd
    simp [Region.binds] at hd
    have e25 : ax.tmps[25]?.getD undef = .pointer (some ⟨b3, 0, none⟩) := slv (hf.got 9 (by decide) (by simp [hd]))
    refine ⟨fun _ => ?_, fun h => absurd trivial h⟩
    have hG : HRad w3 cb (rowsOf G C) (p, g, o) [L 5, L 11, L 13, L 14, L 17] [sl ax 21, sl ax 27, sl ax 29, sl ax 30, sl ax 52] W := hf.glob
    have h1 := (row?_below _ _ _ (hG.bel (hno 17 (by decide))) hb3).trans hpar3
    refine freeI_run (v := .agg (hashA h.parent)) rfl hf (by decide) ?_ rfl
    go_simp
   ·intro L ax W hf hLi hno hd
    simp [Region.binds] at hd
    have e24 : ax.tmps[24]?.getD undef = .pointer (some ⟨cb, 0, none⟩) := slv (hf.got 8 (by decide) (by simp [hd]))
    have e26 : ax.tmps[26]?.getD undef = .agg (hashA h.parent) := slv (hf.got 10 (by decide) (by simp [hd]))
    refine ⟨fun _ => ?_, fun h => absurd trivial h⟩
    have hG : HRad w3 cb (rowsOf G C) (p, g, o) [L 5, L 11, L 13, L 14, L 17] [sl ax 21, sl ax 27, sl ax 29, sl ax 30, sl ax 52] W := hf.glob
    refine freeI_call (f := 173) (args := #[ptrV cb, .agg (hashA h.parent)]) rfl (by unfold ptrV; go_simp) ?_
    refine (HAt W (hG.bel (hno 17 (by decide)))).mono ?_
    rintro e w' ⟨rfl, hb⟩
    exact ⟨_, rfl, rfl, hG.call (hno 17 (by decide)) hb⟩
   ·intro L ax W hf hLi hno hd
    simp [Region.binds] at hd
    have e22 : ax.tmps[22]?.getD undef = .agg (pointA p) := slv (hf.got 6 (by decide) (by simp [hd]))
    have e23 : ax.tmps[23]?.getD undef = .agg (headerA g) := slv (hf.got 7 (by decide) (by simp [hd]))
    have f27 : (fun v => v = .int .i64 (parI o)) (sl ax 27) := hf.got 11 (by decide) (by simp [hd])
    refine ⟨fun _ => ?_, fun h => absurd trivial h⟩
    have hG : HRad w3 cb (rowsOf G C) (p, g, o) [L 5, L 11, L 13, L 14, L 17] [sl ax 21, sl ax 27, sl ax 29, sl ax 30, sl ax 52] W := hf.glob
    have e27 := slv f27
    have hbd := bldr_blk p g o W
    refine freeI_run (v := .agg (rblkA p g o)) rfl hf (by decide) ?_ rfl
    go_simp
   ·intro L ax W hf hLi hno hd
    simp [Region.binds] at hd
    have e28 : ax.tmps[28]?.getD undef = .agg (rblkA p g o) := slv (hf.got 12 (by decide) (by simp [hd]))
    refine ⟨fun _ => ?_, fun h => absurd trivial h⟩
    have hG : HRad w3 cb (rowsOf G C) (p, g, o) [L 5, L 11, L 13, L 14, L 17] [sl ax 21, sl ax 27, sl ax 29, sl ax 30, sl ax 52] W := hf.glob
    have hbs := bsR_one (rblkA p g o) (rblkA_size _ _ _) W
    refine freeI_val (v := .slice (some ⟨W.heap.size, 0, none⟩) 1 1) (W' := W.alloc (.cells (rblkA p g o) 71)) rfl ?_ ⟨_, rfl⟩ (hG.lit (hno 14 (by decide)) (hno 17 (by decide)))
    go_simp
   ·intro L ax W hf hLi hno hd
    simp [Region.binds] at hd
    have f21 : (fun v => ∃ s : Sl, v = s.v) (sl ax 21) := hf.got 5 (by decide) (by simp [hd])
    have f29 : (fun v => ∃ b, v = .slice (some ⟨b, 0, none⟩) 1 1) (sl ax 29) := hf.got 13 (by decide) (by simp [hd])
    refine ⟨fun _ => ?_, fun h => absurd trivial h⟩
    have hG : HRad w3 cb (rowsOf G C) (p, g, o) [L 5, L 11, L 13, L 14, L 17] [sl ax 21, sl ax 27, sl ax 29, sl ax 30, sl ax 52] W := hf.glob
    obtain ⟨s21, e21⟩ := f21
    obtain ⟨b29, e29⟩ := f29
    obtain ⟨s', W', hrun, hH⟩ := hG.app (by simp [hd]) (by simp [hd]) hLi (hno 17 (by decide)) hrl e21 e29
    have e21' := slv e21
    have e29' := slv e29
    refine freeI_val (v := s'.v) (W' := W') rfl ?_ ⟨s', rfl⟩ hH
    go_simp
   ·intro L ax W hf hLi hno hd
    simp [Region.binds] at hd
    have e16 : ax.tmps[16]?.getD undef = .pointer (some ⟨cb, 0, none⟩) := slv (hf.got 0 (by decide) (by simp [hd]))
    refine ⟨fun _ => ?_, fun h => absurd trivial h⟩
    refine freeI_run (v := .pointer (some ⟨cb, 0, none⟩)) rfl hf (by decide) ?_ rfl
    go_simp
   ·intro L ax W hf hLi hno hd
    simp [Region.binds] at hd
    have e31 : ax.tmps[31]?.getD undef = .pointer (some ⟨cb, 0, none⟩) := slv (hf.got 15 (by decide) (by simp [hd]))
    refine ⟨fun _ => ?_, fun h => absurd trivial h⟩
    refine freeI_run (v := .pointer (some ⟨cb, 0, none⟩)) rfl hf (by decide) ?_ rfl
    go_simp
   ·intro L ax W hf hLi hno hd
    simp [Region.binds] at hd
    have e32 : ax.tmps[32]?.getD undef = .pointer (some ⟨cb, 0, none⟩) := slv (hf.got 16 (by decide) (by simp [hd]))
    have f30 : (fun v => ∃ s : Sl, v = s.v) (sl ax 30) := hf.got 14 (by decide) (by simp [hd])
    refine ⟨fun _ => ?_, fun h => absurd trivial h⟩
    have hG : HRad w3 cb (rowsOf G C) (p, g, o) [L 5, L 11, L 13, L 14, L 17] [sl ax 21, sl ax 27, sl ax 29, sl ax 30, sl ax 52] W := hf.glob
    obtain ⟨s30, e30⟩ := f30
    have e30' := slv e30
    have hRW := hR3.out.keep (hG.bel hLi)
    have h1 := hRW.c0
    have h2 := frozen_of_row W cb 0 _ _ hRW.ob
    have hH := hG.put (by simp [hd]) hLi e30
    refine freeI_store (W' := W.setCell ⟨cb, 0, none⟩ s30.v) rfl ?_ trivial hH
    go_simp
  ·intro vs w4 hl' hF hG
   obtain ⟨g', hg1, hg2⟩ := vs_litI vs hl' hF
   obtain ⟨sx, w5, hb5, ho5, hw4⟩ := hG.1 rfl
   have hA : Asd (fun k => k = cb) w3 w4 := by
    rw [hw4]
    exact (below_fresh hb5 _).trans (asd_set w5 ⟨cb, 0, none⟩ sx.v)
   have hrow64 := hA.row hcb6 hrow6
   have hrow144 := hA.row (Ne.symm hcb4) hrow13
   have hth4 := hA.there (Ne.symm hcb4) hb4w hth3
   have hob5 := (hb5.block cb (by omega)).trans hR3.out.ob
   have ho4 : OwnC w4 w3.heap.size 68 sx.v (rowsOf G C ++ [(p, g, o)]).length (flatC rA (rowsOf G C ++ [(p, g, o)])) := by
    rw [hw4]
    exact OwnC.off ho5 (asd_set w5 ⟨cb, 0, none⟩ sx.v) fun g hg e => by
     have h1 := (OwnC.lt ho5 g hg).1
     have h2 : g = cb := e
     omega
   have hob4 : w4.heap[cb]? = some (.cells #[sx.v] 69 (0, 0)) := by
    rw [hw4]
    exact heap_set w5 cb 0 _ _ sx.v hob5
   have hBW4 : Below w0.heap.size w0 w4 := hR3.out.bel.trans (hA.below hR3.out.bel.size fun k _ hk => by
    have h1 : k = cb := hk
    rw [h1]
    exact hR3.out.cbl)
   obtain ⟨rb', cap', hge, hR4⟩ := hR3.out.grow (b := ⟨p, h, o⟩) (by omega) hri.out hBW4 ho4 hob4
   have hrb' : rb' ≠ b4 := by omega
   have hge2 : W.heap.size ≤ rb' := by have := hB3.size; omega
   have hfin := Lib.hid (show ∃ rb' cap' G', (rb' = rb ∨ W.heap.size ≤ rb') ∧ RefC w0 (putRow w4 b4 0 (pointA p)) cb rb' cap' G' (chAdd C h) by
    rw [hadd.out]
    exact ⟨rb', cap', G ++ [g], .inr hge2, hput _ _ _ _ _ hR4 hrb'⟩)
   have hfA := Lib.hid (show Asd (fun k => k = cb) W (putRow w4 b4 0 (pointA p)) from ((below_fresh hB3 _).trans hA).trans' (asd_put w4 b4 0 (pointA p)) fun k hk e => by
    have h1 : k = b4 := e
    omega)
   rw [hg1]
   simp only [List.length_cons, List.length_nil, Nat.reduceAdd, show List.range 18 = [0, 1, 2, 3, 4, 5, 6, 7, 8, 9, 10, 11, 12, 13, 14, 15, 16, 17] from rfl, List.map_cons, List.map_nil, slotsIn, putL, List.setIfInBounds_toArray, List.set_cons_succ, List.set_cons_zero, List.size_toArray, Nat.reduceLT, if_true, if_false]
   clear hg1 hg2 hG hF hl' hb5 ho5 hw4 hA hob5 ho4 hob4 hBW4 hR4 hrb' hpar3 HAt hR3 hB3 hrow3 hrow13 hth3 hrow6
   go_wp2_with (with_reducible refine ret_row2 Try.isAgg26 Try.sizeOf26 radd_res (x := .pointer (some ⟨b4, 0, none⟩)) (y := .int .i64 0) (b4) 0 ?rrhx (Eq.refl _) ?rrhy ?rrh ?rrhd ?rrhR; (case rrhx => simp only [Array.getD_eq_getD_getElem?, List.getElem?_toArray, List.getElem?_cons_succ, List.getElem?_cons_zero, Option.getD_some]); (case rrhy => simp only [Array.getD_eq_getD_getElem?, List.getElem?_toArray, List.getElem?_cons_succ, List.getElem?_cons_zero, Option.getD_some]); (case rrhd => exact rfl); (case rrh => go_simp); (case rrhR => (exact ⟨(by go_simp), hfin.out, hfA.out⟩)))
 ·have hadd : Hid (chAdd C h = C) := Lib.hid (by
   unfold chAdd
   rw [← hpk.out, if_neg hk])
  have hk0 : (k == 0) = false := by simp [hk]
  have hfin := Lib.hid (show ∃ rb' cap' G', (rb' = rb ∨ W.heap.size ≤ rb') ∧ RefC w0 (putRow w3 b4 0 (pointA p)) cb rb' cap' G' (chAdd C h) by
   rw [hadd.out]
   exact ⟨rb, cap, G, .inl rfl, hput _ _ _ _ _ hR3.out hrb4⟩)
  have hfA := Lib.hid (show Asd (fun k => k = cb) W (putRow w3 b4 0 (pointA p)) from below_fresh (below_put hB3 hWb4 _ _) _)
  clear hk hR3 hrow3 hput hB3
  go_wp2_with (with_reducible refine ret_row2 Try.isAgg26 Try.sizeOf26 radd_res (x := .pointer (some ⟨b4, 0, none⟩)) (y := .int .i64 k) (b4) 0 ?rrhx (Eq.refl _) ?rrhy ?rrh ?rrhd ?rrhR; (case rrhx => simp only [Array.getD_eq_getD_getElem?, List.getElem?_toArray, List.getElem?_cons_succ, List.getElem?_cons_zero, Option.getD_some]); (case rrhy => simp only [Array.getD_eq_getD_getElem?, List.getElem?_toArray, List.getElem?_cons_succ, List.getElem?_cons_zero, Option.getD_some]); (case rrhd => exact rfl); (case rrh => go_simp); (case rrhR => (exact ⟨(by go_simp), hfin.out, hfA.out⟩)))
end Go.Proofs.Ythdjhbiigmcecaa

/- Contract: the document's Much (landmarkref10). -/
namespace Go.Proofs.Ythdjhbiigmcecaa
open Go.RowKit

def sigBig (v : Vote) : Bool := decide (5000 < v.sig.length)
def opBig (o : Op) : Bool := decide (4 < o.evidence.length) || o.evidence.any sigBig
def rmuch (h : Hdr) : Bool := decide (30 < h.ops.length) || h.ops.any opBig
theorem rmuch_out {h : Hdr} (hm : rmuch h = false) : HdrFits h ∧ h.ops.length ≤ 30 := by
 simp only [rmuch, Bool.or_eq_false_iff, decide_eq_false_iff_not, List.any_eq_false, opBig, Bool.not_eq_true] at hm
 obtain ⟨h1, h2⟩ := hm
 refine ⟨⟨by omega, fun o ho => ⟨?_, fun v hv => ?_⟩⟩, by omega⟩
 ·have := (h2 o ho).1
  omega
 ·have := (h2 o ho).2 v hv
  simp only [sigBig, decide_eq_false_iff_not] at this
  omega
theorem any_snoc {α : Type} (p : α → Bool) (l : List α) (k : Nat) (h : k < l.length) : (l.take (k + 1)).any p = ((l.take k).any p || p l[k]) := by
 rw [List.take_succ_eq_append_getElem h, List.any_append]
 simp
theorem any_hit {α : Type} (p : α → Bool) (l : List α) (k : Nat) (h : k < l.length) (hp : p l[k] = true) : l.any p = true := List.any_eq_true.2 ⟨_, List.getElem_mem h, hp⟩
set_option maxRecDepth 100000 in
set_option maxHeartbeats 3200000 in
theorem rmuch_c (g : GHeader) (h : Hdr) (w : World) (hr : HdrR w g h) :
  Calls Try.prog 40 #[.agg (headerA g)] w fun e w' => e = .returned (.bool (rmuch h)) ∧ Below w.heap.size w w' := by
 have n1 := hr.2.2.1
 have hB0 : Below w.heap.size w (w.alloc (.cells (headerA g) 49)) := bel_a _ _
 have hrow : row? (w.alloc (.cells (headerA g) 49)) w.heap.size 0 34 = some (headerA g) := by rw [row?_new]; simp
 have Hr := Lib.hid (hr.keep' hB0).2.2
 have HM := Lib.hid (show rmuch h = (decide (30 < h.ops.length) || h.ops.any opBig) from rfl)
 obtain ⟨gp, ge, ⟨oa, on, oc⟩⟩ := g
 simp only at n1
 subst n1
 clear hr
 go_enter Try.func40, Try.ntmps40
 go_upto_region 1 with fail
 generalize w.alloc (.cells (headerA ⟨gp, ge, ⟨oa, h.ops.length, oc⟩⟩) 49) = W0 at *
 have c33 := cell_of_row? hrow 33 (by omega)
 simp only [Nat.zero_add, headerA_ops] at c33
 dsimp only [Sl.v] at c33
 clear hrow
 by_cases s1 : (30 : Int) < (h.ops.length : Int)
 ·have hf := Lib.hid (show rmuch h = true by rw [HM.out, decide_eq_true (by omega)]; rfl)
  go_wp2_with fail
  go_ret
  exact ⟨ret_bool hf.out.symm, hB0⟩
 have HM := Lib.hid (show rmuch h = h.ops.any opBig by rw [HM.out, decide_eq_false (by omega), Bool.false_or])
 go_wp2_with fail
 go_loop [3] (fun i => ∃ k : Nat, k ≤ h.ops.length ∧ Hid ((h.ops.take k).any opBig = false) ∧ i = .int .i64 k) (fun i => h.ops.length - (intOf i).toNat)
 case atStart => exact ⟨0, Nat.zero_le _, Lib.hid rfl, rfl⟩
 case round =>
  obtain ⟨k, hk, hu, rfl⟩ := hrel
  by_cases hkx : k < h.ops.length
  ·obtain ⟨bo, oo, e, hbo, hco⟩ := (Hr.out).at (by omega)
   have e1 := congrArg Sl.a e
   simp only at e1
   subst e1
   clear e
   obtain ⟨cs, hcx, g1, rfl, hv1⟩ := hco k hkx
   clear hco
   have Hsn := Lib.hid (any_snoc opBig h.ops k hkx)
   have Hhit := Lib.hid (any_hit opBig h.ops k hkx)
   generalize h.ops[k] = o at *
   have n2 := hv1.2.2.2.2.1
   have Hev := Lib.hid hv1.2.2.2.2
   obtain ⟨gk, gkey, gst, gv, ⟨ea, en, ec⟩⟩ := g1
   simp only at n2
   subst n2
   have c35 := cell_of_row? hcx 35 (by omega)
   rw [opA_evidence] at c35
   dsimp only [Sl.v] at c35
   have Hob := Lib.hid (show opBig o = (decide (4 < o.evidence.length) || o.evidence.any sigBig) from rfl)
   have k1 : (k : Int) < (h.ops.length : Int) := by omega
   clear hcx hv1
   by_cases s2 : (4 : Int) < (o.evidence.length : Int)
   ·have hf := Lib.hid (show rmuch h = true by rw [HM.out]; exact Hhit.out (by rw [Hob.out, decide_eq_true (by omega)]; rfl))
    go_wp2_with fail
    go_ret
    exact ⟨ret_bool hf.out.symm, hB0⟩
   have Hob := Lib.hid (show opBig o = o.evidence.any sigBig by rw [Hob.out, decide_eq_false (by omega), Bool.false_or])
   go_wp2_with fail
   go_loop [4] (fun j => ∃ m : Nat, m ≤ o.evidence.length ∧ Hid ((o.evidence.take m).any sigBig = false) ∧ j = .int .i64 m) (fun j => o.evidence.length - (intOf j).toNat)
   case atStart => exact ⟨0, Nat.zero_le _, Lib.hid rfl, rfl⟩
   case round =>
    obtain ⟨m, hm, hv, rfl⟩ := hrel
    by_cases hmx : m < o.evidence.length
    ·obtain ⟨be, oe, e, hbe, hce⟩ := (Hev.out).at (by omega)
     have e1 := congrArg Sl.a e
     simp only at e1
     subst e1
     clear e
     obtain ⟨cs, hcx, g2, rfl, hv2⟩ := hce m hmx
     clear hce
     have Hsm := Lib.hid (any_snoc sigBig o.evidence m hmx)
     have Hhm := Lib.hid (any_hit sigBig o.evidence m hmx)
     generalize o.evidence[m] = v at *
     have n3 := hv2.2.2.2.1
     obtain ⟨gv2, gs2, gt2, ⟨pa, pn, pc⟩⟩ := g2
     simp only at n3
     subst n3
     have c67 := cell_of_row? hcx 67 (by omega)
     rw [voteA_sig] at c67
     dsimp only [Sl.v] at c67
     have Hsb := Lib.hid (show sigBig v = decide (5000 < v.sig.length) from rfl)
     have m1 : (m : Int) < (o.evidence.length : Int) := by omega
     clear hcx hv2
     by_cases s3 : (5000 : Int) < (v.sig.length : Int)
     ·have hf := Lib.hid (show rmuch h = true by rw [HM.out]; exact Hhit.out (by rw [Hob.out]; exact Hhm.out (by rw [Hsb.out]; exact decide_eq_true (by omega))))
      go_wp2_with fail
      go_ret
      exact ⟨ret_bool hf.out.symm, hB0⟩
     ·have hs := Lib.hid (show sigBig v = false by rw [Hsb.out]; exact decide_eq_false (by omega))
      go_wp2_with fail
      go_round
      case rel => exact ⟨m + 1, by omega, Lib.hid (by rw [Hsm.out, hv.out, hs.out]; rfl), by go_num⟩
      case measure => simp [intOf]; omega
    ·obtain rfl : o.evidence.length = m := by omega
     have hob := Lib.hid (show opBig o = false by rw [Hob.out]; have := hv.out; rwa [List.take_length] at this)
     go_wp2_with fail
     go_round
     case rel => exact ⟨k + 1, by omega, Lib.hid (by rw [Hsn.out, hu.out, hob.out]; rfl), by go_num⟩
     case measure => simp [intOf]; omega
  ·obtain rfl : h.ops.length = k := by omega
   have hf := Lib.hid (show rmuch h = false by rw [HM.out]; have := hu.out; rwa [List.take_length] at this)
   go_wp2_with fail
   go_ret
   exact ⟨ret_bool hf.out.symm, hB0⟩
end Go.Proofs.Ythdjhbiigmcecaa

/- Acts in memory; landmarklaw10.few. -/
namespace Go.Proofs.Ythdjhbiigmcecaa
open Go.RowKit

/-- a header that is added; under another one's, if under is true -/
structure Act where
 h : Hdr
 under : Bool
 n : Int
structure GAct where
 g : GHeader
 under : Bool
 n : Int
def actA (x : GAct) : Array Value := headerA x.g ++ #[.bool x.under, .int .i64 x.n]
def ActR (w : World) (x : GAct) (a : Act) : Prop := HdrR w x.g a.h ∧ x.under = a.under ∧ x.n = a.n
def ActC (w : World) (cs : Array Value) (a : Act) : Prop := ∃ x, cs = actA x ∧ ActR w x a
abbrev ActsR (w : World) (s : Sl) (l : List Act) : Prop := SlR 36 (ActC w) w s l
theorem ActsR.keep' {w w' : World} {s : Sl} {l : List Act} (h : ActsR w s l) (hb : Below w.heap.size w w') : ActsR w' s l :=
 SlR.keep h hb fun _ _ ⟨x, e, h1, h2⟩ => ⟨x, e, h1.keep' hb, h2⟩
theorem act_cells {W : World} {b o : Nat} {x : GAct} (h : row? W b o 36 = some (actA x)) : row? W b o 34 = some (headerA x.g) ∧ W.cell? ⟨b, o + 34, none⟩ = some (.bool x.under) ∧ W.cell? ⟨b, o + 35, none⟩ = some (.int .i64 x.n) := by
 have h1 := row_part h 0 34 (by omega)
 have h2 := cell_of_row? h 34 (by omega)
 have h3 := cell_of_row? h 35 (by omega)
 have e1 : (actA x).extract 0 34 = headerA x.g := by
  simp [actA, Array.extract_append, ext_self, ext_none]
 have e2 : (actA x)[34]? = some (.bool x.under) := by
  unfold actA
  rw [Array.getElem?_append_right (by simp)]
  simp
 have e3 : (actA x)[35]? = some (.int .i64 x.n) := by
  unfold actA
  rw [Array.getElem?_append_right (by simp)]
  simp
 rw [Nat.add_zero, Nat.zero_add, e1] at h1
 rw [e2] at h2
 rw [e3] at h3
 exact ⟨h1, h2, h3⟩
def fewA (l : List Act) (most : Int) : Bool := (l.all fun a => !rmuch a.h) && decide ((l.length : Int) ≤ most)
theorem fewA_out {l : List Act} {most : Int} (h : fewA l most = true) : (∀ a ∈ l, HdrFits a.h ∧ a.h.ops.length ≤ 30) ∧ (l.length : Int) ≤ most := by
 simp only [fewA, Bool.and_eq_true, decide_eq_true_eq, List.all_eq_true, Bool.not_eq_true'] at h
 exact ⟨fun a ha => rmuch_out (h.1 a ha), h.2⟩
set_option maxRecDepth 100000 in
set_option maxHeartbeats 1600000 in
theorem fewA_c {w : World} {s : Sl} {l : List Act} (h : ActsR w s l) (hl : l.length ≤ 9223372036854775807) (most : Int) :
  Calls Try.prog 30 #[s.v, .int .i64 most] w fun e w' => e = .returned (.bool (fewA l most)) ∧ Below w.heap.size w w' := by
 obtain ⟨sa, sn, sc⟩ := s
 obtain rfl : sn = l.length := h.1
 have hs := Lib.hid h
 clear h
 dsimp only [Sl.v]
 go_enter Try.func30, Try.ntmps30
 go_wp2_with fail
 go_loopw [5] (fun i w' => ∃ k : Nat, k ≤ l.length ∧ Hid ((l.take k).all (fun a => !rmuch a.h) = true) ∧ i = .int .i64 k ∧ Below w.heap.size w w') (fun i _ => l.length - (intOf i).toNat)
 case atStart => exact ⟨0, Nat.zero_le _, Lib.hid (by simp), rfl, Below.refl _ _⟩
 case round =>
  obtain ⟨k, hk, hb, rfl, hB⟩ := hrel
  have hz := hB.size
  by_cases hkx : k < l.length
  ·obtain ⟨bl, off, e, hbs, hc⟩ := (hs.out.keep' hB).at (by omega)
   have e1 := congrArg Sl.a e
   simp only at e1
   subst e1
   clear e
   obtain ⟨cs, hcx, x, rfl, hx, -⟩ := hc k hkx
   clear hc
   obtain ⟨hrw, -, -⟩ := act_cells hcx
   have hat := Lib.hid (all_take_succ (fun a : Act => !rmuch a.h) l k hkx)
   have haf := Lib.hid (all_false (fun a : Act => !rmuch a.h) l k hkx)
   have HM := rmuch_c x.g l[k].h wr hx
   generalize l[k] = a at *
   have k0 : (0 : Int) ≤ (k : Int) := by omega
   have k1 : (k : Int) < (l.length : Int) := by omega
   clear hcx
   obtain ⟨m, hm⟩ : ∃ m, m = rmuch a.h := ⟨_, rfl⟩
   rw [← hm] at HM
   go_wp2_with fail
   (with_reducible refine HM.mono ?_)
   clear HM
   rintro e w2 ⟨rfl, hb1⟩
   have hB1 : Below w.heap.size w w2 := hB.trans (hb1.mono hz)
   cases m
   ·have Hm := Lib.hid hm.symm
    clear hm
    go_wp2_with fail
    go_roundw
    case rel => exact ⟨k + 1, by omega, Lib.hid (by rw [hat.out, hb.out, Hm.out]; rfl), by go_num, hB1⟩
    case measure => simp [intOf]; omega
   ·have Hf := Lib.hid (show fewA l most = false by
     unfold fewA
     rw [haf.out (by rw [← hm]; rfl)]
     rfl)
    clear hm
    go_wp2_with fail
    go_ret
    exact ⟨ret_bool Hf.out.symm, hB1⟩
  ·have Hf := Lib.hid (show fewA l most = decide ((l.length : Int) ≤ most) by
    have h1 := hb.out
    rw [List.take_of_length_le (by omega)] at h1
    unfold fewA
    rw [h1, Bool.true_and])
   go_wp2_with fail
   all_goals go_ret
   all_goals exact ⟨ret_bool (by rw [Hf.out] <;> first | rfl | (simp_all; done) | (simp; omega)), hB⟩
end Go.Proofs.Ythdjhbiigmcecaa

/- The last region of chain.Add: the list of blocks and the map, in any order. -/
namespace Go.Proofs.Ythdjhbiigmcecaa
open Go.RowKit

/-- a block that is nobody's is changed -/
theorem ChM.scratch {B : Nat} {T : Nat → Nat} {W W' : World} {cb : Nat} {sA : Sl} {mb : Nat} {G : List GB} {C : List Blk} {U : List (List Nat)} {ch : Nat → List Nat} {N : List Hash} (h : ChM B T W cb sA mb G C U ch N) {s : Nat} (hs : T s = 4 + 2 * C.length) (hA : Asd (fun k => k = s) W W') : ChM B T W' cb sA mb G C U ch N ∧ Asd (Mut T) W W' := by
 have hO : Asd (Mut T) W W' := hA.mono fun k _ e => by
  have e' : k = s := e
  subst e'
  unfold Mut
  omega
 have hn : ∀ k, T k ≠ 4 + 2 * C.length → ¬ (k = s) := fun k hk e => hk (e ▸ hs)
 have hM' : ∀ P : World → Prop, Safe (Mut T) W P → Safe (Mut T) W' P := fun P hp => hp.step hO fun _ _ h => h
 refine ⟨⟨hA.row (hn _ (by rw [h.tcb]; omega)) h.row, hA.there (hn _ (by rw [h.tcb]; omega)) h.lt h.thr, h.tcb, h.all.off hA fun g hg => hn g (by rw [h.tall g hg]; omega), h.tall, h.map.of_block (hA.block _ h.map.lt (hn _ (by rw [h.tmap]; omega))), h.tmap, fun k hk ht => ?_, Nat.le_trans h.hB hO.size, h.glen, h.ulen, fun i x b hx hb => ?_⟩, hO⟩
 ·rcases Nat.lt_or_ge k W.heap.size with hlt | hge
  ·exact h.tB k hlt ht
  ·exact Nat.le_trans h.hB hge
 ·have hk := h.blk i x b hx hb
  have hi := (List.getElem?_eq_some_iff.1 hb).1
  have n1 := hn x.b (by rw [hk.tb]; omega)
  exact ⟨hA.row n1 hk.row, hA.there n1 hk.lt hk.thr, hk.ob.imp fun _ h => h.imp fun _ h => (hA.block _ hk.lt n1).trans h, hk.tb, hM' _ hk.hdr, hM' _ hk.up, hk.ch.off hA fun g hg => hn g (by rw [hk.tc g hg]; omega), hk.tc⟩
/-- which operations are done, what they yielded: 0 the literal, 1 the append, 2 the list's store, 3 the map's entry, 4 its number, 5 the entry's store -/
structure HFin (B : Nat) (W0 : World) (cb mb bx n : Nat) (sA : Sl) (G : List GB) (x : GB) (N : List Hash) (nm : Hash) (L : List Bool) (V : List Value) (w : World) : Prop where
 asd : Asd (fun k => k = cb ∨ k = mb ∨ sA.v.ownBlock = some k) W0 w
 bas : B ≤ W0.heap.size ∧ cb < W0.heap.size ∧ mb < W0.heap.size ∧ cb ≠ mb ∧ sA.v.ownBlock ≠ some cb ∧ sA.v.ownBlock ≠ some mb ∧ (∀ g, sA.v.ownBlock = some g → g < W0.heap.size) ∧ x.b = bx ∧ n = N.length
 lit' : L.getD 0 false = true → ∃ (a : Nat) (t : TypeId), V.getD 0 undef = .slice (some ⟨a, 0, none⟩) 1 1 ∧ W0.heap.size ≤ a ∧ w.heap[a]? = some (.cells #[ptrV bx] t (0, 0))
 lst0 : L.getD 1 false = false → OwnC w B 1 sA.v G.length (flatC ptrA G)
 lst1 : L.getD 1 false = true → ∃ s' : Sl, V.getD 1 undef = s'.v ∧ OwnC w B 1 s'.v (G ++ [x]).length (flatC ptrA (G ++ [x])) ∧ (s'.v.ownBlock = sA.v.ownBlock ∨ ∃ k, s'.v.ownBlock = some k ∧ W0.heap.size ≤ k)
 row : row? w cb 0 2 = some #[if L.getD 2 false then V.getD 1 undef else sA.v, .map (some mb)]
 thr : there w cb 0 2
 imp : L.getD 2 false = true → L.getD 1 false = true
 map0 : L.getD 3 false = false → MapHv w mb (idxs N)
 map1 : L.getD 3 false = true → L.getD 5 false = false → ∃ st : Nat, V.getD 3 undef = .tuple #[.int .i64 0, .int .i64 (st : Int)] ∧ MapEnt w mb (idxs N) nm st
 num : L.getD 4 false = true → L.getD 3 false = true ∧ ∃ st : Nat, V.getD 3 undef = .tuple #[.int .i64 0, .int .i64 (st : Int)] ∧ V.getD 4 undef = .int .i64 (st : Int)
 map2 : L.getD 5 false = true → L.getD 3 false = true ∧ MapHv w mb (idxs N ++ [(nm, .int .i64 (n : Int))])
section
variable {B : Nat} {W0 : World} {cb mb bx n : Nat} {sA : Sl} {G : List GB} {x : GB} {N : List Hash} {nm : Hash} {l0 l1 l2 l3 l4 l5 : Bool} {v0 v1 v2 v3 v4 v5 : Value} {w w' : World}
theorem HFin.c1 (h : HFin B W0 cb mb bx n sA G x N nm [l0, l1, l2, l3, l4, l5] [v0, v1, v2, v3, v4, v5] w) : w.cell? ⟨cb, 1, none⟩ = some (.map (some mb)) := by
 have := cell_of_row? h.row 1 (by omega)
 simpa using this
theorem HFin.c0 (h : HFin B W0 cb mb bx n sA G x N nm [l0, l1, l2, l3, l4, l5] [v0, v1, v2, v3, v4, v5] w) (hl : l2 = false) : w.cell? ⟨cb, 0, none⟩ = some sA.v := by
 subst hl
 have := cell_of_row? h.row 0 (by omega)
 simpa using this
theorem HFin.fz (h : HFin B W0 cb mb bx n sA G x N nm [l0, l1, l2, l3, l4, l5] [v0, v1, v2, v3, v4, v5] w) : w.frozen? ⟨cb, 0, none⟩ = false := (h.thr 0 (by omega)).2
/-- fresh memory alone is made -/
theorem HFin.grow {L : List Bool} {V : List Value} (h : HFin B W0 cb mb bx n sA G x N nm L V w) (hb : Below w.heap.size w w') : HFin B W0 cb mb bx n sA G x N nm L V w' := by
 have hm : mb < w.heap.size := Nat.lt_of_lt_of_le h.bas.2.2.1 h.asd.size
 have hc : cb < w.heap.size := Nat.lt_of_lt_of_le h.bas.2.1 h.asd.size
 refine ⟨h.asd.trans (below_fresh hb _), h.bas, fun hl => ?_, fun hl => (h.lst0 hl).keep hb, fun hl => ?_, (row?_below _ _ _ hb hc).trans h.row, there_below hb hc h.thr, h.imp, fun hl => (h.map0 hl).keep hb hm, fun hl hl2 => ?_, h.num, fun hl => ⟨(h.map2 hl).1, (h.map2 hl).2.keep hb hm⟩⟩
 ·obtain ⟨a, t, q1, q2, q3⟩ := h.lit' hl
  exact ⟨a, t, q1, q2, (hb.block a (Array.getElem?_eq_some_iff.1 q3).1).trans q3⟩
 ·obtain ⟨s', q1, q2, q3⟩ := h.lst1 hl
  exact ⟨s', q1, q2.keep hb, q3⟩
 ·obtain ⟨st, q1, q2⟩ := h.map1 hl hl2
  exact ⟨st, q1, q2.of_block (hb.block mb hm)⟩
theorem HFin.lit (h : HFin B W0 cb mb bx n sA G x N nm [l0, l1, l2, l3, l4, l5] [v0, v1, v2, v3, v4, v5] w) {t : TypeId} : HFin B W0 cb mb bx n sA G x N nm [true, l1, l2, l3, l4, l5] [.slice (some ⟨w.heap.size, 0, none⟩) 1 1, v1, v2, v3, v4, v5] (w.alloc (.cells #[ptrV bx] t)) := by
 have h' := h.grow (bel_a w (.cells #[ptrV bx] t))
 exact ⟨h'.asd, h'.bas, fun _ => ⟨_, t, rfl, h.asd.size, heap_alloc_new w _⟩, h'.lst0, h'.lst1, h'.row, h'.thr, h'.imp, h'.map0, h'.map1, h'.num, h'.map2⟩
theorem HFin.app (h : HFin B W0 cb mb bx n sA G x N nm [l0, l1, l2, l3, l4, l5] [v0, v1, v2, v3, v4, v5] w) (hl0 : l0 = true) (hl1 : l1 = false) (hl2 : l2 = false) (hG : G.length ≤ 1000000) {a : Nat} (hv : v0 = .slice (some ⟨a, 0, none⟩) 1 1) :
  ∃ (s' : Sl) (w' : World), (appP #[sA.v, .slice (some ⟨a, 0, none⟩) 1 1]).run Try.prog w = .ok s'.v w' ∧ HFin B W0 cb mb bx n sA G x N nm [l0, true, l2, l3, l4, l5] [v0, s'.v, v2, v3, v4, v5] w' := by
 subst hl0 hl1 hl2
 obtain ⟨a', t, q1, q2, q3⟩ := h.lit' rfl
 have q1' : v0 = .slice (some ⟨a', 0, none⟩) 1 1 := q1
 obtain rfl : a = a' := by
  rw [hv] at q1'
  injection q1' with e1
  injection e1 with e1
  injection e1
 obtain ⟨hB, hcl, hml, hcm, hoc, hom, hol, hxb, hn⟩ := h.bas
 rw [← hxb] at q3
 obtain ⟨s', w', e1, e2, e3, e4⟩ := app_box (h.lst0 rfl) (Nat.le_trans hB h.asd.size) hG x a q3
 have hA : Asd (fun k => k = cb ∨ k = mb ∨ sA.v.ownBlock = some k) w w' := (asd_grown e3).mono fun k _ e => .inr (.inr e)
 have hm := Nat.lt_of_lt_of_le hml h.asd.size
 have hc := Nat.lt_of_lt_of_le hcl h.asd.size
 have nc : ¬ (sA.v.ownBlock = some cb) := hoc
 have nm' : ¬ (sA.v.ownBlock = some mb) := hom
 refine ⟨s', w', e1, h.asd.trans hA, h.bas, fun _ => ⟨a, t, hv, q2, ?_⟩, fun hl => (by cases hl), fun _ => ⟨s', rfl, e2, e4.imp id fun e => ⟨_, e, h.asd.size⟩⟩, ?_, ?_, fun _ => rfl, fun hl => ?_, fun hl hl2 => ?_, h.num, fun hl => ?_⟩
 ·rw [← hxb]
  refine ((asd_grown e3).block a (Array.getElem?_eq_some_iff.1 q3).1 fun e => ?_).trans q3
  have := hol a e
  omega
 ·exact (asd_grown e3).row nc h.row
 ·exact (asd_grown e3).there nc hc h.thr
 ·exact (h.map0 hl).of_block ((asd_grown e3).block mb hm nm')
 ·obtain ⟨st, r1, r2⟩ := h.map1 hl hl2
  exact ⟨st, r1, r2.of_block ((asd_grown e3).block mb hm nm')⟩
 ·exact ⟨(h.map2 hl).1, (h.map2 hl).2.of_block ((asd_grown e3).block mb hm nm')⟩
theorem HFin.put (h : HFin B W0 cb mb bx n sA G x N nm [l0, l1, l2, l3, l4, l5] [v0, v1, v2, v3, v4, v5] w) (hl1 : l1 = true) (hl2 : l2 = false) {s : Sl} (hv : v1 = s.v) :
  HFin B W0 cb mb bx n sA G x N nm [l0, l1, true, l3, l4, l5] [v0, v1, undef, v3, v4, v5] (w.setCell ⟨cb, 0, none⟩ s.v) := by
 subst hl1 hl2
 obtain ⟨hB, hcl, hml, hcm, hoc, hom, hol, hxb, hn⟩ := h.bas
 have hA := asd_set w ⟨cb, 0, none⟩ s.v
 have hm := Nat.lt_of_lt_of_le hml h.asd.size
 have nm' : ¬ (mb = cb) := fun e => hcm e.symm
 have hr := h.row
 refine ⟨h.asd.trans (hA.mono fun k _ e => .inl e), h.bas, fun hl => ?_, fun hl => (by cases hl), fun _ => ?_, ?_, there_set _ _ _ _ _ _ h.thr, fun _ => rfl, fun hl => (h.map0 hl).of_block (hA.block mb hm nm'), fun hl hl2 => ?_, h.num, fun hl => ⟨(h.map2 hl).1, (h.map2 hl).2.of_block (hA.block mb hm nm')⟩⟩
 ·obtain ⟨a, t, q1, q2, q3⟩ := h.lit' hl
  exact ⟨a, t, q1, q2, (hA.block a (Array.getElem?_eq_some_iff.1 q3).1 fun e => by
   have e' : a = cb := e
   omega).trans q3⟩
 ·obtain ⟨s', q1, q2, q3⟩ := h.lst1 rfl
  refine ⟨s', q1, OwnC.off q2 hA fun g hg e => ?_, q3⟩
  have e' : g = cb := e
  subst e'
  rcases q3 with q3 | ⟨k, q3, q4⟩
  ·rw [q3] at hg
   exact hoc hg
  ·rw [q3] at hg
   injection hg with hg
   omega
 ·rw [row?_set_in _ _ _ _ _ (by omega) (by rw [hr]; rfl), hr, Option.map_some]
  refine congrArg some ?_
  simp only [splice]
  apply Array.ext'
  simp [hv]
 ·obtain ⟨st, r1, r2⟩ := h.map1 hl hl2
  exact ⟨st, r1, r2.of_block (hA.block mb hm nm')⟩
theorem HFin.far (h : HFin B W0 cb mb bx n sA G x N nm [l0, l1, l2, l3, l4, l5] [v0, v1, v2, v3, v4, v5] w) (hg : w.grownBy w' (some mb)) :
  Asd (fun k => k = cb ∨ k = mb ∨ sA.v.ownBlock = some k) W0 w' ∧ (l0 = true → ∃ (a : Nat) (t : TypeId), v0 = .slice (some ⟨a, 0, none⟩) 1 1 ∧ W0.heap.size ≤ a ∧ w'.heap[a]? = some (.cells #[ptrV bx] t (0, 0))) ∧
  (l1 = false → OwnC w' B 1 sA.v G.length (flatC ptrA G)) ∧ (l1 = true → ∃ s' : Sl, v1 = s'.v ∧ OwnC w' B 1 s'.v (G ++ [x]).length (flatC ptrA (G ++ [x])) ∧ (s'.v.ownBlock = sA.v.ownBlock ∨ ∃ k, s'.v.ownBlock = some k ∧ W0.heap.size ≤ k)) ∧
  row? w' cb 0 2 = some #[if l2 then v1 else sA.v, .map (some mb)] ∧ there w' cb 0 2 := by
 obtain ⟨hB, hcl, hml, hcm, hoc, hom, hol, hxb, hn⟩ := h.bas
 have hA := (asd_grown hg).mono fun k _ (e : some mb = some k) => (show k = mb by injection e with e; exact e.symm)
 have hc := Nat.lt_of_lt_of_le hcl h.asd.size
 refine ⟨h.asd.trans (hA.mono fun k _ e => .inr (.inl e)), fun hl => ?_, fun hl => OwnC.off (h.lst0 hl) hA fun g hg' e => ?_, fun hl => ?_, hA.row hcm h.row, hA.there hcm hc h.thr⟩
 ·obtain ⟨a, t, q1, q2, q3⟩ := h.lit' hl
  exact ⟨a, t, q1, q2, (hA.block a (Array.getElem?_eq_some_iff.1 q3).1 fun e => by omega).trans q3⟩
 ·have e' : g = mb := e
  subst e'
  exact hom hg'
 ·obtain ⟨s', q1, q2, q3⟩ := h.lst1 hl
  refine ⟨s', q1, OwnC.off q2 hA fun g hg' e => ?_, q3⟩
  have e' : g = mb := e
  subst e'
  rcases q3 with q3 | ⟨k, q3, q4⟩
  ·rw [q3] at hg'
   exact hom hg'
  ·rw [q3] at hg'
   injection hg' with hg'
   omega
theorem HFin.ent (h : HFin B W0 cb mb bx n sA G x N nm [l0, l1, l2, l3, l4, l5] [v0, v1, v2, v3, v4, v5] w) (hl3 : l3 = false) (hl5 : l5 = false) (hnn : nm ∉ N) :
  ∃ (st : Nat) (w' : World), (Instr.mapEntry 116 (.map (some mb)) (hsV nm)).run Try.prog w = .ok (.tuple #[.int .i64 0, .int .i64 (st : Int)]) w' ∧ HFin B W0 cb mb bx n sA G x N nm [l0, l1, l2, true, l4, l5] [v0, v1, v2, .tuple #[.int .i64 0, .int .i64 (st : Int)], v4, v5] w' := by
 subst hl3 hl5
 obtain ⟨st, w', e1, e2, e3⟩ := entry_hv Try.underlying116 int_zero (h.map0 rfl) nm (by rw [idxs_keys]; exact hnn)
 obtain ⟨q1, q2, q3, q4, q5, q6⟩ := h.far e3
 refine ⟨st, w', e1, q1, h.bas, q2, q3, q4, q5, q6, h.imp, fun hl => (by cases hl), fun _ _ => ⟨st, rfl, e2⟩, fun hl => ?_, fun hl => (by cases hl)⟩
 have := (h.num hl).1
 cases this
theorem HFin.ext (h : HFin B W0 cb mb bx n sA G x N nm [l0, l1, l2, l3, l4, l5] [v0, v1, v2, v3, v4, v5] w) (hl3 : l3 = true) {st : Nat} (hv : v3 = .tuple #[.int .i64 0, .int .i64 (st : Int)]) (hl5 : l5 = false) :
  HFin B W0 cb mb bx n sA G x N nm [l0, l1, l2, l3, true, l5] [v0, v1, v2, v3, .int .i64 (st : Int), v5] w :=
 ⟨h.asd, h.bas, h.lit', h.lst0, h.lst1, h.row, h.thr, h.imp, h.map0, h.map1, fun _ => ⟨hl3, st, hv, rfl⟩, h.map2⟩
theorem HFin.sto (h : HFin B W0 cb mb bx n sA G x N nm [l0, l1, l2, l3, l4, l5] [v0, v1, v2, v3, v4, v5] w) (hl4 : l4 = true) (hl5 : l5 = false) {st : Nat} (hv : v4 = .int .i64 (st : Int)) :
  ∃ w' : World, (Instr.entryStore 116 (.map (some mb)) (.int .i64 (st : Int)) (.int .i64 (n : Int))).run Try.prog w = .ok () w' ∧ HFin B W0 cb mb bx n sA G x N nm [l0, l1, l2, l3, l4, true] [v0, v1, v2, v3, v4, undef] w' := by
 subst hl5
 obtain ⟨hl3, st', q1, q2⟩ := h.num hl4
 have hl3' : l3 = true := hl3
 subst hl3'
 have q2' : v4 = .int .i64 (st' : Int) := q2
 obtain rfl : st = st' := by
  rw [hv] at q2'
  injection q2' with _ e
  omega
 obtain ⟨st2, r1, r2⟩ := h.map1 rfl rfl
 obtain rfl : st = st2 := by
  have := q1.symm.trans r1
  injection this with e
  injection e with e
  simp at e
  omega
 obtain ⟨w', e1, e2, e3⟩ := entryStore_hv (t := 116) r2 (.int .i64 (n : Int))
 obtain ⟨p1, p2, p3, p4, p5, p6⟩ := h.far e3
 exact ⟨w', e1, p1, h.bas, p2, p3, p4, p5, p6, h.imp, fun hl => (by cases hl), fun _ hl => (by cases hl), h.num, fun _ => ⟨rfl, e2⟩⟩
end
end Go.Proofs.Ythdjhbiigmcecaa

/- A chain, read: back, Under, At. -/
namespace Go.Proofs.Ythdjhbiigmcecaa
open Go.RowKit

/-- a box's place -/
def boxAt (G : List GB) : Value → Nat
 | .pointer (some a) => (G.findIdx? fun x => decide (x.b = a.block)).getD 0
 | _ => 0
theorem boxAt_of {W : World} {cb ab ac mb : Nat} {G : List GB} {C : List Blk} (h : ChV W cb ab ac mb G C) {i : Nat} {x : GB} (hx : G[i]? = some x) : boxAt G (.pointer (some ⟨x.b, 0, none⟩)) = i := by
 obtain ⟨hi, he⟩ := List.getElem?_eq_some_iff.1 hx
 have : G.findIdx? (fun y => decide (y.b = x.b)) = some i := by
  refine List.findIdx?_eq_some_iff_getElem.2 ⟨hi, by rw [he]; simp, fun j hj => ?_⟩
  have hjl : j < G.length := by omega
  simp only [decide_eq_true_eq, Bool.not_eq_true]
  intro e
  have := h.inj j i _ _ (List.getElem?_eq_getElem hjl) hx e
  omega
 unfold boxAt
 simp only [this, Option.getD_some]
theorem ints_at {W : World} {s : Sl} {l : List Nat} (h : IntsR W s l) (hl : 0 < l.length) : ∃ b off, s = ⟨some ⟨b, off, none⟩, l.length, s.c⟩ ∧ b < W.heap.size ∧ ∀ (i : Nat) (hi : i < l.length), W.cell? ⟨b, off + i, none⟩ = some (.int .i64 ((l[i] : Nat) : Int)) := by
 obtain ⟨b, off, e, hb, hr⟩ := h.at hl
 refine ⟨b, off, e, hb, fun i hi => ?_⟩
 obtain ⟨cs, h1, rfl⟩ := hr i hi
 have := cell_of_row? h1 0 (by omega)
 rw [Nat.mul_one, Nat.add_zero] at this
 rw [this]
 rfl
set_option maxRecDepth 100000 in
set_option maxHeartbeats 1600000 in
theorem back_c {W : World} {cb ab ac mb : Nat} {G : List GB} {C : List Blk} (h : ChV W cb ab ac mb G C) (hok : ChnOk C) (e : UInt64) {i : Nat} {x : GB} (hx : G[i]? = some x) :
  Calls Try.prog 106 #[ptrV cb, ptrV x.b, .int .u64 (e.toNat : Int)] W fun e' w' => ∃ y, G[bk C e.toNat i]? = some y ∧ e' = .returned (ptrV y.b) ∧ Below W.heap.size W w' := by
 have hI := Lib.hid h
 have hO := Lib.hid hok
 have hM := Lib.hid (fun (j : Nat) (y : GB) (hy : G[j]? = some y) => boxAt_of h hy)
 have hgl := h.glen
 have hlen := hok.len
 clear h hok
 unfold ptrV
 go_enter Try.func106, Try.ntmps106
 go_upto_region 1 with fail
 go_step3
 go_wp2_with fail
 go_step3
 go_wp2_with fail
 go_loopw [1] (fun xv W' => ∃ (j : Nat) (y : GB), Hid (G[j]? = some y) ∧ Hid (bk C e.toNat j = bk C e.toNat i) ∧ xv = .pointer (some ⟨y.b, 0, none⟩) ∧ Hid (Below W.heap.size W W')) (fun xv _ => boxAt G xv)
 case atStart => exact ⟨i, x, Lib.hid hx, Lib.hid rfl, rfl, Lib.hid (Below.refl _ _)⟩
 case round =>
  obtain ⟨j, y, hy, hbk, rfl, hB⟩ := hrel
  have hjl : j < C.length := by rw [← hgl]; exact (List.getElem?_eq_some_iff.1 hy.out).1
  obtain ⟨b, hb⟩ : ∃ b, C[j]? = some b := ⟨_, List.getElem?_eq_getElem hjl⟩
  have hV := hI.out.keep hB.out
  obtain ⟨x0, xu, -, -, -, -⟩ := hV.cells hy.out hb
  have hep := epAt_of hb
  obtain ⟨u, hu⟩ : ∃ u, u = (ups C).getD j [] := ⟨_, rfl⟩
  have hul : (ups C)[j]? = some u := by
   rw [hu, List.getD_eq_getElem?_getD]
   have : j < (ups C).length := by rw [ups_length]; exact hjl
   rw [List.getElem?_eq_getElem this]
   rfl
  have hU := hV.up j y b hy.out hb
  rw [← hu] at hU
  have hn := hU.1
  obtain ⟨yb, yg, ⟨ua, un, uc⟩, yc⟩ := y
  simp only at hn x0 xu
  subst hn
  dsimp only [Sl.v] at xu
  have hule := ups_le hO.out hul
  have Hup := Lib.hid (fun (k q : Nat) (hq : u[k]? = some q) => ups_mem hO.out hul hq)
  have Hu0 := Lib.hid (ups_zero hO.out hul)
  have hx0 := Lib.hid x0
  have hep' := Lib.hid hep
  clear hep hul hu
  by_cases hlt : (e.toNat : Int) < (b.p.epoch.toNat : Int)
  ·generalize wr = wo at *
   have he1 := Lib.hid (show e.toNat < epAt C j by rw [hep'.out]; omega)
   go_upto_region 3 with fail
   go_loopw [1, 7] (fun p t W' => ∃ k : Int, p = .pointer (some ⟨yb, 0, none⟩) ∧ t = .int .i64 k ∧ -1 ≤ k ∧ k < (u.length : Int) ∧ (u.length = 0 ∨ 0 ≤ k) ∧ Hid (Below wo.heap.size wo W')) (fun _ t _ => (intOf t + 1).toNat)
   case atStart => exact ⟨(u.length : Int) - 1, rfl, by go_num, by omega, by omega, by omega, Lib.hid (Below.refl _ _)⟩
   case round =>
    obtain ⟨k, rfl, rfl, k1, k2, k3, hB2⟩ := hrel
    have hBw := Lib.hid (hB.out.trans (hB2.out.mono hB.out.size))
    by_cases hk : 0 ≤ k
    ·obtain ⟨n, rfl⟩ : ∃ n : Nat, k = (n : Int) := ⟨k.toNat, by omega⟩
     have hnl : n < u.length := by omega
     obtain ⟨bu, ou, e1, hbu, hcu⟩ := ints_at (SlR.keep hU hB2.out fun _ _ h => h) (by omega)
     have e2 := congrArg Sl.a e1
     simp only at e2
     subst e2
     clear e1
     have hcq := hcu n hnl
     clear hcu
     have hq := List.getElem?_eq_getElem hnl
     generalize u[n] = q at *
     obtain ⟨hqm, hqj⟩ := Hup.out n q hq
     have hql : q < C.length := by omega
     obtain ⟨bq, hbq⟩ : ∃ b, C[q]? = some b := ⟨_, List.getElem?_eq_getElem hql⟩
     have hV2 := hV.keep hB2.out
     obtain ⟨yq, hyq⟩ := hV2.box hbq
     obtain ⟨q0, -, -, -, -, -⟩ := hV2.cells hyq hbq
     have c0 := hV2.c0
     have ca := hV2.arr q yq hyq
     unfold ptrV at ca
     have hmq := Lib.hid (hM.out q yq hyq)
     have hmj := Lib.hid (hM.out j _ hy.out)
     have heq := epAt_of hbq
     have xu2 := (hB2.out.cell (p := ⟨yb, 67, none⟩) (lt_of_cell xu)).trans xu
     have q1 : (q : Int) < (C.length : Int) := by omega
     have q2 : (0 : Int) ≤ (q : Int) := by omega
     have n1 : (n : Int) < (u.length : Int) := by omega
     have f1 := fun m => show (wr.drewN m).cell? ⟨cb, 0, none⟩ = _ from c0
     have f2 := fun m => show (wr.drewN m).cell? ⟨yb, 67, none⟩ = _ from xu2
     have f3 := fun m => show (wr.drewN m).cell? ⟨bu, ou + n, none⟩ = _ from hcq
     have f4 := fun m => show (wr.drewN m).cell? ⟨ab, q, none⟩ = _ from ca
     have hyq' := Lib.hid hyq
     have hskip := Lib.hid (fun (hh : e.toNat < epAt C q) => bk_skip hO.out hh j hqm)
     have hpar := Lib.hid (fun (hh : parAt C j = some q) => bk_par hO.out hh he1.out)
     have hz : n = 0 → parAt C j = some q := fun hn => by rw [← Hu0.out, ← hn]; exact hq
     have hz := Lib.hid hz
     have hB2' := Lib.hid hB2.out
     clear hV2 hyq hq hqm hcq c0 ca xu2 hB2 x0 xu
     go_upto_region 5 with fail
     go_quiet (fail)
     have q0' : (wr.drewN nq).cell? ⟨yq.b, 0, none⟩ = some (.int .u64 (bq.p.epoch.toNat : Int)) := q0
     clear q0 f1 f2 f3 f4
     have hBn := Lib.hid (below_drewN hBw.out nq)
     have hB2n := Lib.hid (below_drewN hB2'.out nq)
     generalize wr.drewN nq = w2 at *
     by_cases hgt : (e.toNat : Int) < (bq.p.epoch.toNat : Int)
     ·have hnew := Lib.hid (show bk C e.toNat q = bk C e.toNat i from (hskip.out (by rw [heq]; omega)).symm.trans hbk.out)
      go_wp2_with fail
      exact ⟨⟨q, yq, hyq', hnew, rfl, hBn⟩, by rw [hmq.out]; exact Nat.lt_of_lt_of_eq hqj hmj.out.symm⟩
     ·by_cases hn0 : n = 0
      ·have hnew := Lib.hid (show bk C e.toNat q = bk C e.toNat i from (hpar.out (hz.out hn0)).symm.trans hbk.out)
       subst hn0
       go_wp2_with fail
       exact ⟨⟨q, yq, hyq', hnew, rfl, hBn⟩, by rw [hmq.out]; exact Nat.lt_of_lt_of_eq hqj hmj.out.symm⟩
      ·have hn1 : ¬ ((n : Int) = 0) := by omega
       go_wp2_with fail
       exact ⟨⟨(n : Int) - 1, rfl, rfl, by omega, by omega, by omega, hB2n⟩, by first | (simp [intOf]; done) | (simp [intOf]; omega)⟩
    ·have hul0 : u.length = 0 := by omega
     have hnone : parAt C j = none := by rw [← Hu0.out]; exact List.getElem?_eq_none (by omega)
     have hr := Lib.hid (show bk C e.toNat i = j from hbk.out.symm.trans (bk_root hnone))
     clear hnone
     go_wp2_with fail
     go_ret
     exact ⟨_, by rw [hr.out]; exact hy.out, rfl, hBw.out⟩
  ·have hr := Lib.hid (show bk C e.toNat i = j from hbk.out.symm.trans (bk_le (by rw [hep'.out]; omega)))
   go_wp2_with fail
   go_ret
   exact ⟨_, by rw [hr.out]; exact hy.out, rfl, hB.out⟩
theorem chfind_any {W0 : World} {cb ab ac mb : Nat} {G : List GB} {C : List Blk} (h0 : ChV W0 cb ab ac mb G C) (hp : 0 < C.length) (n : Hash) : ∃ (v : Value) (k : Int), (k = 0 → ∃ i x, chAt C n = some i ∧ G[i]? = some x ∧ v = ptrV x.b) ∧ (k ≠ 0 → chAt C n = none ∧ v = .pointer none ∧ k = 6) ∧
  ∀ W, ChV W cb ab ac mb G C → Calls Try.prog 105 #[ptrV cb, .agg (hashA n)] W fun e w' => e = .returned (.tuple #[v, .int .i64 k]) ∧ Below W.heap.size W w' := by
 cases hi : chAt C n with
 | none => exact ⟨.pointer none, 6, fun h => by omega, fun _ => ⟨rfl, rfl, rfl⟩, fun W h => chfind_none h hi hp⟩
 | some i =>
  obtain ⟨b, hb, -⟩ := chAt_some hi
  obtain ⟨x, hx⟩ := h0.box hb
  exact ⟨ptrV x.b, 0, fun _ => ⟨i, x, rfl, hx, rfl⟩, fun h => absurd rfl h, fun W h => chfind_some h hi hx⟩
def chAtE (C : List Blk) (n : Hash) (e : UInt64) : Pt × Int :=
 match chAt C n with
 | none => (zeroPt, 6)
 | some i => if e.toNat < epAt C 0 then (zeroPt, 6) else (((C[bk C e.toNat i]?).map (·.p)).getD zeroPt, 0)
theorem chat_res : Try.f48.results = #[.cell 6 26, .tmp 7] := by kernel_rfl
set_option maxRecDepth 100000 in
set_option maxHeartbeats 1600000 in
theorem chat_c {W : World} {cb ab ac mb : Nat} {G : List GB} {C : List Blk} (h : ChV W cb ab ac mb G C) (hok : ChnOk C) (n : Hash) (e : UInt64) :
  Calls Try.prog 48 #[ptrV cb, .agg (hashA n), .int .u64 (e.toNat : Int)] W fun r w' => r = .returned (.tuple #[.agg (pointA (chAtE C n e).1), .int .i64 (chAtE C n e).2]) ∧ Below W.heap.size W w' := by
 have hp := hok.pos
 have hB0 : Below W.heap.size W ((W.alloc (.cells (hashA n) 24)).alloc (.cells (pointA zeroPt) 26)) := by (repeat' (first | (with_reducible first | exact Below.refl _ _ | assumption | refine bel_trans (by assumption) ?_ ?_ | refine bel_grown (by assumption) ?_ ?_ ?_ | refine Below.alloc ?_ ?_ _ | refine Below.drew ?_ | refine below_drewN ?_ _ | refine Below.setCell ?_ ?_ _ | refine below_put ?_ ?_ _ _ | exact Nat.le_refl _) | omega | (with_reducible first | refine Nat.le_trans ?_ (Below.size (by assumption)) | refine Nat.le_trans ?_ (World.grownBy.size (by assumption))) | (simp only [World.size_alloc, World.size_setCell, World.size_drew, size_drewN]; omega) | (simp only [World.size_alloc, World.size_setCell, World.size_drew, size_drewN, size_put]; omega) | (intro k hk; simp [Value.ownBlock] at hk; first | done | omega) | (simp [size_drewN] at *; omega)))
 have hz0 : ((W.alloc (.cells (hashA n) 24)).alloc (.cells (pointA zeroPt) 26)).heap.size = W.heap.size + 2 := by simp
 have hrow0 : row? ((W.alloc (.cells (hashA n) 24)).alloc (.cells (pointA zeroPt) 26)) W.heap.size 0 32 = some (hashA n) := by rw [row?_old _ _ _ _ _ (by simp), row?_new]; simp
 have hrow1 : row? ((W.alloc (.cells (hashA n) 24)).alloc (.cells (pointA zeroPt) 26)) (W.heap.size + 1) 0 33 = some (pointA zeroPt) := by rw [row?_new_at _ _ _ _ _ _ (by simp)]; simp
 have hth : there ((W.alloc (.cells (hashA n) 24)).alloc (.cells (pointA zeroPt) 26)) (W.heap.size + 1) 0 33 := there_new_at _ _ _ _ _ _ (by simp) (by simp)
 have h0 := Lib.hid (h.keep hB0)
 have hbl := Lib.hid (fun (i : Nat) (x : GB) (b : Blk) (hx : G[i]? = some x) (hb : C[i]? = some b) => h.blt hx hb)
 clear h
 obtain ⟨p, k, hpk⟩ : ∃ p k, (p, k) = chAtE C n e := ⟨_, _, rfl⟩
 rw [← hpk]
 replace hpk := Lib.hid hpk
 obtain ⟨v1, k1, s1, t1, HF1⟩ := chfind_any h0.out hp n
 unfold ptrV
 go_enter Try.func48, Try.ntmps48
 go_upto_region 1 with fail
 generalize (W.alloc (.cells (hashA n) 24)).alloc (.cells (pointA zeroPt) 26) = w0 at *
 have HF1 := HF1 w0 h0.out
 unfold ptrV at HF1
 go_wp2_with fail
 refine HF1.mono ?_
 clear HF1
 rintro r w1 ⟨rfl, hb1⟩
 have hz1 := hb1.size
 have h1 := Lib.hid (h0.out.keep hb1)
 have hB1 := hB0.trans (hb1.mono (by omega))
 have hrow11 := (row?_below _ _ _ hb1 (by omega)).trans hrow1
 have hth1 := there_below hb1 (by omega) hth
 obtain ⟨b2, hb2⟩ : ∃ b2, b2 = W.heap.size + 1 := ⟨_, rfl⟩
 rw [← hb2] at hrow11 hth1 ⊢
 have hbw : W.heap.size < b2 := by omega
 have hbw1 : b2 < w1.heap.size := by omega
 clear hB0 hb1 hrow0 hrow1 h0 hth
 replace hb2 := Lib.hid hb2
 by_cases e1 : k1 = 0
 ·obtain ⟨i, x, hi, hx, rfl⟩ := s1 e1
  subst e1
  clear s1 t1
  unfold ptrV
  obtain ⟨b0, hb0⟩ : ∃ b, C[0]? = some b := ⟨_, List.getElem?_eq_getElem hp⟩
  obtain ⟨x0, hx0⟩ := h1.out.box hb0
  obtain ⟨y0, -, -, -, -, -⟩ := h1.out.cells hx0 hb0
  have c0 := h1.out.c0
  have ca := h1.out.arr 0 x0 hx0
  unfold ptrV at ca
  have p0 : (0 : Int) < (C.length : Int) := by omega
  have hE : chAtE C n e = if e.toNat < epAt C 0 then (zeroPt, 6) else (((C[bk C e.toNat i]?).map (·.p)).getD zeroPt, 0) := by unfold chAtE; rw [hi]
  rw [epAt_of hb0] at hE
  by_cases hlt : (e.toNat : Int) < (b0.p.epoch.toNat : Int)
  ·rw [if_pos (by omega)] at hE
   rw [hE] at hpk
   obtain ⟨rfl, rfl⟩ : p = zeroPt ∧ k = 6 := by
    have := hpk.out
    injection this with a b
    exact ⟨a, b⟩
   clear hpk hE h1 hi hx
   go_wp2_with (with_reducible refine ret_row2 Try.isAgg26 Try.sizeOf26 chat_res (x := .pointer (some ⟨b2, 0, none⟩)) (y := .int .i64 6) (b2) 0 ?rrhx (Eq.refl _) ?rrhy ?rrh ?rrhd ?rrhR; (case rrhx => simp only [Array.getD_eq_getD_getElem?, List.getElem?_toArray, List.getElem?_cons_succ, List.getElem?_cons_zero, Option.getD_some]); (case rrhy => simp only [Array.getD_eq_getD_getElem?, List.getElem?_toArray, List.getElem?_cons_succ, List.getElem?_cons_zero, Option.getD_some]); (case rrhd => exact rfl); (case rrh => go_simp); (case rrhR => ((refine ⟨?_, ?_⟩; (case refine_1 => (go_simp; done)); (case refine_2 => ((repeat' (first | (with_reducible first | exact Below.refl _ _ | assumption | refine bel_trans (by assumption) ?_ ?_ | refine bel_grown (by assumption) ?_ ?_ ?_ | refine Below.alloc ?_ ?_ _ | refine Below.drew ?_ | refine below_drewN ?_ _ | refine Below.setCell ?_ ?_ _ | refine below_put ?_ ?_ _ _ | exact Nat.le_refl _) | omega | (with_reducible first | refine Nat.le_trans ?_ (Below.size (by assumption)) | refine Nat.le_trans ?_ (World.grownBy.size (by assumption))) | (simp only [World.size_alloc, World.size_setCell, World.size_drew, size_drewN]; omega) | (simp only [World.size_alloc, World.size_setCell, World.size_drew, size_drewN, size_put]; omega) | (intro k hk; simp [Value.ownBlock] at hk; first | done | omega) | (simp [size_drewN] at *; omega)))))))))
  ·rw [if_neg (by omega)] at hE
   obtain ⟨bm, hbm⟩ : ∃ bm, C[bk C e.toNat i]? = some bm := by
    have := pth_lt (chAt_lt hi) (bk_mem (C := C) e.toNat i)
    exact ⟨_, List.getElem?_eq_getElem this⟩
   rw [hbm] at hE
   rw [hE] at hpk
   obtain ⟨rfl, rfl⟩ : p = bm.p ∧ k = 0 := by
    have := hpk.out
    injection this with a b
    exact ⟨a, b⟩
   have HB := back_c h1.out hok e hx
   have h1' := h1
   unfold ptrV at HB
   clear hpk hE hi hx h1
   go_wp2_with fail
   refine HB.mono ?_
   clear HB
   rintro r w3 ⟨z, hz, rfl, hb3⟩
   have hB3 := hB1.trans (hb3.mono (by omega))
   obtain ⟨-, -, -, rp, -, -⟩ := (h1'.out.keep hb3).cells hz hbm
   have hrow13 := (row?_below _ _ _ hb3 hbw1).trans hrow11
   have hth3 := there_below hb3 hbw1 hth1
   have hne : z.b ≠ b2 := by
    have := hbl.out _ _ _ hz hbm
    omega
   have hBp : Below W.heap.size W (putRow w3 b2 0 (pointA bm.p)) := below_put hB3 (by omega) _ _
   clear hb3 hB1 h1' hz hbm c0 ca y0
   go_wp2_with (with_reducible refine ret_row2 Try.isAgg26 Try.sizeOf26 chat_res (x := .pointer (some ⟨b2, 0, none⟩)) (y := .int .i64 0) (b2) 0 ?rrhx (Eq.refl _) ?rrhy ?rrh ?rrhd ?rrhR; (case rrhx => simp only [Array.getD_eq_getD_getElem?, List.getElem?_toArray, List.getElem?_cons_succ, List.getElem?_cons_zero, Option.getD_some]); (case rrhy => simp only [Array.getD_eq_getD_getElem?, List.getElem?_toArray, List.getElem?_cons_succ, List.getElem?_cons_zero, Option.getD_some]); (case rrhd => exact rfl); (case rrh => go_simp); (case rrhR => ((refine ⟨?_, ?_⟩; (case refine_1 => (go_simp; done)); (case refine_2 => (first | exact hBp | ((repeat' (first | (with_reducible first | exact Below.refl _ _ | assumption | refine bel_trans (by assumption) ?_ ?_ | refine bel_grown (by assumption) ?_ ?_ ?_ | refine Below.alloc ?_ ?_ _ | refine Below.drew ?_ | refine below_drewN ?_ _ | refine Below.setCell ?_ ?_ _ | refine below_put ?_ ?_ _ _ | exact Nat.le_refl _) | omega | (with_reducible first | refine Nat.le_trans ?_ (Below.size (by assumption)) | refine Nat.le_trans ?_ (World.grownBy.size (by assumption))) | (simp only [World.size_alloc, World.size_setCell, World.size_drew, size_drewN]; omega) | (simp only [World.size_alloc, World.size_setCell, World.size_drew, size_drewN, size_put]; omega) | (intro k hk; simp [Value.ownBlock] at hk; first | done | omega) | (simp [size_drewN] at *; omega))))))))))
 ·obtain ⟨hi, rfl, rfl⟩ := t1 e1
  have hE : chAtE C n e = (zeroPt, 6) := by unfold chAtE; rw [hi]
  rw [hE] at hpk
  obtain ⟨rfl, rfl⟩ : p = zeroPt ∧ k = 6 := by
   have := hpk.out
   injection this with a b
   exact ⟨a, b⟩
  clear hE hpk h1 s1 t1
  go_wp2_with (with_reducible refine ret_row2 Try.isAgg26 Try.sizeOf26 chat_res (x := .pointer (some ⟨b2, 0, none⟩)) (y := .int .i64 6) (b2) 0 ?rrhx (Eq.refl _) ?rrhy ?rrh ?rrhd ?rrhR; (case rrhx => simp only [Array.getD_eq_getD_getElem?, List.getElem?_toArray, List.getElem?_cons_succ, List.getElem?_cons_zero, Option.getD_some]); (case rrhy => simp only [Array.getD_eq_getD_getElem?, List.getElem?_toArray, List.getElem?_cons_succ, List.getElem?_cons_zero, Option.getD_some]); (case rrhd => exact rfl); (case rrh => go_simp); (case rrhR => ((refine ⟨?_, ?_⟩; (case refine_1 => (go_simp; done)); (case refine_2 => ((repeat' (first | (with_reducible first | exact Below.refl _ _ | assumption | refine bel_trans (by assumption) ?_ ?_ | refine bel_grown (by assumption) ?_ ?_ ?_ | refine Below.alloc ?_ ?_ _ | refine Below.drew ?_ | refine below_drewN ?_ _ | refine Below.setCell ?_ ?_ _ | refine below_put ?_ ?_ _ _ | exact Nat.le_refl _) | omega | (with_reducible first | refine Nat.le_trans ?_ (Below.size (by assumption)) | refine Nat.le_trans ?_ (World.grownBy.size (by assumption))) | (simp only [World.size_alloc, World.size_setCell, World.size_drew, size_drewN]; omega) | (simp only [World.size_alloc, World.size_setCell, World.size_drew, size_drewN, size_put]; omega) | (intro k hk; simp [Value.ownBlock] at hk; first | done | omega) | (simp [size_drewN] at *; omega)))))))))
end Go.Proofs.Ythdjhbiigmcecaa
