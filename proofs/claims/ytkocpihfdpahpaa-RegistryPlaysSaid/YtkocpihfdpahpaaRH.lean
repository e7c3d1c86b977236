/- Texts of this proof, one behind the other: RfA, RfB, RfC, FreeB. -/
import Derived.Test.YtkocpihfdpahpaaRA
import Derived.Test.YtkocpihfdpahpaaRB
import Derived.Test.YtkocpihfdpahpaaQA
import Derived.Deep.QuietTactic
import Derived.BigQuiet
import Derived.Test.YtkocpihfdpahpaaRC
import Derived.Deep.CutRange
import Derived.Deep.RegionHeld3
set_option linter.unusedVariables false
set_option linter.unusedSimpArgs false
/- Contracts of the document's layer 11: Votes, Stake, Total, Find, times, others; the law's few. -/
namespace Go.Proofs.Ytkocpihfdpahpaa
open Go.RowKit

theorem hash_guard_r : Try.prog.eqGuardType Try.prog.depth 24 = false := by kernel_rfl
set_option maxRecDepth 100000 in
theorem rvotes_c (m : Mbr) (w : World) : Calls Try.prog 73 #[.agg (mbrA m)] w fun e w' => e = .returned (.bool (votes m.status)) ∧ Below w.heap.size w w' := by
  have hr : row? (w.alloc (.cells (mbrA m) 123)) w.heap.size 0 35 = some (mbrA m) := by rw [row?_new]; exact (if_pos (by simp)).trans (congrArg some (ext_self _ _ (by simp)))
  obtain ⟨-, -, q2, -⟩ := mbr_cells hr
  simp only [Nat.zero_add] at q2
  have hB : Below w.heap.size w (w.alloc (.cells (mbrA m) 123)) := bel_a _ _
  clear hr
  obtain ⟨mk, mst, s, mm⟩ := m
  simp only at q2 ⊢
  have hV := Lib.hid (show votes s = (decide (s = 2) || decide (s = 3)) from rfl)
  go_enter Try.func73, Try.ntmps73
  go_upto_region 1 with fail
  generalize w.alloc (.cells (mbrA ⟨mk, mst, s, mm⟩) 123) = W at *
  by_cases h2 : s = 2
  · subst h2
    go_wp2_with fail
    go_ret
    exact ⟨ret_bool (by rw [hV.out]; rfl), hB⟩
  · have b2 : (s == 2) = false := by simp [h2]
    have d2 := Lib.hid (show decide (s = 2) = false by simp [h2])
    by_cases h3 : s = 3
    · subst h3
      clear h2
      go_wp2_with fail
      go_ret
      exact ⟨ret_bool (by rw [hV.out]; rfl), hB⟩
    · have b3 : (s == 3) = false := by simp [h3]
      have d3 := Lib.hid (show decide (s = 3) = false by simp [h3])
      clear h2 h3
      go_wp2_with fail
      go_ret
      exact ⟨ret_bool (by rw [hV.out, d2.out, d3.out]; rfl), hB⟩
theorem findFrom_none {k : Hash} : ∀ (l : List Mbr) (i : Nat), (∀ m ∈ l, m.key ≠ k) → findFrom k l i = 0 := fun l i h => find_none k l i (by
  rw [Bool.eq_false_iff]
  intro hk
  obtain ⟨j, m, h1, h2⟩ := (keyIn_iff _ _).1 hk
  exact h m (mem_get.2 ⟨j, h1⟩) h2)
set_option maxRecDepth 100000 in
set_option maxHeartbeats 1600000 in
theorem rfind_c {w : World} {g : GReg} {l : List Mbr} (h : MbrsR w g.members l) (hl : l.length ≤ 1000000) (k : Hash) :
    Calls Try.prog 76 #[.agg (regA g), .agg (hashA k)] w fun e w' => e = .returned (.int .i64 (findI k l)) ∧ Below w.heap.size w w' := by
  obtain ⟨_, r0, r1, r2, r3⟩ := reg_new w g 103
  have hB : Below w.heap.size w ((w.alloc (.cells (regA g) 103)).alloc (.cells (hashA k) 24)) := by (repeat' (first | (with_reducible exact Below.refl _ _) | (with_reducible assumption) | (with_reducible refine bel_trans (by assumption) ?_ ?_) | (with_reducible refine bel_grown (by assumption) ?_ ?_ ?_) | (with_reducible refine Below.alloc ?_ ?_ _) | (with_reducible refine Below.drew ?_) | (with_reducible refine below_drewN ?_ _) | (with_reducible refine Below.setCell ?_ ?_ _) | (with_reducible refine below_put ?_ ?_ _ _) | (with_reducible exact Nat.le_refl _) | omega | (with_reducible refine Nat.le_trans ?_ (Below.size (by assumption))) | (with_reducible refine Nat.le_trans ?_ (World.grownBy.size (by assumption))) | (simp only [World.size_alloc, World.size_setCell, World.size_drew, size_drewN]; omega) | (simp only [World.size_alloc, World.size_setCell, World.size_drew, size_drewN, size_put]; omega) | (intro k hk; simp [Value.ownBlock] at hk; done) | (intro k hk; simp [Value.ownBlock] at hk; omega) | (simp [size_drewN] at *; omega)))
  have hk : row? ((w.alloc (.cells (regA g) 103)).alloc (.cells (hashA k) 24)) (w.heap.size + 1) 0 32 = some (hashA k) := by
    rw [row?_new_at _ _ _ _ _ _ (by simp)]; simp
  have hz : ((w.alloc (.cells (regA g) 103)).alloc (.cells (hashA k) 24)).heap.size = w.heap.size + 2 := by simp
  have HM := Lib.hid (SlR.keep h hB fun _ _ h => h)
  have n1 := h.1
  clear r1 r2 r3 h
  obtain ⟨⟨sa, sn, sc⟩, gc, gg, gch⟩ := g
  simp only at r0 n1
  subst n1
  dsimp only [Sl.v] at r0
  go_enter Try.func76, Try.ntmps76
  go_upto_region 1 with fail
  have r0' : ((w.alloc (.cells (regA ⟨⟨sa, l.length, sc⟩, gc, gg, gch⟩) 103)).alloc (.cells (hashA k) 24)).cell? ⟨w.heap.size, 0, none⟩ = some (.slice sa l.length sc) := by
    rw [cell_alloc, if_neg (by simp)]; exact r0
  generalize (w.alloc (.cells (regA ⟨⟨sa, l.length, sc⟩, gc, gg, gch⟩) 103)).alloc (.cells (hashA k) 24) = W at *
  clear r0
  have hg := hash_guard_r
  have hF := Lib.hid (show findI k l = findFrom k l 0 from rfl)
  have hw0 : ∃ n : Nat, W = W.drewN n := ⟨0, rfl⟩
  go_upto_region 2 with fail
  go_loopw [5] (fun i W' => ∃ (n j : Nat), n ≤ l.length ∧ i = .int .i64 n ∧ W' = W.drewN j ∧ Hid (∀ m ∈ l.take n, m.key ≠ k)) (fun i _ => l.length - (intOf i).toNat)
  case atStart => exact ⟨0, 0, Nat.zero_le _, rfl, rfl, Lib.hid (fun m hm => absurd hm (by simp))⟩
  case round =>
    obtain ⟨n, j, hn, rfl, rfl, hno⟩ := hrel
    have hb0 : W.drewN j = W.drewN j := rfl
    by_cases hnx : n < l.length
    · obtain ⟨bm, om, em, hbm, hrm, _⟩ := mbrs_at HM.out (by omega)
      have e1 := congrArg Sl.a em
      simp only at e1
      subst e1
      clear em
      have hrow := hrm n hnx
      clear hrm
      have hget := Lib.hid (List.getElem?_eq_getElem hnx)
      have htk := Lib.hid (List.take_succ_eq_append_getElem hnx)
      generalize l[n] = m at *
      obtain ⟨qk, -, -, -⟩ := mbr_cells hrow
      have R1 := fun a => (show row? (W.drewN a) bm (om + n * 35) 32 = some (hashA m.key) from qk)
      have R2 := fun a => (show row? (W.drewN a) (w.heap.size + 1) 0 32 = some (hashA k) from hk)
      have R3 := fun a => (show (W.drewN a).cell? ⟨w.heap.size, 0, none⟩ = some (.slice (some ⟨bm, om, none⟩) l.length sc) from r0')
      have n1 : (n : Int) < (l.length : Int) := by omega
      have n0 : (0 : Int) ≤ (n : Int) := by omega
      have x1 : IntKind.i64.wrap ((n : Int) + 1) = n + 1 := IntWalk.i64_in _ (by omega)
      have hns := Lib.hid (show n + 1 ≤ l.length from hnx)
      have R2' := fun a => (show row? (W.drewN a) (w.heap.size + 1) 0 32 = some (hashA k) from hk)
      clear qk hrow hbm hw0
      by_cases he : m.key = k
      · have Hr := Lib.hid (show findI k l = (n : Int) + 1 by
          rw [hF.out, find_hit k l 0 n m hget.out he (by
            rw [Bool.eq_false_iff]
            intro hki
            obtain ⟨i, x, h1, h2⟩ := (keyIn_iff _ _).1 hki
            exact hno.out x (mem_get.2 ⟨i, h1⟩) h2), Nat.zero_add])
        have be : (m.key == k) = true := by simp [he]
        have de : decide (m.key = k) = true := by simp [he]
        rw [he] at R1
        clear he hno
        go_upto_region 4 with fail
        go_quiet (fail)
        go_wp2_with fail
        go_ret
        exact ⟨ret_int Hr.out.symm, by (repeat' (first | (with_reducible exact Below.refl _ _) | (with_reducible assumption) | (with_reducible refine bel_trans (by assumption) ?_ ?_) | (with_reducible refine bel_grown (by assumption) ?_ ?_ ?_) | (with_reducible refine Below.alloc ?_ ?_ _) | (with_reducible refine Below.drew ?_) | (with_reducible refine below_drewN ?_ _) | (with_reducible refine Below.setCell ?_ ?_ _) | (with_reducible refine below_put ?_ ?_ _ _) | (with_reducible exact Nat.le_refl _) | omega | (with_reducible refine Nat.le_trans ?_ (Below.size (by assumption))) | (with_reducible refine Nat.le_trans ?_ (World.grownBy.size (by assumption))) | (simp only [World.size_alloc, World.size_setCell, World.size_drew, size_drewN]; omega) | (simp only [World.size_alloc, World.size_setCell, World.size_drew, size_drewN, size_put]; omega) | (intro k hk; simp [Value.ownBlock] at hk; done) | (intro k hk; simp [Value.ownBlock] at hk; omega) | (simp [size_drewN] at *; omega)))⟩
      · have hn2 := Lib.hid (show ∀ x ∈ l.take (n + 1), x.key ≠ k by
          rw [htk.out]
          intro x hx
          rcases List.mem_append.1 hx with hx | hx
          · exact hno.out x hx
          · rw [List.mem_singleton] at hx
            subst hx
            exact he)
        have be : (m.key == k) = false := beq_eq_false_iff_ne.2 he
        have de : decide (m.key = k) = false := decide_eq_false he
        clear he hno hget htk
        go_upto_region 4 with fail
        go_quiet (fail)
        go_wp2_with fail
        go_roundw
        case rel => exact ⟨n + 1, _, hns.out, by go_num, rfl, hn2⟩
        case measure =>
          have := hns.out
          simp [intOf]
          omega
    · obtain rfl : l.length = n := by omega
      have Hr := Lib.hid (show findI k l = 0 by
        rw [hF.out]
        refine findFrom_none l 0 fun x hx => hno.out x ?_
        rw [List.take_length]
        exact hx)
      have R3 := (show (W.drewN j).cell? ⟨w.heap.size, 0, none⟩ = some (.slice sa l.length sc) from r0')
      have i1 : ¬ (l.length : Int) < (l.length : Int) := by omega
      clear hno hw0
      go_wp2_with fail
      go_ret
      exact ⟨ret_int Hr.out.symm, by (repeat' (first | (with_reducible exact Below.refl _ _) | (with_reducible assumption) | (with_reducible refine bel_trans (by assumption) ?_ ?_) | (with_reducible refine bel_grown (by assumption) ?_ ?_ ?_) | (with_reducible refine Below.alloc ?_ ?_ _) | (with_reducible refine Below.drew ?_) | (with_reducible refine below_drewN ?_ _) | (with_reducible refine Below.setCell ?_ ?_ _) | (with_reducible refine below_put ?_ ?_ _ _) | (with_reducible exact Nat.le_refl _) | omega | (with_reducible refine Nat.le_trans ?_ (Below.size (by assumption))) | (with_reducible refine Nat.le_trans ?_ (World.grownBy.size (by assumption))) | (simp only [World.size_alloc, World.size_setCell, World.size_drew, size_drewN]; omega) | (simp only [World.size_alloc, World.size_setCell, World.size_drew, size_drewN, size_put]; omega) | (intro k hk; simp [Value.ownBlock] at hk; done) | (intro k hk; simp [Value.ownBlock] at hk; omega) | (simp [size_drewN] at *; omega)))⟩
end Go.Proofs.Ytkocpihfdpahpaa

/- Contracts of the document's layer 11: times, May. -/
namespace Go.Proofs.Ytkocpihfdpahpaa
open Go.RowKit

theorem count_snoc (l : List Int) (n : Int) (k : Nat) (h : k < l.length) : (l.take (k + 1)).count n = (l.take k).count n + if l[k] = n then 1 else 0 := by
  rw [List.take_succ_eq_append_getElem h, List.count_append, List.count_singleton]
  simp [beq_iff_eq]
theorem stN_snoc (s : Int) (ms : List Mbr) (k : Nat) (h : k < ms.length) : stN s (ms.take (k + 1)) = stN s (ms.take k) + if ms[k].status = s then 1 else 0 := by
  unfold stN
  rw [List.take_succ_eq_append_getElem h, List.countP_append, List.countP_singleton]
  simp
set_option maxRecDepth 100000 in
set_option maxHeartbeats 1600000 in
theorem times_c {w : World} {s : Sl} {l : List Int} (h : NumsR w s l) (hl : l.length ≤ 1000000) (n : Int) :
    Calls Try.prog 128 #[s.v, .int .i64 n] w fun e w' => e = .returned (.int .i64 (timesN l n : Nat)) ∧ w = w' := by
  have n1 := h.1
  have HH := Lib.hid h
  obtain ⟨sa, sn, sc⟩ := s
  simp only at n1
  subst n1
  clear h
  have HT := Lib.hid (show timesN l n = l.count n from rfl)
  show Calls Try.prog 128 #[.slice sa l.length sc, .int .i64 n] w _
  go_enter Try.func128, Try.ntmps128
  go_upto_region 3 with fail
  go_loop [5, 6] (fun c i => ∃ k : Nat, k ≤ l.length ∧ c = .int .i64 ((l.take k).count n : Nat) ∧ i = .int .i64 k) (fun _ i => l.length - (intOf i).toNat)
  case atStart => exact ⟨0, Nat.zero_le _, rfl, rfl⟩
  case round =>
    obtain ⟨k, hk, rfl, rfl⟩ := hrel
    by_cases hkx : k < l.length
    · obtain ⟨b, off, e, hb, hc⟩ := nums_at HH.out (by omega)
      have e1 := congrArg Sl.a e
      simp only at e1
      subst e1
      clear e
      have hck := hc k hkx
      clear hc
      have Hs := Lib.hid (count_snoc l n k hkx)
      have hcl : (l.take k).count n ≤ k := Nat.le_trans List.count_le_length (List.length_take_le _ _)
      generalize l[k] = x at *
      obtain ⟨C, hC⟩ : ∃ C, C = (l.take k).count n := ⟨_, rfl⟩
      rw [← hC] at Hs hcl ⊢
      clear hC
      have k1 : (k : Int) < (l.length : Int) := by omega
      have x1 : IntKind.i64.wrap ((k : Int) + 1) = k + 1 := IntWalk.i64_in _ (by omega)
      have x2 : IntKind.i64.wrap ((C : Int) + 1) = C + 1 := IntWalk.i64_in _ (by omega)
      have hks := Lib.hid (show k + 1 ≤ l.length from hkx)
      by_cases hx : x = n
      · subst hx
        clear hkx hcl hk
        have Hs2 := Lib.hid (show (l.take (k + 1)).count x = C + 1 by rw [Hs.out, if_pos rfl])
        clear Hs
        go_wp2_with fail
        go_round
        case rel => exact ⟨k + 1, hks.out, by rw [Hs2.out]; go_num, by go_num⟩
        case measure =>
          have := hks.out
          simp [intOf]
          omega
      · have bx : (x == n) = false := beq_eq_false_iff_ne.2 hx
        have Hs2 := Lib.hid (show (l.take (k + 1)).count n = C by rw [Hs.out, if_neg hx]; rfl)
        clear Hs hx hkx hcl hk
        go_wp2_with fail
        go_round
        case rel => exact ⟨k + 1, hks.out, by rw [Hs2.out], by go_num⟩
        case measure =>
          have := hks.out
          simp [intOf]
          omega
    · obtain rfl : l.length = k := by omega
      have k1 : ¬ (l.length : Int) < (l.length : Int) := by omega
      go_wp2_with fail
      go_ret
      exact ⟨ret_int (by rw [HT.out]), rfl⟩
theorem keyIn_none {l : List Mbr} {k : Nat} {q : Hash} (h : ∀ (j : Nat) (x : Mbr), j < k → l[j]? = some x → x.key ≠ q) : keyIn q (l.take k) = false := by
  rw [Bool.eq_false_iff]
  intro hk
  obtain ⟨i, m, h1, h2⟩ := (keyIn_iff _ _).1 hk
  have hlt := lt_of_get h1
  rw [List.length_take] at hlt
  rw [List.getElem?_take_of_lt (by omega)] at h1
  exact h i m (by omega) h1 h2
theorem keyIn_hit {l : List Mbr} {k j : Nat} {q : Hash} {x : Mbr} (h : l[j]? = some x) (hj : j < k) (he : x.key = q) : keyIn q (l.take k) = true :=
  (keyIn_iff _ _).2 ⟨j, x, by rw [List.getElem?_take_of_lt hj]; exact h, he⟩
def inN (s : Int) (v : Int) : Nat := if v = s then 1 else 0
theorem refOk_at {r : Reg} {k : Nat} {m : Mbr} (h : r.members[k]? = some m) : refOk r k = ((stakeOk m.stake && stOk m.status) && !keyIn m.key (r.members.take k) && (decide (timesN r.coming ((k : Int) + 1) = inN 1 m.status) && decide (timesN r.going ((k : Int) + 1) = inN 3 m.status))) := by
  rw [refOk, getD_of h]
  rfl
set_option maxRecDepth 100000 in
set_option maxHeartbeats 6400000 in
theorem rMay_c {w : World} {g : GReg} {r : Reg} (h : RegR w g r) (hm : r.members.length ≤ 1000000) (hc : r.coming.length ≤ 1000000) (hgo : r.going.length ≤ 1000000) :
    Calls Try.prog 57 #[.agg (regA g)] w fun e w' => e = .returned (.bool (refMay r)) ∧ Below w.heap.size w w' := by
  have HB0 := RBox.new w g r 103 h
  have hB0 := Lib.hid (show Below w.heap.size w (w.alloc (.cells (regA g) 103)) from bel_a _ _)
  have n2 := h.1.1
  have n3 := h.2.1.1
  have n4 := h.2.2.1.1
  have hch := h.2.2.2
  clear h
  obtain ⟨⟨ma, mn, mc⟩, ⟨ca, cn, cc⟩, ⟨ga, gn, gcc⟩, gch⟩ := g
  simp only at n2 n3 n4 hch
  subst n2 n3 n4 hch
  have HM := Lib.hid (show refMay r = ((decide (r.members.length ≤ 64) && churnOk r.churn) && upto (refOk r) r.members.length && ((r.members.any fun m => decide (m.status = 2)) && decide (r.coming.length = stN 1 r.members) && decide (r.going.length = stN 3 r.members))) from rfl)
  have hck := Lib.hid (show churnOk r.churn = decide (1 ≤ r.churn.toNat ∧ r.churn.toNat ≤ 4611686018427387904) from rfl)
  have hlt : w.heap.size < (w.alloc (.cells (regA ⟨⟨ma, r.members.length, mc⟩, ⟨ca, r.coming.length, cc⟩, ⟨ga, r.going.length, gcc⟩, r.churn⟩) 103)).heap.size := by simp
  go_enter Try.func57, Try.ntmps57
  go_upto_region 1 with fail
  generalize w.alloc (.cells (regA ⟨⟨ma, r.members.length, mc⟩, ⟨ca, r.coming.length, cc⟩, ⟨ga, r.going.length, gcc⟩, r.churn⟩) 103) = W0 at *
  obtain ⟨c0, c1, c2, c3, _⟩ := HB0.cells
  simp only at c0 c1 c2 c3
  dsimp only [Sl.v] at c0 c1 c2
  have HR := Lib.hid HB0
  clear HB0
  obtain ⟨chn, hchn⟩ : ∃ x, x = r.churn.toNat := ⟨_, rfl⟩
  rw [← hchn] at c3 hck
  clear hchn
  have hmn : ¬ (64 : Int) < (r.members.length : Int) ∨ (64 : Int) < (r.members.length : Int) := by omega
  by_cases s1 : (64 : Int) < (r.members.length : Int)
  · have Hr := Lib.hid (show refMay r = false by rw [HM.out, decide_eq_false (by omega)]; rfl)
    clear hmn
    go_wp2_with fail
    go_ret
    exact ⟨ret_bool Hr.out.symm, hB0.out⟩
  by_cases s2 : (chn : Int) < 1
  · have Hr := Lib.hid (show refMay r = false by rw [HM.out, hck.out, decide_eq_false (p := 1 ≤ chn ∧ _) (by omega)]; simp)
    clear hmn
    go_wp2_with fail
    go_ret
    exact ⟨ret_bool Hr.out.symm, hB0.out⟩
  by_cases s3 : (4611686018427387904 : Int) < (chn : Int)
  · have Hr := Lib.hid (show refMay r = false by rw [HM.out, hck.out, decide_eq_false (p := 1 ≤ chn ∧ _) (by omega)]; simp)
    clear hmn
    go_wp2_with fail
    go_ret
    exact ⟨ret_bool Hr.out.symm, hB0.out⟩
  have HM2 := Lib.hid (show refMay r = (upto (refOk r) r.members.length && ((r.members.any fun m => decide (m.status = 2)) && decide (r.coming.length = stN 1 r.members) && decide (r.going.length = stN 3 r.members))) by
    rw [HM.out, hck.out, decide_eq_true (by omega), decide_eq_true (p := 1 ≤ chn ∧ _) (by omega)]
    rfl)
  clear hmn HM hck
  have hb00 := Lib.hid (Below.refl W0.heap.size W0)
  have hm64 : r.members.length ≤ 64 := by omega
  go_upto_region 6 with fail
  clear s1 s2 s3
  go_loopw [3, 4, 5, 6] (fun s a b i W' => ∃ k : Nat, k ≤ r.members.length ∧ s = .bool ((r.members.take k).any fun m => decide (m.status = 2)) ∧ a = .int .i64 (stN 1 (r.members.take k) : Nat) ∧ b = .int .i64 (stN 3 (r.members.take k) : Nat) ∧ i = .int .i64 k ∧ Hid (upto (refOk r) k = true) ∧ Hid (Below W0.heap.size W0 W')) (fun _ _ _ i _ => r.members.length - (intOf i).toNat)
  case atStart => exact ⟨0, Nat.zero_le _, rfl, rfl, rfl, rfl, Lib.hid rfl, hb00⟩
  case round =>
    clear hb00
    obtain ⟨k, hk, rfl, rfl, rfl, rfl, hu, hBk⟩ := hrel
    have hBw := Lib.hid (hB0.out.trans (hBk.out.mono (Nat.le_of_lt hlt)))
    obtain ⟨d0, d1, d2, _, _⟩ := (HR.out.keep hBk.out).cells
    simp only at d0 d1 d2
    dsimp only [Sl.v] at d0 d1 d2
    clear c0 c1 c2 c3
    by_cases hkx : k < r.members.length
    · obtain ⟨bm, om, e, hbm, hrm, -⟩ := mbrs_at (HR.out.keep hBk.out).reg.1 (by omega)
      have e1 := congrArg Sl.a e
      simp only at e1
      subst e1
      clear e
      have hrow := hrm k hkx
      have Hrm := Lib.hid hrm
      clear hrm
      have hget := List.getElem?_eq_getElem hkx
      have Hf := Lib.hid (refOk_at hget)
      have Hbad := Lib.hid (fun h : refOk r k = false => (show refMay r = false by rw [HM2.out, upto_bad h hkx]; rfl))
      have Hany := Lib.hid (any_snoc (fun m : Mbr => decide (m.status = 2)) r.members k hkx)
      have Hs1 := Lib.hid (stN_snoc 1 r.members k hkx)
      have Hs3 := Lib.hid (stN_snoc 3 r.members k hkx)
      have hl1 : stN 1 (r.members.take k) ≤ k := Nat.le_trans List.countP_le_length (List.length_take_le _ _)
      have hl3 : stN 3 (r.members.take k) ≤ k := Nat.le_trans List.countP_le_length (List.length_take_le _ _)
      clear hget
      generalize r.members[k] = m at *
      have i1 : (k : Int) < (r.members.length : Int) := by omega
      go_upto_region 9 with fail
      obtain ⟨W1, hW1, hr1, hb1, hz1'⟩ := box_mbr wr m
      rw [← hW1]
      clear hW1 hrow
      have hml := lt_of_row hr1
      obtain ⟨mk, mst, mss, mmk⟩ := m
      obtain ⟨q0, q1, q2, -⟩ := mbr_cells hr1
      simp only [Nat.zero_add] at q1 q2 Hany Hs1 Hs3 Hf q0
      have e0 := (hb1.cell (p := ⟨w.heap.size, 0, none⟩) (Nat.lt_of_lt_of_le hlt hBk.out.size)).trans d0
      have e1 := (hb1.cell (p := ⟨w.heap.size, 1, none⟩) (Nat.lt_of_lt_of_le hlt hBk.out.size)).trans d1
      have e2 := (hb1.cell (p := ⟨w.heap.size, 2, none⟩) (Nat.lt_of_lt_of_le hlt hBk.out.size)).trans d2
      have hwl := Nat.lt_of_lt_of_le (Nat.lt_of_lt_of_le hlt hBk.out.size) hb1.size
      have hBX := Lib.hid (hBk.out.trans (hb1.mono hBk.out.size))
      have hBXw := Lib.hid (hBw.out.trans (hb1.mono hBw.out.size))
      have hb1' := Lib.hid hb1
      obtain ⟨sn, hsn⟩ : ∃ sn, sn = mst.toNat := ⟨_, rfl⟩
      rw [← hsn] at q1
      have hst := Lib.hid (show stakeOk mst = decide (1 ≤ sn ∧ sn ≤ 4294967296) by rw [hsn]; rfl)
      have hso := Lib.hid (show stOk mss = decide (1 ≤ mss ∧ mss ≤ 4) from rfl)
      clear hsn hb1 d0 d1 d2 hr1
      by_cases s1 : (sn : Int) < 1
      · have Hr := Lib.hid (Hbad.out (by rw [Hf.out, hst.out, decide_eq_false (by omega)]; rfl))
        go_wp2_with fail
        go_ret
        exact ⟨ret_bool Hr.out.symm, hBXw.out⟩
      by_cases s2 : (4294967296 : Int) < (sn : Int)
      · have Hr := Lib.hid (Hbad.out (by rw [Hf.out, hst.out, decide_eq_false (by omega)]; rfl))
        go_wp2_with fail
        go_ret
        exact ⟨ret_bool Hr.out.symm, hBXw.out⟩
      by_cases s3 : mss < 1
      · have Hr := Lib.hid (Hbad.out (by rw [Hf.out, hso.out, decide_eq_false (p := 1 ≤ mss ∧ _) (by omega), Bool.and_false]; rfl))
        go_wp2_with fail
        go_ret
        exact ⟨ret_bool Hr.out.symm, hBXw.out⟩
      by_cases s4 : 4 < mss
      · have Hr := Lib.hid (Hbad.out (by rw [Hf.out, hso.out, decide_eq_false (p := 1 ≤ mss ∧ _) (by omega), Bool.and_false]; rfl))
        go_wp2_with fail
        go_ret
        exact ⟨ret_bool Hr.out.symm, hBXw.out⟩
      have Hf := Lib.hid (show refOk r k = (!keyIn mk (r.members.take k) && (decide (timesN r.coming ((k : Int) + 1) = inN 1 mss) && decide (timesN r.going ((k : Int) + 1) = inN 3 mss))) by
        rw [Hf.out, hst.out, hso.out, decide_eq_true (by omega), decide_eq_true (by omega)]
        rfl)
      have hss : mss = 1 ∨ mss = 2 ∨ mss = 3 ∨ mss = 4 := by omega
      have hss := Lib.hid hss
      have b3 : decide (mss < 1) = false := decide_eq_false s3
      have b4 : decide (4 < mss) = false := decide_eq_false s4
      have hb11 := Lib.hid (Below.refl W1.heap.size W1)
      clear hst hso
      go_upto_region 12 with fail
      clear s1 s2 s3 s4 b3 b4 q1
      generalize wr = wo at *
      go_loopw [8] (fun j W' => ∃ m : Nat, m ≤ k ∧ Hid (∀ (j : Nat) (x : Mbr), j < m → r.members[j]? = some x → x.key ≠ mk) ∧ j = .int .i64 m ∧ Hid (Below W1.heap.size W1 W')) (fun j _ => k - (intOf j).toNat)
      case atStart => exact ⟨0, Nat.zero_le _, Lib.hid (fun j x h => absurd h (by omega)), rfl, hb11⟩
      case round =>
        clear hb11
        obtain ⟨j, hj, hn, rfl, hBm⟩ := hrel
        have p0 := (hBm.out.cell (p := ⟨w.heap.size, 0, none⟩) hwl).trans e0
        have pq0 := (row?_below _ _ _ hBm.out hml).trans q0
        by_cases hjx : j < k
        · have hrm := (row?_below _ _ _ hBm.out (Nat.lt_of_lt_of_le hbm hb1'.out.size)).trans ((row?_below _ _ _ hb1'.out hbm).trans (Hrm.out j (by omega)))
          have hgm := List.getElem?_eq_getElem (l := r.members) (i := j) (by omega)
          have Hhit := Lib.hid (fun he : (r.members[j]'(by omega)).key = mk => keyIn_hit hgm hjx he)
          have Hmiss := Lib.hid (show (r.members[j]'(by omega)).key ≠ mk → ∀ (i : Nat) (x : Mbr), i < j + 1 → r.members[i]? = some x → x.key ≠ mk from fun hne i x hi hx => by
            rcases Nat.lt_or_ge i j with h | h
            · exact hn.out i x h hx
            · obtain rfl : i = j := by omega
              rw [hgm] at hx
              injection hx with hx
              rw [← hx]
              exact hne)
          clear hgm
          generalize r.members[j]'(by omega) = x at *
          obtain ⟨xq, -, -, -⟩ := mbr_cells hrm
          have j1 : (j : Int) < (k : Int) := by omega
          have j2 : (j : Int) < (r.members.length : Int) := by omega
          have j0 : (0 : Int) ≤ (j : Int) := by omega
          have t33 := fun n => (show (wr.drewN n).cell? ⟨w.heap.size, 0, none⟩ = _ from p0)
          have tq := fun n => (show row? (wr.drewN n) wo.heap.size 0 32 = _ from pq0)
          have tx := fun n => (show row? (wr.drewN n) bm (om + j * 35) 32 = _ from xq)
          have hg := hash_guard_r
          have hjs := Lib.hid (show j + 1 ≤ k from hjx)
          clear hrm
          by_cases hx : x.key = mk
          · have bx : decide (x.key = mk) = true := decide_eq_true hx
            have Hr := Lib.hid (Hbad.out (by rw [Hf.out, Hhit.out hx]; rfl))
            have hBf := Lib.hid (hBXw.out.trans (hBm.out.mono hBXw.out.size))
            clear hx
            go_upto_region 14 with fail
            go_quiet (fail)
            go_wp2_with fail
            go_ret
            exact ⟨ret_bool Hr.out.symm, below_drewN hBf.out _⟩
          · have bx : decide (x.key = mk) = false := decide_eq_false hx
            have Hm := Lib.hid (Hmiss.out hx)
            clear hx
            go_upto_region 14 with fail
            go_quiet (fail)
            go_wp2_with fail
            go_roundw
            case rel => exact ⟨j + 1, hjs.out, Hm, by go_num, Lib.hid (below_drewN hBm.out _)⟩
            case measure =>
              have := hjs.out
              simp [intOf]
              omega
        · obtain rfl : k = j := by omega
          have Hf2 := Lib.hid (show refOk r k = (decide (timesN r.coming ((k : Int) + 1) = inN 1 mss) && decide (timesN r.going ((k : Int) + 1) = inN 3 mss)) by rw [Hf.out, keyIn_none hn.out]; rfl)
          have hBf := Lib.hid (hBX.out.trans (hBm.out.mono hBX.out.size))
          have hBfw := Lib.hid (hBXw.out.trans (hBm.out.mono hBXw.out.size))
          have hBfW := Lib.hid (hBX.out.trans (hBm.out.mono hBX.out.size))
          have p1 := (hBm.out.cell (p := ⟨w.heap.size, 1, none⟩) hwl).trans e1
          have p2 := (hBm.out.cell (p := ⟨w.heap.size, 2, none⟩) hwl).trans e2
          have pst := (hBm.out.cell (p := ⟨wo.heap.size, 33, none⟩) hml).trans q2
          clear pq0 p0 Hf hn e0 e1 e2 q2
          obtain ⟨sb, hsb⟩ : ∃ x, x = (r.members.take k).any fun m => decide (m.status = 2) := ⟨_, rfl⟩
          rw [← hsb] at Hany ⊢
          clear hsb
          obtain ⟨C1, hC1⟩ : ∃ x, x = stN 1 (r.members.take k) := ⟨_, rfl⟩
          rw [← hC1] at Hs1 hl1 ⊢
          clear hC1
          obtain ⟨C3, hC3⟩ : ∃ x, x = stN 3 (r.members.take k) := ⟨_, rfl⟩
          rw [← hC3] at Hs3 hl3 ⊢
          clear hC3
          have HT1 := times_c (w := wr) (s := ⟨ca, r.coming.length, cc⟩) (HR.out.reg.2.1.keep hBfW.out fun _ _ h => h) hc ((k : Int) + 1)
          have HT2 := times_c (w := wr) (s := ⟨ga, r.going.length, gcc⟩) (HR.out.reg.2.2.1.keep hBfW.out fun _ _ h => h) hgo ((k : Int) + 1)
          dsimp only [Sl.v] at HT1 HT2
          obtain ⟨T1, hT1⟩ : ∃ x, x = timesN r.coming ((k : Int) + 1) := ⟨_, rfl⟩
          rw [← hT1] at HT1 Hf2
          clear hT1
          obtain ⟨T3, hT3⟩ : ∃ x, x = timesN r.going ((k : Int) + 1) := ⟨_, rfl⟩
          rw [← hT3] at HT2 Hf2
          clear hT3
          have hks := Lib.hid (show k + 1 ≤ r.members.length from hkx)
          have x1 : IntKind.i64.wrap ((k : Int) + 1) = (k : Int) + 1 := IntWalk.i64_in _ (by omega)
          have x2 : IntKind.i64.wrap ((C1 : Int) + 1) = (C1 : Int) + 1 := IntWalk.i64_in _ (by omega)
          have x3 : IntKind.i64.wrap ((C3 : Int) + 1) = (C3 : Int) + 1 := IntWalk.i64_in _ (by omega)
          have hc4 : (mss = 1 ∧ inN 1 mss = 1 ∧ inN 3 mss = 0) ∨ (mss = 2 ∧ inN 1 mss = 0 ∧ inN 3 mss = 0) ∨ (mss = 3 ∧ inN 1 mss = 0 ∧ inN 3 mss = 1) ∨ (mss = 4 ∧ inN 1 mss = 0 ∧ inN 3 mss = 0) := by
            rcases hss.out with rfl | rfl | rfl | rfl <;> simp [inN]
          have hc4 := Lib.hid hc4
          have Hup := Lib.hid (fun h : refOk r k = true => (show upto (refOk r) (k + 1) = true by rw [upto_succ, hu.out, h]; rfl))
          clear hl1 hl3 hk hkx i1 hj hjx
          go_upto_region 16 with fail
          go_cut [3] from 25 to 100 (fun u W => u = .bool (sb || decide (mss = 2)) ∧ W = wr)
          case first =>
            clear HT1 HT2 x1 x2 x3 p1 p2
            rcases hss.out with rfl | rfl | rfl | rfl <;> cases sb
            all_goals
              go_wp2_with fail
              go_meet
              exact ⟨rfl, rfl⟩
          case rest =>
            obtain ⟨rfl, hwc⟩ := hcut
            subst hwc
            obtain ⟨V1, hV1⟩ : ∃ x, x = inN 1 mss := ⟨_, rfl⟩
            obtain ⟨V3, hV3⟩ : ∃ x, x = inN 3 mss := ⟨_, rfl⟩
            rw [← hV1, ← hV3] at hc4 Hf2
            replace hc4 := hc4.out
            clear hV1 hV3 hss
            by_cases t1 : T1 = V1
            rotate_left
            · have Hr := Lib.hid (Hbad.out (by rw [Hf2.out, decide_eq_false t1]; rfl))
              clear Hf2 Hany Hs1 Hs3 Hup Hbad
              rcases hc4 with ⟨rfl, rfl, rfl⟩ | ⟨rfl, rfl, rfl⟩ | ⟨rfl, rfl, rfl⟩ | ⟨rfl, rfl, rfl⟩
              all_goals
                have u1 : ¬ (T1 : Int) = 0 ∨ ¬ (T1 : Int) = 1 := by omega
                go_wp2_with (first | (go_at_call 128; (with_reducible refine HT1.mono ?_); rintro e w9 ⟨rfl, rfl⟩) | (go_at_call 128; (with_reducible refine HT2.mono ?_); rintro e w9 ⟨rfl, rfl⟩))
                go_ret
                exact ⟨ret_bool Hr.out.symm, hBfw.out⟩
            by_cases t3 : T3 = V3
            rotate_left
            · have Hr := Lib.hid (Hbad.out (by rw [Hf2.out, decide_eq_false t3, Bool.and_false]))
              clear Hf2 Hany Hs1 Hs3 Hup Hbad
              subst t1
              rcases hc4 with ⟨rfl, rfl, rfl⟩ | ⟨rfl, rfl, rfl⟩ | ⟨rfl, rfl, rfl⟩ | ⟨rfl, rfl, rfl⟩
              all_goals
                go_wp2_with (first | (go_at_call 128; (with_reducible refine HT1.mono ?_); rintro e w9 ⟨rfl, rfl⟩) | (go_at_call 128; (with_reducible refine HT2.mono ?_); rintro e w9 ⟨rfl, rfl⟩))
                go_ret
                exact ⟨ret_bool Hr.out.symm, hBfw.out⟩
            have Hu2 := Lib.hid (Hup.out (by rw [Hf2.out, decide_eq_true t1, decide_eq_true t3]; rfl))
            subst t1 t3
            clear Hf2 Hup Hbad
            rcases hc4 with ⟨rfl, rfl, rfl⟩ | ⟨rfl, rfl, rfl⟩ | ⟨rfl, rfl, rfl⟩ | ⟨rfl, rfl, rfl⟩
            all_goals
              go_wp2_with (first | (go_at_call 128; (with_reducible refine HT1.mono ?_); rintro e w9 ⟨rfl, rfl⟩) | (go_at_call 128; (with_reducible refine HT2.mono ?_); rintro e w9 ⟨rfl, rfl⟩))
              go_roundw
              case rel => exact ⟨k + 1, hks.out, by rw [Hany.out]; simp, by rw [Hs1.out]; rfl, by rw [Hs3.out]; rfl, by go_num, Hu2, hBf⟩
              case measure =>
                have := hks.out
                simp [intOf]
                omega
    · obtain rfl : k = r.members.length := by omega
      have HM3 := Lib.hid (show refMay r = ((r.members.any fun m => decide (m.status = 2)) && decide (r.coming.length = stN 1 r.members) && decide (r.going.length = stN 3 r.members)) by rw [HM2.out, hu.out, Bool.true_and])
      rw [List.take_length]
      obtain ⟨sb, hsb⟩ : ∃ x, x = r.members.any fun m => decide (m.status = 2) := ⟨_, rfl⟩
      rw [← hsb] at HM3 ⊢
      clear hsb
      have hl1 : stN 1 r.members ≤ r.members.length := List.countP_le_length
      have hl3 : stN 3 r.members ≤ r.members.length := List.countP_le_length
      obtain ⟨C1, hC1⟩ : ∃ x, x = stN 1 r.members := ⟨_, rfl⟩
      rw [← hC1] at HM3 ⊢
      clear hC1
      obtain ⟨C3, hC3⟩ : ∃ x, x = stN 3 r.members := ⟨_, rfl⟩
      rw [← hC3] at HM3 ⊢
      clear hC3
      have kn : ¬ (r.members.length : Int) < (r.members.length : Int) := by omega
      clear hl1 hl3 hkx hk
      cases sb
      · have Hr := Lib.hid (show refMay r = false from HM3.out)
        go_wp2_with fail
        go_ret
        exact ⟨ret_bool Hr.out.symm, hBw.out⟩
      by_cases e1 : r.coming.length = C1
      rotate_left
      · have Hr := Lib.hid (show refMay r = false by rw [HM3.out, decide_eq_false e1]; rfl)
        have b1 : ((r.coming.length : Int) == (C1 : Int)) = false := beq_eq_false_iff_ne.2 (by omega)
        clear e1
        go_wp2_with fail
        go_ret
        exact ⟨ret_bool Hr.out.symm, hBw.out⟩
      by_cases e2 : r.going.length = C3
      rotate_left
      · have Hr := Lib.hid (show refMay r = false by rw [HM3.out, decide_eq_false e2, Bool.and_false])
        have b2 : ((r.going.length : Int) == (C3 : Int)) = false := beq_eq_false_iff_ne.2 (by omega)
        have b1 : ((r.coming.length : Int) == (C1 : Int)) = true := beq_iff_eq.2 (by omega)
        clear e1 e2
        go_wp2_with fail
        go_ret
        exact ⟨ret_bool Hr.out.symm, hBw.out⟩
      · have Hr := Lib.hid (show refMay r = true by rw [HM3.out, decide_eq_true e1, decide_eq_true e2]; rfl)
        have b2 : ((r.going.length : Int) == (C3 : Int)) = true := beq_iff_eq.2 (by omega)
        have b1 : ((r.coming.length : Int) == (C1 : Int)) = true := beq_iff_eq.2 (by omega)
        clear e1 e2
        go_wp2_with fail
        go_ret
        exact ⟨ret_bool Hr.out.symm, hBw.out⟩
end Go.Proofs.Ytkocpihfdpahpaa

/- Contracts: the law's few; registry.Anchor. -/
namespace Go.Proofs.Ytkocpihfdpahpaa
open Go.RowKit

def fewB (r : Reg) : Bool := decide (r.members.length ≤ 100) && decide (r.coming.length ≤ 100) && decide (r.going.length ≤ 100)
set_option maxRecDepth 100000 in
set_option maxHeartbeats 1600000 in
theorem few_c {w : World} {g : GReg} {r : Reg} (h : RegR w g r) : Calls Try.prog 53 #[.agg (regA g)] w fun e w' => e = .returned (.bool (fewB r)) ∧ Below w.heap.size w w' := by
  have HB0 := RBox.new w g r 103 h
  have hB0 := Lib.hid (show Below w.heap.size w (w.alloc (.cells (regA g) 103)) from bel_a _ _)
  have n2 := h.1.1
  have n3 := h.2.1.1
  have n4 := h.2.2.1.1
  clear h
  obtain ⟨⟨ma, mn, mc⟩, ⟨ca, cn, cc⟩, ⟨ga, gn, gcc⟩, gch⟩ := g
  simp only at n2 n3 n4
  subst n2 n3 n4
  have HF := Lib.hid (show fewB r = (decide (r.members.length ≤ 100) && decide (r.coming.length ≤ 100) && decide (r.going.length ≤ 100)) from rfl)
  go_enter Try.func53, Try.ntmps53
  go_upto_region 1 with fail
  generalize w.alloc (.cells (regA ⟨⟨ma, r.members.length, mc⟩, ⟨ca, r.coming.length, cc⟩, ⟨ga, r.going.length, gcc⟩, gch⟩) 103) = W0 at *
  obtain ⟨c0, c1, c2, _, _⟩ := HB0.cells
  simp only at c0 c1 c2
  dsimp only [Sl.v] at c0 c1 c2
  clear HB0
  by_cases s1 : r.members.length ≤ 100
  rotate_left
  · have Hr := Lib.hid (show fewB r = false by rw [HF.out, decide_eq_false s1]; rfl)
    have t1 : ¬ (r.members.length : Int) ≤ 100 := by omega
    clear s1
    go_wp2_with fail
    go_ret
    exact ⟨ret_bool Hr.out.symm, hB0.out⟩
  by_cases s2 : r.coming.length ≤ 100
  rotate_left
  · have Hr := Lib.hid (show fewB r = false by rw [HF.out, decide_eq_false s2, Bool.and_false]; rfl)
    have t1 : (r.members.length : Int) ≤ 100 := by omega
    have t2 : ¬ (r.coming.length : Int) ≤ 100 := by omega
    clear s1 s2
    go_wp2_with fail
    go_ret
    exact ⟨ret_bool Hr.out.symm, hB0.out⟩
  have t1 : (r.members.length : Int) ≤ 100 := by omega
  have t2 : (r.coming.length : Int) ≤ 100 := by omega
  by_cases s3 : r.going.length ≤ 100
  · have Hr := Lib.hid (show fewB r = true by rw [HF.out, decide_eq_true s1, decide_eq_true s2, decide_eq_true s3]; rfl)
    have t3 : (r.going.length : Int) ≤ 100 := by omega
    clear s1 s2 s3
    go_wp2_with fail
    go_ret
    exact ⟨ret_bool Hr.out.symm, hB0.out⟩
  · have Hr := Lib.hid (show fewB r = false by rw [HF.out, decide_eq_false s3, Bool.and_false])
    have t3 : ¬ (r.going.length : Int) ≤ 100 := by omega
    clear s1 s2 s3
    go_wp2_with fail
    go_ret
    exact ⟨ret_bool Hr.out.symm, hB0.out⟩
theorem fewB_out {r : Reg} (h : fewB r = true) : r.members.length ≤ 100 ∧ r.coming.length ≤ 100 ∧ r.going.length ≤ 100 := by
  simp only [fewB, Bool.and_eq_true, decide_eq_true_eq] at h
  exact ⟨h.1.1, h.1.2, h.2⟩

/-! the anchor of the active ones -/
def zeroGA : GAnc := ⟨zeroPt, ⟨none, 0, 0⟩, 0, 0⟩
def zeroAnc : Anc := ⟨zeroPt, [], 0, 0⟩
theorem splice_anc_vals (g : GAnc) (s : Sl) : splice (ancA g) 33 #[s.v] = ancA { g with vals := s } := by
  unfold ancA
  exact splice_tail (pointA g.point) _ _ 0 33 _ (by simp) (by simp) (by simp)
theorem store_anc_s (x v : Value) : Instr.storeAt 113 x v = storeAgg 113 x v := rfl
theorem info_anc1 : (Try.prog.info? 113).map (·.size) = some 36 := by kernel_rfl
theorem store_anc (w : World) (b off : Nat) (xs : Array Value) (hn : xs.size = 36) (h1 : oneCells xs) (ht : there w b off 36) : (storeAgg 113 (.pointer (some ⟨b, off, none⟩)) (.agg xs)).run Try.prog w = .ok () (putRow w b off xs) := run_storeAgg info_anc1 w b off xs hn h1 ht
attribute [go_sem ↓] store_anc_s
attribute [go_sem] store_anc onesAnc
@[simp] theorem ancA_size36 (g : GAnc) : (ancA g).size = 36 := by simp [ancA]
def appV (args : Array Value) : Sem Value := Builtin.append_ #[111, 111] 111 args
theorem fold_appV (args : Array Value) : Builtin.append_ #[111, 111] 111 args = appV args := rfl
/-- an anchor that is being made, in a variable -/
structure AV (W : World) (B pa : Nat) (p : Pt) (s : Sl) (vs : List Val) (ch de : UInt64) : Prop where
  row : row? W pa 0 36 = some (ancA ⟨p, s, ch, de⟩)
  thr : there W pa 0 36
  own : OwnC W B 33 s.v vs.length (flatC valA vs)
  lt : pa < B
  hB : B ≤ W.heap.size
theorem valA_size33 (v : Val) : (valA v).size = 33 := by simp [valA]
section
variable {W W' : World} {B pa : Nat} {p : Pt} {s : Sl} {vs : List Val} {ch de : UInt64}
theorem AV.keep (h : AV W B pa p s vs ch de) (hb : Below W.heap.size W W') : AV W' B pa p s vs ch de :=
  ⟨(row?_below _ _ _ hb (lt_of_row h.row)).trans h.row, there_below hb (lt_of_row h.row) h.thr, OwnC.keep h.own hb, h.lt, Nat.le_trans h.hB hb.size⟩
theorem AV.anc (h : AV W B pa p s vs ch de) : AncR W ⟨p, s, ch, de⟩ ⟨p, vs, ch, de⟩ := ⟨rfl, rows_of_own valA valA_size33 (by omega) h.own, rfl, rfl⟩
theorem AV.cell (h : AV W B pa p s vs ch de) : W.cell? ⟨pa, 33, none⟩ = some s.v := by
  have h1 := cell_of_row? h.row 33 (by omega)
  simpa [ancA] using h1
end
/-- a validator in a new block; validators of the call's own -/
def LitV (vm : Val) (x : Value) (W : World) : Prop := ∃ b, x = .slice (some ⟨b, 0, none⟩) 1 1 ∧ ∃ (t : TypeId) (fr : Nat × Nat), W.heap[b]? = some (.cells (valA vm) t fr)
theorem LitV.keep {vm : Val} {x : Value} {W W' : World} (h : LitV vm x W) (hb : Below W.heap.size W W') : LitV vm x W' := by
  obtain ⟨b, h1, t, fr, h2⟩ := h
  refine ⟨b, h1, t, fr, ?_⟩
  have hlt : b < W.heap.size := by
    rcases Nat.lt_or_ge b W.heap.size with hlt | hge
    · exact hlt
    · rw [Array.getElem?_eq_none hge] at h2; cases h2
  rw [hb.block b hlt]
  exact h2
def OwnV (B : Nat) (vs : List Val) (x : Value) (W : World) : Prop := OwnC W B 33 x vs.length (flatC valA vs)
theorem OwnV.keep {B : Nat} {vs : List Val} {x : Value} {W W' : World} (h : OwnV B vs x W) (hb : Below W.heap.size W W') : OwnV B vs x W' := OwnC.keep h hb
theorem OwnV.slice {B : Nat} {vs : List Val} {x : Value} {W : World} (h : OwnV B vs x W) : ∃ s : Sl, x = s.v := OwnC.slice h
/-- the list that came is stored -/
theorem AV.set {W W' : World} {B pa : Nat} {p : Pt} {s t : Sl} {vs vs' : List Val} {ch de : UInt64} (h : AV W B pa p s vs ch de) (hb : Below B W W') (ho : OwnV B vs' t.v W') :
    W'.cell? ⟨pa, 33, none⟩ = some s.v ∧ W'.frozen? ⟨pa, 33, none⟩ = false ∧ AV (W'.setCell ⟨pa, 33, none⟩ t.v) B pa p t vs' ch de ∧ Below pa W (W'.setCell ⟨pa, 33, none⟩ t.v) := by
  have hlt := h.lt
  have hrow := (row?_below _ _ _ hb hlt).trans h.row
  have hthr := there_below hb hlt h.thr
  have hcell : W'.cell? ⟨pa, 33, none⟩ = some s.v := (hb.cell (p := ⟨pa, 33, none⟩) hlt).trans h.cell
  have hfz := (hthr 33 (by omega)).2
  simp only [Nat.zero_add] at hfz
  have hs := size_setCell W' ⟨pa, 33, none⟩ t.v
  refine ⟨hcell, hfz, ⟨?_, there_set _ _ _ _ _ _ hthr, ?_, hlt, by rw [hs]; exact Nat.le_trans h.hB hb.size⟩, (hb.mono (Nat.le_of_lt hlt)).setCell (Nat.le_refl _) _⟩
  · rw [row?_set_in _ _ _ _ _ (by omega) (by rw [hrow]; rfl), hrow, Option.map_some, splice_anc_vals]
  · refine OwnC.keepB ho (by rw [hs]; exact Nat.le_refl _) fun g hg _ => Below.heap_setCell W' ⟨pa, 33, none⟩ t.v g ?_
    have := (OwnC.lt ho g hg).1
    show g ≠ pa
    omega
theorem AncR.zero (w : World) : AncR w zeroGA zeroAnc := ⟨rfl, SlR.nil _ _ _ _ _, rfl, rfl⟩
attribute [local go_sem ↓] fold_bldA fold_bsV fold_appV fold_bldV
attribute [local go_sem] regA_size
end Go.Proofs.Ytkocpihfdpahpaa

/- As FreeE, for a region in which one operation (number q: an append) may write old memory from block B on: below B all stays; till q has run all stays. Over any program. -/
namespace Go.Proofs.Ytkocpihfdpahpaa
open Go.RowKit

/-- als Free, but that a fact may die with an operation: 'live i j': operation i's fact outlasts operation j -/
structure FreeM (q B : Nat) (live : Nat → Nat → Bool) (n : Nat) (d : Nat → Nat) (F : Nat → Value → World → Prop) (a0 : Act) (W0 : World) (L : Nat → Bool) (a : Act) (w : World) : Prop where
  defers : a.defers = a0.defers
  size : a.tmps.size = a0.tmps.size
  below : Below B W0 w
  full : L q = false → Below W0.heap.size W0 w
  got : ∀ i, i < n → L i = true → (∀ j, L j = true → live i j = true) → F i (sl a (d i)) w
  rest : ∀ k, (∀ i, i < n → L i = true → d i ≠ k) → sl a k = sl a0 k
theorem FreeM.out {q B : Nat} {live : Nat → Nat → Bool} {ds : List Nat} {F : Nat → Value → World → Prop} {a0 : Act} {W0 : World} {L : Nat → Bool} {a : Act} {w : World} (h : FreeM q B live ds.length (fun i => ds.getD i 0) F a0 W0 L a w) (k : Nat) (hk : k ∉ ds) {v : Value} (hv : sl a0 k = v) : a.tmps[k]?.getD undef = v := by
  refine slv (Eq.trans (h.rest k fun i hi _ e => hk ?_) hv)
  simp only [List.getD_eq_getElem?_getD, List.getElem?_eq_getElem hi, Option.getD_some] at e
  rw [← e]
  exact List.getElem_mem _
theorem FreeM.all {q B : Nat} {live : Nat → Nat → Bool} {n : Nat} {d : Nat → Nat} {F : Nat → Value → World → Prop} {a0 : Act} {W0 : World} {a : Act} {w : World} (h : FreeM q B live n d F a0 W0 (fun _ => true) a w) :
    ∃ vs : List Value, vs.length = n ∧ (∀ i (hi : i < vs.length), (∀ j, live i j = true) → F i vs[i] w) ∧ a = ⟨putL a0.tmps (((List.range n).map d).zip vs), a0.defers⟩ := by
  refine ⟨(List.range n).map fun i => sl a (d i), by simp, fun i hi hl => by simp at hi ⊢; exact h.got i hi rfl (fun j _ => hl j), ?_⟩
  obtain ⟨t, df⟩ := a
  have h1 := h.defers
  simp only at h1
  subst h1
  congr 1
  refine eq_putL t _ _ h.size (fun p hp => ?_) fun k hk => h.rest k fun i hi _ e => ?_
  · obtain ⟨i, hi, he⟩ := List.getElem_of_mem hp
    simp at he
    rw [← he]
    rfl
  · subst e
    exact hk (d i, sl ⟨t, a0.defers⟩ (d i)) (List.mem_iff_getElem.2 ⟨i, by simpa using hi, by simp⟩) rfl
theorem wp_region_freeB (q B : Nat) (live : Nat → Nat → Bool) (Rel : Nat → World → World → Prop) {P : Program} {id : Nat} {ops : Array Oper} {Q : Exit → Act → World → Prop} {a0 : Act} {W0 : World} (hm : P.follows .mixedOrders = true)
    (d : Nat → Nat) (F : Nat → Value → World → Prop) (m : Nat) (st : Oper) (hn : ops.size = m + 1) (hst : ops[m]? = some st) (hsd : ∀ e ∈ st.after, Region.binds .any e = true → e.on < m)
    (hop : ∀ i o, i < m → ops[i]? = some o → o.dst = some (d i) ∧ (∀ e ∈ o.after, Region.binds .any e = true → e.on < i) ∧ ∀ k b, o.guard = some (k, b) → k < m)
    (hchain : ∀ j, j < m → ∃ i o e, j < i ∧ ops[i]? = some o ∧ e ∈ o.after ∧ Region.binds .any e = true ∧ e.on = j)
    (hdist : ∀ i j, i < m → j < m → d i = d j → i = j) (hlt : ∀ i, i < m → d i < a0.tmps.size)
    (hrel : ∀ i w w', Rel i w w' → Below B W0 w → Below B W0 w') (hfull : ∀ i w w', i ≠ q → Rel i w w' → Below W0.heap.size W0 w → Below W0.heap.size W0 w')
    (anc : Nat → Bool) (hanc : ∀ L : Nat → Bool, (∀ i o, ops[i]? = some o → L i = true → ∀ e ∈ o.after, Region.binds .any e = true → L e.on = true) → L q = true → ∀ i, anc i = true → L i = true)
    (hstable : ∀ i j v w w', i ≠ j → live i j = true → F i v w → Rel j w w' → F i v w')
    (hstep : ∀ (i : Nat) (o : Oper), i < m → ops[i]? = some o → ∀ L a w, FreeM q B live m d F a0 W0 L a w → L i = false → (anc i = true → L q = false) → (∀ e ∈ o.after, Region.binds .any e = true → L e.on = true) →
      (Held o d a → o.wp P a w (fun a' w' => ∃ v, a' = a.put (some (d i)) v ∧ F i v w' ∧ Rel i w w') Q) ∧ (¬ Held o d a → F i undef w))
    (hfin : ∀ a w, FreeM q B live m d F a0 W0 (fun _ => true) a w → wpList P ops Q [st] a w) : (Code.region id ops true).wp P Q a0 W0 := by
  refine wp_region_any hm ?_
  have hdeps : ∀ i o, ops[i]? = some o → ∀ e ∈ o.after, Region.binds .any e = true → e.on < i := by
    intro i o ho
    by_cases him : i < m
    · exact (hop i o him ho).2.1
    · have : i < ops.size := (Array.getElem?_eq_some_iff.1 ho).1
      obtain rfl : i = m := by omega
      rw [hst] at ho
      injection ho with ho
      subst ho
      exact hsd
  let St (listed : Array Bool) (a : Act) (w : World) : Prop :=
    (listed.getD m false = false ∧ (∀ i o, ops[i]? = some o → listed.getD i false = true → ∀ e ∈ o.after, Region.binds .any e = true → listed.getD e.on false = true) ∧ FreeM q B live m d F a0 W0 (fun i => listed.getD i false) a w) ∨
      ((∀ i, i < ops.size → listed.getD i false = true) ∧ Q .normal a w)
  have done : ∀ (listed : Array Bool) (a : Act) (w : World), listed.size = ops.size → St listed a w → Region.ready .any ops listed = [] → Q .normal a w := by
    intro listed a w hs hf hr
    have hall : ∀ i, i < ops.size → listed.getD i false = true := by
      intro i
      induction i using Nat.strongRecOn with
      | ind i ih =>
        intro hi
        cases hb : listed.getD i false with
        | true => rfl
        | false =>
          exfalso
          have hmem : i ∈ Region.ready .any ops listed := by
            refine mem_ready.2 ⟨?_, ops[i], Array.getElem?_eq_getElem hi, fun e he hb' => ih e.on (hdeps i _ (Array.getElem?_eq_getElem hi) e he hb') ?_⟩
            · simpa [Array.getD, hs, hi] using hb
            · exact Nat.lt_trans (hdeps i _ (Array.getElem?_eq_getElem hi) e he hb') hi
          rw [hr] at hmem
          cases hmem
    rcases hf with ⟨h1, _⟩ | ⟨_, h2⟩
    · rw [hall m (by omega)] at h1
      cases h1
    · exact h2
  have main : ∀ (fuel : Nat) (listed : Array Bool) (a : Act) (w : World), listed.size = ops.size → (List.range ops.size).countP (fun i => !listed.getD i false) ≤ fuel →
      St listed a w → wpAny P .any ops Q fuel listed a w := by
    intro fuel
    induction fuel with
    | zero =>
      intro listed a w hs hc hf
      have hr : Region.ready .any ops listed = [] := by
        cases hr : Region.ready .any ops listed with
        | nil => rfl
        | cons x xs =>
          exfalso
          obtain ⟨hx, o, ho, _⟩ := mem_ready.1 (show x ∈ Region.ready .any ops listed by rw [hr]; exact List.mem_cons_self ..)
          have hxl : x < ops.size := (Array.getElem?_eq_some_iff.1 ho).1
          have : 0 < (List.range ops.size).countP (fun i => !listed.getD i false) := List.countP_pos_iff.2 ⟨x, List.mem_range.2 hxl, by simpa [Array.getD, hs, hxl] using hx⟩
          omega
      exact ⟨hr, done listed a w hs hf hr⟩
    | succ fuel ih =>
      intro listed a w hs hc hst'
      refine ⟨done listed a w hs hst', fun i hi => ?_⟩
      obtain ⟨hx, o, ho, hdep⟩ := mem_ready.1 hi
      have hil : i < ops.size := (Array.getElem?_eq_some_iff.1 ho).1
      have hxf : listed.getD i false = false := by simpa [Array.getD, hs, hil] using hx
      have hless : (List.range ops.size).countP (fun j => !(listed.setIfInBounds i true).getD j false) ≤ fuel := by
        have hlt' := countP_lt (p := fun j => !(listed.setIfInBounds i true).getD j false) (q := fun j => !listed.getD j false) (List.range ops.size)
          (fun x _ hp => by
            by_cases hxi : i = x
            · subst hxi; simp [Array.getD, hs, hil] at hp
            · simpa [getD_set_ne false hxi] using hp)
          ⟨i, List.mem_range.2 hil, by simpa using hxf, by simp [Array.getD, hs, hil]⟩
        omega
      rcases hst' with ⟨hlast, hclosed, hf⟩ | ⟨hall, _⟩
      rotate_left
      · rw [hall i hil] at hxf
        cases hxf
      by_cases him : i < m
      rotate_left
      · obtain rfl : i = m := by omega
        rw [hst] at ho
        injection ho with ho
        subst ho
        have hall : ∀ k j, j + k = i → 0 < k → listed.getD j false = true := by
          intro k
          induction k using Nat.strongRecOn with
          | ind k ihk =>
            intro j hj hk
            obtain ⟨i', o', e, h1, h2, h3, h4, h5⟩ := hchain j (by omega)
            have h6 : i' < ops.size := (Array.getElem?_eq_some_iff.1 h2).1
            rw [← h5]
            by_cases h7 : i' < i
            · exact hclosed i' o' h2 (ihk (i - i') (by omega) i' (by omega) (by omega)) e h3 h4
            · obtain rfl : i' = i := by omega
              rw [hst] at h2
              injection h2 with h2
              subst h2
              exact hdep e h3 h4
        have hF : FreeM q B live i d F a0 W0 (fun _ => true) a w := ⟨hf.defers, hf.size, hf.below, (fun h => by cases h), fun j hj _ hl => hf.got j hj (hall (i - j) j (by omega) (by omega)) (fun j' _ => hl j' rfl), fun k hk => hf.rest k fun j hj hL => hk j hj rfl⟩
        have hl := hfin a w hF
        unfold wpOp
        simp only [hst]
        have hpost : ∀ a' w', Q .normal a' w' → wpAny P .any ops Q fuel (listed.setIfInBounds i true) a' w' := by
          intro a' w' hq
          refine ih _ _ _ (by simpa using hs) hless (.inr ⟨fun j hj => ?_, hq⟩)
          by_cases hij : i = j
          · subst hij
            simp [Array.getD, hs, hj]
          · rw [getD_set_ne false hij]
            exact hall (i - j) j (by omega) (by omega)
        simp only [wpList] at hl
        split at hl
        · rw [if_pos (by assumption)]
          rcases hl with hl | hl
          · exact .inl (Oper.wp_mono (fun a' w' h => hpost _ _ h) hl)
          · exact .inr hl
        · rw [if_neg (by assumption)]
          exact hpost _ _ hl
      have hq0 : ∀ i, listed.getD i false = false → anc i = true → listed.getD q false = false := fun i hi ha => by
        cases hq : listed.getD q false with
        | false => rfl
        | true =>
          have := hanc (fun j => listed.getD j false) hclosed hq i ha
          rw [hi] at this
          cases this
      unfold wpOp
      simp only [ho]
      have putd : ∀ v w', F i v w' → (∀ j, j < m → listed.getD j false = true → (∀ k, (listed.setIfInBounds i true).getD k false = true → live j k = true) → F j (sl a (d j)) w') → Below B W0 w' → ((listed.setIfInBounds i true).getD q false = false → Below W0.heap.size W0 w') →
          FreeM q B live m d F a0 W0 (fun j => (listed.setIfInBounds i true).getD j false) (a.put (some (d i)) v) w' := by
        intro v w' hF hgot hbl hbf
        refine ⟨hf.defers, by simp [Act.put, hf.size], hbl, hbf, fun j hj hLj hlv => ?_, fun k hk => ?_⟩
        · by_cases hij : i = j
          · subst hij
            rw [sl_put_same _ _ _ (by rw [hf.size]; exact hlt i him)]
            exact hF
          · rw [sl_put_other _ _ _ _ (fun e => hij (hdist i j him hj e))]
            exact hgot j hj (by rw [← hLj, getD_set_ne false hij]) hlv
        · rw [sl_put_other _ _ _ _ (hk i him (by simp [Array.getD, hs, hil]))]
          exact hf.rest k fun j hj hLj => hk j hj (by
            by_cases hij : i = j
            · subst hij; simp [Array.getD, hs, hil]
            · rw [getD_set_ne false hij]; exact hLj)
      have hwt : Region.wanted o (yielded ops a.tmps) = true ↔ Held o d a := by
        unfold Region.wanted Held
        cases hgd : o.guard with
        | none => simp
        | some g =>
          obtain ⟨k, b⟩ := g
          have hk := (hop i o him ho).2.2 k b hgd
          have hks' : k < ops.size := by omega
          have hkd := (hop k _ hk (Array.getElem?_eq_getElem hks')).1
          have hks : d k < a.tmps.size := by rw [hf.size]; exact hlt k hk
          simp only [yielded, Array.getElem?_eq_getElem hks', Option.bind_some, hkd, Array.getElem?_eq_getElem hks, sl, Array.getD_eq_getD_getElem?, Option.getD_some, beq_iff_eq]
          cases hv : a.tmps[d k] <;> simp
      have hnext : ∀ a' w', FreeM q B live m d F a0 W0 (fun j => (listed.setIfInBounds i true).getD j false) a' w' → wpAny P .any ops Q fuel (listed.setIfInBounds i true) a' w' := by
        intro a' w' hfr
        refine ih _ _ _ (by simpa using hs) hless (.inl ⟨by rw [getD_set_ne false (by omega)]; exact hlast, fun j o' ho' hL e he hb => ?_, hfr⟩)
        by_cases hij : i = j
        · subst hij
          rw [ho] at ho'
          injection ho' with ho'
          subst ho'
          have h1 := hdep e he hb
          have h2 := (hop i o him ho).2.1 e he hb
          rw [getD_set_ne false (by omega)]
          exact h1
        · rw [getD_set_ne false hij] at hL
          have h1 := hclosed j o' ho' hL e he hb
          by_cases hie : i = e.on
          · rw [← hie]
            simp [Array.getD, hs, hil]
          · rw [getD_set_ne false hie]
            exact h1
      by_cases hheld : Held o d a
      · rw [if_pos (hwt.2 hheld)]
        refine .inl (Oper.wp_mono ?_ ((hstep i o him ho _ a w hf hxf (hq0 i hxf) hdep).1 hheld))
        rintro a' w' ⟨v, rfl, hF, hb⟩
        exact hnext _ _ (putd v w' hF (fun j hj hL hlv => hstable _ i _ _ _ (fun e => by rw [e, hxf] at hL; cases hL) (hlv i (by simp [Array.getD, hs, hil])) (hf.got j hj hL (fun k hk => hlv k (by
          by_cases hik : i = k
          · subst hik; simp [Array.getD, hs, hil]
          · rw [getD_set_ne false hik]; exact hk))) hb) (hrel _ _ _ hb hf.below) (fun hq => by
          have hiq : i ≠ q := fun e => by rw [← e] at hq; simp [Array.getD, hs, hil] at hq
          rw [getD_set_ne false hiq] at hq
          exact hfull _ _ _ hiq hb (hf.full hq)))
      · rw [if_neg (fun h => hheld (hwt.1 h)), (hop i o him ho).1]
        exact hnext _ _ (putd undef w ((hstep i o him ho _ a w hf hxf (hq0 i hxf) hdep).2 hheld) (fun j hj hL hlv => hf.got j hj hL (fun k hk => hlv k (by
          by_cases hik : i = k
          · subst hik; simp [Array.getD, hs, hil]
          · rw [getD_set_ne false hik]; exact hk))) hf.below (fun hq => by
          have hiq : i ≠ q := fun e => by rw [← e] at hq; simp [Array.getD, hs, hil] at hq
          rw [getD_set_ne false hiq] at hq
          exact hf.full hq))
  refine main ops.size _ a0 _ (by simp) (by exact Nat.le_trans List.countP_le_length (by simp)) (.inl ⟨by simp [Array.getD], fun i o ho h => ?_, ⟨rfl, rfl, (Below.refl _ _).drew, (fun _ => (Below.refl _ _).drew), fun i hi h => ?_, fun _ _ => rfl⟩⟩)
  · have := (Array.getElem?_eq_some_iff.1 ho).1
    simp [Array.getD, this] at h
  · have : i < ops.size := by omega
    simp [Array.getD, this] at h

/-- the region's shape, asked of the kernel -/
def regionOkB (ops : Array Oper) (ds : List Nat) (N : Nat) : Bool :=
  decide (ops.size = ds.length + 1) && decide ds.Nodup && ds.all (fun k => decide (k < N)) &&
    ((List.range ds.length).all fun i => ((ops[i]?).map fun o => (match o.guard with | none => true | some g => decide (g.1 < ds.length)) && (o.dst == some (ds.getD i 0)) && o.after.all fun e => !Region.binds .any e || decide (e.on < i)).getD false) &&
    (((ops[ds.length]?).map fun o => o.after.all fun e => !Region.binds .any e || decide (e.on < ds.length)).getD false) &&
    (List.range ds.length).all fun j => (List.range ops.size).any fun i => decide (j < i) && ((ops[i]?).map fun o => o.after.any fun e => Region.binds .any e && e.on == j).getD false
/-- one operation's step -/
def FreeStepB (q B : Nat) (anc : Nat → Bool) (live : Nat → Nat → Bool) (Rel : Nat → World → World → Prop) (P : Program) (n : Nat) (d : Nat → Nat) (F : Nat → Value → World → Prop) (a0 : Act) (W0 : World) (Q : Exit → Act → World → Prop) (i : Nat) (o : Oper) : Prop :=
  ∀ L a w, FreeM q B live n d F a0 W0 L a w → L i = false → (anc i = true → L q = false) → (∀ e ∈ o.after, Region.binds .any e = true → L e.on = true) →
    (Held o d a → o.wp P a w (fun a' w' => ∃ v, a' = a.put (some (d i)) v ∧ F i v w' ∧ Rel i w w') Q) ∧ (¬ Held o d a → F i undef w)
/-- the operations' steps, and the last one's -/
def FreeStepsB (q B : Nat) (anc : Nat → Bool) (live : Nat → Nat → Bool) (Rel : Nat → World → World → Prop) (P : Program) (n : Nat) (d : Nat → Nat) (F : Nat → Value → World → Prop) (a0 : Act) (W0 : World) (Q : Exit → Act → World → Prop) (fin : Oper → Prop) : Nat → List Oper → Prop
  | _, [] => True
  | _, [o] => fin o
  | i, o :: o' :: r => FreeStepB q B anc live Rel P n d F a0 W0 Q i o ∧ FreeStepsB q B anc live Rel P n d F a0 W0 Q fin (i + 1) (o' :: r)
theorem FreeStepsB.at {q B : Nat} {anc : Nat → Bool} {live : Nat → Nat → Bool} {Rel : Nat → World → World → Prop} {P : Program} {n : Nat} {d : Nat → Nat} {F : Nat → Value → World → Prop} {a0 : Act} {W0 : World} {Q : Exit → Act → World → Prop} {fin : Oper → Prop} :
    ∀ (l : List Oper) (k : Nat), FreeStepsB q B anc live Rel P n d F a0 W0 Q fin k l → (∀ i o, i + 1 < l.length → l[i]? = some o → FreeStepB q B anc live Rel P n d F a0 W0 Q (k + i) o) ∧ ∀ o, l.getLast? = some o → fin o
  | [], _, _ => ⟨fun i o h => by simp at h, fun o h => by simp at h⟩
  | [o], k, h => ⟨fun i o h => by simp at h, fun o' h' => by simp at h'; subst h'; exact h⟩
  | o :: o' :: r, k, h => by
    obtain ⟨h1, h2⟩ := FreeStepsB.at (o' :: r) (k + 1) h.2
    refine ⟨fun i x hi hx => ?_, fun x hx => h2 x (by rwa [List.getLast?_cons_cons] at hx)⟩
    cases i with
    | zero =>
      simp at hx
      subst hx
      exact h.1
    | succ i =>
      have := h1 i x (by simpa using hi) (by simpa using hx)
      rwa [Nat.add_assoc, Nat.add_comm 1 i] at this
/-- all of a list lead to operation q -/
def ancOk (ops : Array Oper) (q : Nat) (als : List Nat) : Bool :=
  als.all fun a => a == q || (q :: als).any fun i => decide (a < i) && ((ops[i]?).map fun o => o.after.any fun e => Region.binds .any e && e.on == a).getD false
theorem anc_listed {ops : Array Oper} {q : Nat} {als : List Nat} (h : ancOk ops q als = true) (L : Nat → Bool) (hc : ∀ i o, ops[i]? = some o → L i = true → ∀ e ∈ o.after, Region.binds .any e = true → L e.on = true) (hq : L q = true) :
    ∀ (n a : Nat), ops.size ≤ a + n → a ∈ als → L a = true := by
  intro n
  induction n with
  | zero =>
    intro a ha hm
    unfold ancOk at h
    rw [List.all_eq_true] at h
    have h1 := h a hm
    rw [Bool.or_eq_true, beq_iff_eq, List.any_eq_true] at h1
    rcases h1 with rfl | ⟨i, hi, h2⟩
    · exact hq
    · rw [Bool.and_eq_true, decide_eq_true_eq] at h2
      have : ops[i]? = none := Array.getElem?_eq_none (by omega)
      rw [this] at h2
      simp at h2
  | succ n ih =>
    intro a ha hm
    have h0 := h
    unfold ancOk at h0
    rw [List.all_eq_true] at h0
    have h1 := h0 a hm
    rw [Bool.or_eq_true, beq_iff_eq, List.any_eq_true] at h1
    rcases h1 with rfl | ⟨i, hi, h2⟩
    · exact hq
    · rw [Bool.and_eq_true, decide_eq_true_eq] at h2
      obtain ⟨h3, h4⟩ := h2
      have hLi : L i = true := by
        rcases List.mem_cons.1 hi with rfl | hi
        · exact hq
        · exact ih i (by omega) hi
      cases ho : ops[i]? with
      | none => rw [ho] at h4; simp at h4
      | some o =>
        rw [ho] at h4
        simp only [Option.map_some, Option.getD_some] at h4
        rw [← Array.any_toList, List.any_eq_true] at h4
        obtain ⟨e, he, hb⟩ := h4
        rw [Bool.and_eq_true, beq_iff_eq] at hb
        rw [← hb.2]
        exact hc i o ho hLi e (Array.mem_toList_iff.1 he) hb.1
theorem wp_region_freeB_l (q B : Nat) (als : List Nat) (live : Nat → Nat → Bool) (Rel : Nat → World → World → Prop) {P : Program} {id : Nat} {ops : List Oper} {Q : Exit → Act → World → Prop} {a0 : Act} {W0 : World} (hm : P.follows .mixedOrders = true)
    (ds : List Nat) (Fs : List (Value → World → Prop)) (hok : regionOkB ops.toArray ds a0.tmps.size = true) (hak : ancOk ops.toArray q als = true)
    (hrel : ∀ i w w', Rel i w w' → Below B W0 w → Below B W0 w') (hfull : ∀ i w w', i ≠ q → Rel i w w' → Below W0.heap.size W0 w → Below W0.heap.size W0 w')
    (hstable : ∀ i j, i < Fs.length → i ≠ j → live i j = true → ∀ v w w', Fs.getD i (fun _ _ => True) v w → Rel j w w' → Fs.getD i (fun _ _ => True) v w')
    (hstep : FreeStepsB q B (fun i => als.contains i) live Rel P ds.length (fun i => ds.getD i 0) (fun i => Fs.getD i fun _ _ => True) a0 W0 Q
      (fun st => ∀ (vs : List Value) w, vs.length = ds.length → (∀ i (hi : i < vs.length), (∀ j, live i j = true) → Fs.getD i (fun _ _ => True) vs[i] w) → Below B W0 w → wpList P ops.toArray Q [st] ⟨putL a0.tmps (ds.zip vs), a0.defers⟩ w) 0 ops) :
    (Code.region id ops.toArray true).wp P Q a0 W0 := by
  unfold regionOkB at hok
  simp only [Bool.and_eq_true, decide_eq_true_eq, List.all_eq_true, List.mem_range] at hok
  obtain ⟨⟨⟨⟨⟨h1, h2⟩, h3⟩, h4⟩, h5⟩, h6⟩ := hok
  have hn : ops.length = ds.length + 1 := by simpa using h1
  obtain ⟨hs1, hs2⟩ := FreeStepsB.at ops 0 hstep
  obtain ⟨st, hlast⟩ : ∃ st, ops[ds.length]? = some st := ⟨_, List.getElem?_eq_getElem (by omega)⟩
  have hlast' : ops.toArray[ds.length]? = some st := by
    rw [← hlast]
    simp
  have hgl : ops.getLast? = some st := by
    rw [List.getLast?_eq_getElem?, show ops.length - 1 = ds.length by omega]
    exact hlast
  have hop : ∀ (i : Nat) (o : Oper), i < ds.length → ops.toArray[i]? = some o → o.dst = some (ds.getD i 0) ∧ (∀ e ∈ o.after, Region.binds .any e = true → e.on < i) ∧ ∀ k b, o.guard = some (k, b) → k < ds.length := by
    intro i o hi ho
    have := h4 i hi
    rw [ho] at this
    simp only [Option.map_some, Option.getD_some, Bool.and_eq_true, beq_iff_eq, Array.all_eq_true_iff_forall_mem, Bool.or_eq_true, Bool.not_eq_true', decide_eq_true_eq] at this
    refine ⟨this.1.2, fun e he hb => (this.2 e he).resolve_left (by simp [hb]), fun k b hg => ?_⟩
    have h5 := this.1.1
    rw [hg] at h5
    simpa using h5
  refine wp_region_freeB q B live Rel hm (fun i => ds.getD i 0) (fun i => Fs.getD i fun _ _ => True) ds.length st (by simpa using hn) hlast' ?_ hop ?_ (fun i j hi hj he => ?_) (fun i hi => ?_) hrel hfull (fun i => als.contains i) (fun L hc hq i ha => anc_listed hak L hc hq ops.toArray.size i (by omega) (by simpa using ha)) (fun i j v w w' hij hlv hv hb => ?_) (fun i o hi ho => ?_) (fun a w hf => ?_)
  · rw [hlast'] at h5
    simp only [Option.map_some, Option.getD_some, Array.all_eq_true_iff_forall_mem, Bool.or_eq_true, Bool.not_eq_true', decide_eq_true_eq] at h5
    exact fun e he hb => (h5 e he).resolve_left (by simp [hb])
  · intro j hj
    have h7 := h6 j hj
    rw [List.any_eq_true] at h7
    obtain ⟨i, hi, h8⟩ := h7
    rw [List.mem_range] at hi
    rw [Array.getElem?_eq_getElem hi] at h8
    simp only [Option.map_some, Option.getD_some, Bool.and_eq_true, decide_eq_true_eq] at h8
    obtain ⟨h9, h10⟩ := h8
    rw [← Array.any_toList, List.any_eq_true] at h10
    obtain ⟨e, he, hbj⟩ := h10
    rw [Bool.and_eq_true, beq_iff_eq] at hbj
    exact ⟨i, _, e, h9, Array.getElem?_eq_getElem hi, Array.mem_toList_iff.1 he, hbj.1, hbj.2⟩
  · simp only [List.getD_eq_getElem?_getD, List.getElem?_eq_getElem hi, List.getElem?_eq_getElem hj, Option.getD_some] at he
    exact (List.getElem_inj h2).1 he
  · simp only [List.getD_eq_getElem?_getD, List.getElem?_eq_getElem hi, Option.getD_some]
    exact h3 _ (List.getElem_mem _)
  · by_cases hi : i < Fs.length
    · exact hstable i j hi hij hlv _ _ _ hv hb
    · simp only [List.getD_eq_getElem?_getD, List.getElem?_eq_none (Nat.le_of_not_lt hi), Option.getD_none]
  · have := hs1 i o (by omega) (by simpa using ho)
    rw [Nat.zero_add] at this
    exact this
  · obtain ⟨vs, hl, hF, rfl⟩ := hf.all
    have := hs2 _ hgl vs w hl hF hf.below
    have e : (List.range ds.length).map (fun i => ds.getD i 0) = ds := by
      apply List.ext_getElem (by simp)
      intro i h1 h2
      simp [h2]
    rw [e]
    exact this
theorem vs_litE {ds : List Nat} {Fs : List (Value → World → Prop)} {live : Nat → Nat → Bool} {W : World} (vs : List Value) (hl : vs.length = ds.length) (hF : ∀ (i : Nat) (hi : i < vs.length), (∀ j, live i j = true) → Fs.getD i (fun _ _ => True) vs[i] W) :
    ∃ g : Nat → Value, vs = (List.range ds.length).map g ∧ ∀ i, i < ds.length → (∀ j, live i j = true) → Fs.getD i (fun _ _ => True) (g i) W := by
  refine ⟨fun i => vs.getD i undef, ?_, fun i hi hlv => ?_⟩
  · apply List.ext_getElem (by simp [hl])
    intro i h1 h2
    simp [List.getD_eq_getElem?_getD, List.getElem?_eq_getElem h1]
  · have h1 : i < vs.length := by omega
    have := hF i h1 hlv
    simpa [List.getD_eq_getElem?_getD, List.getElem?_eq_getElem h1] using this
end Go.Proofs.Ytkocpihfdpahpaa
