/- Texts of this proof, one behind the other: RfD, RfE. -/
import Derived.Test.YtkocpihfdpahpaaRH
import Derived.Test.YtkocpihfdpahpaaRB
set_option linter.unusedVariables false
set_option linter.unusedSimpArgs false
/- Contracts of the document's layer 11: others, turn, Same. -/
namespace Go.Proofs.Ytkocpihfdpahpaa
open Go.RowKit

theorem oth_at (ms : List Mbr) (j : Int) (k : Nat) (h : k < ms.length) : oth ms j (k + 1) = oth ms j k + if (k : Int) + 1 ≠ j ∧ ms[k].status = 2 then 1 else 0 := by
  rw [oth, getD_of (List.getElem?_eq_getElem h)]
set_option maxRecDepth 100000 in
set_option maxHeartbeats 1600000 in
theorem rothers_c {w : World} {g : GReg} {r : Reg} (h : RegR w g r) (hm : r.members.length ≤ 1000000) (n : Int) :
    Calls Try.prog 134 #[.agg (regA g), .int .i64 n] w fun e w' => e = .returned (.int .i64 (oth r.members n r.members.length : Nat)) ∧ Below w.heap.size w w' := by
  have HB0 := RBox.new w g r 103 h
  have hB0 := Lib.hid (show Below w.heap.size w (w.alloc (.cells (regA g) 103)) from bel_a _ _)
  have n2 := h.1.1
  clear h
  obtain ⟨⟨ma, mn, mc⟩, gc, gg, gch⟩ := g
  simp only at n2
  subst n2
  go_enter Try.func134, Try.ntmps134
  go_upto_region 1 with fail
  generalize w.alloc (.cells (regA ⟨⟨ma, r.members.length, mc⟩, gc, gg, gch⟩) 103) = W0 at *
  obtain ⟨c0, _, _, _, hbl⟩ := HB0.cells
  simp only at c0
  dsimp only [Sl.v] at c0
  have HR := Lib.hid HB0.reg.1
  clear HB0
  go_upto_region 3 with fail
  go_loop [5, 6] (fun c i => ∃ k : Nat, k ≤ r.members.length ∧ c = .int .i64 (oth r.members n k : Nat) ∧ i = .int .i64 k) (fun _ i => r.members.length - (intOf i).toNat)
  case atStart => exact ⟨0, Nat.zero_le _, rfl, rfl⟩
  case round =>
    obtain ⟨k, hk, rfl, rfl⟩ := hrel
    by_cases hkx : k < r.members.length
    · obtain ⟨bm, om, e, hbm, hrm, -⟩ := mbrs_at HR.out (by omega)
      have e1 := congrArg Sl.a e
      simp only at e1
      subst e1
      clear e
      have hrow := hrm k hkx
      clear hrm
      have Hs := Lib.hid (oth_at r.members n k hkx)
      have hle := oth_le r.members n k
      generalize r.members[k] = m at *
      obtain ⟨-, -, q2, -⟩ := mbr_cells hrow
      obtain ⟨C, hC⟩ : ∃ C, C = oth r.members n k := ⟨_, rfl⟩
      rw [← hC] at Hs hle ⊢
      clear hC hrow
      have k1 : (k : Int) < (r.members.length : Int) := by omega
      have k0 : (0 : Int) ≤ (k : Int) := by omega
      have x1 : IntKind.i64.wrap ((k : Int) + 1) = k + 1 := IntWalk.i64_in _ (by omega)
      have x2 : IntKind.i64.wrap ((C : Int) + 1) = C + 1 := IntWalk.i64_in _ (by omega)
      have hks := Lib.hid (show k + 1 ≤ r.members.length from hkx)
      by_cases hn : (k : Int) + 1 = n
      · have Hs2 := Lib.hid (show oth r.members n (k + 1) = C by rw [Hs.out, if_neg (fun h => h.1 hn)]; rfl)
        have b1 : ((k : Int) + 1 != n) = false := by simp [hn]
        clear Hs hn hkx hk hle
        go_wp2_with fail
        go_round
        case rel => exact ⟨k + 1, hks.out, by rw [Hs2.out], by go_num⟩
        case measure =>
          have := hks.out
          simp [intOf]
          omega
      · have b1 : ((k : Int) + 1 != n) = true := by simpa using hn
        by_cases hs : m.status = 2
        · have Hs2 := Lib.hid (show oth r.members n (k + 1) = C + 1 by rw [Hs.out, if_pos ⟨hn, hs⟩])
          have b2 : (m.status == 2) = true := by simp [hs]
          clear Hs hn hs hkx hk hle
          go_wp2_with fail
          go_round
          case rel => exact ⟨k + 1, hks.out, by rw [Hs2.out]; go_num, by go_num⟩
          case measure =>
            have := hks.out
            simp [intOf]
            omega
        · have Hs2 := Lib.hid (show oth r.members n (k + 1) = C by rw [Hs.out, if_neg (fun h => hs h.2)]; rfl)
          have b2 : (m.status == 2) = false := by simp [hs]
          clear Hs hn hs hkx hk hle
          go_wp2_with fail
          go_round
          case rel => exact ⟨k + 1, hks.out, by rw [Hs2.out], by go_num⟩
          case measure =>
            have := hks.out
            simp [intOf]
            omega
    · obtain rfl : k = r.members.length := by omega
      have k1 : ¬ (r.members.length : Int) < (r.members.length : Int) := by omega
      go_wp2_with fail
      go_ret
      exact ⟨rfl, hB0.out⟩
/-- as often as the churn: the same as above the churn times the epochs -/
theorem turn_div {s c n : Nat} (h0 : 0 < s) (hc : 1 ≤ c) : n ≤ (s - 1) / c ↔ n * c < s := by
  rw [Nat.le_div_iff_mul_le hc]
  omega
set_option maxRecDepth 100000 in
set_option maxHeartbeats 3200000 in
theorem rturn_c {w : World} {g : GReg} {r : Reg} (h : RegR w g r) (hm : r.members.length ≤ 1000000) {s : Sl} {l : List Int} (hs : NumsR w s l) (hl : l.length ≤ 64) (hv : ∀ n ∈ l, 1 ≤ n ∧ n ≤ (r.members.length : Int)) (hst : ∀ m ∈ r.members, 1 ≤ m.stake.toNat ∧ m.stake.toNat ≤ 4294967296) (hc : 1 ≤ r.churn.toNat) (en : Nat) (he : 1 ≤ en) :
    Calls Try.prog 133 #[.agg (regA g), s.v, .int .u64 (en : Int)] w fun e w' => e = .returned (.int .i64 (turnN r.members (en * r.churn.toNat) l 0 : Nat)) ∧ Below w.heap.size w w' := by
  have HB0 := RBox.new w g r 103 h
  have hB0 := Lib.hid (show Below w.heap.size w (w.alloc (.cells (regA g) 103)) from bel_a _ _)
  have n2 := h.1.1
  have n3 := hs.1
  have hch := h.2.2.2
  have HN := Lib.hid (show NumsR (w.alloc (.cells (regA g) 103)) s l from SlR.keep hs hB0.out fun _ _ h => h)
  clear h hs
  obtain ⟨⟨ma, mn, mc⟩, gc, gg, gch⟩ := g
  obtain ⟨sa, sn, sc⟩ := s
  simp only at n2 n3 hch
  subst n2 n3 hch
  have Hv := Lib.hid hv
  have Hst := Lib.hid hst
  clear hv hst
  obtain ⟨cn, hcn⟩ : ∃ x, x = r.churn.toNat := ⟨_, rfl⟩
  rw [← hcn] at hc ⊢
  show Calls Try.prog 133 #[.agg _, .slice sa l.length sc, .int .u64 (en : Int)] w _
  replace hcn := Lib.hid hcn
  go_enter Try.func133, Try.ntmps133
  go_upto_region 1 with fail
  replace hcn := hcn.out
  generalize w.alloc (.cells (regA ⟨⟨ma, r.members.length, mc⟩, gc, gg, r.churn⟩) 103) = W0 at *
  obtain ⟨c0, _, _, c3, hbl⟩ := HB0.cells
  simp only at c0 c3
  dsimp only [Sl.v] at c0
  have HR := Lib.hid HB0.reg.1
  clear HB0
  rw [← hcn] at c3
  clear hcn
  have hw0 : ∃ n : Nat, W0 = W0.drewN n := ⟨0, rfl⟩
  go_upto_region 3 with fail
  go_loopw [7, 8] (fun su i W' => ∃ (k j S : Nat), k ≤ l.length ∧ su = .int .u64 (S : Int) ∧ i = .int .i64 k ∧ W' = W0.drewN j ∧ S ≤ k * 4294967296 ∧ Hid (turnN r.members (en * cn) l 0 = k + turnN r.members (en * cn) (l.drop k) S)) (fun _ i _ => l.length - (intOf i).toNat)
  case atStart => exact ⟨0, 0, 0, Nat.zero_le _, rfl, rfl, rfl, Nat.le_refl _, Lib.hid (by simp)⟩
  case round =>
    obtain ⟨k, j, S, hk, rfl, rfl, rfl, hS, HT⟩ := hrel
    by_cases hkx : k < l.length
    · obtain ⟨b, off, e, hb, hcc⟩ := nums_at HN.out (by omega)
      have e1 := congrArg Sl.a e
      simp only at e1
      subst e1
      clear e
      have hck := hcc k hkx
      clear hcc
      have hget := List.getElem?_eq_getElem hkx
      obtain ⟨v1, v2⟩ := Hv.out _ (List.getElem_mem hkx)
      have Htc := Lib.hid (turnN_cons (ms := r.members) (lim := en * cn) hget S)
      generalize l[k] = x at *
      obtain ⟨i, rfl⟩ : ∃ i : Nat, x = (i : Int) + 1 := ⟨(x - 1).toNat, by omega⟩
      have hi : i < r.members.length := by omega
      obtain ⟨bm, om, em, hbm, hrm, -⟩ := mbrs_at HR.out (by omega)
      have e1 := congrArg Sl.a em
      simp only at e1
      subst e1
      clear em
      have hrow := hrm i hi
      clear hrm
      have hsa := stakeAt_succ r.members i _ (List.getElem?_eq_getElem hi)
      obtain ⟨t1, t2⟩ := Hst.out _ (List.getElem_mem hi)
      generalize r.members[i] = m at *
      obtain ⟨-, q1, -, -⟩ := mbr_cells hrow
      obtain ⟨st, hst⟩ : ∃ x, x = m.stake.toNat := ⟨_, rfl⟩
      rw [hsa, ← hst] at Htc
      rw [← hst] at t1 t2 q1
      clear hst hsa hrow hget v1 v2
      have R0 := fun a => (show (W0.drewN a).cell? ⟨w.heap.size, 0, none⟩ = some (.slice (some ⟨bm, om, none⟩) r.members.length mc) from c0)
      have R3 := fun a => (show (W0.drewN a).cell? ⟨w.heap.size, 3, none⟩ = some (.int .u64 (cn : Int)) from c3)
      have R1 := fun a => (show (W0.drewN a).cell? ⟨b, off + k, none⟩ = some (.int .i64 ((i : Int) + 1)) from hck)
      have R2 := fun a => (show (W0.drewN a).cell? ⟨bm, om + i * 35 + 32, none⟩ = some (.int .u64 (st : Int)) from q1)
      have k0 : (0 : Int) ≤ (k : Int) := by omega
      have k1 : (k : Int) < (l.length : Int) := by omega
      have i0 : (0 : Int) ≤ (i : Int) := by omega
      have i1 : (i : Int) < (r.members.length : Int) := by omega
      have x1 : IntKind.i64.wrap ((i : Int) + 1 - 1) = (i : Int) := by rw [show (i : Int) + 1 - 1 = i by omega]; exact IntWalk.i64_in _ (by omega)
      have x1' : IntKind.i64.wrap (i : Int) = (i : Int) := IntWalk.i64_in _ (by omega)
      obtain ⟨S1, hS1⟩ : ∃ x, x = S + st := ⟨_, rfl⟩
      have x2 : IntKind.u64.wrap ((S : Int) + (st : Int)) = (S1 : Int) := by rw [IntKind.wrap_u64]; omega
      obtain ⟨M1, hM1⟩ : ∃ x, x = S1 - 1 := ⟨_, rfl⟩
      have x3 : IntKind.u64.wrap ((S1 : Int) - 1) = (M1 : Int) := by rw [IntKind.wrap_u64]; omega
      obtain ⟨Q, hQ⟩ : ∃ x, x = M1 / cn := ⟨_, rfl⟩
      have x4 : Int.tdiv (M1 : Int) (cn : Int) = (Q : Int) := by rw [hQ]; rfl
      have hQl : Q ≤ M1 := by rw [hQ]; exact Nat.div_le_self _ _
      have x5 : IntKind.u64.wrap (Q : Int) = (Q : Int) := by rw [IntKind.wrap_u64]; omega
      have cN : ¬ cn = 0 := by omega
      have cZ : ¬ (cn : Int) = 0 := by omega
      have hdiv : en ≤ Q ↔ en * cn < S1 := by
        rw [hQ, hM1]
        exact turn_div (by omega) hc
      rw [← hS1] at Htc
      have hS2 : S1 ≤ (k + 1) * 4294967296 := by omega
      replace hS1 := Lib.hid hS1
      replace hM1 := Lib.hid hM1
      replace hQ := Lib.hid hQ
      have hks := Lib.hid (show k + 1 ≤ l.length from hkx)
      replace hS2 := Lib.hid hS2
      by_cases hq : en ≤ Q
      · have Hr := Lib.hid (show turnN r.members (en * cn) l 0 = k by rw [HT.out, Htc.out, if_pos (hdiv.1 hq)]; rfl)
        have b1 : (en : Int) ≤ (Q : Int) := by omega
        clear hdiv hQl hS hkx hk hw0 hq HT Htc
        go_upto_region 5 with fail
        go_quiet (fail)
        go_wp2_with fail
        go_ret
        exact ⟨ret_int (by rw [Hr.out]), below_drewN hB0.out _⟩
      · have Hr := Lib.hid (show turnN r.members (en * cn) l 0 = (k + 1) + turnN r.members (en * cn) (l.drop (k + 1)) S1 by rw [HT.out, Htc.out, if_neg (fun h => hq (hdiv.2 h)), Nat.add_assoc])
        have b1 : ¬ (en : Int) ≤ (Q : Int) := by omega
        have b2 : decide ((en : Int) ≤ (Q : Int)) = false := decide_eq_false b1
        have b3 : ¬ en ≤ Q := hq
        have x6 : IntKind.i64.wrap ((k : Int) + 1) = k + 1 := IntWalk.i64_in _ (by omega)
        clear hdiv hQl hS hkx hk hw0 hq HT Htc
        go_upto_region 5 with fail
        go_quiet (fail)
        go_wp2_with fail
        go_roundw
        case rel => exact ⟨k + 1, _, S1, hks.out, rfl, by go_num, rfl, hS2.out, Hr⟩
        case measure =>
          have := hks.out
          simp [intOf]
          omega
    · obtain rfl : k = l.length := by omega
      have k1 : ¬ (l.length : Int) < (l.length : Int) := by omega
      have Hr := Lib.hid (show turnN r.members (en * cn) l 0 = l.length by rw [HT.out, List.drop_length]; rfl)
      clear HT hw0
      go_wp2_with fail
      go_ret
      exact ⟨ret_int (by rw [Hr.out]), below_drewN hB0.out _⟩
end Go.Proofs.Ytkocpihfdpahpaa

/- Contract of the document's layer 11: Same. -/
namespace Go.Proofs.Ytkocpihfdpahpaa
open Go.RowKit
attribute [local go_sem] regA_size

theorem take_eq_snoc {α : Type} {a b : List α} (k : Nat) (ha : k < a.length) (hb : k < b.length) (h : a.take k = b.take k) (he : a[k] = b[k]) : a.take (k + 1) = b.take (k + 1) := by
  rw [List.take_succ_eq_append_getElem ha, List.take_succ_eq_append_getElem hb, h, he]
theorem ne_at {α : Type} {a b : List α} (k : Nat) (ha : k < a.length) (hb : k < b.length) (he : a[k] ≠ b[k]) : a ≠ b := by
  intro h
  subst h
  exact he rfl
theorem mbr_guard_s : Try.prog.eqGuardType Try.prog.depth 123 = false := by kernel_rfl
set_option maxRecDepth 100000 in
set_option maxHeartbeats 6400000 in
theorem rsame_c {w : World} {ga gb : GReg} {a b : Reg} (ha : RegR w ga a) (hb : RegR w gb b) (hma : a.members.length ≤ 1000000) (hca : a.coming.length ≤ 1000000) (hga : a.going.length ≤ 1000000) :
    Calls Try.prog 60 #[.agg (regA ga), .agg (regA gb)] w fun e w' => e = .returned (.bool (decide (a = b))) ∧ Below w.heap.size w w' := by
  have hB0 : Below w.heap.size w ((w.alloc (.cells (regA ga) 103)).alloc (.cells (regA gb) 103)) := by (repeat' (first | (with_reducible exact Below.refl _ _) | (with_reducible assumption) | (with_reducible refine bel_trans (by assumption) ?_ ?_) | (with_reducible refine bel_grown (by assumption) ?_ ?_ ?_) | (with_reducible refine Below.alloc ?_ ?_ _) | (with_reducible refine Below.drew ?_) | (with_reducible refine below_drewN ?_ _) | (with_reducible refine Below.setCell ?_ ?_ _) | (with_reducible refine below_put ?_ ?_ _ _) | (with_reducible exact Nat.le_refl _) | omega | (with_reducible refine Nat.le_trans ?_ (Below.size (by assumption))) | (with_reducible refine Nat.le_trans ?_ (World.grownBy.size (by assumption))) | (simp only [World.size_alloc, World.size_setCell, World.size_drew, size_drewN]; omega) | (simp only [World.size_alloc, World.size_setCell, World.size_drew, size_drewN, size_put]; omega) | (intro k hk; simp [Value.ownBlock] at hk; done) | (intro k hk; simp [Value.ownBlock] at hk; omega) | (simp [size_drewN] at *; omega)))
  have hr1 : row? ((w.alloc (.cells (regA ga) 103)).alloc (.cells (regA gb) 103)) w.heap.size 0 4 = some (regA ga) := by
    rw [row?_old _ _ _ _ _ (by simp), row?_new]; exact if_pos (by simp [regA])
  have hr2 : row? ((w.alloc (.cells (regA ga) 103)).alloc (.cells (regA gb) 103)) (w.heap.size + 1) 0 4 = some (regA gb) := by
    rw [row?_new_at _ _ _ _ _ _ (by simp)]; exact if_pos (by simp [regA])
  have HA : RBox ((w.alloc (.cells (regA ga) 103)).alloc (.cells (regA gb) 103)) w.heap.size ga a := ⟨hr1, ha.keep hB0⟩
  have HB : RBox ((w.alloc (.cells (regA ga) 103)).alloc (.cells (regA gb) 103)) (w.heap.size + 1) gb b := ⟨hr2, hb.keep hB0⟩
  have a1 := ha.1.1
  have a2 := ha.2.1.1
  have a3 := ha.2.2.1.1
  have a4 := ha.2.2.2
  have b1 := hb.1.1
  have b2 := hb.2.1.1
  have b3 := hb.2.2.1.1
  have b4 := hb.2.2.2
  clear ha hb hr1 hr2
  obtain ⟨⟨xa, xn, xc⟩, ⟨ya, yn, yc⟩, ⟨za, zn, zc⟩, xch⟩ := ga
  obtain ⟨⟨ua, un, uc⟩, ⟨va, vn, vc⟩, ⟨ta, tn, tc⟩, uch⟩ := gb
  simp only at a1 a2 a3 a4 b1 b2 b3 b4
  subst a1 a2 a3 a4 b1 b2 b3 b4
  go_enter Try.func60, Try.ntmps60
  go_upto_region 1 with fail
  generalize (w.alloc (.cells (regA ⟨⟨xa, a.members.length, xc⟩, ⟨ya, a.coming.length, yc⟩, ⟨za, a.going.length, zc⟩, a.churn⟩) 103)).alloc (.cells (regA ⟨⟨ua, b.members.length, uc⟩, ⟨va, b.coming.length, vc⟩, ⟨ta, b.going.length, tc⟩, b.churn⟩) 103) = W at *
  obtain ⟨c0, c1, c2, c3, _⟩ := HA.cells
  obtain ⟨d0, d1, d2, d3, _⟩ := HB.cells
  simp only at c0 c1 c2 c3 d0 d1 d2 d3
  dsimp only [Sl.v] at c0 c1 c2 d0 d1 d2
  replace HA := Lib.hid HA
  replace HB := Lib.hid HB
  replace hB0 := Lib.hid hB0
  by_cases l1 : a.members.length = b.members.length
  rotate_left
  · have Hr := Lib.hid (show decide (a = b) = false from decide_eq_false fun h => l1 (by rw [h]))
    have t1 : ((a.members.length : Int) != (b.members.length : Int)) = true := bne_iff_ne.2 (by omega)
    clear l1
    go_wp2_with fail
    go_ret
    exact ⟨ret_bool Hr.out.symm, hB0.out⟩
  have t1 : ((a.members.length : Int) != (b.members.length : Int)) = false := by simp [l1]
  by_cases l2 : a.coming.length = b.coming.length
  rotate_left
  · have Hr := Lib.hid (show decide (a = b) = false from decide_eq_false fun h => l2 (by rw [h]))
    have t2 : ((a.coming.length : Int) != (b.coming.length : Int)) = true := bne_iff_ne.2 (by omega)
    clear l1 l2
    go_wp2_with fail
    go_ret
    exact ⟨ret_bool Hr.out.symm, hB0.out⟩
  have t2 : ((a.coming.length : Int) != (b.coming.length : Int)) = false := by simp [l2]
  by_cases l3 : a.going.length = b.going.length
  rotate_left
  · have Hr := Lib.hid (show decide (a = b) = false from decide_eq_false fun h => l3 (by rw [h]))
    have t3 : ((a.going.length : Int) != (b.going.length : Int)) = true := bne_iff_ne.2 (by omega)
    clear l1 l2 l3
    go_wp2_with fail
    go_ret
    exact ⟨ret_bool Hr.out.symm, hB0.out⟩
  have t3 : ((a.going.length : Int) != (b.going.length : Int)) = false := by simp [l3]
  by_cases l4 : a.churn = b.churn
  rotate_left
  · have Hr := Lib.hid (show decide (a = b) = false from decide_eq_false fun h => l4 (by rw [h]))
    have t4 : ((a.churn.toNat : Int) != (b.churn.toNat : Int)) = true := bne_iff_ne.2 fun h => l4 (UInt64.toNat_inj.1 (by omega))
    clear l1 l2 l3 l4
    go_wp2_with fail
    go_ret
    exact ⟨ret_bool Hr.out.symm, hB0.out⟩
  have t4 : ((a.churn.toNat : Int) != (b.churn.toNat : Int)) = false := by simp [l4]
  have HEQ := Lib.hid (show a.members = b.members → a.coming = b.coming → a.going = b.going → decide (a = b) = true from fun h1 h2 h3 => decide_eq_true (by
    cases a; cases b
    simp only at h1 h2 h3 l4
    rw [h1, h2, h3, l4]))
  have hL1 := Lib.hid l1
  have hL2 := Lib.hid l2
  have hL3 := Lib.hid l3
  clear l1 l2 l3 l4
  go_upto_region 4 with fail
  clear t1 t2 t3 t4 c3 d3
  go_loopw [5] (fun i W' => ∃ k j : Nat, k ≤ a.members.length ∧ i = .int .i64 k ∧ W' = W.drewN j ∧ Hid (a.members.take k = b.members.take k)) (fun i _ => a.members.length - (intOf i).toNat)
  case atStart => exact ⟨0, 0, Nat.zero_le _, rfl, rfl, Lib.hid rfl⟩
  case round =>
    obtain ⟨k, j, hk, rfl, rfl, hT⟩ := hrel
    by_cases hkx : k < a.members.length
    · have hkb : k < b.members.length := by have := hL1.out; omega
      obtain ⟨p1, o1, e, _, hr1, -⟩ := mbrs_at HA.out.reg.1 (by omega)
      have e1 := congrArg Sl.a e
      simp only at e1
      subst e1
      clear e
      obtain ⟨p2, o2, e, _, hr2, -⟩ := mbrs_at HB.out.reg.1 (by omega)
      have e1 := congrArg Sl.a e
      simp only at e1
      subst e1
      clear e
      have q1 := hr1 k hkx
      have q2 := hr2 k hkb
      clear hr1 hr2
      have Hs := Lib.hid (fun he => take_eq_snoc k hkx hkb hT.out he)
      have Hn := Lib.hid (fun he => ne_at k hkx hkb he)
      generalize a.members[k] = x at *
      generalize b.members[k] = y at *
      have R0 := fun n => (show (W.drewN n).cell? ⟨w.heap.size, 0, none⟩ = _ from c0)
      have R1 := fun n => (show (W.drewN n).cell? ⟨w.heap.size + 1, 0, none⟩ = _ from d0)
      have R2 := fun n => (show row? (W.drewN n) p1 (o1 + k * 35) 35 = _ from q1)
      have R3 := fun n => (show row? (W.drewN n) p2 (o2 + k * 35) 35 = _ from q2)
      have k0 : (0 : Int) ≤ (k : Int) := by omega
      have k1 : (k : Int) < (a.members.length : Int) := by omega
      have k2 : (k : Int) < (b.members.length : Int) := by omega
      have x6 : IntKind.i64.wrap ((k : Int) + 1) = k + 1 := IntWalk.i64_in _ (by omega)
      have hks := Lib.hid (show k + 1 ≤ a.members.length from hkx)
      have hgd := mbr_guard_s
      clear hkx hk hkb q1 q2
      by_cases hxy : x = y
      · have dx : decide (x = y) = true := decide_eq_true hxy
        have Hs2 := Lib.hid (Hs.out hxy)
        clear hxy Hs Hn
        go_upto_region 6 with fail
        go_quiet (fail)
        go_wp2_with fail
        go_roundw
        case rel => exact ⟨k + 1, _, hks.out, by go_num, rfl, Hs2⟩
        case measure =>
          have := hks.out
          simp [intOf]
          omega
      · have dx : decide (x = y) = false := decide_eq_false hxy
        have Hr := Lib.hid (show decide (a = b) = false from decide_eq_false fun h => Hn.out hxy (by rw [h]))
        clear hxy Hs Hn
        go_upto_region 6 with fail
        go_quiet (fail)
        go_wp2_with fail
        go_ret
        exact ⟨ret_bool Hr.out.symm, by have hB9 := hB0.out; (repeat' (first | (with_reducible exact Below.refl _ _) | (with_reducible assumption) | (with_reducible refine bel_trans (by assumption) ?_ ?_) | (with_reducible refine bel_grown (by assumption) ?_ ?_ ?_) | (with_reducible refine Below.alloc ?_ ?_ _) | (with_reducible refine Below.drew ?_) | (with_reducible refine below_drewN ?_ _) | (with_reducible refine Below.setCell ?_ ?_ _) | (with_reducible refine below_put ?_ ?_ _ _) | (with_reducible exact Nat.le_refl _) | omega | (with_reducible refine Nat.le_trans ?_ (Below.size (by assumption))) | (with_reducible refine Nat.le_trans ?_ (World.grownBy.size (by assumption))) | (simp only [World.size_alloc, World.size_setCell, World.size_drew, size_drewN]; omega) | (simp only [World.size_alloc, World.size_setCell, World.size_drew, size_drewN, size_put]; omega) | (intro k hk; simp [Value.ownBlock] at hk; done) | (intro k hk; simp [Value.ownBlock] at hk; omega) | (simp [size_drewN] at *; omega)))⟩
    · obtain rfl : k = a.members.length := by omega
      have heq1 := Lib.hid (show a.members = b.members by have h1 := hT.out; rwa [List.take_length, hL1.out, List.take_length] at h1)
      have knl : ¬ (a.members.length : Int) < (a.members.length : Int) := by omega
      clear hT hkx hk
      have c1' := c1
      have d1' := d1
      go_upto_region 9 with fail
      go_loopw [6] (fun i W' => ∃ k j : Nat, k ≤ a.coming.length ∧ i = .int .i64 k ∧ W' = W.drewN j ∧ Hid (a.coming.take k = b.coming.take k)) (fun i _ => a.coming.length - (intOf i).toNat)
      case atStart => exact ⟨0, _, Nat.zero_le _, rfl, rfl, Lib.hid rfl⟩
      case round =>
        obtain ⟨k, j, hk, rfl, rfl, hT⟩ := hrel
        by_cases hkx : k < a.coming.length
        · have hkb : k < b.coming.length := by have := hL2.out; omega
          obtain ⟨p1, o1, e, _, hr1⟩ := nums_at HA.out.reg.2.1 (by omega)
          have e1 := congrArg Sl.a e
          simp only at e1
          subst e1
          clear e
          obtain ⟨p2, o2, e, _, hr2⟩ := nums_at HB.out.reg.2.1 (by omega)
          have e1 := congrArg Sl.a e
          simp only at e1
          subst e1
          clear e
          have q1 := hr1 k hkx
          have q2 := hr2 k hkb
          clear hr1 hr2
          have Hs := Lib.hid (fun he => take_eq_snoc k hkx hkb hT.out he)
          have Hn := Lib.hid (fun he => ne_at k hkx hkb he)
          generalize a.coming[k] = x at *
          generalize b.coming[k] = y at *
          have R0 := fun n => (show (W.drewN n).cell? ⟨w.heap.size, 1, none⟩ = _ from c1)
          have R1 := fun n => (show (W.drewN n).cell? ⟨w.heap.size + 1, 1, none⟩ = _ from d1)
          have R2 := fun n => (show (W.drewN n).cell? ⟨p1, o1 + k, none⟩ = _ from q1)
          have R3 := fun n => (show (W.drewN n).cell? ⟨p2, o2 + k, none⟩ = _ from q2)
          have k0 : (0 : Int) ≤ (k : Int) := by omega
          have k1 : (k : Int) < (a.coming.length : Int) := by omega
          have k2 : (k : Int) < (b.coming.length : Int) := by omega
          have x6 : IntKind.i64.wrap ((k : Int) + 1) = k + 1 := IntWalk.i64_in _ (by omega)
          have hks := Lib.hid (show k + 1 ≤ a.coming.length from hkx)
          clear hkx hk hkb q1 q2
          by_cases hxy : x = y
          · have dx : (x != y) = false := by simp [hxy]
            have Hs2 := Lib.hid (Hs.out hxy)
            clear hxy Hs Hn
            go_upto_region 11 with fail
            go_quiet (fail)
            go_wp2_with fail
            go_roundw
            case rel => exact ⟨k + 1, _, hks.out, by go_num, rfl, Hs2⟩
            case measure =>
              have := hks.out
              simp [intOf]
              omega
          · have dx : (x != y) = true := bne_iff_ne.2 hxy
            have Hr := Lib.hid (show decide (a = b) = false from decide_eq_false fun h => Hn.out hxy (by rw [h]))
            clear hxy Hs Hn
            go_upto_region 11 with fail
            go_quiet (fail)
            go_wp2_with fail
            go_ret
            exact ⟨ret_bool Hr.out.symm, by have hB9 := hB0.out; (repeat' (first | (with_reducible exact Below.refl _ _) | (with_reducible assumption) | (with_reducible refine bel_trans (by assumption) ?_ ?_) | (with_reducible refine bel_grown (by assumption) ?_ ?_ ?_) | (with_reducible refine Below.alloc ?_ ?_ _) | (with_reducible refine Below.drew ?_) | (with_reducible refine below_drewN ?_ _) | (with_reducible refine Below.setCell ?_ ?_ _) | (with_reducible refine below_put ?_ ?_ _ _) | (with_reducible exact Nat.le_refl _) | omega | (with_reducible refine Nat.le_trans ?_ (Below.size (by assumption))) | (with_reducible refine Nat.le_trans ?_ (World.grownBy.size (by assumption))) | (simp only [World.size_alloc, World.size_setCell, World.size_drew, size_drewN]; omega) | (simp only [World.size_alloc, World.size_setCell, World.size_drew, size_drewN, size_put]; omega) | (intro k hk; simp [Value.ownBlock] at hk; done) | (intro k hk; simp [Value.ownBlock] at hk; omega) | (simp [size_drewN] at *; omega)))⟩
        · obtain rfl : k = a.coming.length := by omega
          have heq2 := Lib.hid (show a.coming = b.coming by have h1 := hT.out; rwa [List.take_length, hL2.out, List.take_length] at h1)
          have knl : ¬ (a.coming.length : Int) < (a.coming.length : Int) := by omega
          clear hT hkx hk
          go_upto_region 14 with fail
          go_loopw [7] (fun i W' => ∃ k j : Nat, k ≤ a.going.length ∧ i = .int .i64 k ∧ W' = W.drewN j ∧ Hid (a.going.take k = b.going.take k)) (fun i _ => a.going.length - (intOf i).toNat)
          case atStart => exact ⟨0, _, Nat.zero_le _, rfl, rfl, Lib.hid rfl⟩
          case round =>
            obtain ⟨k, j, hk, rfl, rfl, hT⟩ := hrel
            by_cases hkx : k < a.going.length
            · have hkb : k < b.going.length := by have := hL3.out; omega
              obtain ⟨p1, o1, e, _, hr1⟩ := nums_at HA.out.reg.2.2.1 (by omega)
              have e1 := congrArg Sl.a e
              simp only at e1
              subst e1
              clear e
              obtain ⟨p2, o2, e, _, hr2⟩ := nums_at HB.out.reg.2.2.1 (by omega)
              have e1 := congrArg Sl.a e
              simp only at e1
              subst e1
              clear e
              have q1 := hr1 k hkx
              have q2 := hr2 k hkb
              clear hr1 hr2
              have Hs := Lib.hid (fun he => take_eq_snoc k hkx hkb hT.out he)
              have Hn := Lib.hid (fun he => ne_at k hkx hkb he)
              generalize a.going[k] = x at *
              generalize b.going[k] = y at *
              have R0 := fun n => (show (W.drewN n).cell? ⟨w.heap.size, 2, none⟩ = _ from c2)
              have R1 := fun n => (show (W.drewN n).cell? ⟨w.heap.size + 1, 2, none⟩ = _ from d2)
              have R2 := fun n => (show (W.drewN n).cell? ⟨p1, o1 + k, none⟩ = _ from q1)
              have R3 := fun n => (show (W.drewN n).cell? ⟨p2, o2 + k, none⟩ = _ from q2)
              have k0 : (0 : Int) ≤ (k : Int) := by omega
              have k1 : (k : Int) < (a.going.length : Int) := by omega
              have k2 : (k : Int) < (b.going.length : Int) := by omega
              have x6 : IntKind.i64.wrap ((k : Int) + 1) = k + 1 := IntWalk.i64_in _ (by omega)
              have hks := Lib.hid (show k + 1 ≤ a.going.length from hkx)
              clear hkx hk hkb q1 q2
              by_cases hxy : x = y
              · have dx : (x != y) = false := by simp [hxy]
                have Hs2 := Lib.hid (Hs.out hxy)
                clear hxy Hs Hn
                go_upto_region 16 with fail
                go_quiet (fail)
                go_wp2_with fail
                go_roundw
                case rel => exact ⟨k + 1, _, hks.out, by go_num, rfl, Hs2⟩
                case measure =>
                  have := hks.out
                  simp [intOf]
                  omega
              · have dx : (x != y) = true := bne_iff_ne.2 hxy
                have Hr := Lib.hid (show decide (a = b) = false from decide_eq_false fun h => Hn.out hxy (by rw [h]))
                clear hxy Hs Hn
                go_upto_region 16 with fail
                go_quiet (fail)
                go_wp2_with fail
                go_ret
                exact ⟨ret_bool Hr.out.symm, by have hB9 := hB0.out; (repeat' (first | (with_reducible exact Below.refl _ _) | (with_reducible assumption) | (with_reducible refine bel_trans (by assumption) ?_ ?_) | (with_reducible refine bel_grown (by assumption) ?_ ?_ ?_) | (with_reducible refine Below.alloc ?_ ?_ _) | (with_reducible refine Below.drew ?_) | (with_reducible refine below_drewN ?_ _) | (with_reducible refine Below.setCell ?_ ?_ _) | (with_reducible refine below_put ?_ ?_ _ _) | (with_reducible exact Nat.le_refl _) | omega | (with_reducible refine Nat.le_trans ?_ (Below.size (by assumption))) | (with_reducible refine Nat.le_trans ?_ (World.grownBy.size (by assumption))) | (simp only [World.size_alloc, World.size_setCell, World.size_drew, size_drewN]; omega) | (simp only [World.size_alloc, World.size_setCell, World.size_drew, size_drewN, size_put]; omega) | (intro k hk; simp [Value.ownBlock] at hk; done) | (intro k hk; simp [Value.ownBlock] at hk; omega) | (simp [size_drewN] at *; omega)))⟩
            · obtain rfl : k = a.going.length := by omega
              have heq3 := Lib.hid (show a.going = b.going by have h1 := hT.out; rwa [List.take_length, hL3.out, List.take_length] at h1)
              have knl : ¬ (a.going.length : Int) < (a.going.length : Int) := by omega
              clear hT hkx hk
              have Hr := Lib.hid (HEQ.out heq1.out heq2.out heq3.out)
              go_wp2_with fail
              go_ret
              exact ⟨ret_bool Hr.out.symm, by have hB9 := hB0.out; (repeat' (first | (with_reducible exact Below.refl _ _) | (with_reducible assumption) | (with_reducible refine bel_trans (by assumption) ?_ ?_) | (with_reducible refine bel_grown (by assumption) ?_ ?_ ?_) | (with_reducible refine Below.alloc ?_ ?_ _) | (with_reducible refine Below.drew ?_) | (with_reducible refine below_drewN ?_ _) | (with_reducible refine Below.setCell ?_ ?_ _) | (with_reducible refine below_put ?_ ?_ _ _) | (with_reducible exact Nat.le_refl _) | omega | (with_reducible refine Nat.le_trans ?_ (Below.size (by assumption))) | (with_reducible refine Nat.le_trans ?_ (World.grownBy.size (by assumption))) | (simp only [World.size_alloc, World.size_setCell, World.size_drew, size_drewN]; omega) | (simp only [World.size_alloc, World.size_setCell, World.size_drew, size_drewN, size_put]; omega) | (intro k hk; simp [Value.ownBlock] at hk; done) | (intro k hk; simp [Value.ownBlock] at hk; omega) | (simp [size_drewN] at *; omega)))⟩
end Go.Proofs.Ytkocpihfdpahpaa
