/- Contract: ref09.Much. -/
import Derived.Test.YtbpbnnonialelaaHdrBytes
import Derived.Test.YtbpbnnonialelaaRefMay
import Derived.Deep.CutRange
namespace Go.Proofs.Ytbpbnnonialelaa
open Go.RowKit

/-- how much is gone through -/
def sigN (l : List Vote) : Nat := (l.map fun v => min v.sig.length 100001).sum
def muchN (l : List Op) : Nat := (l.map fun o => sigN o.evidence).sum
def hdMuch (h : Hdr) : Bool := decide (200 < h.ops.length) || h.ops.any (fun o => decide (20 < o.evidence.length)) || decide (100000 < muchN h.ops)
theorem sigN_succ (l : List Vote) (k : Nat) (h : k < l.length) : sigN (l.take (k + 1)) = sigN (l.take k) + min l[k].sig.length 100001 := by
  rw [sigN, List.take_succ_eq_append_getElem h, List.map_append, List.sum_append]
  simp [sigN]
theorem muchN_succ (l : List Op) (k : Nat) (h : k < l.length) : muchN (l.take (k + 1)) = muchN (l.take k) + sigN l[k].evidence := by
  rw [muchN, List.take_succ_eq_append_getElem h, List.map_append, List.sum_append]
  simp [muchN]
theorem sigN_le (l : List Vote) : sigN l ≤ l.length * 100001 := by
  induction l with
  | nil => simp [sigN]
  | cons v l ih =>
    have : sigN (v :: l) = min v.sig.length 100001 + sigN l := by simp [sigN]
    rw [this, List.length_cons]
    omega
theorem muchN_le (l : List Op) (h : ∀ o ∈ l, o.evidence.length ≤ 20) : muchN l ≤ l.length * 2000020 := by
  induction l with
  | nil => simp [muchN]
  | cons v l ih =>
    have h1 : muchN (v :: l) = sigN v.evidence + muchN l := by simp [muchN]
    have h2 := sigN_le v.evidence
    have h3 := h v (by simp)
    have h4 := ih (fun o ho => h o (by simp [ho]))
    rw [h1, List.length_cons]
    omega
theorem sigN_mem {l : List Vote} {v : Vote} (h : v ∈ l) : min v.sig.length 100001 ≤ sigN l := by
  induction l with
  | nil => cases h
  | cons u l ih =>
    have h1 : sigN (u :: l) = min u.sig.length 100001 + sigN l := by simp [sigN]
    rcases List.mem_cons.1 h with rfl | h
    · omega
    · have := ih h
      omega
theorem muchN_mem {l : List Op} {o : Op} (h : o ∈ l) : sigN o.evidence ≤ muchN l := by
  induction l with
  | nil => cases h
  | cons u l ih =>
    have h1 : muchN (u :: l) = sigN u.evidence + muchN l := by simp [muchN]
    rcases List.mem_cons.1 h with rfl | h
    · omega
    · have := ih h
      omega
/-- what is not too much is not long -/
theorem hdMuch_out {h : Hdr} (hm : hdMuch h = false) : h.ops.length ≤ 200 ∧ ∀ o ∈ h.ops, o.evidence.length ≤ 20 ∧ ∀ v ∈ o.evidence, v.sig.length ≤ 100000 := by
  simp only [hdMuch, Bool.or_eq_false_iff, decide_eq_false_iff_not, List.any_eq_false, decide_eq_true_eq] at hm
  obtain ⟨⟨h1, h2⟩, h3⟩ := hm
  refine ⟨by omega, fun o ho => ⟨by have := h2 o ho; omega, fun v hv => ?_⟩⟩
  have h4 := sigN_mem hv
  have h5 := muchN_mem ho
  omega

set_option maxRecDepth 100000 in
set_option maxHeartbeats 1600000 in
theorem fmuch_c (g : GHeader) (h : Hdr) (w : World) (hr : HdrR w g h) :
    Calls Try.prog 23 #[.agg (headerA g)] w fun e w' => e = .returned (.bool (hdMuch h)) ∧ Below w.heap.size w w' := by
  have n1 := hr.2.2.1
  have Hr := Lib.hid hr.2.2
  have HM := Lib.hid (show hdMuch h = _ from rfl)
  have hrow : row? (w.alloc (.cells (headerA g) 51)) w.heap.size 0 34 = some (headerA g) := by rw [row?_new]; simp
  have hB : Below w.heap.size w (w.alloc (.cells (headerA g) 51)) := bel_a _ _
  clear hr
  go_enter Try.func23, Try.ntmps23
  go_upto_region 1 with fail
  generalize hw1 : w.alloc (.cells (headerA g) 51) = w1 at *
  clear hw1
  obtain ⟨c1, c2⟩ := headerA_cells hrow
  have Hr := Lib.hid (OpsR.keep' Hr.out hB)
  obtain ⟨gp, ge, ⟨oa, on, oc⟩⟩ := g
  simp only at n1 c2 Hr
  subst n1
  dsimp only [Sl.v] at c2
  clear hrow c1
  by_cases h0 : 200 < h.ops.length
  · have d0 : decide ((200 : Int) < (h.ops.length : Int)) = true := decide_eq_true (by omega)
    have Hf := Lib.hid (show hdMuch h = true by simp [hdMuch, h0])
    go_wp2_with fail
    go_ret
    exact ⟨ret_bool Hf.out.symm, hB⟩
  have d0 : decide ((200 : Int) < (h.ops.length : Int)) = false := decide_eq_false (by omega)
  have h0' : h.ops.length ≤ 200 := by omega
  clear h0
  go_wp2_with fail
  go_loop [3, 4] (fun n i => ∃ k : Nat, k ≤ h.ops.length ∧ n = .int .i64 ((muchN (h.ops.take k) : Nat) : Int) ∧ i = .int .i64 k ∧ Hid (∀ o ∈ h.ops.take k, o.evidence.length ≤ 20)) (fun _ i => h.ops.length - (intOf i).toNat)
  case atStart => exact ⟨0, Nat.zero_le _, by simp [muchN], rfl, Lib.hid (by simp)⟩
  case round =>
    obtain ⟨k, hk, rfl, rfl, hb⟩ := hrel
    have i0 : (0 : Int) ≤ (k : Int) := by omega
    have hml := muchN_le (h.ops.take k) hb.out
    rw [List.length_take] at hml
    have hml' : muchN (h.ops.take k) ≤ 400004000 := by
      have : min k h.ops.length ≤ 200 := by omega
      omega
    by_cases hkx : k < h.ops.length
    · obtain ⟨bl, off, e, hbs, hc⟩ := Hr.out.at (by omega)
      have e1 := congrArg Sl.a e
      simp only at e1
      subst e1
      clear e
      obtain ⟨cs, hcx, g1, rfl, hv1⟩ := hc k hkx
      clear hc
      have hms := muchN_succ h.ops k hkx
      have hmem : h.ops[k] ∈ h.ops := List.getElem_mem _
      have hts : ∀ o ∈ h.ops.take (k + 1), o ∈ h.ops.take k ∨ o = h.ops[k] := fun o ho => by
        rw [List.take_succ_eq_append_getElem hkx, List.mem_append] at ho
        simpa using ho
      generalize h.ops[k] = ok at *
      have c35 := cell_of_row? hcx 35 (by omega)
      rw [opA_evidence] at c35
      have n2 := hv1.2.2.2.2.1
      have Hev := Lib.hid hv1.2.2.2.2
      obtain ⟨gk, gkey, gst, gv, ⟨ea, en, ec⟩⟩ := g1
      simp only at n2 c35 Hev
      subst n2
      dsimp only [Sl.v] at c35
      have Hms := Lib.hid hms
      have Hts := Lib.hid hts
      have Hmem := Lib.hid hmem
      clear hms hts hmem hcx hv1 hml
      have i1 : (k : Int) < (h.ops.length : Int) := by omega
      by_cases h20 : 20 < ok.evidence.length
      · have d1 : decide ((20 : Int) < (ok.evidence.length : Int)) = true := decide_eq_true (by omega)
        have Hf := Lib.hid (show hdMuch h = true by
          have : h.ops.any (fun o => decide (20 < o.evidence.length)) = true := List.any_eq_true.2 ⟨ok, Hmem.out, by simp [h20]⟩
          simp [hdMuch, this])
        go_wp2_with fail
        go_ret
        exact ⟨ret_bool Hf.out.symm, hB⟩
      · have d1 : decide ((20 : Int) < (ok.evidence.length : Int)) = false := decide_eq_false (by omega)
        have h20' : ok.evidence.length ≤ 20 := by omega
        clear h20
        go_wp2_with fail
        go_loop [3, 5] (fun n j => ∃ m : Nat, m ≤ ok.evidence.length ∧ n = .int .i64 ((muchN (h.ops.take k) + sigN (ok.evidence.take m) : Nat) : Int) ∧ j = .int .i64 m) (fun _ j => ok.evidence.length - (intOf j).toNat)
        case atStart => exact ⟨0, Nat.zero_le _, by simp [sigN], rfl⟩
        case round =>
          obtain ⟨m, hm, rfl, rfl⟩ := hrel
          have j0 : (0 : Int) ≤ (m : Int) := by omega
          have hsl := sigN_le (ok.evidence.take m)
          rw [List.length_take] at hsl
          have hsl' : muchN (h.ops.take k) + sigN (ok.evidence.take m) ≤ 402004020 := by
            have : min m ok.evidence.length ≤ 20 := by omega
            omega
          clear hsl
          by_cases hmx : m < ok.evidence.length
          · obtain ⟨be, offe, e, hbe, hce⟩ := Hev.out.at (by omega)
            have e1 := congrArg Sl.a e
            simp only at e1
            subst e1
            clear e
            obtain ⟨cs, hcx, g2, rfl, hv2⟩ := hce m hmx
            clear hce
            have hss := sigN_succ ok.evidence m hmx
            generalize ok.evidence[m] = vm at *
            have c67 := cell_of_row? hcx 67 (by omega)
            rw [voteA_sig] at c67
            have n3 := hv2.2.2.2.1
            obtain ⟨gv2, gs2, gt2, ⟨sa, sn, sc⟩⟩ := g2
            simp only at n3 c67
            subst n3
            dsimp only [Sl.v] at c67
            have Hss := Lib.hid hss
            clear hss hcx hv2
            have j1 : (m : Int) < (ok.evidence.length : Int) := by omega
            go_wp2_with fail
            go_round
            case rel => exact ⟨m + 1, by omega, congrArg (Value.int .i64) (by rw [Hss.out]; omega), by go_num⟩
            case measure => simp [intOf]; omega
          · obtain rfl : m = ok.evidence.length := by omega
            go_wp2_with fail
            go_round
            case rel => exact ⟨k + 1, by omega, by rw [Hms.out, List.take_length], by go_num, Lib.hid (fun o ho => by
              rcases Hts.out o ho with h1 | rfl
              · exact hb.out o h1
              · exact h20')⟩
            case measure => simp [intOf]; omega
    · have hkl : h.ops.take k = h.ops := List.take_of_length_le (by omega)
      rw [hkl] at hb hml' ⊢
      have Hf := Lib.hid (show hdMuch h = decide ((100000 : Int) < (muchN h.ops : Int)) by
        have h1 : decide (200 < h.ops.length) = false := by simp; omega
        have h2 : h.ops.any (fun o => decide (20 < o.evidence.length)) = false := by
          rw [List.any_eq_false]
          intro o ho
          have := hb.out o ho
          simp
          omega
        rw [hdMuch, h1, h2, Bool.eq_iff_iff]
        simp
        omega)
      go_wp2_with fail
      go_ret
      exact ⟨ret_bool (by rw [Hf.out]), hB⟩
end Go.Proofs.Ytbpbnnonialelaa
