/- Contracts of landmarkref01.Reader. -/
import Derived.Test.YtbpbnnonialelaaRefGet
import Derived.Test.YtbpbnnonialelaaWire2
namespace Go.Proofs.Ytbpbnnonialelaa
open Go.RowKit

/-- where the document's reader stands: what is left; none: it has failed -/
def RfR (lo : Nat) (w : World) (r : Nat) : Option (List UInt8) → Prop
  | none => lo ≤ r ∧ ∃ x y, w.heap[r]? = some (.cells #[x, y, .bool true] 104 (0, 0))
  | some l => ∃ (s : Sl) (full : List UInt8) (k : Nat), w.heap[r]? = some (.cells #[s.v, .int .i64 k, .bool false] 104 (0, 0)) ∧
    BytesR w s full ∧ k ≤ full.length ∧ full.length ≤ 140737488355328 ∧ LowSl 0 lo s full ∧ lo ≤ r ∧ l = full.drop k

theorem RfR.lt {lo : Nat} {w : World} {r : Nat} {st : Option (List UInt8)} (h : RfR lo w r st) : r < w.heap.size := by
  obtain ⟨o, hg⟩ : ∃ o, w.heap[r]? = some o := by
    cases st with
    | none => obtain ⟨_, _, _, hg⟩ := h; exact ⟨_, hg⟩
    | some l => obtain ⟨_, _, _, hg, _⟩ := h; exact ⟨_, hg⟩
  rcases Nat.lt_or_ge r w.heap.size with hlt | hge
  · exact hlt
  · rw [Array.getElem?_eq_none hge] at hg; cases hg
theorem RfR.le {lo : Nat} {w : World} {r : Nat} {st : Option (List UInt8)} (h : RfR lo w r st) : lo ≤ r := by
  cases st with
  | none => exact h.1
  | some l => obtain ⟨_, _, _, _, _, _, _, _, h, _⟩ := h; exact h
theorem BytesR.keepLow {lo D : Nat} {w w' : World} {s : Sl} {l : List UInt8} (h : BytesR w s l) (hl : LowSl lo D s l) (hb : ∀ b, b < D → w'.heap[b]? = w.heap[b]?) : BytesR w' s l :=
  ⟨h.1, h.2.1, fun hne => by
    obtain ⟨b, off, ha, hc⟩ := h.2.2 hne
    exact ⟨b, off, ha, fun i hi => (World.cell?_of_block (a := ⟨b, off + i, none⟩) (hb b (hl hne ⟨b, off, none⟩ ha).2)).trans (hc i hi)⟩⟩
theorem LowSl.up {lo D D' : Nat} {s : Sl} {l : List UInt8} (h : LowSl lo D s l) (hD : D ≤ D') : LowSl lo D' s l := fun hne a ha => ⟨(h hne a ha).1, Nat.lt_of_lt_of_le (h hne a ha).2 hD⟩
theorem RfR.keepB {lo D : Nat} {w w' : World} {r : Nat} {st : Option (List UInt8)} (h : RfR lo w r st) (hr : r < D) (hb : Below D w w') : RfR lo w' r st := by
  cases st with
  | none => obtain ⟨hlr, x, y, hg⟩ := h; exact ⟨hlr, x, y, (hb.block r hr).trans hg⟩
  | some l => obtain ⟨s, full, k, hg, hs, h1, h2, hl, hlr, h3⟩ := h; exact ⟨s, full, k, (hb.block r hr).trans hg, hs.keepLow (hl.up (Nat.le_of_lt (Nat.lt_of_le_of_lt hlr hr))) (fun b hlt => hb.block b hlt), h1, h2, hl, hlr, h3⟩
theorem RfR.keep {lo : Nat} {w w' : World} {r : Nat} {st : Option (List UInt8)} (h : RfR lo w r st) (hb : Below w.heap.size w w') : RfR lo w' r st := h.keepB h.lt hb

theorem mid_reads {w : World} {b off : Nat} {l : List UInt8} (hc : ∀ (i : Nat) (hi : i < l.length), w.cell? ⟨b, off + i, none⟩ = some (byteV l[i])) (k j n c : Nat) (hj : k + j ≤ l.length) (hn : n = j) (hjc : j ≤ c) :
    BytesR w ⟨some ⟨b, off + k, none⟩, n, c⟩ ((l.drop k).take j) := by
  subst hn
  exact take_reads (fun i hi => by
    have h : k + i < l.length := by simp at hi; omega
    rw [Nat.add_assoc, hc (k + i) h]; simp) n c (by simp; omega) hjc
/-- the reader's own cells anew -/
theorem RfR.fin {lo : Nat} {w w' : World} {r : Nat} {s : Sl} {full : List UInt8} (k : Nat) (hs : BytesR w s full) (hlow : LowSl 0 lo s full) (hlr : lo ≤ r) (hle : full.length ≤ 140737488355328) (hk : k ≤ full.length)
    (h1 : w'.heap[r]? = some (.cells #[s.v, .int .i64 k, .bool false] 104 (0, 0))) (h2 : ∀ b, b ≠ r → w'.heap[b]? = w.heap[b]?) : RfR lo w' r (some (full.drop k)) :=
  ⟨s, full, k, h1, hs.keepLow hlow (fun b hb => h2 b (Nat.ne_of_lt (Nat.lt_of_lt_of_le hb hlr))), hk, hle, hlow, hlr, rfl⟩
theorem grown_drew {w w' : World} {row : Option Nat} (h : w.grownBy w' row) : w.grownBy w'.drew row := ⟨h.os, h.tape, h.output, h.size, h.block⟩
set_option maxRecDepth 100000 in
set_option maxHeartbeats 1600000 in
theorem fbytes_c {lo : Nat} (r : Nat) (st : Option (List UInt8)) (n : Int) (w : World) (h : RfR lo w r st) (hn : -9223372036854775808 ≤ n) (hn' : n ≤ 9223372036854775807) :
    Calls Try.prog 66 #[.pointer (some ⟨r, 0, none⟩), .int .i64 n] w fun e w' => ∃ s : Sl, e = .returned s.v ∧ BytesR w' s (rdBytes st n).2 ∧ LowSl 0 lo s (rdBytes st n).2 ∧ RfR lo w' r (rdBytes st n).1 ∧ w.grownBy w' (some r) := by
  have hlt := h.lt
  cases st with
  | none =>
    obtain ⟨hlr, x, y, hg⟩ := h
    have c2 : w.cell? ⟨r, 2, none⟩ = some (.bool true) := by rw [cell_of_row w r 2 _ _ _ hg]; rfl
    have f2 := frozen_of_row w r 2 _ _ hg
    have Hg := Lib.hid hg
    clear hg
    go_enter Try.func66, Try.ntmps66
    go_wp2_with fail
    go_region
    go_wp2_with fail
    go_ret
    exact ⟨⟨none, 0, 0⟩, rfl, BytesR.nil _ _ _, LowSl.nil _ _ _, ⟨hlr, x, y, heap_set _ _ _ _ _ _ Hg.out⟩, grown_drew (grown_set _ _ _ _)⟩
  | some l =>
    obtain ⟨s, full, k, hg, hs, hk, hle, hlow, hlr, rfl⟩ := id h
    obtain ⟨sa, sn, sc⟩ := s
    obtain rfl : sn = full.length := hs.1
    have hlec : full.length ≤ sc := hs.2.1
    have c0 : w.cell? ⟨r, 0, none⟩ = some (.slice sa full.length sc) := by rw [cell_of_row w r 0 _ _ _ hg]; rfl
    have c1 : w.cell? ⟨r, 1, none⟩ = some (.int .i64 k) := by rw [cell_of_row w r 1 _ _ _ hg]; rfl
    have c2 : w.cell? ⟨r, 2, none⟩ = some (.bool false) := by rw [cell_of_row w r 2 _ _ _ hg]; rfl
    have f1 := frozen_of_row w r 1 _ _ hg
    have f2 := frozen_of_row w r 2 _ _ hg
    have Hg := Lib.hid hg
    have Hs := Lib.hid hs
    clear hg hs h
    by_cases hok : 0 ≤ n ∧ k + n ≤ full.length
    · have d1 : decide (n < 0) = false := decide_eq_false (by omega)
      have d2 : decide ((full.length : Int) < n) = false := decide_eq_false (by omega)
      have d3 : decide ((full.length : Int) - n < k) = false := decide_eq_false (by omega)
      obtain ⟨res, hres⟩ : ∃ res, res = rdBytes (some (full.drop k)) n := ⟨_, rfl⟩
      rw [← hres]
      have hres := Lib.hid hres
      go_enter Try.func66, Try.ntmps66
      go_wp2_with fail
      go_region
      obtain ⟨j, rfl⟩ := Int.eq_ofNat_of_zero_le hok.1
      have hj : k + j ≤ full.length := by omega
      have Hres : Hid (res = (some (full.drop (k + j)), (full.drop k).take j)) := Lib.hid (by rw [hres.out]; simp [rdBytes]; omega)
      clear hres d1 d2 d3
      have H2 : ∀ (v1 v2 : Value) b, b ≠ r → ((w.setCell ⟨r, 2, none⟩ v1).setCell ⟨r, 1, none⟩ v2).heap[b]? = w.heap[b]? := fun v1 v2 b hb => (Below.heap_setCell _ _ _ b hb).trans (Below.heap_setCell _ _ _ b hb)
      have HG : ∀ (v1 v2 : Value), w.grownBy ((w.setCell ⟨r, 2, none⟩ v1).setCell ⟨r, 1, none⟩ v2) (some r) := fun v1 v2 => (grown_set _ _ _ _).trans (grown_set _ _ _ _)
      have H1 : ((w.setCell ⟨r, 2, none⟩ (.bool false)).setCell ⟨r, 1, none⟩ (.int .i64 (k + j : Int))).heap[r]? = some (.cells #[.slice sa full.length sc, .int .i64 ((k + j : Nat) : Int), .bool false] 104 (0, 0)) :=
        heap_set _ _ _ _ _ _ (heap_set _ _ _ _ _ _ Hg.out)
      have H2 := Lib.hid H2
      have HG := Lib.hid HG
      have H1 := Lib.hid H1
      have fin : ∀ (s : Sl), BytesR ((w.setCell ⟨r, 2, none⟩ (.bool false)).setCell ⟨r, 1, none⟩ (.int .i64 (k + j : Int))) s ((full.drop k).take j) → LowSl 0 lo s ((full.drop k).take j) →
          ∃ s' : Sl, Ending.returned s.v = Ending.returned s'.v ∧ BytesR ((w.setCell ⟨r, 2, none⟩ (.bool false)).setCell ⟨r, 1, none⟩ (.int .i64 (k + j : Int))).drew.drew s' res.2 ∧ LowSl 0 lo s' res.2 ∧
            RfR lo ((w.setCell ⟨r, 2, none⟩ (.bool false)).setCell ⟨r, 1, none⟩ (.int .i64 (k + j : Int))).drew.drew r res.1 ∧ w.grownBy ((w.setCell ⟨r, 2, none⟩ (.bool false)).setCell ⟨r, 1, none⟩ (.int .i64 (k + j : Int))).drew.drew (some r) := by
        intro s hb hl
        rw [Hres.out]
        exact ⟨s, rfl, hb, hl, RfR.fin (k + j) Hs.out hlow hlr hle hj H1.out (H2.out _ _), grown_drew (grown_drew (HG.out _ _))⟩
      have Fin := Lib.hid fin
      clear fin
      by_cases hf : full = []
      · subst hf
        obtain rfl : k = 0 := by simpa using hk
        obtain rfl : j = 0 := by simpa using hj
        cases sa with
        | none =>
          go_wp2_with fail
          go_region
          go_wp2_with fail
          go_ret
          exact Fin.out ⟨none, 0, sc⟩ (BytesR.nil _ _ _) (LowSl.nil _ _ _)
        | some ad =>
          by_cases hsc : sc = 0
          all_goals
            go_wp2_with fail
            go_region
            go_wp2_with fail
            go_ret
            exact Fin.out ⟨some ad, 0, _⟩ (BytesR.nil _ _ _) (LowSl.nil _ _ _)
      · obtain ⟨b, off, rfl, hc⟩ := Hs.out.2.2 hf
        have hlb := hlow hf _ rfl
        simp only at hlb
        have hbw : b < w.heap.size := by omega
        have Hc := Lib.hid (show ∀ (i : Nat) (hi : i < full.length), ((w.setCell ⟨r, 2, none⟩ (.bool false)).setCell ⟨r, 1, none⟩ (.int .i64 (k + j : Int))).cell? ⟨b, off + i, none⟩ = some (byteV full[i]) from
          fun i hi => (World.cell?_of_block (a := ⟨b, off + i, none⟩) (H2.out _ _ b (by omega))).trans (hc i hi))
        clear hc
        by_cases hck : sc = k
        · go_wp2_with fail
          go_region
          go_wp2_with fail
          go_ret
          obtain rfl : j = 0 := by omega
          exact Fin.out ⟨some ⟨b, off, none⟩, k + 0 - k, 0⟩ (by rw [show k + 0 - k = 0 by omega]; exact BytesR.nil _ _ _) (LowSl.nil _ _ _)
        · go_wp2_with fail
          go_region
          go_wp2_with fail
          go_ret
          exact Fin.out ⟨some ⟨b, off + k, none⟩, k + j - k, sc - k⟩ (mid_reads Hc.out k j _ _ hj (by omega) (by omega)) (LowSl.at hlb.1 hlb.2 rfl)
    · have e1 : rdBytes (some (full.drop k)) n = (none, []) := by simp [rdBytes]; omega
      rw [e1]
      clear e1
      by_cases n1 : n < 0
      · have d1 : decide (n < 0) = true := decide_eq_true n1
        go_enter Try.func66, Try.ntmps66
        go_wp2_with fail
        go_region
        go_wp2_with fail
        go_ret
        exact ⟨⟨none, 0, 0⟩, rfl, BytesR.nil _ _ _, LowSl.nil _ _ _, ⟨hlr, _, _, heap_set _ _ _ _ _ _ Hg.out⟩, grown_drew (grown_set _ _ _ _)⟩
      · have d1 : decide (n < 0) = false := decide_eq_false n1
        by_cases n2 : (full.length : Int) < n
        · have d2 : decide ((full.length : Int) < n) = true := decide_eq_true n2
          go_enter Try.func66, Try.ntmps66
          go_wp2_with fail
          go_region
          go_wp2_with fail
          go_ret
          exact ⟨⟨none, 0, 0⟩, rfl, BytesR.nil _ _ _, LowSl.nil _ _ _, ⟨hlr, _, _, heap_set _ _ _ _ _ _ Hg.out⟩, grown_drew (grown_set _ _ _ _)⟩
        · have n3 : (full.length : Int) - n < k := by omega
          have d2 : decide ((full.length : Int) < n) = false := decide_eq_false n2
          have d3 : decide ((full.length : Int) - n < k) = true := decide_eq_true n3
          go_enter Try.func66, Try.ntmps66
          go_wp2_with fail
          go_region
          go_wp2_with fail
          go_ret
          exact ⟨⟨none, 0, 0⟩, rfl, BytesR.nil _ _ _, LowSl.nil _ _ _, ⟨hlr, _, _, heap_set _ _ _ _ _ _ Hg.out⟩, grown_drew (grown_set _ _ _ _)⟩
end Go.Proofs.Ytbpbnnonialelaa
