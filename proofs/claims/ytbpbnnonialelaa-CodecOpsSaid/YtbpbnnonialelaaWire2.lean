/- Contracts of package wire: the reader. -/
import Derived.Test.YtbpbnnonialelaaWire
namespace Go.Proofs.Ytbpbnnonialelaa
open Go.RowKit

theorem get0 (a : Option Addr) (cap : Nat) (w : World) : Calls Try.prog 99 #[.slice a 0 cap] w fun e w' => e = .returned (.tuple #[.int .u64 0, .int .i64 2]) ∧ w = w' := by
  go_enter Try.func99, Try.ntmps99
  go_wp2_with fail
  go_ret2
  exact ⟨rfl, rfl⟩

/-- a slice that lies between two blocks -/
def LowSl (lo D : Nat) (s : Sl) (l : List UInt8) : Prop := l ≠ [] → ∀ a, s.a = some a → lo ≤ a.block ∧ a.block < D
theorem LowSl.nil (lo D : Nat) (s : Sl) : LowSl lo D s [] := fun h => absurd rfl h
theorem LowSl.at {lo D : Nat} {s : Sl} {l : List UInt8} {b off : Nat} (h0 : lo ≤ b) (h : b < D) (hs : s.a = some ⟨b, off, none⟩) : LowSl lo D s l := fun _ a ha => by rw [hs] at ha; injection ha with ha; rw [← ha]; exact ⟨h0, h⟩
/-- it may be written -/
def Thaw (w : World) (s : Sl) (l : List UInt8) : Prop := l ≠ [] → ∀ b off, s.a = some ⟨b, off, none⟩ → ∀ i, i < l.length → w.frozen? ⟨b, off + i, none⟩ = false
def BytesO (w : World) (s : Sl) (l : List UInt8) : Prop := BytesR w s l ∧ Thaw w s l
theorem BytesO.nil (w : World) (a : Option Addr) (c : Nat) : BytesO w ⟨a, 0, c⟩ [] := ⟨BytesR.nil _ _ _, fun h => absurd rfl h⟩
theorem BytesO.keepLow {lo D : Nat} {w w' : World} {s : Sl} {l : List UInt8} (h : BytesO w s l) (hl : LowSl lo D s l) (hb : Below D w w') : BytesO w' s l :=
  ⟨⟨h.1.1, h.1.2.1, fun hne => by
    obtain ⟨b, off, ha, hc⟩ := h.1.2.2 hne
    exact ⟨b, off, ha, fun i hi => (hb.cell (p := ⟨b, off + i, none⟩) (show b < D from (hl hne ⟨b, off, none⟩ ha).2)).trans (hc i hi)⟩⟩,
   fun hne b off ha i hi => (hb.frozen (p := ⟨b, off + i, none⟩) (show b < D from (hl hne ⟨b, off, none⟩ ha).2)).trans (h.2 hne b off ha i hi)⟩
theorem BytesO.keep {w w' : World} {s : Sl} {l : List UInt8} (h : BytesO w s l) (hb : Below w.heap.size w w') : BytesO w' s l :=
  ⟨h.1.keep hb, fun hne b off ha i hi => by
    obtain ⟨b', off', ha', hc⟩ := h.1.2.2 hne
    rw [ha] at ha'
    injection ha' with ha'
    injection ha' with e1 e2
    subst e1 e2
    exact (hb.frozen (p := ⟨b, off + i, none⟩) (lt_of_cell (hc i hi))).trans (h.2 hne b off ha i hi)⟩
/-- unlike one block, kept -/
theorem BytesO.keepNe {lo D g : Nat} {w w' : World} {s : Sl} {l : List UInt8} (h : BytesO w s l) (hl : LowSl lo D s l) (hg : g < lo ∨ D ≤ g) (hk : ∀ k, k < w.heap.size → k ≠ g → w'.heap[k]? = w.heap[k]?) : BytesO w' s l :=
  ⟨⟨h.1.1, h.1.2.1, fun hne => by
    obtain ⟨b, off, ha, hc⟩ := h.1.2.2 hne
    have hb := hl hne _ ha
    simp only at hb
    exact ⟨b, off, ha, fun i hi => (World.cell?_of_block (a := ⟨b, off + i, none⟩) (hk b (lt_of_cell (hc i hi)) (by omega))).trans (hc i hi)⟩⟩,
   fun hne b off ha i hi => by
    have hb := hl hne _ ha
    simp only at hb
    obtain ⟨b', off', ha', hc⟩ := h.1.2.2 hne
    rw [ha] at ha'
    injection ha' with ha'
    injection ha' with e1 e2
    subst e1 e2
    exact (World.frozen?_of_block (a := ⟨b, off + i, none⟩) (hk b (lt_of_cell (hc i hi)) (by omega))).trans (h.2 hne b off ha i hi)⟩
/-- where a reader stands: what is left; none: it has failed -/
def RdR (lo : Nat) (w : World) (r : Nat) : Option (List UInt8) → Prop
  | none => ∃ s : Sl, w.heap[r]? = some (.cells #[s.v, .bool false] 133 (0, 0))
  | some l => ∃ s : Sl, w.heap[r]? = some (.cells #[s.v, .bool true] 133 (0, 0)) ∧ BytesO w s l ∧ l.length ≤ 140737488355328 ∧ LowSl lo r s l

theorem RdR.cells {lo : Nat} {w : World} {r : Nat} {st : Option (List UInt8)} (h : RdR lo w r st) : ∃ s : Sl, w.heap[r]? = some (.cells #[s.v, .bool st.isSome] 133 (0, 0)) := by
  cases st with
  | none => exact h
  | some l => obtain ⟨s, h1, _⟩ := h; exact ⟨s, h1⟩
theorem RdR.lt {lo : Nat} {w : World} {r : Nat} {st : Option (List UInt8)} (h : RdR lo w r st) : r < w.heap.size := by
  obtain ⟨s, hg⟩ := h.cells
  rcases Nat.lt_or_ge r w.heap.size with hlt | hge
  · exact hlt
  · rw [Array.getElem?_eq_none hge] at hg; cases hg
theorem RdR.keep {lo : Nat} {w w' : World} {r : Nat} {st : Option (List UInt8)} (h : RdR lo w r st) (hb : Below w.heap.size w w') : RdR lo w' r st := by
  have hlt := h.lt
  cases st with
  | none => obtain ⟨s, hg⟩ := h; exact ⟨s, (hb.block r hlt).trans hg⟩
  | some l => obtain ⟨s, hg, hr, hc, hl⟩ := h; exact ⟨s, (hb.block r hlt).trans hg, hr.keep hb, hc, hl⟩
theorem RdR.keepB {lo : Nat} {D : Nat} {w w' : World} {r : Nat} {st : Option (List UInt8)} (h : RdR lo w r st) (hr : r < D) (hb : Below D w w') : RdR lo w' r st := by
  cases st with
  | none => obtain ⟨s, hg⟩ := h; exact ⟨s, (hb.block r hr).trans hg⟩
  | some l => obtain ⟨s, hg, hs, hc, hl⟩ := h; exact ⟨s, (hb.block r hr).trans hg, hs.keepLow (fun hne a ha => ⟨(hl hne a ha).1, Nat.lt_trans (hl hne a ha).2 hr⟩ : LowSl lo D s l) hb, hc, hl⟩
theorem grown_below {D : Nat} {w w1 w2 : World} {row : Option Nat} (hg : w.grownBy w1 row) (hb : Below D w1 w2) (hD : w.heap.size ≤ D) : w.grownBy w2 row :=
  ⟨hb.os.trans hg.os, hb.tape.trans hg.tape, hb.output.trans hg.output, Nat.le_trans hg.size hb.size, fun k hk hr => (hb.block k (by omega)).trans (hg.block k hk hr)⟩
/-- bytes lie in another block than a reader's own cells -/
theorem bytes_ne {lo : Nat} {w : World} {r : Nat} {st : Option (List UInt8)} (h : RdR lo w r st) {b off : Nat} {x : UInt8} (hc : w.cell? ⟨b, off, none⟩ = some (byteV x)) : b ≠ r := by
  rintro rfl
  obtain ⟨s, hg⟩ := h.cells
  rw [cell_of_row w b off _ _ _ hg] at hc
  match off with
  | 0 => simp [byteV] at hc
  | 1 => simp [byteV] at hc
  | k + 2 => simp at hc
theorem BytesR.keepG {lo : Nat} {w w' : World} {r : Nat} {st : Option (List UInt8)} {s : Sl} {l : List UInt8} (h : BytesR w s l) (hr : RdR lo w r st) (hg : w.grownBy w' (some r)) : BytesR w' s l :=
  ⟨h.1, h.2.1, fun hl => by
    obtain ⟨b, off, ha, hc⟩ := h.2.2 hl
    exact ⟨b, off, ha, fun i hi => hg.cell (hc i hi) (fun e => bytes_ne hr (hc i hi) (by injection e))⟩⟩

theorem failed_c {lo : Nat} (r : Nat) (st : Option (List UInt8)) (w : World) (h : RdR lo w r st) :
    Calls Try.prog 98 #[.pointer (some ⟨r, 0, none⟩)] w fun e w' => e = .returned (.bool (!st.isSome)) ∧ w = w' := by
  obtain ⟨s, hg⟩ := h.cells
  have hc : w.cell? ⟨r, 1, none⟩ = some (.bool st.isSome) := by rw [cell_of_row w r 1 _ _ _ hg]; rfl
  have hlt := h.lt
  clear h hg
  go_enter Try.func98, Try.ntmps98
  go_wp2_with fail
  go_ret
  exact ⟨ret_bool (by simp), rfl⟩

theorem take_reads {w : World} {b off : Nat} {l : List UInt8} (hc : ∀ (i : Nat) (hi : i < l.length), w.cell? ⟨b, off + i, none⟩ = some (byteV l[i])) (k c : Nat) (hk : k ≤ l.length) (hkc : k ≤ c) :
    BytesR w ⟨some ⟨b, off, none⟩, k, c⟩ (l.take k) :=
  ⟨by simp; omega, hkc, fun _ => ⟨b, off, rfl, fun i hi => by
    have h : i < l.length := by simp at hi; omega
    rw [hc i h]; simp⟩⟩
theorem drop_reads {w : World} {b off : Nat} {l : List UInt8} (hc : ∀ (i : Nat) (hi : i < l.length), w.cell? ⟨b, off + i, none⟩ = some (byteV l[i])) (k c : Nat) (hk : l.length - k ≤ c) :
    BytesR w ⟨some ⟨b, off + k, none⟩, l.length - k, c⟩ (l.drop k) :=
  ⟨by simp, hk, fun _ => ⟨b, off + k, rfl, fun i hi => by
    have h : k + i < l.length := by simp at hi; omega
    rw [Nat.add_assoc, hc (k + i) h]; simp⟩⟩

theorem take_readsO {w : World} {b off : Nat} {l : List UInt8} (hc : ∀ (i : Nat) (hi : i < l.length), w.cell? ⟨b, off + i, none⟩ = some (byteV l[i])) (hf : ∀ i, i < l.length → w.frozen? ⟨b, off + i, none⟩ = false) (k c : Nat) (hk : k ≤ l.length) (hkc : k ≤ c) :
    BytesO w ⟨some ⟨b, off, none⟩, k, c⟩ (l.take k) :=
  ⟨take_reads hc k c hk hkc, fun _ b' off' ha i hi => by
    injection ha with ha
    injection ha with e1 e2
    subst e1 e2
    exact hf i (by simp at hi; omega)⟩
theorem drop_readsO {w : World} {b off : Nat} {l : List UInt8} (hc : ∀ (i : Nat) (hi : i < l.length), w.cell? ⟨b, off + i, none⟩ = some (byteV l[i])) (hf : ∀ i, i < l.length → w.frozen? ⟨b, off + i, none⟩ = false) (k c : Nat) (hk : l.length - k ≤ c) :
    BytesO w ⟨some ⟨b, off + k, none⟩, l.length - k, c⟩ (l.drop k) :=
  ⟨drop_reads hc k c hk, fun _ b' off' ha i hi => by
    injection ha with ha
    injection ha with e1 e2
    subst e1 e2
    rw [Nat.add_assoc]
    exact hf (k + i) (by simp at hi; omega)⟩

/-- what Bytes leaves, and hands back -/
def rdBytes : Option (List UInt8) → Int → Option (List UInt8) × List UInt8
  | none, _ => (none, [])
  | some l, n => if 0 ≤ n ∧ n ≤ l.length then (some (l.drop n.toNat), l.take n.toNat) else (none, [])

theorem grown_set (w : World) (r i : Nat) (v : Value) : w.grownBy (w.setCell ⟨r, i, none⟩ v) (some r) :=
  ⟨rfl, rfl, rfl, by simp, fun k _ hk => Below.heap_setCell w ⟨r, i, none⟩ v k (fun e => hk (by rw [e]))⟩
theorem heap_set (w : World) (r i : Nat) (cs : Array Value) (t : TypeId) (v : Value) (hg : w.heap[r]? = some (.cells cs t (0, 0))) :
    (w.setCell ⟨r, i, none⟩ v).heap[r]? = some (.cells (cs.setIfInBounds i v) t (0, 0)) := heap_setCell_same w r i cs t v hg

set_option maxHeartbeats 800000 in
theorem rbytes_c {lo : Nat} (r : Nat) (st : Option (List UInt8)) (n : Int) (w : World) (h : RdR lo w r st) (hn : -9223372036854775808 ≤ n) (hn' : n ≤ 9223372036854775807) :
    Calls Try.prog 59 #[.pointer (some ⟨r, 0, none⟩), .int .i64 n] w fun e w' => ∃ s : Sl, e = .returned s.v ∧ BytesO w' s (rdBytes st n).2 ∧ LowSl lo r s (rdBytes st n).2 ∧ RdR lo w' r (rdBytes st n).1 ∧ w.grownBy w' (some r) := by
  have hlt := h.lt
  cases st with
  | none =>
    go_enter Try.func59, Try.ntmps59
    go_wp2_with (go_at_call 98; refine (failed_c _ _ _ h).mono ?_; rintro e w' ⟨rfl, rfl⟩)
    go_ret
    exact ⟨⟨none, 0, 0⟩, rfl, BytesO.nil _ _ _, LowSl.nil _ _ _, h, World.grownBy.refl _ _⟩
  | some l =>
    obtain ⟨s, hg, hs, hcap, hlow⟩ := id h
    have c0 : w.cell? ⟨r, 0, none⟩ = some (.slice s.a l.length s.c) := by rw [cell_of_row w r 0 _ _ _ hg]; simp [hs.1.1]
    have c1 : w.cell? ⟨r, 1, none⟩ = some (.bool true) := by rw [cell_of_row w r 1 _ _ _ hg]; rfl
    have f0 := frozen_of_row w r 0 _ _ hg
    have f1 := frozen_of_row w r 1 _ _ hg
    have hle : (l.length : Int) ≤ 140737488355328 := by have := hs.1.2.1; have := hs.1.1; omega
    by_cases hok : 0 ≤ n ∧ n ≤ l.length
    · obtain ⟨k, rfl⟩ := Int.eq_ofNat_of_zero_le hok.1
      have hk : k ≤ l.length := by omega
      have e1 : (rdBytes (some l) (k : Int)) = (some (l.drop k), l.take k) := by simp [rdBytes, hk]
      rw [e1]
      clear e1
      by_cases hl : l = []
      · subst hl
        obtain rfl : k = 0 := by simpa using hk
        have Hg := Lib.hid hg
        have Hs := Lib.hid hs
        have Hh := Lib.hid h
        clear hg hs h
        obtain ⟨sa, sn, sc⟩ := s
        cases sa with
        | none =>
          go_enter Try.func59, Try.ntmps59
          go_wp2_with (go_at_call 98; refine (failed_c _ _ _ Hh.out).mono ?_; rintro e w' ⟨rfl, rfl⟩)
          go_ret
          exact ⟨⟨none, 0, 0⟩, rfl, BytesO.nil _ _ _, LowSl.nil _ _ _, ⟨⟨none, 0, _⟩, heap_set _ _ _ _ _ _ Hg.out, BytesO.nil _ _ _, by simp, LowSl.nil _ _ _⟩, grown_set _ _ _ _⟩
        | some ad =>
          by_cases hsc : sc = 0
          all_goals
            go_enter Try.func59, Try.ntmps59
            go_wp2_with (go_at_call 98; refine (failed_c _ _ _ Hh.out).mono ?_; rintro e w' ⟨rfl, rfl⟩)
            go_ret
            exact ⟨⟨some ad, 0, 0⟩, rfl, BytesO.nil _ _ _, LowSl.nil _ _ _, ⟨⟨some ad, 0, _⟩, heap_set _ _ _ _ _ _ Hg.out, BytesO.nil _ _ _, by simp, LowSl.nil _ _ _⟩, grown_set _ _ _ _⟩
      · obtain ⟨b, off, hse, hb, hcs⟩ := hs.1.at (by cases l <;> simp_all)
        obtain ⟨hlb, hbr⟩ : lo ≤ b ∧ b < r := hlow (by intro e; exact hl e) _ (by rw [hse])
        have hfz : ∀ i, i < l.length → w.frozen? ⟨b, off + i, none⟩ = false := hs.2 (by intro e; exact hl e) b off (by rw [hse])
        generalize hcc : s.c = cap at *
        subst hse
        have hlc : l.length ≤ cap := by have := hs.1.2.1; simpa using this
        have hne : b ≠ r := bytes_ne h (hcs 0 (by cases l <;> simp_all))
        have keepc : ∀ v (i : Nat) (hi : i < l.length), (w.setCell ⟨r, 0, none⟩ v).cell? ⟨b, off + i, none⟩ = some (byteV l[i]) := fun v i hi => (World.cell?_setCell_other w ⟨r, 0, none⟩ ⟨b, off + i, none⟩ v (fun e => hne (by injection e with e1; exact e1.symm))).trans (hcs i hi)
        have Hg := Lib.hid hg
        have Hs := Lib.hid hs
        have Hh := Lib.hid h
        have Hk := Lib.hid keepc
        have Hf := Lib.hid (show ∀ v i, i < l.length → (w.setCell ⟨r, 0, none⟩ v).frozen? ⟨b, off + i, none⟩ = false from fun v i hi => by rw [World.frozen?_setCell]; exact hfz i hi)
        clear hg hs h hcs keepc hcc hfz
        by_cases hck : cap = k
        · have hdr : l.drop k = [] := List.drop_eq_nil_of_le (by omega)
          have Hd := Lib.hid hdr
          clear hdr
          go_enter Try.func59, Try.ntmps59
          go_wp2_with (go_at_call 98; refine (failed_c _ _ _ Hh.out).mono ?_; rintro e w' ⟨rfl, rfl⟩)
          go_ret
          exact ⟨⟨some ⟨b, off, none⟩, k, k⟩, rfl, take_readsO (Hk.out _) (Hf.out _) k k hk (Nat.le_refl _), LowSl.at hlb hbr rfl, ⟨⟨some ⟨b, off, none⟩, l.length - k, 0⟩, heap_set _ _ _ _ _ _ Hg.out, ⟨⟨by rw [Hd.out]; show l.length - k = 0; omega, by show l.length - k ≤ 0; omega, fun hh => absurd Hd.out hh⟩, fun hh => absurd Hd.out hh⟩, by simp; omega, LowSl.at hlb hbr rfl⟩, grown_set _ _ _ _⟩
        · go_enter Try.func59, Try.ntmps59
          go_wp2_with (go_at_call 98; refine (failed_c _ _ _ Hh.out).mono ?_; rintro e w' ⟨rfl, rfl⟩)
          go_ret
          exact ⟨⟨some ⟨b, off, none⟩, k, k⟩, rfl, take_readsO (Hk.out _) (Hf.out _) k k hk (Nat.le_refl _), LowSl.at hlb hbr rfl, ⟨⟨some ⟨b, off + k, none⟩, l.length - k, cap - k⟩, heap_set _ _ _ _ _ _ Hg.out, drop_readsO (Hk.out _) (Hf.out _) k _ (by omega), by simp; omega, LowSl.at hlb hbr rfl⟩, grown_set _ _ _ _⟩

    · have Hg := Lib.hid hg
      clear hg
      have Hs := Lib.hid hs
      clear hs
      have Hh := Lib.hid h
      clear h
      have e1 : (rdBytes (some l) n) = (none, []) := by simp [rdBytes]; omega
      rw [e1]
      clear e1
      by_cases n1 : n < 0
      all_goals
        go_enter Try.func59, Try.ntmps59
        go_wp2_with (go_at_call 98; refine (failed_c _ _ _ Hh.out).mono ?_; rintro e w' ⟨rfl, rfl⟩)
        go_ret
        exact ⟨⟨none, 0, 0⟩, rfl, BytesO.nil _ _ _, LowSl.nil _ _ _, ⟨⟨none, 0, 0⟩, heap_set _ _ _ _ _ _ (heap_set _ _ _ _ _ _ Hg.out)⟩, (grown_set _ _ _ _).trans (grown_set _ _ _ _)⟩

/-- what Number leaves, and hands back -/
def rdNum (st : Option (List UInt8)) (k : Nat) : Option (List UInt8) × Nat := ((rdBytes st k).1, numOf (rdBytes st k).2)

theorem getR (s : Sl) (l : List UInt8) (w : World) (hs : BytesR w s l) (h : l.length = 0 ∨ l.length = 1 ∨ l.length = 2 ∨ l.length = 8) :
    Calls Try.prog 99 #[s.v] w fun e w' => ∃ e0, e = .returned (.tuple #[.int .u64 (numOf l), .int .i64 e0]) ∧ w = w' := by
  rcases h with h | h | h | h
  · obtain rfl := List.eq_nil_of_length_eq_zero h
    obtain ⟨a, n, c⟩ := s
    obtain rfl : n = 0 := hs.1
    exact (get0 a c w).mono fun e w' ⟨he, hw⟩ => ⟨2, by rw [he]; rfl, hw⟩
  all_goals
    obtain ⟨b, off, hse, _, hc⟩ := hs.at (by omega)
    generalize hcc : s.c = cap at hse
    subst hse
    have hlc : l.length ≤ cap := by have := hs.2.1; simpa using this
  · match l, h with
    | [x0], _ => exact (get1 b off cap x0 w hlc (hc 0 (by simp))).mono fun e w' ⟨he, hw⟩ => ⟨0, he, hw⟩
  · match l, h with
    | [x0, x1], _ => exact (get2 b off cap x0 x1 w hlc (hc 0 (by simp)) (hc 1 (by simp))).mono fun e w' ⟨he, hw⟩ => ⟨0, he, hw⟩
  · match l, h with
    | [x0, x1, x2, x3, x4, x5, x6, x7], _ => exact (get8 b off cap x0 x1 x2 x3 x4 x5 x6 x7 w hlc (hc 0 (by simp)) (hc 1 (by simp)) (hc 2 (by simp)) (hc 3 (by simp)) (hc 4 (by simp)) (hc 5 (by simp)) (hc 6 (by simp)) (hc 7 (by simp))).mono fun e w' ⟨he, hw⟩ => ⟨0, he, hw⟩
theorem rdBytes_len (st : Option (List UInt8)) (k : Nat) : (rdBytes st k).2.length = 0 ∨ (rdBytes st k).2.length = k := by
  cases st with
  | none => left; rfl
  | some l =>
    simp only [rdBytes]
    split
    · right; rename_i h; simp; omega
    · left; rfl

theorem rnum_c {lo : Nat} (r : Nat) (st : Option (List UInt8)) (k : Nat) (w : World) (h : RdR lo w r st) (hk : k = 1 ∨ k = 2 ∨ k = 8) :
    Calls Try.prog 60 #[.pointer (some ⟨r, 0, none⟩), .int .i64 k] w fun e w' => e = .returned (.int .u64 (rdNum st k).2) ∧ RdR lo w' r (rdNum st k).1 ∧ w.grownBy w' (some r) := by
  have hlen := rdBytes_len st k
  unfold rdNum
  have b1 : ¬ ((k : Int) < 1) := by omega
  have b2 : ¬ ((8 : Int) < k) := by omega
  have Hk := Lib.hid hk
  have HC := rbytes_c r st k w h (by omega) (by omega)
  clear hk
  generalize rdBytes st (k : Int) = res at *
  go_enter Try.func60, Try.ntmps60
  go_wp2_with fail
  refine HC.mono ?_
  clear HC
  rintro e w1 ⟨s, rfl, hs, _, hr, hg⟩
  go_wp2_with fail
  refine (getR s res.2 w1 hs.1 (by have := Hk.out; omega)).mono ?_
  rintro e w2 ⟨e0, rfl, rfl⟩
  go_wp2_with fail
  go_ret
  exact ⟨rfl, hr, hg⟩

/-- what Blob leaves, and hands back -/
def rdBlob (st : Option (List UInt8)) : Option (List UInt8) × List UInt8 := rdBytes (rdNum st 2).1 (rdNum st 2).2

theorem rdNum_lt (st : Option (List UInt8)) (k : Nat) : (rdNum st k).2 < 256 ^ k := by
  unfold rdNum
  have h1 := numOf_lt (rdBytes st k).2
  have h2 : 256 ^ (rdBytes st k).2.length ≤ 256 ^ k := Nat.pow_le_pow_right (by omega) (by rcases rdBytes_len st k with h | h <;> omega)
  simp only
  omega

theorem rblob_c {lo : Nat} (r : Nat) (st : Option (List UInt8)) (w : World) (h : RdR lo w r st) :
    Calls Try.prog 61 #[.pointer (some ⟨r, 0, none⟩)] w fun e w' => ∃ s : Sl, e = .returned s.v ∧ BytesO w' s (rdBlob st).2 ∧ LowSl lo r s (rdBlob st).2 ∧ RdR lo w' r (rdBlob st).1 ∧ w.grownBy w' (some r) := by
  have hlt := rdNum_lt st 2
  unfold rdBlob
  have HC := rnum_c r st 2 w h (by omega)
  generalize rdNum st 2 = res at *
  have hb : (res.2 : Int) < 65536 := by omega
  clear hlt
  go_enter Try.func61, Try.ntmps61
  go_wp2_with fail
  refine HC.mono ?_
  clear HC
  rintro e w1 ⟨rfl, hr, hg⟩
  go_wp2_with fail
  refine (rbytes_c r res.1 res.2 w1 hr (by omega) (by omega)).mono ?_
  rintro e w2 ⟨s, rfl, hs, hlo, hr2, hg2⟩
  go_wp2_with fail
  go_ret
  exact ⟨s, rfl, hs, hlo, hr2, hg.trans hg2⟩

/-- what End answers -/
def rdEnd (st : Option (List UInt8)) : Int := if st = some [] then 0 else 4
theorem rend_c {lo : Nat} (r : Nat) (st : Option (List UInt8)) (w : World) (h : RdR lo w r st) :
    Calls Try.prog 62 #[.pointer (some ⟨r, 0, none⟩)] w fun e w' => e = .returned (.int .i64 (rdEnd st)) ∧ w = w' := by
  cases st with
  | none =>
    obtain ⟨s, hg⟩ := id h
    have c1 : w.cell? ⟨r, 1, none⟩ = some (.bool false) := by rw [cell_of_row w r 1 _ _ _ hg]; rfl
    clear hg h
    go_enter Try.func62, Try.ntmps62
    go_wp2_with fail
    go_ret
    exact ⟨rfl, rfl⟩
  | some l =>
    obtain ⟨s, hg, hs, hcap, _⟩ := id h
    have c0 : w.cell? ⟨r, 0, none⟩ = some (.slice s.a l.length s.c) := by rw [cell_of_row w r 0 _ _ _ hg]; simp [hs.1.1]
    have c1 : w.cell? ⟨r, 1, none⟩ = some (.bool true) := by rw [cell_of_row w r 1 _ _ _ hg]; rfl
    have hle : (l.length : Int) ≤ 140737488355328 := by have := hs.1.2.1; have := hs.1.1; omega
    clear hg hs h
    by_cases hl : l = []
    · subst hl
      go_enter Try.func62, Try.ntmps62
      go_wp2_with fail
      go_ret
      exact ⟨rfl, rfl⟩
    · have h1 : (0 : Int) < l.length := by cases l <;> simp_all <;> omega
      have hi : rdEnd (some l) = 4 := by simp [rdEnd, hl]
      rw [hi]
      clear hi hl
      go_enter Try.func62, Try.ntmps62
      go_wp2_with fail
      go_ret
      exact ⟨rfl, rfl⟩
end Go.Proofs.Ytbpbnnonialelaa
