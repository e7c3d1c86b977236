/- Contracts of package wire: Blob, Join, Read. -/
import Derived.Test.YtbpbnnonialelaaWire2
import Derived.LaidEql
import Derived.WalkSpells
namespace Go.Proofs.Ytbpbnnonialelaa
open Go.RowKit

/-- a slice as the shelf's contracts hand it over -/
theorem own_of_fresh {w : World} {base : Nat} {v : Value} {l : List UInt8} (h : Lib.FreshBytes base w v l) (hl : 0 < l.length ∨ ∃ g c, v = .slice (some ⟨g, 0, none⟩) l.length c ∧ g < w.heap.size) : Own w base v l := by
  obtain ⟨g, cap, zs, rfl, hB, hlc, hm, hz, hr, hb, hc, hf⟩ := h
  have hg : g < w.heap.size := by
    rcases hl with hl | ⟨g', c, he, hlt⟩
    · exact lt_of_cell (hc 0 (by omega))
    · injection he with h1 h2 h3; injection h1 with h1; injection h1 with h1; omega
  refine ⟨by simp, .inr ⟨g, cap, rfl, hB, hg, hlc, hm, fun j hj => by rw [hc j (by omega)]; rfl, fun j hj => hf j (by omega), fun j u hu => ?_⟩⟩
  have hj : j < l.length := by
    rcases Nat.lt_or_ge j l.length with hj | hj
    · exact hj
    · rw [List.getElem?_eq_none (by simpa using hj)] at hu; cases hu
  rw [hc j (by omega)]
  have e1 : l[j]? = (Lib.bytesOf (zs.take l.length))[j]? := by rw [hb]
  have hjz : j < zs.length := by omega
  simp only [Lib.bytesOf, List.getElem?_map, List.getElem?_take, hj, if_true, List.getElem?_eq_getElem hjz, Option.map_some] at e1
  rw [List.getElem?_map, e1] at hu
  injection hu with hu
  rw [← hu]
  obtain ⟨h0, h1⟩ := hr zs[j] (List.getElem_mem _)
  simp only [List.getD_eq_getElem?_getD, List.getElem?_eq_getElem hjz, Option.getD_some, byteV]
  congr 2
  have : zs[j].toNat < 256 := by omega
  simp [Nat.mod_eq_of_lt this]
  omega

theorem flatten_intersperse (ls : List (List UInt8)) : (List.intersperse [] ls).flatten = ls.flatten := by
  induction ls with
  | nil => rfl
  | cons a r ih =>
    cases r with
    | nil => rfl
    | cons b r => simp only [List.intersperse, List.flatten_cons, List.nil_append] at ih ⊢; rw [ih]
theorem join_nil_sep (ls : List (List UInt8)) : Lib.join ls [] = ls.flatten := by
  simp [Lib.join, List.intercalate, flatten_intersperse]

set_option maxRecDepth 100000 in
set_option maxHeartbeats 800000 in
theorem blob_c (s : Sl) (l : List UInt8) (w : World) (hs : BytesR w s l) (hl : l.length ≤ 65535) :
    Calls Try.prog 96 #[s.v] w fun e w' => ∃ v, e = .returned (.tuple #[v, .int .i64 0]) ∧ Own w' w.heap.size v (be 2 l.length ++ l) ∧ Below w.heap.size w w' := by
  obtain ⟨i0, hi, hz0, hz1, hz2⟩ := info_parts info_u8
  have h1 : s.n = l.length := hs.1
  obtain ⟨sa, sn, sc⟩ := s
  simp only at h1
  subst h1
  have n1 : ¬ ((65535 : Int) < l.length) := by omega
  have Hs := Lib.hid hs
  clear hs
  change Calls Try.prog _ #[.slice sa l.length sc] w _
  go_enter Try.func96, Try.ntmps96
  go_wp2_with (at_builtin; refine wpList_append_bytes _ rfl (.tmp 14) (.tmp 15) _ rfl w.heap.size 5 i0 _ Try.underlying35 hi hz0 hz1 hz2 rfl (.slice (some ⟨w.heap.size, 0, none⟩) 2 2) (be 2 l.length) rfl ?_ ⟨sa, l.length, sc⟩ l rfl (Hs.out.keep (by (repeat' (first | (with_reducible exact Below.refl _ _) | (with_reducible assumption) | (with_reducible refine bel_trans (by assumption) ?_ ?_) | (with_reducible refine bel_grown (by assumption) ?_ ?_ ?_) | (with_reducible refine Below.alloc ?_ ?_ _) | (with_reducible refine Below.drew ?_) | (with_reducible refine below_drewN ?_ _) | (with_reducible refine Below.setCell ?_ ?_ _) | (with_reducible refine below_put ?_ ?_ _ _) | (with_reducible exact Nat.le_refl _) | omega | (with_reducible refine Nat.le_trans ?_ (Below.size (by assumption))) | (with_reducible refine Nat.le_trans ?_ (World.grownBy.size (by assumption))) | (simp only [World.size_alloc, World.size_setCell, World.size_drew, size_drewN]; omega) | (simp only [World.size_alloc, World.size_setCell, World.size_drew, size_drewN, size_put]; omega) | (intro k hk; simp [Value.ownBlock] at hk; done) | (intro k hk; simp [Value.ownBlock] at hk; omega) | (simp [size_drewN] at *; omega))))) ?_ ?_ ?_; rotate_left 3; intro v' w1 hown hg _)
  · go_ret2
    exact ⟨v', rfl, hown, by (repeat' (first | (with_reducible exact Below.refl _ _) | (with_reducible assumption) | (with_reducible refine bel_trans (by assumption) ?_ ?_) | (with_reducible refine bel_grown (by assumption) ?_ ?_ ?_) | (with_reducible refine Below.alloc ?_ ?_ _) | (with_reducible refine Below.drew ?_) | (with_reducible refine below_drewN ?_ _) | (with_reducible refine Below.setCell ?_ ?_ _) | (with_reducible refine below_put ?_ ?_ _ _) | (with_reducible exact Nat.le_refl _) | omega | (with_reducible refine Nat.le_trans ?_ (Below.size (by assumption))) | (with_reducible refine Nat.le_trans ?_ (World.grownBy.size (by assumption))) | (simp only [World.size_alloc, World.size_setCell, World.size_drew, size_drewN]; omega) | (simp only [World.size_alloc, World.size_setCell, World.size_drew, size_drewN, size_put]; omega) | (intro k hk; simp [Value.ownBlock] at hk; done) | (intro k hk; simp [Value.ownBlock] at hk; omega) | (simp [size_drewN] at *; omega)))⟩
  · exact Own.lit w _ _ _ _ 2 (by simp [be, byteV_of]; omega) (by simp [be_length]) (Nat.le_refl _) (by simp [be_length, maxLen])
  · simp [be_length]; omega

theorem blob_long (s : Sl) (w : World) (hl : 65535 < s.n) :
    Calls Try.prog 96 #[s.v] w fun e w' => e = .returned (.tuple #[.slice none 0 0, .int .i64 3]) ∧ w = w' := by
  obtain ⟨sa, sn, sc⟩ := s
  have n1 : ((65535 : Int) < sn) := by simp at hl; omega
  change Calls Try.prog _ #[.slice sa sn sc] w _
  go_enter Try.func96, Try.ntmps96
  go_wp2_with fail
  go_ret2
  exact ⟨rfl, rfl⟩

/-- a list of slices of bytes, as the shelf's bytes.Join asks for it -/
theorem holds_of {w : World} {s : Sl} {l : List UInt8} (h : BytesR w s l) : Lib.HoldsBytes w s.v l := by
  obtain ⟨a, n, c⟩ := s
  obtain rfl : n = l.length := h.1
  by_cases hl : l = []
  · subst hl
    exact ⟨a, c, rfl, fun _ => rfl, fun a ha i x hx => by simp at hx⟩
  · obtain ⟨b, off, ha, hc⟩ := h.2.2 hl
    simp only at ha
    subst ha
    refine ⟨some ⟨b, off, none⟩, c, rfl, fun h => (by cases h), fun a ha i x hx => ?_⟩
    injection ha with ha
    subst ha
    have hj : i < l.length := by
      rcases Nat.lt_or_ge i l.length with hj | hj
      · exact hj
      · rw [List.getElem?_eq_none (by simpa using hj)] at hx; cases hx
    have hadd : (⟨b, off, none⟩ : Addr).add i = ⟨b, off + i, none⟩ := by unfold Addr.add; split <;> simp_all
    rw [hadd, hc i hj]
    rw [List.getElem?_eq_getElem hj] at hx
    injection hx with hx
    rw [hx]; rfl

/-- Join of two pieces or more -/
theorem join_c (b o c : Nat) (ss : List Sl) (ls : List (List UInt8)) (w : World) (h2 : 2 ≤ ls.length) (hlen : ss.length = ls.length) (hcap : ls.length ≤ c)
    (hcell : ∀ (i : Nat) (h : i < ss.length), w.cell? ⟨b, o + i, none⟩ = some ss[i].v) (hr : ∀ (i : Nat) (h : i < ss.length) (h' : i < ls.length), BytesR w ss[i] ls[i])
    (hsum : Lib.lens ls ≤ 140737488355328) (hpos : 0 < ls.flatten.length) (hbig : ls.length ≤ 140737488355328) :
    Calls Try.prog 74 #[.slice (some ⟨b, o, none⟩) ls.length c] w fun e w' => ∃ v, e = .returned v ∧ Own w' w.heap.size v ls.flatten ∧ Below w.heap.size w w' := by
  have HC := Try.bytes_Join_many b o ls.length c (ss.map Sl.v) ls (.slice none 0 0) [] w rfl h2 ⟨by simpa using hlen, fun i v hv => by
      have hi : i < ss.length := by
        rcases Nat.lt_or_ge i ss.length with hj | hj
        · exact hj
        · rw [List.getElem?_eq_none (by simpa using hj)] at hv; cases hv
      have hadd : (⟨b, o, none⟩ : Addr).add i = ⟨b, o + i, none⟩ := by unfold Addr.add; split <;> simp_all
      rw [hadd, hcell i hi]
      simpa [hi] using hv, fun i v l hv hl => by
      have hi : i < ss.length := by
        rcases Nat.lt_or_ge i ss.length with hj | hj
        · exact hj
        · rw [List.getElem?_eq_none (by simpa using hj)] at hv; cases hv
      have hi' : i < ls.length := by omega
      have e1 : v = ss[i].v := by simpa [hi] using hv.symm
      have e2 : l = ls[i] := by simpa [hi'] using hl.symm
      rw [e1, e2]
      exact holds_of (hr i hi hi')⟩ hcap ⟨none, 0, rfl, fun _ => rfl, fun a ha => by cases ha⟩ hbig (by simpa using hsum)
  rw [join_nil_sep] at HC
  have Hp := Lib.hid hpos
  clear hpos hr hcell hlen h2 hcap hsum
  go_enter Try.func74, Try.ntmps74
  go_wp2_with fail
  refine HC.mono ?_
  rintro e w1 ⟨v, rfl, hf, hb⟩
  clear HC
  go_wp2_with fail
  go_ret
  exact ⟨v, rfl, own_of_fresh hf (.inl Hp.out), hb⟩

/-- Join of four pieces, of a list made on the spot -/
theorem join4 (t : TypeId) (s1 s2 s3 s4 : Sl) (l1 l2 l3 l4 : List UInt8) (w : World) (r1 : BytesR w s1 l1) (r2 : BytesR w s2 l2) (r3 : BytesR w s3 l3) (r4 : BytesR w s4 l4)
    (hpos : 0 < l1.length) (hlen : l1.length + l2.length + l3.length + l4.length ≤ 140737488355328) :
    Calls Try.prog 74 #[.slice (some ⟨w.heap.size, 0, none⟩) 4 4] (w.alloc (.cells #[s1.v, s2.v, s3.v, s4.v] t)) fun e w' => ∃ v, e = .returned v ∧ Own w' w.heap.size v (l1 ++ l2 ++ l3 ++ l4) ∧ Below w.heap.size w w' := by
  have hb : Below w.heap.size w (w.alloc (.cells #[s1.v, s2.v, s3.v, s4.v] t)) := (Below.refl _ _).alloc (Nat.le_refl _) _
  have h := join_c w.heap.size 0 4 [s1, s2, s3, s4] [l1, l2, l3, l4] (w.alloc (.cells #[s1.v, s2.v, s3.v, s4.v] t)) (by simp) rfl (by simp)
    (by
      intro i h
      have hh : i = 0 ∨ i = 1 ∨ i = 2 ∨ i = 3 := by simp at h; omega
      rcases hh with rfl | rfl | rfl | rfl <;> simp)
    (by
      intro i h _
      have hh : i = 0 ∨ i = 1 ∨ i = 2 ∨ i = 3 := by simp at h; omega
      rcases hh with rfl | rfl | rfl | rfl
      · exact r1.keep hb
      · exact r2.keep hb
      · exact r3.keep hb
      · exact r4.keep hb)
    (by simp [Lib.lens]; omega) (by simp; omega) (by simp)
  exact h.mono fun e w' ⟨v, he, ho, hb'⟩ => ⟨v, he, by have := ho.more (base' := w.heap.size) (by simp); simpa using this, hb.trans (hb'.mono (by simp))⟩
theorem join3 (t : TypeId) (s1 s2 s3 : Sl) (l1 l2 l3 : List UInt8) (w : World) (r1 : BytesR w s1 l1) (r2 : BytesR w s2 l2) (r3 : BytesR w s3 l3)
    (hpos : 0 < l1.length) (hlen : l1.length + l2.length + l3.length ≤ 140737488355328) :
    Calls Try.prog 74 #[.slice (some ⟨w.heap.size, 0, none⟩) 3 3] (w.alloc (.cells #[s1.v, s2.v, s3.v] t)) fun e w' => ∃ v, e = .returned v ∧ Own w' w.heap.size v (l1 ++ l2 ++ l3) ∧ Below w.heap.size w w' := by
  have hb : Below w.heap.size w (w.alloc (.cells #[s1.v, s2.v, s3.v] t)) := (Below.refl _ _).alloc (Nat.le_refl _) _
  have h := join_c w.heap.size 0 3 [s1, s2, s3] [l1, l2, l3] (w.alloc (.cells #[s1.v, s2.v, s3.v] t)) (by simp) rfl (by simp)
    (by
      intro i h
      have hh : i = 0 ∨ i = 1 ∨ i = 2 := by simp at h; omega
      rcases hh with rfl | rfl | rfl <;> simp)
    (by
      intro i h _
      have hh : i = 0 ∨ i = 1 ∨ i = 2 := by simp at h; omega
      rcases hh with rfl | rfl | rfl
      · exact r1.keep hb
      · exact r2.keep hb
      · exact r3.keep hb)
    (by simp [Lib.lens]; omega) (by simp; omega) (by simp)
  exact h.mono fun e w' ⟨v, he, ho, hb'⟩ => ⟨v, he, by have := ho.more (base' := w.heap.size) (by simp); simpa using this, hb.trans (hb'.mono (by simp))⟩

theorem Own.readsO {w : World} {base : Nat} {s : Sl} {l : List UInt8} (h : Own w base s.v l) : BytesO w s l ∧ LowSl base w.heap.size s l := by
  have hr := h.reads
  obtain ⟨hl, h⟩ := h
  rcases h with ⟨hv, hn⟩ | ⟨g, cap, hv, hb, hlt, hn, _, _, hf, hx⟩
  · have : l = [] := List.eq_nil_of_length_eq_zero hn
    subst this
    exact ⟨⟨hr, fun h => absurd rfl h⟩, LowSl.nil _ _ _⟩
  · injection hv with h1 h2 h3
    refine ⟨⟨hr, fun _ b off ha i hi => ?_⟩, fun _ a ha => ?_⟩
    · rw [h1] at ha
      injection ha with ha
      injection ha with e1 e2
      subst e1 e2
      rw [Nat.zero_add]
      exact hf i (by omega)
    · rw [h1] at ha
      injection ha with ha
      rw [← ha]
      exact ⟨hb, hlt⟩
/-- a reader over a copy -/
theorem read_c (s : Sl) (l : List UInt8) (w : World) (hs : BytesR w s l) (hl : l.length ≤ 140737488355328) :
    Calls Try.prog 58 #[s.v] w fun e w' => ∃ r, e = .returned (.pointer (some ⟨r, 0, none⟩)) ∧ w.heap.size ≤ r ∧ RdR w.heap.size w' r (some l) ∧ Below w.heap.size w w' := by
  obtain ⟨sa, sn, sc⟩ := s
  obtain rfl : sn = l.length := hs.1
  have HC : Calls Try.prog 97 #[.slice sa l.length sc] w fun e w' => ∃ v, e = .returned v ∧ (∃ s' : Sl, v = s'.v ∧ BytesO w' s' l ∧ LowSl w.heap.size w'.heap.size s' l) ∧ Below w.heap.size w w' := by
    cases sa with
    | none =>
      have hl0 : l = [] := by
        by_cases hl : l = []
        · exact hl
        · obtain ⟨b, off, ha, _⟩ := hs.2.2 hl; cases ha
      subst hl0
      refine (Try.bytes_Clone_nil 0 sc w).mono fun e w' ⟨he, hw⟩ => ?_
      subst hw
      exact ⟨_, he, ⟨⟨none, 0, 0⟩, rfl, BytesO.nil _ _ _, LowSl.nil _ _ _⟩, Below.refl _ _⟩
    | some ad =>
      refine (Try.bytes_Clone_at ad l.length sc (l.map fun b => (b.toNat : Int)) w (by simp) hl (fun i hi => ?_)).mono fun e w' ⟨v, he, ho, _, hb⟩ => ?_
      · obtain ⟨b, off, ha, hc⟩ := hs.2.2 (by intro h; subst h; simp at hi)
        simp only [Option.some.injEq] at ha
        subst ha
        have hadd : (⟨b, off, none⟩ : Addr).add i = ⟨b, off + i, none⟩ := by unfold Addr.add; split <;> simp_all
        rw [hadd, hc i hi]
        simp [byteV, hi]
      · have hown : Own w' w.heap.size v l := by
          have := OwnC.of_row ho
          rw [List.map_map] at this
          exact this
        obtain ⟨s', rfl⟩ := hown.slice
        exact ⟨_, he, ⟨s', rfl, hown.readsO.1, hown.readsO.2⟩, hb⟩
  clear hs
  change Calls Try.prog _ #[.slice sa l.length sc] w _
  go_enter Try.func58, Try.ntmps58
  go_wp2_with fail
  refine HC.mono ?_
  clear HC
  rintro e w1 ⟨v, rfl, ⟨s', rfl, hr, hlo⟩, hb⟩
  go_wp2_with fail
  go_ret
  exact ⟨w1.heap.size, rfl, hb.size, ⟨s', heap_alloc_new w1 _, hr.keep ((Below.refl _ _).alloc (Nat.le_refl _) _), hl, hlo⟩, by (repeat' (first | (with_reducible exact Below.refl _ _) | (with_reducible assumption) | (with_reducible refine bel_trans (by assumption) ?_ ?_) | (with_reducible refine bel_grown (by assumption) ?_ ?_ ?_) | (with_reducible refine Below.alloc ?_ ?_ _) | (with_reducible refine Below.drew ?_) | (with_reducible refine below_drewN ?_ _) | (with_reducible refine Below.setCell ?_ ?_ _) | (with_reducible refine below_put ?_ ?_ _ _) | (with_reducible exact Nat.le_refl _) | omega | (with_reducible refine Nat.le_trans ?_ (Below.size (by assumption))) | (with_reducible refine Nat.le_trans ?_ (World.grownBy.size (by assumption))) | (simp only [World.size_alloc, World.size_setCell, World.size_drew, size_drewN]; omega) | (simp only [World.size_alloc, World.size_setCell, World.size_drew, size_drewN, size_put]; omega) | (intro k hk; simp [Value.ownBlock] at hk; done) | (intro k hk; simp [Value.ownBlock] at hk; omega) | (simp [size_drewN] at *; omega)))⟩
end Go.Proofs.Ytbpbnnonialelaa
