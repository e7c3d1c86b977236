/- The walk of landmarklaw09.CodecVotes. -/
import Derived.Test.YtbpbnnonialelaaVotes0
import Derived.Test.YtbpbnnonialelaaPoints
import Derived.Test.YtbpbnnonialelaaReadVote
import Derived.Deep.CutRange
import Derived.Deep.CutBlock
namespace Go.Proofs.Ytbpbnnonialelaa
open Go.RowKit

/-- two votes in rows of their own -/
def RowsV (a b : Nat) (W : World) (g o : GVote) : Prop := row? W a 0 68 = some (voteA g) ∧ row? W b 0 68 = some (voteA o) ∧ a < W.heap.size ∧ b < W.heap.size
theorem RowsV.keep {a b : Nat} {W W' : World} {g o : GVote} (h : RowsV a b W g o) (hb : Below W.heap.size W W') : RowsV a b W' g o := by
  obtain ⟨h1, h2, l1, l2⟩ := h
  have := hb.size
  exact ⟨by rw [row?_below _ _ _ hb l1]; exact h1, by rw [row?_below _ _ _ hb l2]; exact h2, by omega, by omega⟩

set_option maxRecDepth 100000 in
set_option maxHeartbeats 1600000 in
/-- where something is too long -/
theorem votes_long (g o : GVote) (v v2 : Vote) (s : Sl) (l : List UInt8) (w : World) (hv : VoteR w g v) (ho : VoteR w o v2) (hs : BytesR w s l) (h : 9000 < l.length ∨ 9000 < v.sig.length ∨ 9000 < v2.sig.length) :
    Calls Try.prog 7 #[.agg (voteA g), .agg (voteA o), s.v] w fun e w' => e = .returned (.bool true) ∧ Below w.heap.size w w' := by
  obtain ⟨sa, sn, sc⟩ := s
  obtain rfl : sn = l.length := hs.1
  obtain ⟨gv, gs, gt, ⟨ga, gn, gc⟩⟩ := g
  obtain ⟨ov, os, ot, ⟨oa, on, oc⟩⟩ := o
  obtain rfl : gn = v.sig.length := hv.2.2.2.1
  obtain rfl : on = v2.sig.length := ho.2.2.2.1
  generalize v.sig.length = n1 at *
  generalize v2.sig.length = n2 at *
  have hb : l.length ≤ 9223372036854775807 ∨ True := .inr trivial
  clear hv ho hs hb
  show Calls Try.prog 7 #[.agg (voteA _), .agg (voteA _), .slice sa l.length sc] w _
  generalize l.length = n0 at *
  by_cases h0 : 9000 < n0
  · have d0 : decide ((9000 : Int) < n0) = true := decide_eq_true (by omega)
    go_enter Try.func7, Try.ntmps7
    go_wp2_with (go_at_call 24; (with_reducible refine (known09_c _).mono ?_); rintro e W3 ⟨rfl, hb3⟩)
    go_ret
    exact ⟨rfl, by (repeat' (first | (with_reducible exact Below.refl _ _) | (with_reducible assumption) | (with_reducible refine bel_trans (by assumption) ?_ ?_) | (with_reducible refine bel_grown (by assumption) ?_ ?_ ?_) | (with_reducible refine Below.alloc ?_ ?_ _) | (with_reducible refine Below.drew ?_) | (with_reducible refine below_drewN ?_ _) | (with_reducible refine Below.setCell ?_ ?_ _) | (with_reducible refine below_put ?_ ?_ _ _) | (with_reducible exact Nat.le_refl _) | omega | (with_reducible refine Nat.le_trans ?_ (Below.size (by assumption))) | (with_reducible refine Nat.le_trans ?_ (World.grownBy.size (by assumption))) | (simp only [World.size_alloc, World.size_setCell, World.size_drew, size_drewN]; omega) | (simp only [World.size_alloc, World.size_setCell, World.size_drew, size_drewN, size_put]; omega) | (intro k hk; simp [Value.ownBlock] at hk; done) | (intro k hk; simp [Value.ownBlock] at hk; omega) | (simp [size_drewN] at *; omega)))⟩
  · have d0 : decide ((9000 : Int) < n0) = false := decide_eq_false (by omega)
    by_cases h1 : 9000 < n1
    · have d1 : decide ((9000 : Int) < n1) = true := decide_eq_true (by omega)
      go_enter Try.func7, Try.ntmps7
      go_wp2_with (go_at_call 24; (with_reducible refine (known09_c _).mono ?_); rintro e W3 ⟨rfl, hb3⟩)
      go_ret
      exact ⟨rfl, by (repeat' (first | (with_reducible exact Below.refl _ _) | (with_reducible assumption) | (with_reducible refine bel_trans (by assumption) ?_ ?_) | (with_reducible refine bel_grown (by assumption) ?_ ?_ ?_) | (with_reducible refine Below.alloc ?_ ?_ _) | (with_reducible refine Below.drew ?_) | (with_reducible refine below_drewN ?_ _) | (with_reducible refine Below.setCell ?_ ?_ _) | (with_reducible refine below_put ?_ ?_ _ _) | (with_reducible exact Nat.le_refl _) | omega | (with_reducible refine Nat.le_trans ?_ (Below.size (by assumption))) | (with_reducible refine Nat.le_trans ?_ (World.grownBy.size (by assumption))) | (simp only [World.size_alloc, World.size_setCell, World.size_drew, size_drewN]; omega) | (simp only [World.size_alloc, World.size_setCell, World.size_drew, size_drewN, size_put]; omega) | (intro k hk; simp [Value.ownBlock] at hk; done) | (intro k hk; simp [Value.ownBlock] at hk; omega) | (simp [size_drewN] at *; omega)))⟩
    · have d1 : decide ((9000 : Int) < n1) = false := decide_eq_false (by omega)
      have d2 : decide ((9000 : Int) < n2) = true := decide_eq_true (by omega)
      go_enter Try.func7, Try.ntmps7
      go_wp2_with (go_at_call 24; (with_reducible refine (known09_c _).mono ?_); rintro e W3 ⟨rfl, hb3⟩)
      go_ret
      exact ⟨rfl, by (repeat' (first | (with_reducible exact Below.refl _ _) | (with_reducible assumption) | (with_reducible refine bel_trans (by assumption) ?_ ?_) | (with_reducible refine bel_grown (by assumption) ?_ ?_ ?_) | (with_reducible refine Below.alloc ?_ ?_ _) | (with_reducible refine Below.drew ?_) | (with_reducible refine below_drewN ?_ _) | (with_reducible refine Below.setCell ?_ ?_ _) | (with_reducible refine below_put ?_ ?_ _ _) | (with_reducible exact Nat.le_refl _) | omega | (with_reducible refine Nat.le_trans ?_ (Below.size (by assumption))) | (with_reducible refine Nat.le_trans ?_ (World.grownBy.size (by assumption))) | (simp only [World.size_alloc, World.size_setCell, World.size_drew, size_drewN]; omega) | (simp only [World.size_alloc, World.size_setCell, World.size_drew, size_drewN, size_put]; omega) | (intro k hk; simp [Value.ownBlock] at hk; done) | (intro k hk; simp [Value.ownBlock] at hk; omega) | (simp [size_drewN] at *; omega)))⟩

theorem BytesR.take {w : World} {a : Option Addr} {n c : Nat} {l : List UInt8} (h : BytesR w ⟨a, n, c⟩ l) (k : Nat) (hk : k ≤ l.length) : BytesR w ⟨a, k, c⟩ (l.take k) := by
  obtain ⟨h1, h2, h3⟩ := h
  simp only at h1 h2 h3
  refine ⟨by simp; omega, by simp only; omega, fun hne => ?_⟩
  obtain ⟨b, off, ha, hc⟩ := h3 (by intro e; subst e; simp at hne)
  refine ⟨b, off, ha, fun i hi => ?_⟩
  have hi' : i < l.length := by simp at hi; omega
  rw [hc i hi']
  simp
theorem BytesR.keepLt {w w' : World} {D b off n c : Nat} {l : List UInt8} (h : BytesR w ⟨some ⟨b, off, none⟩, n, c⟩ l) (hb : b < D) (hB : Below D w w') : BytesR w' ⟨some ⟨b, off, none⟩, n, c⟩ l :=
  ⟨h.1, h.2.1, fun hne => by
    obtain ⟨b', off', ha, hc⟩ := h.2.2 hne
    refine ⟨b', off', ha, fun i hi => ?_⟩
    injection ha with ha
    injection ha with e1 e2
    subst e1 e2
    exact (hB.cell (p := ⟨b, off + i, none⟩) hb).trans (hc i hi)⟩
theorem voteOf_len (l : List UInt8) : (voteOf l).1.sig.length ≤ l.length := by
  rw [voteOf_eq]
  split
  · rename_i h
    have := congrArg List.length h.2
    rw [vtBytes_length] at this
    simp only
    omega
  · simp
/-- a slice of bytes that may be written -/
def Wr (w : World) (s : Sl) (n : Nat) : Prop := s.n = n ∧ (0 < n → ∃ b off, s.a = some ⟨b, off, none⟩ ∧ there w b off n)
theorem VoteO.wr {lo D : Nat} {w : World} {g : GVote} {v : Vote} (h : VoteO lo D w g v) : Wr w g.sig v.sig.length := by
  obtain ⟨_, _, _, ⟨⟨h1, _, h3⟩, h4⟩, _⟩ := h
  refine ⟨h1, fun hn => ?_⟩
  have hne : v.sig ≠ [] := by intro e; rw [e] at hn; simp at hn
  obtain ⟨b, off, ha, hc⟩ := h3 hne
  exact ⟨b, off, ha, fun j hj => ⟨by rw [hc j hj]; rfl, h4 hne b off ha j hj⟩⟩
theorem Wr.set {w : World} {s : Sl} {n : Nat} (h : Wr w s n) (a : Addr) (v : Value) : Wr (w.setCell a v) s n :=
  ⟨h.1, fun hn => by
    obtain ⟨b, off, ha, ht⟩ := h.2 hn
    exact ⟨b, off, ha, there_set w a v b off n ht⟩⟩
theorem Wr.keep {w w' : World} {s : Sl} {n : Nat} (h : Wr w s n) (hb : Below w.heap.size w w') : Wr w' s n :=
  ⟨h.1, fun hn => by
    obtain ⟨b, off, ha, ht⟩ := h.2 hn
    obtain ⟨x, hx⟩ := Option.isSome_iff_exists.1 (ht 0 hn).1
    exact ⟨b, off, ha, there_below hb (lt_of_cell hx) ht⟩⟩
/-- a slice of the call's own, opened -/
theorem own_open {w : World} {base n : Nat} {v : Value} {l : List UInt8} (h : Own w base v l) (hn : l.length = n) (h0 : 0 < n) : ∃ b cap, v = .slice (some ⟨b, 0, none⟩) n cap ∧ base ≤ b ∧ b < w.heap.size ∧ n ≤ cap ∧ BytesR w ⟨some ⟨b, 0, none⟩, n, cap⟩ l := by
  subst hn
  obtain ⟨s, rfl⟩ := h.slice
  have hr := h.reads
  have hlt := h.lt
  obtain ⟨hl, h⟩ := h
  rcases h with ⟨hv, hn⟩ | ⟨g, cap, hv, _, _, hn, _, _, _, hx⟩
  · omega
  · obtain ⟨sa, sn, sc⟩ := s
    injection hv with h1 h2 h3
    subst h1 h2 h3
    obtain ⟨hb1, hb2⟩ := hlt g rfl
    exact ⟨g, sc, rfl, hb1, hb2, by omega, hr⟩

theorem sameVote_self (g : GVote) (v : Vote) (w : World) (hv : VoteR w g v) (hl : v.sig.length ≤ 9223372036854775807) :
    Calls Try.prog 38 #[.agg (voteA g), .agg (voteA g)] w fun e w' => e = .returned (.bool true) ∧ Below w.heap.size w w' := by
  refine (sameVote_c g g v v w hv hv hl).mono ?_
  rintro e w' ⟨rfl, hb⟩
  exact ⟨by simp, hb⟩

set_option maxRecDepth 100000 in
set_option maxHeartbeats 1600000 in
theorem votes_walk (g o : GVote) (v v2 : Vote) (s : Sl) (l : List UInt8) (w : World) (hv : VoteR w g v) (ho : VoteR w o v2) (hs : BytesR w s l) :
    Calls Try.prog 7 #[.agg (voteA g), .agg (voteA o), s.v] w fun e w' => e = .returned (.bool true) ∧ Below w.heap.size w w' := by
  by_cases hlong : 9000 < l.length ∨ 9000 < v.sig.length ∨ 9000 < v2.sig.length
  · exact votes_long g o v v2 s l w hv ho hs hlong
  have hl0 : l.length ≤ 9000 := by omega
  have hl1 : v.sig.length ≤ 9000 := by omega
  have hl2 : v2.sig.length ≤ 9000 := by omega
  clear hlong
  obtain ⟨sa, sn, sc⟩ := s
  obtain rfl : sn = l.length := hs.1
  have d0 : decide ((9000 : Int) < l.length) = false := decide_eq_false (by omega)
  have d1 : decide ((9000 : Int) < g.sig.n) = false := decide_eq_false (by rw [hv.2.2.2.1]; omega)
  have d2 : decide ((9000 : Int) < o.sig.n) = false := decide_eq_false (by rw [ho.2.2.2.1]; omega)
  have HMf := fun W => fmayVote_c g W
  have HMc := fun W => mayVote_c g W
  rw [hv.may] at HMf HMc
  have HVB := fun W (h : VoteR W g v) => voteBytes_c g v W h
  have HVT := fun W (h : VoteR W g v) => ctext_c g v W h
  have hmay : voteMay v = true → 1 ≤ v.validator ∧ v.validator ≤ 64 ∧ v.sig.length ≤ 4096 := fun h => by
    obtain ⟨m1, m2, m3, _⟩ := voteMay_out h
    exact ⟨m1, m2, m3⟩
  have HSc := fun W h1 h2 => sameVote_c g o v v2 W h1 h2 (by omega)
  have HSf := fun W h1 h2 => fsameVote_c g o v v2 W h1 h2
  have hzc := zc_vote
  have HSs := fun W h1 => sameVote_self g v W h1 (by omega)
  generalize voteMay v = m at *
  generalize decide (v = v2) = q at *
  have HC := fun n c W h => voteOf_c ⟨n, l.length, c⟩ l W h (by omega)
  have HF := fun W h => fvoteOf_c ⟨sa, l.length, sc⟩ l W h (by omega)
  have hX : ((voteOf l).2 = 0 ∨ (voteOf l).2 = 4) := by
    rw [voteOf_eq]
    split
    · exact .inl rfl
    · exact .inr rfl
  have hyl := voteOf_len l
  generalize voteOf l = X at *
  obtain ⟨y, ef⟩ := X
  simp only at HC HF hX hyl
  have Hs0 := Lib.hid hs
  have Hs := Lib.hid hs
  have Hv := Lib.hid hv
  have Ho := Lib.hid ho
  have Hm := Lib.hid hmay
  clear hs hv ho hmay hl1 hl2
  show Calls Try.prog 7 #[.agg (voteA g), .agg (voteA o), .slice sa l.length sc] w _
  go_enter Try.func7, Try.ntmps7
  go_wp2_with fail
  refine (HMf _).mono ?_
  rintro e w1 ⟨rfl, hb1⟩
  have hz1 : w.heap.size + 2 ≤ w1.heap.size := by have := hb1.size; simpa using this
  obtain ⟨k1, k2, k3⟩ := kept hb1
  have r1 : row? w1 w.heap.size 0 68 = some (voteA g) := by rw [k3 _ _ _ (by simp; omega), row?_old _ _ _ _ _ (by simp), row?_new]; simp
  have r2 : row? w1 (w.heap.size + 1) 0 68 = some (voteA o) := by rw [k3 _ _ _ (by simp), row?_new_at _ _ _ _ _ _ (by simp)]; simp
  have hB1 : Below w.heap.size w w1 := by (repeat' (first | (with_reducible exact Below.refl _ _) | (with_reducible assumption) | (with_reducible refine bel_trans (by assumption) ?_ ?_) | (with_reducible refine bel_grown (by assumption) ?_ ?_ ?_) | (with_reducible refine Below.alloc ?_ ?_ _) | (with_reducible refine Below.drew ?_) | (with_reducible refine below_drewN ?_ _) | (with_reducible refine Below.setCell ?_ ?_ _) | (with_reducible refine below_put ?_ ?_ _ _) | (with_reducible exact Nat.le_refl _) | omega | (with_reducible refine Nat.le_trans ?_ (Below.size (by assumption))) | (with_reducible refine Nat.le_trans ?_ (World.grownBy.size (by assumption))) | (simp only [World.size_alloc, World.size_setCell, World.size_drew, size_drewN]; omega) | (simp only [World.size_alloc, World.size_setCell, World.size_drew, size_drewN, size_put]; omega) | (intro k hk; simp [Value.ownBlock] at hk; done) | (intro k hk; simp [Value.ownBlock] at hk; omega) | (simp [size_drewN] at *; omega)))
  have hR1 := Lib.hid (show RowsV w.heap.size (w.heap.size + 1) w1 g o from ⟨r1, r2, by omega, by omega⟩)
  clear k1 k2 k3 hb1 r2 HMf
  go_wp2_with fail
  refine (HVB _ (Hv.out.keep' hB1)).mono ?_
  clear HVB
  rintro e w2 ⟨s1, rfl, h1, hb2⟩
  have hz2 := hb2.size
  have hB2 := hB1.trans (hb2.mono (by omega))
  have hR2 := Lib.hid (hR1.out.keep hb2)
  have r2 := hR2.out.1
  have H1 := Lib.hid h1
  clear hR1 r1 hB1 h1
  go_wp2_with fail
  refine (HVT _ (Hv.out.keep' hB2)).mono ?_
  clear HVT
  rintro e w3 ⟨s2, rfl, h2, hb3⟩
  have hz3 := hb3.size
  have hB3 := Lib.hid (hB2.trans (hb3.mono (by omega)))
  have hR := Lib.hid (hR2.out.keep hb3)
  have H1' := Lib.hid (H1.out.keep hb3)
  have H2 := Lib.hid h2
  have Hv3 := Lib.hid (Hv.out.keep' hB3.out)
  have Ho3 := Lib.hid (Ho.out.keep' hB3.out)
  have Hs3 := Lib.hid (Hs.out.keep hB3.out)
  have hz3' : w.heap.size + 2 ≤ w3.heap.size := by omega
  clear hR2 r2 hB2 hb2 hb3 H1 h2 Hv Ho Hs hz1 hz2 hz3
  have Hv := Hv3
  have Ho := Ho3
  have Hs := Hs3
  have H1 := H1'
  clear Hv3 Ho3 Hs3 H1'
  go_upto_if 48 with fail
  go_cut [12, 13] from 49 (fun x z W => ∃ (sb st : Sl) (lb lt : List UInt8), x = sb.v ∧ z = st.v ∧ BytesR W sb lb ∧ BytesR W st lt ∧ (m = true → lb = vtBytes v) ∧ (m = true → lt = txBytes v) ∧ Below w3.heap.size w3 W)
  case first =>
    cases m
    · go_wp2_with fail
      go_meet
      case rel => exact ⟨⟨none, 0, 0⟩, ⟨none, 0, 0⟩, [], [], rfl, rfl, BytesR.nil _ _ _, BytesR.nil _ _ _, (fun h => by cases h), (fun h => by cases h), Below.refl _ _⟩
    · obtain ⟨m1, m2, m3⟩ := Hm.out rfl
      go_upto_region 8 with fail
      refine wp_region_freeG_l (fun W W' => Below W.heap.size W W') (by kernel_rfl) [49, 50, 51, 52, 12, 13]
        [Is (.agg (voteA g)), IsB (vtBytes v), Is (.agg (voteA g)), IsB (txBytes v), IsB (vtBytes v), IsB (txBytes v)]
        (by kernel_rfl) (fun W W' h hb => hb.trans (h.mono hb.size)) ?_ ?_ ?_
      · intro f hf
        simp only [List.mem_cons, List.not_mem_nil, or_false] at hf
        rcases hf with rfl | rfl | rfl | rfl | rfl | rfl <;> intro x W W' h hr <;> first | exact h | exact IsB.keepB h hr
      · refine ⟨?_, ?_, ?_, ?_, ?_, ?_, trivial⟩
        · intro L ax W hf hd
          try simp [Region.binds] at hd
          have e3 : ax.tmps[3]?.getD undef = .pointer (some ⟨w.heap.size, 0, none⟩) := hf.out 3 (by decide) rfl
          refine ⟨fun _ => ?_, fun h => absurd trivial h⟩
          have r1 : row? W w.heap.size 0 68 = some (voteA g) := (hR.out.keep hf.below).1
          refine free_run (v := .agg (voteA g)) (W' := W) rfl ?_ rfl (Below.refl _ _)
          go_simp
        · intro L ax W hf hd
          simp [Region.binds] at hd
          have e49 : ax.tmps[49]?.getD undef = .agg (voteA g) := slv (hf.got 0 (by decide) (by simp [hd]))
          refine ⟨fun _ => ?_, fun h => absurd trivial h⟩
          refine free_call (f := 34) (args := #[.agg (voteA g)]) rfl (by go_simp) ?_
          refine (fVote_c g v W (Hv.out.keep' hf.below) m1 m2 m3).mono ?_
          rintro e w' ⟨s2, rfl, hs2, hb⟩
          exact ⟨_, rfl, ⟨s2, rfl, hs2⟩, hb⟩
        · intro L ax W hf hd
          try simp [Region.binds] at hd
          have e3 : ax.tmps[3]?.getD undef = .pointer (some ⟨w.heap.size, 0, none⟩) := hf.out 3 (by decide) rfl
          refine ⟨fun _ => ?_, fun h => absurd trivial h⟩
          have r1 : row? W w.heap.size 0 68 = some (voteA g) := (hR.out.keep hf.below).1
          refine free_run (v := .agg (voteA g)) (W' := W) rfl ?_ rfl (Below.refl _ _)
          go_simp
        · intro L ax W hf hd
          simp [Region.binds] at hd
          have e51 : ax.tmps[51]?.getD undef = .agg (voteA g) := slv (hf.got 2 (by decide) (by simp [hd]))
          refine ⟨fun _ => ?_, fun h => absurd trivial h⟩
          refine free_call (f := 35) (args := #[.agg (voteA g)]) rfl (by go_simp) ?_
          refine (fText_c g v W Hv.out.1 Hv.out.2.1 Hv.out.2.2.1 m1 m2).mono ?_
          rintro e w' ⟨s2, rfl, hs2, hb⟩
          exact ⟨_, rfl, ⟨s2, rfl, hs2⟩, hb⟩
        · intro L ax W hf hd
          simp [Region.binds] at hd
          have f50 : IsB (vtBytes v) (sl ax 50) W := hf.got 1 (by decide) (by simp [hd])
          refine ⟨fun _ => ?_, fun h => absurd trivial h⟩
          obtain ⟨s, e0, r0⟩ := f50
          have e0 := slv e0
          refine free_run (v := s.v) (W' := W) rfl ?_ ⟨s, rfl, r0⟩ (Below.refl _ _)
          go_simp
        · intro L ax W hf hd
          simp [Region.binds] at hd
          have f52 : IsB (txBytes v) (sl ax 52) W := hf.got 3 (by decide) (by simp [hd])
          refine ⟨fun _ => ?_, fun h => absurd trivial h⟩
          obtain ⟨s, e0, r0⟩ := f52
          have e0 := slv e0
          refine free_run (v := s.v) (W' := W) rfl ?_ ⟨s, rfl, r0⟩ (Below.refl _ _)
          go_simp
      · intro vs W' hl' hF hb
        obtain ⟨g', hg1, hg2⟩ := vs_lit vs hl' hF
        obtain ⟨sb, e12, rb⟩ : IsB (vtBytes v) (g' 4) W' := hg2 4 (by decide)
        obtain ⟨st, e13, rt⟩ : IsB (txBytes v) (g' 5) W' := hg2 5 (by decide)
        rw [hg1]
        clear hF hg1 hg2 hl'
        have Rb := Lib.hid rb
        have Rt := Lib.hid rt
        have HBB := Lib.hid hb
        clear rb rt hb
        simp only [List.length_cons, List.length_nil, Nat.reduceAdd, show List.range 6 = [0, 1, 2, 3, 4, 5] from rfl, List.map_cons, List.map_nil, putL, List.zip_cons_cons, List.zip_nil_right, List.setIfInBounds_toArray, List.set_cons_succ, List.set_cons_zero, e12, e13]
        go_wp2_with fail
        go_meet
        case rel => exact ⟨sb, st, vtBytes v, txBytes v, rfl, rfl, Rb.out, Rt.out, fun _ => rfl, fun _ => rfl, HBB.out⟩
  case rest =>
    obtain ⟨sb, st, lb, lt, rfl, rfl, rb, rt, hlb, hlt, hbc⟩ := hcut
    have Hlb := Lib.hid rb
    have Hlt := Lib.hid rt
    have hR' := Lib.hid (hR.out.keep hbc)
    have Hv' := Lib.hid (Hv.out.keep' hbc)
    have Ho' := Lib.hid (Ho.out.keep' hbc)
    have Hs' := Lib.hid (Hs.out.keep hbc)
    have H1' := Lib.hid (H1.out.keep hbc)
    have H2' := Lib.hid (H2.out.keep hbc)
    have hB' := Lib.hid (hB3.out.trans (hbc.mono (by omega)))
    have hz' : w.heap.size + 2 ≤ wc.heap.size := by have := hbc.size; omega
    clear rb rt hR Hv Ho Hs H1 H2 hB3 hbc hz3' Hm
    have hR := hR'
    have Hv := Hv'
    have Ho := Ho'
    have H1 := H1'
    have H2 := H2'
    clear hR' Hv' Ho' H1' H2'
    go_upto_region 9 with fail
    refine wp_region_freeG_l (fun W W' => Below W.heap.size W W') (by kernel_rfl) [53, 54, 55, 56, 57, 58, 59, 60, 61, 62, 63, 64, 65, 66, 67, 68, 69, 70, 71, 72, 73, 74, 75, 76, 77, 78, 79, 80, 81, 82, 83, 84, 85]
      [Is (s1.v), Is (.int .i64 (noErr m)), Is (.agg (voteA g)), Is (.bool m), Is (.bool m), Is (sb.v), Is (.bool true), Is (.bool false), Is (.bool false), Is (s2.v), Is (.int .i64 (noErr m)), Is (.agg (voteA g)), Is (.bool m), Is (.bool m), Is (st.v), Is (.bool true), Is (.bool false), Is (.bool false), Is (.bool false), Is (.agg (voteA g)), Is (.agg (voteA o)), Is (.bool q), Is (.agg (voteA g)), Is (.agg (voteA o)), Is (.bool q), Is (.bool false), Is (.bool false), Is (.bool false), Is (.agg (voteA g)), Is (.agg (voteA g)), Is (.bool true), Is (.bool false), Is (.bool false)]
      (by kernel_rfl) (fun W W' h hb => hb.trans (h.mono hb.size)) ?_ ?_ ?_
    · intro f hf
      simp only [List.mem_cons, List.not_mem_nil, or_false] at hf
      rcases hf with rfl | rfl | rfl | rfl | rfl | rfl | rfl | rfl | rfl | rfl | rfl | rfl | rfl | rfl | rfl | rfl | rfl | rfl | rfl | rfl | rfl | rfl | rfl | rfl | rfl | rfl | rfl | rfl | rfl | rfl | rfl | rfl | rfl <;> intro x W W' h hr <;> first | exact h
    · refine ⟨?_, ?_, ?_, ?_, ?_, ?_, ?_, ?_, ?_, ?_, ?_, ?_, ?_, ?_, ?_, ?_, ?_, ?_, ?_, ?_, ?_, ?_, ?_, ?_, ?_, ?_, ?_, ?_, ?_, ?_, ?_, ?_, ?_, trivial⟩
      · intro L ax W hf hd
        try simp [Region.binds] at hd
        have e8 : ax.tmps[8]?.getD undef = s1.v := hf.out 8 (by decide) rfl
        refine ⟨fun _ => ?_, fun h => absurd trivial h⟩
        refine free_run (v := s1.v) (W' := W) rfl ?_ rfl (Below.refl _ _)
        go_simp
      · intro L ax W hf hd
        try simp [Region.binds] at hd
        have e9 : ax.tmps[9]?.getD undef = .int .i64 (noErr m) := hf.out 9 (by decide) rfl
        refine ⟨fun _ => ?_, fun h => absurd trivial h⟩
        refine free_run (v := .int .i64 (noErr m)) (W' := W) rfl ?_ rfl (Below.refl _ _)
        go_simp
      · intro L ax W hf hd
        try simp [Region.binds] at hd
        have e3 : ax.tmps[3]?.getD undef = .pointer (some ⟨w.heap.size, 0, none⟩) := hf.out 3 (by decide) rfl
        refine ⟨fun _ => ?_, fun h => absurd trivial h⟩
        obtain ⟨r1, r2, rz1, rz2⟩ := hR.out.keep hf.below
        refine free_run (v := .agg (voteA g)) (W' := W) rfl ?_ rfl (Below.refl _ _)
        go_simp
      · intro L ax W hf hd
        simp [Region.binds] at hd
        have e55 : ax.tmps[55]?.getD undef = .agg (voteA g) := slv (hf.got 2 (by decide) (by simp [hd]))
        refine ⟨fun _ => ?_, fun h => absurd trivial h⟩
        refine free_call (f := 37) (args := #[.agg (voteA g)]) rfl (by go_simp) ?_
        refine (HMc W).mono ?_
        rintro e w' ⟨rfl, hb⟩
        exact ⟨_, rfl, rfl, hb⟩
      · intro L ax W hf hd
        try simp [Region.binds] at hd
        have e7 : ax.tmps[7]?.getD undef = .bool m := hf.out 7 (by decide) rfl
        refine ⟨fun _ => ?_, fun h => absurd trivial h⟩
        refine free_run (v := .bool m) (W' := W) rfl ?_ rfl (Below.refl _ _)
        go_simp
      · intro L ax W hf hd
        try simp [Region.binds] at hd
        have e12 : ax.tmps[12]?.getD undef = sb.v := hf.out 12 (by decide) rfl
        refine ⟨fun _ => ?_, fun h => absurd trivial h⟩
        refine free_run (v := sb.v) (W' := W) rfl ?_ rfl (Below.refl _ _)
        go_simp
      · intro L ax W hf hd
        simp [Region.binds] at hd
        have e53 : ax.tmps[53]?.getD undef = s1.v := slv (hf.got 0 (by decide) (by simp [hd]))
        have e54 : ax.tmps[54]?.getD undef = .int .i64 (noErr m) := slv (hf.got 1 (by decide) (by simp [hd]))
        have e56 : ax.tmps[56]?.getD undef = .bool m := slv (hf.got 3 (by decide) (by simp [hd]))
        have e57 : ax.tmps[57]?.getD undef = .bool m := slv (hf.got 4 (by decide) (by simp [hd]))
        have e58 : ax.tmps[58]?.getD undef = sb.v := slv (hf.got 5 (by decide) (by simp [hd]))
        refine ⟨fun _ => ?_, fun h => absurd trivial h⟩
        refine free_call (f := 36) (args := #[s1.v, .int .i64 (noErr m), .bool m, .bool m, sb.v]) rfl (by go_simp) ?_
        refine (told9_c m s1 sb (vtBytes v) lb W (H1.out.keep hf.below) (Hlb.out.keep hf.below) hlb).mono ?_
        rintro e w' ⟨rfl, rfl⟩
        exact ⟨_, rfl, rfl, Below.refl _ _⟩
      · intro L ax W hf hd
        simp [Region.binds] at hd
        have f59 : Is (.bool true) (sl ax 59) W := hf.got 6 (by decide) (by simp [hd])
        refine ⟨fun _ => ?_, fun h => absurd trivial h⟩
        have e59 := slv f59
        refine free_run (v := .bool false) (W' := W) rfl ?_ rfl (Below.refl _ _)
        go_simp
      · intro L ax W hf hd
        simp [Region.binds] at hd
        have e60 : ax.tmps[60]?.getD undef = .bool false := slv (hf.got 7 (by decide) (by simp [hd]))
        refine ⟨fun _ => ?_, fun h => absurd trivial h⟩
        refine free_run (v := .bool false) (W' := W) rfl ?_ rfl (Below.refl _ _)
        go_simp
      · intro L ax W hf hd
        simp [Region.binds] at hd
        have e10 : ax.tmps[10]?.getD undef = s2.v := hf.out 10 (by decide) rfl
        have g0 : sl ax 61 = .bool false := hf.got 8 (by decide) (by simp [hd])
        refine ⟨fun hh => ?_, fun hh => ?_⟩
        · first
            | (exfalso; revert hh; simp [Held, g0, *]; done)
            | (refine free_run (v := s2.v) (W' := W) rfl ?_ rfl (Below.refl _ _); go_simp)
        · first
            | (exfalso; revert hh; simp [Held, g0, *]; done)
            | (show undef = _; first | rfl | (simp [*]; done))
      · intro L ax W hf hd
        simp [Region.binds] at hd
        have e11 : ax.tmps[11]?.getD undef = .int .i64 (noErr m) := hf.out 11 (by decide) rfl
        have g0 : sl ax 61 = .bool false := hf.got 8 (by decide) (by simp [hd])
        refine ⟨fun hh => ?_, fun hh => ?_⟩
        · first
            | (exfalso; revert hh; simp [Held, g0, *]; done)
            | (refine free_run (v := .int .i64 (noErr m)) (W' := W) rfl ?_ rfl (Below.refl _ _); go_simp)
        · first
            | (exfalso; revert hh; simp [Held, g0, *]; done)
            | (show undef = _; first | rfl | (simp [*]; done))
      · intro L ax W hf hd
        simp [Region.binds] at hd
        have e3 : ax.tmps[3]?.getD undef = .pointer (some ⟨w.heap.size, 0, none⟩) := hf.out 3 (by decide) rfl
        have g0 : sl ax 61 = .bool false := hf.got 8 (by decide) (by simp [hd])
        refine ⟨fun hh => ?_, fun hh => ?_⟩
        · first
            | (exfalso; revert hh; simp [Held, g0, *]; done)
            | (obtain ⟨r1, r2, rz1, rz2⟩ := hR.out.keep hf.below; refine free_run (v := .agg (voteA g)) (W' := W) rfl ?_ rfl (Below.refl _ _); go_simp)
        · first
            | (exfalso; revert hh; simp [Held, g0, *]; done)
            | (show undef = _; first | rfl | (simp [*]; done))
      · intro L ax W hf hd
        simp [Region.binds] at hd
        have e64 : ax.tmps[64]?.getD undef = .agg (voteA g) := slv (hf.got 11 (by decide) (by simp [hd]))
        have g0 : sl ax 61 = .bool false := hf.got 8 (by decide) (by simp [hd])
        refine ⟨fun hh => ?_, fun hh => ?_⟩
        · first
            | (exfalso; revert hh; simp [Held, g0, *]; done)
            | (refine free_call (f := 37) (args := #[.agg (voteA g)]) rfl (by go_simp) ?_; refine (HMc W).mono ?_; rintro e w' ⟨rfl, hb⟩; exact ⟨_, rfl, rfl, hb⟩)
        · first
            | (exfalso; revert hh; simp [Held, g0, *]; done)
            | (show undef = _; first | rfl | (simp [*]; done))
      · intro L ax W hf hd
        simp [Region.binds] at hd
        have e7 : ax.tmps[7]?.getD undef = .bool m := hf.out 7 (by decide) rfl
        have g0 : sl ax 61 = .bool false := hf.got 8 (by decide) (by simp [hd])
        refine ⟨fun hh => ?_, fun hh => ?_⟩
        · first
            | (exfalso; revert hh; simp [Held, g0, *]; done)
            | (refine free_run (v := .bool m) (W' := W) rfl ?_ rfl (Below.refl _ _); go_simp)
        · first
            | (exfalso; revert hh; simp [Held, g0, *]; done)
            | (show undef = _; first | rfl | (simp [*]; done))
      · intro L ax W hf hd
        simp [Region.binds] at hd
        have e13 : ax.tmps[13]?.getD undef = st.v := hf.out 13 (by decide) rfl
        have g0 : sl ax 61 = .bool false := hf.got 8 (by decide) (by simp [hd])
        refine ⟨fun hh => ?_, fun hh => ?_⟩
        · first
            | (exfalso; revert hh; simp [Held, g0, *]; done)
            | (refine free_run (v := st.v) (W' := W) rfl ?_ rfl (Below.refl _ _); go_simp)
        · first
            | (exfalso; revert hh; simp [Held, g0, *]; done)
            | (show undef = _; first | rfl | (simp [*]; done))
      · intro L ax W hf hd
        simp [Region.binds] at hd
        have e62 : ax.tmps[62]?.getD undef = s2.v := slv (hf.got 9 (by decide) (by simp [hd]))
        have e63 : ax.tmps[63]?.getD undef = .int .i64 (noErr m) := slv (hf.got 10 (by decide) (by simp [hd]))
        have e65 : ax.tmps[65]?.getD undef = .bool m := slv (hf.got 12 (by decide) (by simp [hd]))
        have e66 : ax.tmps[66]?.getD undef = .bool m := slv (hf.got 13 (by decide) (by simp [hd]))
        have e67 : ax.tmps[67]?.getD undef = st.v := slv (hf.got 14 (by decide) (by simp [hd]))
        have g0 : sl ax 61 = .bool false := hf.got 8 (by decide) (by simp [hd])
        refine ⟨fun hh => ?_, fun hh => ?_⟩
        · first
            | (exfalso; revert hh; simp [Held, g0, *]; done)
            | (refine free_call (f := 36) (args := #[s2.v, .int .i64 (noErr m), .bool m, .bool m, st.v]) rfl (by go_simp) ?_; refine (told9_c m s2 st (txBytes v) lt W (H2.out.keep hf.below) (Hlt.out.keep hf.below) hlt).mono ?_; rintro e w' ⟨rfl, rfl⟩; exact ⟨_, rfl, rfl, Below.refl _ _⟩)
        · first
            | (exfalso; revert hh; simp [Held, g0, *]; done)
            | (show undef = _; first | rfl | (simp [*]; done))
      · intro L ax W hf hd
        simp [Region.binds] at hd
        have f68 : Is (.bool true) (sl ax 68) W := hf.got 15 (by decide) (by simp [hd])
        have g0 : sl ax 61 = .bool false := hf.got 8 (by decide) (by simp [hd])
        refine ⟨fun hh => ?_, fun hh => ?_⟩
        · first
            | (exfalso; revert hh; simp [Held, g0, *]; done)
            | ((have e68 := slv f68); refine free_run (v := .bool false) (W' := W) rfl ?_ rfl (Below.refl _ _); go_simp)
        · first
            | (exfalso; revert hh; simp [Held, g0, *]; done)
            | (show undef = _; first | rfl | (simp [*]; done))
      · intro L ax W hf hd
        simp [Region.binds] at hd
        have e61 : ax.tmps[61]?.getD undef = .bool false := slv (hf.got 8 (by decide) (by simp [hd]))
        have e69 : ax.tmps[69]?.getD undef = .bool false := slv (hf.got 16 (by decide) (by simp [hd]))
        refine ⟨fun _ => ?_, fun h => absurd trivial h⟩
        refine free_run (v := .bool false) (W' := W) rfl ?_ rfl (Below.refl _ _)
        go_simp
      · intro L ax W hf hd
        simp [Region.binds] at hd
        have e70 : ax.tmps[70]?.getD undef = .bool false := slv (hf.got 17 (by decide) (by simp [hd]))
        refine ⟨fun _ => ?_, fun h => absurd trivial h⟩
        refine free_run (v := .bool false) (W' := W) rfl ?_ rfl (Below.refl _ _)
        go_simp
      · intro L ax W hf hd
        simp [Region.binds] at hd
        have e3 : ax.tmps[3]?.getD undef = .pointer (some ⟨w.heap.size, 0, none⟩) := hf.out 3 (by decide) rfl
        have g0 : sl ax 71 = .bool false := hf.got 18 (by decide) (by simp [hd])
        refine ⟨fun hh => ?_, fun hh => ?_⟩
        · first
            | (exfalso; revert hh; simp [Held, g0, *]; done)
            | (obtain ⟨r1, r2, rz1, rz2⟩ := hR.out.keep hf.below; refine free_run (v := .agg (voteA g)) (W' := W) rfl ?_ rfl (Below.refl _ _); go_simp)
        · first
            | (exfalso; revert hh; simp [Held, g0, *]; done)
            | (show undef = _; first | rfl | (simp [*]; done))
      · intro L ax W hf hd
        simp [Region.binds] at hd
        have e4 : ax.tmps[4]?.getD undef = .pointer (some ⟨w.heap.size + 1, 0, none⟩) := hf.out 4 (by decide) rfl
        have g0 : sl ax 71 = .bool false := hf.got 18 (by decide) (by simp [hd])
        refine ⟨fun hh => ?_, fun hh => ?_⟩
        · first
            | (exfalso; revert hh; simp [Held, g0, *]; done)
            | (obtain ⟨r1, r2, rz1, rz2⟩ := hR.out.keep hf.below; refine free_run (v := .agg (voteA o)) (W' := W) rfl ?_ rfl (Below.refl _ _); go_simp)
        · first
            | (exfalso; revert hh; simp [Held, g0, *]; done)
            | (show undef = _; first | rfl | (simp [*]; done))
      · intro L ax W hf hd
        simp [Region.binds] at hd
        have e72 : ax.tmps[72]?.getD undef = .agg (voteA g) := slv (hf.got 19 (by decide) (by simp [hd]))
        have e73 : ax.tmps[73]?.getD undef = .agg (voteA o) := slv (hf.got 20 (by decide) (by simp [hd]))
        have g0 : sl ax 71 = .bool false := hf.got 18 (by decide) (by simp [hd])
        refine ⟨fun hh => ?_, fun hh => ?_⟩
        · first
            | (exfalso; revert hh; simp [Held, g0, *]; done)
            | (refine free_call (f := 38) (args := #[.agg (voteA g), .agg (voteA o)]) rfl (by go_simp) ?_; refine (HSc W (Hv.out.keep' hf.below) (Ho.out.keep' hf.below)).mono ?_; rintro e w' ⟨rfl, hb⟩; exact ⟨_, rfl, rfl, hb⟩)
        · first
            | (exfalso; revert hh; simp [Held, g0, *]; done)
            | (show undef = _; first | rfl | (simp [*]; done))
      · intro L ax W hf hd
        simp [Region.binds] at hd
        have e3 : ax.tmps[3]?.getD undef = .pointer (some ⟨w.heap.size, 0, none⟩) := hf.out 3 (by decide) rfl
        have g0 : sl ax 71 = .bool false := hf.got 18 (by decide) (by simp [hd])
        refine ⟨fun hh => ?_, fun hh => ?_⟩
        · first
            | (exfalso; revert hh; simp [Held, g0, *]; done)
            | (obtain ⟨r1, r2, rz1, rz2⟩ := hR.out.keep hf.below; refine free_run (v := .agg (voteA g)) (W' := W) rfl ?_ rfl (Below.refl _ _); go_simp)
        · first
            | (exfalso; revert hh; simp [Held, g0, *]; done)
            | (show undef = _; first | rfl | (simp [*]; done))
      · intro L ax W hf hd
        simp [Region.binds] at hd
        have e4 : ax.tmps[4]?.getD undef = .pointer (some ⟨w.heap.size + 1, 0, none⟩) := hf.out 4 (by decide) rfl
        have g0 : sl ax 71 = .bool false := hf.got 18 (by decide) (by simp [hd])
        refine ⟨fun hh => ?_, fun hh => ?_⟩
        · first
            | (exfalso; revert hh; simp [Held, g0, *]; done)
            | (obtain ⟨r1, r2, rz1, rz2⟩ := hR.out.keep hf.below; refine free_run (v := .agg (voteA o)) (W' := W) rfl ?_ rfl (Below.refl _ _); go_simp)
        · first
            | (exfalso; revert hh; simp [Held, g0, *]; done)
            | (show undef = _; first | rfl | (simp [*]; done))
      · intro L ax W hf hd
        simp [Region.binds] at hd
        have e75 : ax.tmps[75]?.getD undef = .agg (voteA g) := slv (hf.got 22 (by decide) (by simp [hd]))
        have e76 : ax.tmps[76]?.getD undef = .agg (voteA o) := slv (hf.got 23 (by decide) (by simp [hd]))
        have g0 : sl ax 71 = .bool false := hf.got 18 (by decide) (by simp [hd])
        refine ⟨fun hh => ?_, fun hh => ?_⟩
        · first
            | (exfalso; revert hh; simp [Held, g0, *]; done)
            | (refine free_call (f := 39) (args := #[.agg (voteA g), .agg (voteA o)]) rfl (by go_simp) ?_; refine (HSf W (Hv.out.keep' hf.below) (Ho.out.keep' hf.below)).mono ?_; rintro e w' ⟨rfl, hb⟩; exact ⟨_, rfl, rfl, hb⟩)
        · first
            | (exfalso; revert hh; simp [Held, g0, *]; done)
            | (show undef = _; first | rfl | (simp [*]; done))
      · intro L ax W hf hd
        simp [Region.binds] at hd
        have e74 : ax.tmps[74]?.getD undef = .bool q := slv (hf.got 21 (by decide) (by simp [hd]))
        have e77 : ax.tmps[77]?.getD undef = .bool q := slv (hf.got 24 (by decide) (by simp [hd]))
        have g0 : sl ax 71 = .bool false := hf.got 18 (by decide) (by simp [hd])
        refine ⟨fun hh => ?_, fun hh => ?_⟩
        · first
            | (exfalso; revert hh; simp [Held, g0, *]; done)
            | ((have hqq : (q != q) = false := by simp); refine free_run (v := .bool false) (W' := W) rfl ?_ rfl (Below.refl _ _); go_simp)
        · first
            | (exfalso; revert hh; simp [Held, g0, *]; done)
            | (show undef = _; first | rfl | (simp [*]; done))
      · intro L ax W hf hd
        simp [Region.binds] at hd
        have e71 : ax.tmps[71]?.getD undef = .bool false := slv (hf.got 18 (by decide) (by simp [hd]))
        have e78 : ax.tmps[78]?.getD undef = .bool false := slv (hf.got 25 (by decide) (by simp [hd]))
        refine ⟨fun _ => ?_, fun h => absurd trivial h⟩
        refine free_run (v := .bool false) (W' := W) rfl ?_ rfl (Below.refl _ _)
        go_simp
      · intro L ax W hf hd
        simp [Region.binds] at hd
        have e79 : ax.tmps[79]?.getD undef = .bool false := slv (hf.got 26 (by decide) (by simp [hd]))
        refine ⟨fun _ => ?_, fun h => absurd trivial h⟩
        refine free_run (v := .bool false) (W' := W) rfl ?_ rfl (Below.refl _ _)
        go_simp
      · intro L ax W hf hd
        simp [Region.binds] at hd
        have e3 : ax.tmps[3]?.getD undef = .pointer (some ⟨w.heap.size, 0, none⟩) := hf.out 3 (by decide) rfl
        have g0 : sl ax 80 = .bool false := hf.got 27 (by decide) (by simp [hd])
        refine ⟨fun hh => ?_, fun hh => ?_⟩
        · first
            | (exfalso; revert hh; simp [Held, g0, *]; done)
            | (obtain ⟨r1, r2, rz1, rz2⟩ := hR.out.keep hf.below; refine free_run (v := .agg (voteA g)) (W' := W) rfl ?_ rfl (Below.refl _ _); go_simp)
        · first
            | (exfalso; revert hh; simp [Held, g0, *]; done)
            | (show undef = _; first | rfl | (simp [*]; done))
      · intro L ax W hf hd
        simp [Region.binds] at hd
        have e3 : ax.tmps[3]?.getD undef = .pointer (some ⟨w.heap.size, 0, none⟩) := hf.out 3 (by decide) rfl
        have g0 : sl ax 80 = .bool false := hf.got 27 (by decide) (by simp [hd])
        refine ⟨fun hh => ?_, fun hh => ?_⟩
        · first
            | (exfalso; revert hh; simp [Held, g0, *]; done)
            | (obtain ⟨r1, r2, rz1, rz2⟩ := hR.out.keep hf.below; refine free_run (v := .agg (voteA g)) (W' := W) rfl ?_ rfl (Below.refl _ _); go_simp)
        · first
            | (exfalso; revert hh; simp [Held, g0, *]; done)
            | (show undef = _; first | rfl | (simp [*]; done))
      · intro L ax W hf hd
        simp [Region.binds] at hd
        have e81 : ax.tmps[81]?.getD undef = .agg (voteA g) := slv (hf.got 28 (by decide) (by simp [hd]))
        have e82 : ax.tmps[82]?.getD undef = .agg (voteA g) := slv (hf.got 29 (by decide) (by simp [hd]))
        have g0 : sl ax 80 = .bool false := hf.got 27 (by decide) (by simp [hd])
        refine ⟨fun hh => ?_, fun hh => ?_⟩
        · first
            | (exfalso; revert hh; simp [Held, g0, *]; done)
            | (refine free_call (f := 38) (args := #[.agg (voteA g), .agg (voteA g)]) rfl (by go_simp) ?_; refine (HSs W (Hv.out.keep' hf.below)).mono ?_; rintro e w' ⟨rfl, hb⟩; exact ⟨_, rfl, rfl, hb⟩)
        · first
            | (exfalso; revert hh; simp [Held, g0, *]; done)
            | (show undef = _; first | rfl | (simp [*]; done))
      · intro L ax W hf hd
        simp [Region.binds] at hd
        have e83 : ax.tmps[83]?.getD undef = .bool true := slv (hf.got 30 (by decide) (by simp [hd]))
        have g0 : sl ax 80 = .bool false := hf.got 27 (by decide) (by simp [hd])
        refine ⟨fun hh => ?_, fun hh => ?_⟩
        · first
            | (exfalso; revert hh; simp [Held, g0, *]; done)
            | (refine free_run (v := .bool false) (W' := W) rfl ?_ rfl (Below.refl _ _); go_simp)
        · first
            | (exfalso; revert hh; simp [Held, g0, *]; done)
            | (show undef = _; first | rfl | (simp [*]; done))
      · intro L ax W hf hd
        simp [Region.binds] at hd
        have e80 : ax.tmps[80]?.getD undef = .bool false := slv (hf.got 27 (by decide) (by simp [hd]))
        have e84 : ax.tmps[84]?.getD undef = .bool false := slv (hf.got 31 (by decide) (by simp [hd]))
        refine ⟨fun _ => ?_, fun h => absurd trivial h⟩
        refine free_run (v := .bool false) (W' := W) rfl ?_ rfl (Below.refl _ _)
        go_simp
    · intro vs W' hl' hF hb
      obtain ⟨g', hg1, hg2⟩ := vs_lit vs hl' hF
      have e85 : g' 32 = .bool false := hg2 32 (by decide)
      rw [hg1]
      clear hF hg1 hg2 hl'
      have hzW := hb.size
      have HB1 := Lib.hid (hB'.out.trans (hb.mono (by omega)))
      have Hs1 := Lib.hid (Hs'.out.keep hb)
      have hz1 : w.heap.size + 2 ≤ W'.heap.size := by omega
      clear hb Hs' hB' hR Hv Ho H1 H2 Hlb Hlt hzW hz' HSc HSf HSs HMc
      simp only [List.length_cons, List.length_nil, Nat.reduceAdd, show List.range 33 = [0, 1, 2, 3, 4, 5, 6, 7, 8, 9, 10, 11, 12, 13, 14, 15, 16, 17, 18, 19, 20, 21, 22, 23, 24, 25, 26, 27, 28, 29, 30, 31, 32] from rfl, List.map_cons, List.map_nil, putL, List.zip_cons_cons, List.zip_nil_right, List.setIfInBounds_toArray, List.set_cons_succ, List.set_cons_zero, e85]
      obtain ⟨i0, hi, hy0, hy1, hy2⟩ := info_parts info_u8
      go_upto_region 11 with fail
      have hbz : W'.heap.size ≤ W'.heap.size := Nat.le_refl _
      have hb7 : byteV 7 = .int .u8 7 := rfl
      have hl1 : (l ++ [7]).length ≤ 9001 := by simp; omega
      have hl2 : ([] : List UInt8).length + l.length ≤ 140737488355328 := by simp; omega
      have hl3 : l.length + [(7 : UInt8)].length ≤ 140737488355328 := by simp; omega
      go_wp2_with (first
        | (at_builtin; refine wpList_append_bytes _ rfl (.const _) (.tmp 86) _ (by rfl) W'.heap.size 5 i0 _ Try.underlying35 hi hy0 hy1 hy2 rfl _ [] rfl (Own.nil _ _) ⟨sa, l.length, sc⟩ l rfl Hs1.out hl2 hbz ?_; intro v1 w4 o1 g1 e1; have o1 : Own w4 W'.heap.size v1 l := o1; have hz4 := g1.size; have hz4' : W'.heap.size ≤ (w4.alloc (.cells #[.int .u8 7] 5)).heap.size := by (simp; omega))
        | (at_builtin; refine wpList_append_bytes _ rfl (.tmp 87) (.tmp 88) _ (by rfl) W'.heap.size 5 i0 _ Try.underlying35 hi hy0 hy1 hy2 rfl _ l rfl (o1.keep (bel_a _ _)) ⟨some ⟨w4.heap.size, 0, none⟩, 1, 1⟩ [7] (by rfl) (BytesR.one _ _ _ _ _ rfl hb7) hl3 hz4' ?_; intro v2' w5 o2 g2 e2; obtain ⟨bo, co, rfl, hbo, hbo', hco, ho2⟩ := own_open o2 (n := l.length + 1) (by simp) (by omega)))
      have b14 : Below W'.heap.size W' w4 := bel_grown g1 (Below.refl _ _) (Nat.le_refl _) (fun k hk => by cases hk)
      have b15 : Below W'.heap.size W' w5 := bel_grown g2 (b14.trans ((bel_a w4 _).mono hz4)) hz4' (fun k hk => (o1.lt k hk).1)
      have HB5 := Lib.hid (HB1.out.trans (b15.mono (by omega)))
      have Hs5 := Lib.hid (Hs1.out.keep b15)
      have Ho2 := Lib.hid ho2
      have hz5 := b15.size
      have htk : BytesR w5 ⟨some ⟨bo, 0, none⟩, l.length, co⟩ l := by
        have := ho2.take l.length (by simp)
        rwa [List.take_left' rfl] at this
      have hbo5 : bo < w5.heap.size := hbo'
      have hzw5 : w.heap.size + 2 ≤ w5.heap.size := by omega
      clear b14 b15 HB1 Hs1 ho2 o1 o2 g1 g2 e1 e2 hz4 hz4' hbz hbo' hz5 hl1 hl2 hl3 d1 d2
      refine (HC _ _ _ htk).mono ?_
      clear HC htk
      rintro e w6 ⟨gy, rfl, hy, hb6⟩
      have hz6 := hb6.size
      have Hy := Lib.hid hy
      have HB6 := Lib.hid hb6
      clear hy hb6
      go_wp2_with fail
      have r7 : row? (putRow (w6.alloc (Obj.cells (voteA ⟨0, zeroPt, zeroPt, ⟨none, 0, 0⟩⟩) 61)) w6.heap.size 0 (voteA gy)) w6.heap.size 0 68 = some (voteA gy) := by go_simp
      have hbw7 : Below w6.heap.size w6 (putRow (w6.alloc (Obj.cells (voteA ⟨0, zeroPt, zeroPt, ⟨none, 0, 0⟩⟩) 61)) w6.heap.size 0 (voteA gy)) := by (repeat' (first | (with_reducible exact Below.refl _ _) | (with_reducible assumption) | (with_reducible refine bel_trans (by assumption) ?_ ?_) | (with_reducible refine bel_grown (by assumption) ?_ ?_ ?_) | (with_reducible refine Below.alloc ?_ ?_ _) | (with_reducible refine Below.drew ?_) | (with_reducible refine below_drewN ?_ _) | (with_reducible refine Below.setCell ?_ ?_ _) | (with_reducible refine below_put ?_ ?_ _ _) | (with_reducible exact Nat.le_refl _) | omega | (with_reducible refine Nat.le_trans ?_ (Below.size (by assumption))) | (with_reducible refine Nat.le_trans ?_ (World.grownBy.size (by assumption))) | (simp only [World.size_alloc, World.size_setCell, World.size_drew, size_drewN]; omega) | (simp only [World.size_alloc, World.size_setCell, World.size_drew, size_drewN, size_put]; omega) | (intro k hk; simp [Value.ownBlock] at hk; done) | (intro k hk; simp [Value.ownBlock] at hk; omega) | (simp [size_drewN] at *; omega)))
      have hz7 : w6.heap.size < (putRow (w6.alloc (Obj.cells (voteA ⟨0, zeroPt, zeroPt, ⟨none, 0, 0⟩⟩) 61)) w6.heap.size 0 (voteA gy)).heap.size := by simp [size_put]
      generalize hw7 : putRow (w6.alloc (Obj.cells (voteA ⟨0, zeroPt, zeroPt, ⟨none, 0, 0⟩⟩) 61)) w6.heap.size 0 (voteA gy) = w7 at *
      clear hw7
      have hb57 : Below w5.heap.size w5 w7 := HB6.out.trans (hbw7.mono (by omega))
      refine (HF _ (Hs5.out.keep hb57)).mono ?_
      clear HF
      rintro e w8 ⟨gz, rfl, hzv, hb8⟩
      have hz8 := hb8.size
      have Hzv := Lib.hid hzv
      have HB8 := Lib.hid hb8
      have HB57 := Lib.hid hb57
      have HB67 := Lib.hid hbw7
      clear hzv hb8 hb57 hbw7
      go_upto_region 14 with fail
      have r9 : row? (putRow (w8.alloc (Obj.cells (voteA ⟨0, zeroPt, zeroPt, ⟨none, 0, 0⟩⟩) 61)) w8.heap.size 0 (voteA gz)) w8.heap.size 0 68 = some (voteA gz) := by go_simp
      have hbw9 : Below w8.heap.size w8 (putRow (w8.alloc (Obj.cells (voteA ⟨0, zeroPt, zeroPt, ⟨none, 0, 0⟩⟩) 61)) w8.heap.size 0 (voteA gz)) := by (repeat' (first | (with_reducible exact Below.refl _ _) | (with_reducible assumption) | (with_reducible refine bel_trans (by assumption) ?_ ?_) | (with_reducible refine bel_grown (by assumption) ?_ ?_ ?_) | (with_reducible refine Below.alloc ?_ ?_ _) | (with_reducible refine Below.drew ?_) | (with_reducible refine below_drewN ?_ _) | (with_reducible refine Below.setCell ?_ ?_ _) | (with_reducible refine below_put ?_ ?_ _ _) | (with_reducible exact Nat.le_refl _) | omega | (with_reducible refine Nat.le_trans ?_ (Below.size (by assumption))) | (with_reducible refine Nat.le_trans ?_ (World.grownBy.size (by assumption))) | (simp only [World.size_alloc, World.size_setCell, World.size_drew, size_drewN]; omega) | (simp only [World.size_alloc, World.size_setCell, World.size_drew, size_drewN, size_put]; omega) | (intro k hk; simp [Value.ownBlock] at hk; done) | (intro k hk; simp [Value.ownBlock] at hk; omega) | (simp [size_drewN] at *; omega)))
      have hz9 : w8.heap.size < (putRow (w8.alloc (Obj.cells (voteA ⟨0, zeroPt, zeroPt, ⟨none, 0, 0⟩⟩) 61)) w8.heap.size 0 (voteA gz)).heap.size := by simp [size_put]
      generalize hw9 : putRow (w8.alloc (Obj.cells (voteA ⟨0, zeroPt, zeroPt, ⟨none, 0, 0⟩⟩) 61)) w8.heap.size 0 (voteA gz) = w9 at *
      clear hw9
      have b79 : Below w7.heap.size w7 w9 := HB8.out.trans (hbw9.mono hz8)
      have b69 : Below w6.heap.size w6 w9 := HB67.out.trans (b79.mono (by omega))
      have b59 : Below w5.heap.size w5 w9 := HB6.out.trans (b69.mono hz6)
      have ry9 : row? w9 w6.heap.size 0 68 = some (voteA gy) := (row?_below _ _ _ b79 hz7).trans r7
      have Hy9 := Lib.hid (Hy.out.keep b69)
      have hzv9 : VoteR w9 gz y := Hzv.out.keep' hbw9
      have HSz : Calls Try.prog 39 #[.agg (voteA gy), .agg (voteA gz)] w9 fun e w' => e = .returned (.bool true) ∧ Below w9.heap.size w9 w' := by
        refine (fsameVote_c gy gz y y w9 Hy9.out.r hzv9).mono ?_
        rintro e w' ⟨rfl, hb⟩
        exact ⟨by simp, hb⟩
      have HB9 := Lib.hid (HB5.out.trans (b59.mono (by omega)))
      have HB59 := Lib.hid b59
      have Hs9 := Lib.hid (Hs5.out.keep b59)
      have Ho9 := Lib.hid (Ho2.out.keep b59)
      clear b79 b69 b59 r7 Hy Hzv hbw9 hzv9 HB5 HB57 HB6 HB67 HB8 Hs5 Ho2
      go_cut [122] from 103 (fun x W => x = .bool false ∧ Below w9.heap.size w9 W)
      case first =>
        rcases hX with rfl | rfl
        all_goals simp only [show decide ((0 : Int) = 0) = true from rfl, show decide ((4 : Int) = 0) = false from rfl]
        all_goals go_wp2_with (first | (go_at_call 39; (with_reducible refine HSz.mono ?_); rintro e w10 ⟨rfl, hb10⟩) | (go_at_call 26; (with_reducible refine (num09_c _ _).mono ?_); rintro e w11 ⟨rfl, rfl⟩))
        all_goals go_meet
        all_goals exact ⟨rfl, hb10⟩
      case rest =>
        obtain ⟨rfl, hbc⟩ := hcut
        have hn := Hy9.out.r.2.2.2.1
        have hlow := Hy9.out.2.2.2.2
        have Hw := Lib.hid ((Hy9.out.keep hbc).wr)
        have ryc : row? wc w6.heap.size 0 68 = some (voteA gy) := (row?_below _ _ _ hbc (by omega)).trans ry9
        have hlow' : 0 < y.sig.length → ∀ b off, gy.sig.a = some ⟨b, off, none⟩ → w5.heap.size ≤ b ∧ b < w6.heap.size := fun h0 b off ha => hlow (by intro e; rw [e] at h0; simp at h0) _ ha
        have Hlow := Lib.hid hlow'
        have hzc2 := hbc.size
        have Bc := Lib.hid (HB9.out.trans (hbc.mono (by omega)))
        have Hsc := Lib.hid (Hs9.out.keep hbc)
        have Hoc := Lib.hid (Ho9.out.keep hbc)
        have hwc : w9.heap.size ≤ wc.heap.size := hzc2
        clear hbc HB9 Hs9 Ho9 Hy9 HB59 hlow hlow' HSz ry9 hzc2
        generalize hsig : gy.sig = sg at *
        obtain ⟨ga, gn, gc⟩ := sg
        obtain rfl : gn = y.sig.length := hn
        generalize y.sig.length = n at *
        go_wp2_with fail
        go_loopw [19] (fun i W => ∃ k : Nat, k ≤ n ∧ i = .int .i64 k ∧ Below w5.heap.size wc W ∧ row? W w6.heap.size 0 68 = some (voteA gy) ∧ Wr W ⟨ga, n, gc⟩ n) (fun i _ => n - (intOf i).toNat)
        case atStart => exact ⟨0, Nat.zero_le _, rfl, Below.refl _ _, ryc, Hw.out⟩
        case round =>
          obtain ⟨k, hk, rfl, hbw, hry, hwr⟩ := hrel
          have HBW := Lib.hid hbw
          have HWR := Lib.hid hwr
          have hc67 : wr.cell? ⟨w6.heap.size, 67, none⟩ = some (.slice ga n gc) := by
            rw [cell_row hry 67 (by omega), voteA_sig, hsig]
          clear hbw hwr
          by_cases hkn : k < n
          · obtain ⟨b, off, ha, ht⟩ := HWR.out.2 (by omega)
            simp only at ha
            subst ha
            obtain ⟨hlb, hub⟩ := Hlow.out (by omega) b off rfl
            obtain ⟨h1, hfz⟩ := ht k hkn
            obtain ⟨x0, hck⟩ := Option.isSome_iff_exists.1 h1
            have hk0 : (0 : Int) ≤ (k : Int) := by omega
            have hkn' : (k : Int) < (n : Int) := by omega
            clear ht h1
            go_wp2_with fail
            go_roundw
            case rel => exact ⟨k + 1, by omega, by go_num, HBW.out.setCell (by simp only; omega) _, (row?_far _ _ _ _ _ _ (by simp only; omega)).trans hry, HWR.out.set _ _⟩
            case measure => simp [intOf]; omega
          · obtain rfl : k = n := by omega
            have hd : ¬ ((k : Int) < (k : Int)) := by omega
            have hcv1 := str_run (Hoc.out.keepLt hbo5 HBW.out)
            have hcv2 := str_run (Hs0.out.keep (Bc.out.trans (HBW.out.mono (by omega))))
            have hsum : l.length + 1 ≤ 140737488355328 := by omega
            have hstr : ((⟨l.toArray⟩ : ByteArray) ++ ⟨#[7]⟩).toList = l ++ [7] := by
              rw [show (⟨#[7]⟩ : ByteArray) = ⟨([7] : List UInt8).toArray⟩ from rfl, str_app]
              simp
            have HBB := Lib.hid (Bc.out.trans (HBW.out.mono (by omega)))
            go_wp2_with (go_at_call 24; (with_reducible refine (known09_c _).mono ?_); rintro e w12 ⟨rfl, hb12⟩)
            go_ret
            exact ⟨rfl, HBB.out.trans (hb12.mono (by have := HBB.out.size; omega))⟩
end Go.Proofs.Ytbpbnnonialelaa
