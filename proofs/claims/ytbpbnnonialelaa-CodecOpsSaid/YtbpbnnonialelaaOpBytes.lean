/- Contract: codec.op. -/
import Derived.Test.YtbpbnnonialelaaOpMay
import Derived.Test.YtbpbnnonialelaaConcat
namespace Go.Proofs.Ytbpbnnonialelaa
open Go.RowKit

theorem byteV_int (k : Int) (h0 : 0 ≤ k) (h1 : k < 256) : byteV (UInt8.ofNat (k % 256).toNat) = .int .u8 k := by
  rw [byteV_of]
  congr 1
  omega
theorem key_reads {w : World} {b : Nat} {g : GOp} (h : row? w b 0 36 = some (opA g)) : BytesR w ⟨some ⟨b, 1, none⟩, 32, 32⟩ g.key.1 := by
  refine ⟨g.key.2.symm, Nat.le_refl _, fun _ => ⟨b, 1, rfl, fun i hi => ?_⟩⟩
  have := g.key.2
  rw [← Nat.zero_add (1 + i), cell_of_row? h (1 + i) (by omega)]
  have hk := congrArg (fun a => a[i]?) (opA_key g)
  simp only [Array.getElem?_extract] at hk
  rw [if_pos (by simp; omega)] at hk
  rw [hk]
  simp [hashA, hi]

/-- a new block's row is kept -/
theorem row_kept {w w1 : World} {cs : Array Value} {t : TypeId} {n : Nat} (hb : Below (w.heap.size + 1) (w.alloc (.cells cs t)) w1) (hn : cs.size = n) : row? w1 w.heap.size 0 n = some cs := by
  rw [row?_below _ _ _ hb (by omega), row?_new, if_pos (by omega)]
  rw [ext_self _ _ (by omega)]

theorem row?_grown {w w1 : World} {row : Option Nat} {b off n : Nat} {l : Array Value} (hg : w.grownBy w1 row) (h : row? w b off n = some l) (hne : some b ≠ row) : row? w1 b off n = some l := by
  have hlt := lt_of_row h
  unfold row? at h ⊢
  rw [hg.block b hlt hne]
  exact h

set_option maxRecDepth 100000 in
set_option maxHeartbeats 800000 in
theorem op_dep (g : GOp) (o : Op) (w : World) (h : OpR w g o) (hk : o.kind = 1) :
    Calls Try.prog 104 #[.agg (opA g)] w fun e w' => ∃ v, e = .returned v ∧ Own w' w.heap.size v (opBytes o) ∧ Below w.heap.size w w' := by
  obtain ⟨i0, hi, hz0, hz1, hz2⟩ := info_parts info_u8
  have hE : opBytes o = UInt8.ofNat (g.kind % 256).toNat :: (g.key.1 ++ be 8 g.stake.toNat) := by
    unfold opBytes
    rw [if_pos hk, h.1, h.2.1, h.2.2.1]
  have hkind : g.kind = 1 := by rw [h.1, hk]
  have hw : IntKind.u8.wrap g.kind = g.kind := IntWalk.u8_in _ (by omega)
  have b1 : (g.kind == 1) = true := by simp [hkind]
  have hkb := byteV_int g.kind (by omega) (by omega)
  have hn := g.stake.toNat_lt
  have HC := fun W => number8 g.stake.toNat W (by omega)
  have hkl := g.key.2
  have HE := Lib.hid hE
  have Hkb := Lib.hid hkb
  have Hk := Lib.hid hkind
  have hk0 : 0 ≤ g.kind := by omega
  have hk1 : g.kind ≤ 3 := by omega
  have hlit : Own ((w.alloc (.cells (opA g) 54)).alloc (.cells #[.int .u8 g.kind] 5)) w.heap.size (.slice (some ⟨w.heap.size + 1, 0, none⟩) 1 1) [UInt8.ofNat (g.kind % 256).toNat] := by
    have := Own.lit (w.alloc (.cells (opA g) 54)) w.heap.size [UInt8.ofNat (g.kind % 256).toNat] #[.int .u8 g.kind] 5 1 (by rw [List.map_cons, hkb]; rfl) rfl (by simp) (by simp [maxLen])
    simpa using this
  have hrow : row? ((w.alloc (.cells (opA g) 54)).alloc (.cells #[.int .u8 g.kind] 5)) w.heap.size 0 36 = some (opA g) := by
    rw [row?_old _ _ _ _ _ (by simp), row?_new]
    simp
  have Hlit := Lib.hid hlit
  have Hrow := Lib.hid hrow
  clear hE h hk hkind hkb hn hlit hrow
  go_enter Try.func104, Try.ntmps104
  go_wp2_with (at_builtin; refine wpList_append_bytes _ rfl (.tmp 32) (.tmp 34) _ (by rfl) w.heap.size 5 i0 _ Try.underlying35 hi hz0 hz1 hz2 rfl _ _ rfl Hlit.out ⟨some ⟨w.heap.size, 1, none⟩, 32, 32⟩ g.key.1 rfl (key_reads Hrow.out) (by simp [hkl]) (by simp; omega) ?_; intro v1 w1 o1 g1' e1; have g1 : World.grownBy _ w1 (some (w.heap.size + 1)) := g1'; clear g1'; have hr1 : row? w1 w.heap.size 0 36 = some (opA g) := row?_grown g1 Hrow.out (by intro h; injection h; omega); (have hz1' : w.heap.size + 1 < w1.heap.size := by have := g1.size; simp at this; omega); have hB1 : Below w.heap.size w w1 := bel_grown g1 (by (repeat' (first | (with_reducible exact Below.refl _ _) | (with_reducible assumption) | (with_reducible refine bel_trans (by assumption) ?_ ?_) | (with_reducible refine bel_grown (by assumption) ?_ ?_ ?_) | (with_reducible refine Below.alloc ?_ ?_ _) | (with_reducible refine Below.drew ?_) | (with_reducible refine below_drewN ?_ _) | (with_reducible refine Below.setCell ?_ ?_ _) | (with_reducible refine below_put ?_ ?_ _ _) | (with_reducible exact Nat.le_refl _) | omega | (with_reducible refine Nat.le_trans ?_ (Below.size (by assumption))) | (with_reducible refine Nat.le_trans ?_ (World.grownBy.size (by assumption))) | (simp only [World.size_alloc, World.size_setCell, World.size_drew, size_drewN]; omega) | (simp only [World.size_alloc, World.size_setCell, World.size_drew, size_drewN, size_put]; omega) | (intro k hk; simp [Value.ownBlock] at hk; done) | (intro k hk; simp [Value.ownBlock] at hk; omega) | (simp [size_drewN] at *; omega)))) (by simp only [World.size_alloc]; omega) (by intro k hk; injection hk; omega); obtain ⟨c0, c1, c2, c3⟩ := opA_cells hr1; clear e1 g1)
  refine (HC _).mono ?_
  rintro e w2 ⟨v2, rfl, o2, b2⟩
  obtain ⟨s2, rfl⟩ := o2.slice
  have o1' := o1.keep b2
  have hz2' := b2.size
  clear c0 c1 c2 c3 HC
  go_wp2_with (at_builtin; refine wpList_append_bytes _ rfl (.tmp 36) (.tmp 39) _ (by rfl) w.heap.size 5 i0 _ Try.underlying35 hi hz0 hz1 hz2 rfl _ _ rfl o1' s2 (be 8 g.stake.toNat) rfl o2.reads (by simp [hkl, be_length]) (by omega) ?_; intro v3 w3 o3 g3 e3)
  go_ret
  refine ⟨_, rfl, ?_, bel_grown g3 (by (repeat' (first | (with_reducible exact Below.refl _ _) | (with_reducible assumption) | (with_reducible refine bel_trans (by assumption) ?_ ?_) | (with_reducible refine bel_grown (by assumption) ?_ ?_ ?_) | (with_reducible refine Below.alloc ?_ ?_ _) | (with_reducible refine Below.drew ?_) | (with_reducible refine below_drewN ?_ _) | (with_reducible refine Below.setCell ?_ ?_ _) | (with_reducible refine below_put ?_ ?_ _ _) | (with_reducible exact Nat.le_refl _) | omega | (with_reducible refine Nat.le_trans ?_ (Below.size (by assumption))) | (with_reducible refine Nat.le_trans ?_ (World.grownBy.size (by assumption))) | (simp only [World.size_alloc, World.size_setCell, World.size_drew, size_drewN]; omega) | (simp only [World.size_alloc, World.size_setCell, World.size_drew, size_drewN, size_put]; omega) | (intro k hk; simp [Value.ownBlock] at hk; done) | (intro k hk; simp [Value.ownBlock] at hk; omega) | (simp [size_drewN] at *; omega)))) (by omega) (fun k hk => (o1.lt k hk).1)⟩
  rw [HE.out]
  simpa using o3

theorem vtBytes_length (v : Vote) : (vtBytes v).length = 83 + v.sig.length := by
  simp [vtBytes, be_length, ptBytes_length]
  omega
theorem voteMay_out {v : Vote} (h : voteMay v = true) : 1 ≤ v.validator ∧ v.validator ≤ 64 ∧ v.sig.length ≤ 4096 ∧ mayPt v.source = true ∧ mayPt v.target = true := by
  simp only [voteMay, mayMem, Bool.and_eq_true, decide_eq_true_eq] at h
  exact ⟨h.1.1.1.1, h.1.1.1.2, h.2, h.1.1.2, h.1.2⟩
theorem votes_len (l : List Vote) (k : Nat) (hk : k ≤ 2) (hm : l.all voteMay = true) : (((l.take k).map vtBytes).flatten).length ≤ k * 5000 := by
  induction k generalizing l with
  | zero => simp
  | succ k ih =>
    cases l with
    | nil => simp
    | cons v l =>
      simp only [List.all_cons, Bool.and_eq_true] at hm
      have := ih l (by omega) hm.2
      have h2 := vtBytes_length v
      have h3 := (voteMay_out hm.1).2.2.1
      simp only [List.take_succ_cons, List.map_cons, List.flatten_cons, List.length_append]
      omega

theorem BytesR.one (W : World) (x : Int) (e : TypeId) (b : Nat) (c : UInt8) (hb : b = W.heap.size) (hc : byteV c = .int .u8 x) : BytesR (W.alloc (.cells #[.int .u8 x] e)) ⟨some ⟨b, 0, none⟩, 1, 1⟩ [c] := by
  subst hb
  refine ⟨rfl, Nat.le_refl _, fun _ => ⟨W.heap.size, 0, rfl, fun i hi => ?_⟩⟩
  obtain rfl : i = 0 := by simp at hi; omega
  simp [cell_alloc, hc]

set_option maxRecDepth 100000 in
set_option maxHeartbeats 800000 in
theorem op_rest (g : GOp) (o : Op) (w : World) (h : OpR w g o) (hk : o.kind = 2 ∨ o.kind = 3) (hv0 : 1 ≤ o.validator) (hv1 : o.validator ≤ 64) (he : o.evidence.length ≤ 2) (hm : o.evidence.all voteMay = true) :
    Calls Try.prog 104 #[.agg (opA g)] w fun e w' => ∃ v, e = .returned v ∧ Own w' w.heap.size v (opBytes o) ∧ Below w.heap.size w w' := by
  obtain ⟨i0, hi, hz0, hz1, hz2⟩ := info_parts info_u8
  have hE : opBytes o = UInt8.ofNat (g.kind % 256).toNat :: UInt8.ofNat (g.validator % 256).toNat :: (o.evidence.map vtBytes).flatten := by
    unfold opBytes
    rw [if_neg (by omega), h.1, h.2.2.2.1]
  have hkind : g.kind = 2 ∨ g.kind = 3 := by rw [h.1]; exact hk
  have hg0 : 1 ≤ g.validator := by rw [h.2.2.2.1]; exact hv0
  have hg1 : g.validator ≤ 64 := by rw [h.2.2.2.1]; exact hv1
  have n1 := h.2.2.2.2.1
  have hr := h.2.2.2.2
  obtain ⟨gk, gkey, gst, gv, ⟨ea, en, ec⟩⟩ := g
  simp only at n1 hkind hg0 hg1 hE
  subst n1
  have hw : IntKind.u8.wrap gk = gk := IntWalk.u8_in _ (by omega)
  have hw2 : IntKind.u8.wrap gv = gv := IntWalk.u8_in _ (by omega)
  have b1 : (gk == 1) = false := by simp; omega
  have hkb := byteV_int gk (by omega) (by omega)
  have hvb := byteV_int gv (by omega) (by omega)
  have HE := Lib.hid hE
  have Hr := Lib.hid hr
  have hk0 : 0 ≤ gk := by omega
  have hk1 : gk ≤ 3 := by omega
  generalize hA : opA ⟨gk, gkey, gst, gv, ⟨ea, o.evidence.length, ec⟩⟩ = A
  have hlit : Own ((w.alloc (.cells A 54)).alloc (.cells #[.int .u8 gk] 5)) w.heap.size (.slice (some ⟨w.heap.size + 1, 0, none⟩) 1 1) [UInt8.ofNat (gk % 256).toNat] := by
    have := Own.lit (w.alloc (.cells A 54)) w.heap.size [UInt8.ofNat (gk % 256).toNat] #[.int .u8 gk] 5 1 (by rw [List.map_cons, hkb]; rfl) rfl (by simp) (by simp [maxLen])
    simpa using this
  have hlit3 : Own (((w.alloc (.cells A 54)).alloc (.cells #[.int .u8 gk] 5)).alloc (.cells #[.int .u8 gv] 5)) w.heap.size (.slice (some ⟨w.heap.size + 1, 0, none⟩) 1 1) [UInt8.ofNat (gk % 256).toNat] := hlit.keep (bel_a _ _)
  have hone : BytesR (((w.alloc (.cells A 54)).alloc (.cells #[.int .u8 gk] 5)).alloc (.cells #[.int .u8 gv] 5)) ⟨some ⟨w.heap.size + 1 + 1, 0, none⟩, 1, 1⟩ [UInt8.ofNat (gv % 256).toNat] := by
    refine BytesR.one _ _ _ _ _ (by simp) hvb
  have hrow : row? (((w.alloc (.cells A 54)).alloc (.cells #[.int .u8 gk] 5)).alloc (.cells #[.int .u8 gv] 5)) w.heap.size 0 36 = some (opA ⟨gk, gkey, gst, gv, ⟨ea, o.evidence.length, ec⟩⟩) := by
    rw [row?_old _ _ _ _ _ (by simp; omega), row?_old _ _ _ _ _ (by simp), row?_new, ← hA]
    simp
  subst hA
  have H1 := Lib.hid hlit3
  have H2 := Lib.hid hone
  have H3 := Lib.hid hrow
  have Hm := Lib.hid hm
  clear hlit hlit3 hone hrow hm hE hr h hk hkb hvb hv0 hv1 hkind
  go_enter Try.func104, Try.ntmps104
  go_wp2_with (at_builtin; refine wpList_append_bytes _ rfl (.tmp 12) (.tmp 16) _ (by rfl) w.heap.size 5 i0 _ Try.underlying35 hi hz0 hz1 hz2 rfl _ _ rfl H1.out ⟨some ⟨w.heap.size + 1 + 1, 0, none⟩, 1, 1⟩ [UInt8.ofNat (gv % 256).toNat] rfl H2.out (by simp) (by simp; omega) ?_; intro v1 w1 o1 g1' e1; have g1 : World.grownBy _ w1 (some (w.heap.size + 1)) := g1'; clear g1'; (have hr1 : row? w1 w.heap.size 0 36 = some (opA ⟨gk, gkey, gst, gv, ⟨ea, o.evidence.length, ec⟩⟩) := row?_grown g1 H3.out (by intro h; injection h; omega)); (have hz1' : w.heap.size + 1 < w1.heap.size := by have := g1.size; simp at this; omega); (have hB1 : Below w.heap.size w w1 := bel_grown g1 (by (repeat' (first | (with_reducible exact Below.refl _ _) | (with_reducible assumption) | (with_reducible refine bel_trans (by assumption) ?_ ?_) | (with_reducible refine bel_grown (by assumption) ?_ ?_ ?_) | (with_reducible refine Below.alloc ?_ ?_ _) | (with_reducible refine Below.drew ?_) | (with_reducible refine below_drewN ?_ _) | (with_reducible refine Below.setCell ?_ ?_ _) | (with_reducible refine below_put ?_ ?_ _ _) | (with_reducible exact Nat.le_refl _) | omega | (with_reducible refine Nat.le_trans ?_ (Below.size (by assumption))) | (with_reducible refine Nat.le_trans ?_ (World.grownBy.size (by assumption))) | (simp only [World.size_alloc, World.size_setCell, World.size_drew, size_drewN]; omega) | (simp only [World.size_alloc, World.size_setCell, World.size_drew, size_drewN, size_put]; omega) | (intro k hk; simp [Value.ownBlock] at hk; done) | (intro k hk; simp [Value.ownBlock] at hk; omega) | (simp [size_drewN] at *; omega)))) (by simp only [World.size_alloc]; omega) (by intro k hk; injection hk; omega)); obtain ⟨c0, c1, c2, c3⟩ := opA_cells hr1; clear e1 g1)
  go_loopw [3, 21] (fun u i w' => ∃ k : Nat, k ≤ o.evidence.length ∧ Own w' w.heap.size u ([UInt8.ofNat (gk % 256).toNat] ++ [UInt8.ofNat (gv % 256).toNat] ++ ((o.evidence.take k).map vtBytes).flatten) ∧ i = .int .i64 k ∧ Below w.heap.size w w') (fun _ i _ => o.evidence.length - (intOf i).toNat)
  case atStart => exact ⟨0, Nat.zero_le _, by simpa using o1, rfl, hB1⟩
  case round =>
    clear c0 c1 c2 c3 hr1
    obtain ⟨k, hk, hown, rfl, hB⟩ := hrel
    have hz := hB.size
    by_cases hkx : k < o.evidence.length
    · obtain ⟨b, off, e, hbs, hc⟩ := (VotesR.keep' Hr.out hB).at (by omega)
      have e1 := congrArg Sl.a e
      simp only at e1
      subst e1
      clear e
      dsimp only [Sl.v]
      obtain ⟨cs, hcx, g1, rfl, hv1⟩ := hc k hkx
      clear hc
      have hvm := List.all_eq_true.1 Hm.out o.evidence[k] (List.getElem_mem _)
      have hfl : ((o.evidence.take (k + 1)).map vtBytes).flatten = ((o.evidence.take k).map vtBytes).flatten ++ vtBytes o.evidence[k] := by
        rw [List.take_succ_eq_append_getElem hkx, List.map_append, List.flatten_append, List.map_cons, List.map_nil, List.flatten_cons, List.flatten_nil, List.append_nil]
      have hlen := votes_len o.evidence k (by omega) Hm.out
      have hvl := vtBytes_length o.evidence[k]
      generalize o.evidence[k] = vk at *
      obtain ⟨m1, m2, m3, m4, m5⟩ := voteMay_out hvm
      have i0' : (0 : Int) ≤ (k : Int) := by omega
      have i1 : (k : Int) < (o.evidence.length : Int) := by omega
      have n1 : b ≠ wr.heap.size := by omega
      have hfit : ([UInt8.ofNat (gk % 256).toNat] ++ [UInt8.ofNat (gv % 256).toNat] ++ ((o.evidence.take k).map vtBytes).flatten).length + (vtBytes vk).length ≤ 140737488355328 := by
        simp only [List.length_append, List.length_cons, List.length_nil]
        omega
      have Hfl := Lib.hid hfl
      have Hv1 := Lib.hid hv1
      have Hown := Lib.hid hown
      generalize hpre : ((o.evidence.take k).map vtBytes).flatten = pre at *
      clear hpre hfl hv1 hlen hvm hvl hown m4 m5
      go_wp2_with fail
      (with_reducible refine (vote_c g1 vk _ (Hv1.out.keep' (by (repeat' (first | (with_reducible exact Below.refl _ _) | (with_reducible assumption) | (with_reducible refine bel_trans (by assumption) ?_ ?_) | (with_reducible refine bel_grown (by assumption) ?_ ?_ ?_) | (with_reducible refine Below.alloc ?_ ?_ _) | (with_reducible refine Below.drew ?_) | (with_reducible refine below_drewN ?_ _) | (with_reducible refine Below.setCell ?_ ?_ _) | (with_reducible refine below_put ?_ ?_ _ _) | (with_reducible exact Nat.le_refl _) | omega | (with_reducible refine Nat.le_trans ?_ (Below.size (by assumption))) | (with_reducible refine Nat.le_trans ?_ (World.grownBy.size (by assumption))) | (simp only [World.size_alloc, World.size_setCell, World.size_drew, size_drewN]; omega) | (simp only [World.size_alloc, World.size_setCell, World.size_drew, size_drewN, size_put]; omega) | (intro k hk; simp [Value.ownBlock] at hk; done) | (intro k hk; simp [Value.ownBlock] at hk; omega) | (simp [size_drewN] at *; omega))))) m1 m2 m3).mono ?_)
      rintro e w2 ⟨x, rfl, o2, b2⟩
      obtain ⟨s2, rfl⟩ := o2.slice
      have hBx : Below wr.heap.size wr w2 := by (repeat' (first | (with_reducible exact Below.refl _ _) | (with_reducible assumption) | (with_reducible refine bel_trans (by assumption) ?_ ?_) | (with_reducible refine bel_grown (by assumption) ?_ ?_ ?_) | (with_reducible refine Below.alloc ?_ ?_ _) | (with_reducible refine Below.drew ?_) | (with_reducible refine below_drewN ?_ _) | (with_reducible refine Below.setCell ?_ ?_ _) | (with_reducible refine below_put ?_ ?_ _ _) | (with_reducible exact Nat.le_refl _) | omega | (with_reducible refine Nat.le_trans ?_ (Below.size (by assumption))) | (with_reducible refine Nat.le_trans ?_ (World.grownBy.size (by assumption))) | (simp only [World.size_alloc, World.size_setCell, World.size_drew, size_drewN]; omega) | (simp only [World.size_alloc, World.size_setCell, World.size_drew, size_drewN, size_put]; omega) | (intro k hk; simp [Value.ownBlock] at hk; done) | (intro k hk; simp [Value.ownBlock] at hk; omega) | (simp [size_drewN] at *; omega)))
      have hown := Hown.out.keep hBx
      have hB2 : Below w.heap.size w w2 := by (repeat' (first | (with_reducible exact Below.refl _ _) | (with_reducible assumption) | (with_reducible refine bel_trans (by assumption) ?_ ?_) | (with_reducible refine bel_grown (by assumption) ?_ ?_ ?_) | (with_reducible refine Below.alloc ?_ ?_ _) | (with_reducible refine Below.drew ?_) | (with_reducible refine below_drewN ?_ _) | (with_reducible refine Below.setCell ?_ ?_ _) | (with_reducible refine below_put ?_ ?_ _ _) | (with_reducible exact Nat.le_refl _) | omega | (with_reducible refine Nat.le_trans ?_ (Below.size (by assumption))) | (with_reducible refine Nat.le_trans ?_ (World.grownBy.size (by assumption))) | (simp only [World.size_alloc, World.size_setCell, World.size_drew, size_drewN]; omega) | (simp only [World.size_alloc, World.size_setCell, World.size_drew, size_drewN, size_put]; omega) | (intro k hk; simp [Value.ownBlock] at hk; done) | (intro k hk; simp [Value.ownBlock] at hk; omega) | (simp [size_drewN] at *; omega)))
      have hzB := hB2.size
      clear b2
      go_wp2_with (at_builtin; refine wpList_append_bytes _ rfl (.tmp 25) (.tmp 27) _ (by rfl) w.heap.size 5 i0 _ Try.underlying35 hi hz0 hz1 hz2 rfl _ _ rfl hown s2 (vtBytes vk) rfl o2.reads hfit hzB ?_; intro v3 w3 o3 g3 e3)
      have hB3 : Below w.heap.size w w3 := bel_grown g3 hB2 hzB (fun k hk => (hown.lt k hk).1)
      go_roundw
      case rel => exact ⟨k + 1, by omega, by rw [Hfl.out]; simpa using o3, by go_num, hB3⟩
      case measure => simp [intOf]; omega
    · have hfl : (o.evidence.take k) = o.evidence := List.take_of_length_le (by omega)
      rw [hfl] at hown
      have Hown := Lib.hid hown
      clear hfl hown
      go_wp2_with fail
      go_ret
      exact ⟨_, rfl, by rw [HE.out]; exact Hown.out, by (repeat' (first | (with_reducible exact Below.refl _ _) | (with_reducible assumption) | (with_reducible refine bel_trans (by assumption) ?_ ?_) | (with_reducible refine bel_grown (by assumption) ?_ ?_ ?_) | (with_reducible refine Below.alloc ?_ ?_ _) | (with_reducible refine Below.drew ?_) | (with_reducible refine below_drewN ?_ _) | (with_reducible refine Below.setCell ?_ ?_ _) | (with_reducible refine below_put ?_ ?_ _ _) | (with_reducible exact Nat.le_refl _) | omega | (with_reducible refine Nat.le_trans ?_ (Below.size (by assumption))) | (with_reducible refine Nat.le_trans ?_ (World.grownBy.size (by assumption))) | (simp only [World.size_alloc, World.size_setCell, World.size_drew, size_drewN]; omega) | (simp only [World.size_alloc, World.size_setCell, World.size_drew, size_drewN, size_put]; omega) | (intro k hk; simp [Value.ownBlock] at hk; done) | (intro k hk; simp [Value.ownBlock] at hk; omega) | (simp [size_drewN] at *; omega)))⟩
end Go.Proofs.Ytbpbnnonialelaa
