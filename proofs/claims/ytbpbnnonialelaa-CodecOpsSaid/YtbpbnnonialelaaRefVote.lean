/- Contracts: ref09.MayVote, Vote, SameVote; Reader.Blob. -/
import Derived.Test.YtbpbnnonialelaaRefJoin
import Derived.Test.YtbpbnnonialelaaRefPof
namespace Go.Proofs.Ytbpbnnonialelaa
open Go.RowKit

theorem fblob_c {lo : Nat} (r : Nat) (st : Option (List UInt8)) (w : World) (h : RfR lo w r st) :
    Calls Try.prog 68 #[.pointer (some ⟨r, 0, none⟩)] w fun e w' => ∃ s : Sl, e = .returned s.v ∧ BytesR w' s (rdBlob st).2 ∧ LowSl 0 lo s (rdBlob st).2 ∧ RfR lo w' r (rdBlob st).1 ∧ w.grownBy w' (some r) := by
  have hlt := rdNum_lt st 2
  unfold rdBlob
  have HC := fnum_c r st 2 w h (by omega)
  generalize rdNum st 2 = res at *
  have hb : (res.2 : Int) < 65536 := by omega
  clear hlt
  go_enter Try.func68, Try.ntmps68
  go_wp2_with fail
  refine HC.mono ?_
  clear HC
  rintro e w1 ⟨rfl, hr, hg⟩
  go_wp2_with fail
  refine (fbytes_c r res.1 res.2 w1 hr (by omega) (by omega)).mono ?_
  rintro e w2 ⟨s, rfl, hs, hlo, hr2, hg2⟩
  go_wp2_with fail
  go_ret
  exact ⟨s, rfl, hs, hlo, hr2, hg.trans hg2⟩

set_option maxRecDepth 100000 in
theorem fmayVote_c (v : GVote) (w : World) : Calls Try.prog 32 #[.agg (voteA v)] w fun e w' => e = .returned (.bool (mayV v)) ∧ Below w.heap.size w w' := by
  go_enter Try.func32, Try.ntmps32
  go_wp2_with (go_at_call 47; refine (fmayPoint_c _ _).mono ?_; rintro e w1 ⟨rfl, hb⟩; obtain ⟨k1, k2, k3⟩ := kept hb; have hz : w.heap.size < w1.heap.size := by (have := hb.size; (try simp at this); omega))
  all_goals go_ret
  all_goals exact ⟨ret_bool (by simp_all [mayV, mayMem] <;> omega), by (repeat' (first | (with_reducible exact Below.refl _ _) | (with_reducible assumption) | (with_reducible refine bel_trans (by assumption) ?_ ?_) | (with_reducible refine bel_grown (by assumption) ?_ ?_ ?_) | (with_reducible refine Below.alloc ?_ ?_ _) | (with_reducible refine Below.drew ?_) | (with_reducible refine below_drewN ?_ _) | (with_reducible refine Below.setCell ?_ ?_ _) | (with_reducible refine below_put ?_ ?_ _ _) | (with_reducible exact Nat.le_refl _) | omega | (with_reducible refine Nat.le_trans ?_ (Below.size (by assumption))) | (with_reducible refine Nat.le_trans ?_ (World.grownBy.size (by assumption))) | (simp only [World.size_alloc, World.size_setCell, World.size_drew, size_drewN]; omega) | (simp only [World.size_alloc, World.size_setCell, World.size_drew, size_drewN, size_put]; omega) | (intro k hk; simp [Value.ownBlock] at hk; done) | (intro k hk; simp [Value.ownBlock] at hk; omega) | (simp [size_drewN] at *; omega)))⟩

theorem Pieces.keepB {ls : List (List UInt8)} {v : Value} {w w' : World} (h : Pieces ls v w) (hb : Below w.heap.size w w') : Pieces ls v w' := by
  obtain ⟨b, ss, h1, h2, h3, h4⟩ := h
  exact ⟨b, ss, h1, h2, fun i hi => (hb.cell (p := ⟨b, i, none⟩) (lt_of_cell (h3 i hi))).trans (h3 i hi), fun i hi hj => (h4 i hi hj).keep hb⟩

set_option maxRecDepth 100000 in
set_option maxHeartbeats 800000 in
theorem fVote_c (g : GVote) (v : Vote) (w : World) (hv : VoteR w g v) (h1 : 1 ≤ v.validator) (h64 : v.validator ≤ 64) (hs : v.sig.length ≤ 4096) :
    Calls Try.prog 34 #[.agg (voteA g)] w fun e w' => ∃ s : Sl, e = .returned s.v ∧ BytesR w' s (vtBytes v) ∧ Below w.heap.size w w' := by
  obtain ⟨e1, e2, e3, hsig⟩ := hv
  have g1 : 1 ≤ g.validator := by omega
  have g2 : g.validator ≤ 64 := by omega
  have hsl : v.sig.length ≤ 65535 := by omega
  have hw : IntKind.u8.wrap g.validator = g.validator := by simp [IntKind.wrap, IntKind.min, IntKind.max, IntKind.signed, IntKind.bits]; omega
  have hnb : byteV (UInt8.ofNat g.validator.toNat) = .int .u8 g.validator := by simp [byteV]; omega
  have Hnb := Lib.hid hnb
  have E1 := Lib.hid e1
  have E2 := Lib.hid e2
  have E3 := Lib.hid e3
  have c0 : (w.alloc (.cells (voteA g) 61)).cell? ⟨w.heap.size, 0, none⟩ = some (.int .i64 g.validator) := by simp
  have c1 : row? (w.alloc (.cells (voteA g) 61)) w.heap.size 1 33 = some (pointA g.source) := by rw [row?_new]; simp
  have c34 : row? (w.alloc (.cells (voteA g) 61)) w.heap.size 34 33 = some (pointA g.target) := by rw [row?_new]; simp
  have c67 : (w.alloc (.cells (voteA g) 61)).cell? ⟨w.heap.size, 67, none⟩ = some g.sig.v := by simp
  have hz0 : w.heap.size < (w.alloc (.cells (voteA g) 61)).heap.size := by simp
  have hB0 : Below w.heap.size w (w.alloc (.cells (voteA g) 61)) := bel_a _ _
  have Hs := Lib.hid (hsig.keep hB0)
  clear e1 e2 e3 hsig h1 h64 hnb
  go_enter Try.func34, Try.ntmps34
  go_wp2_with fail
  generalize w.alloc (.cells (voteA g) 61) = w1 at *
  have HB0 := Lib.hid hB0
  clear hB0
  refine wp_region_freeG_l (fun W W' => Below W.heap.size W W') (by kernel_rfl) [3, 4, 5, 6, 7, 8, 9, 10, 11, 12, 13, 14, 15, 16, 17, 2]
    [Is (.pointer (some ⟨w.heap.size, 0, none⟩)), Is (.int .i64 g.validator), Is (.int .u8 g.validator), IsB (be 1 g.validator.toNat), Is (.pointer (some ⟨w.heap.size, 1, none⟩)), Is (.agg (pointA g.source)), IsB (ptBytes g.source), Is (.pointer (some ⟨w.heap.size, 34, none⟩)), Is (.agg (pointA g.target)), IsB (ptBytes g.target), Is (.pointer (some ⟨w.heap.size, 67, none⟩)), Is (g.sig.v), IsB (be 2 v.sig.length ++ v.sig), Pieces [be 1 g.validator.toNat, ptBytes g.source, ptBytes g.target, be 2 v.sig.length ++ v.sig], IsB (vtBytes v), IsB (vtBytes v)]
    (by kernel_rfl) (fun W W' h hb => hb.trans (h.mono hb.size)) ?_ ?_ ?_
  · intro f hf
    simp only [List.mem_cons, List.not_mem_nil, or_false] at hf
    rcases hf with rfl | rfl | rfl | rfl | rfl | rfl | rfl | rfl | rfl | rfl | rfl | rfl | rfl | rfl | rfl | rfl <;> intro x W W' h hr <;> first | exact h | exact IsB.keepB h hr | exact Pieces.keepB h hr
  · refine ⟨?_, ?_, ?_, ?_, ?_, ?_, ?_, ?_, ?_, ?_, ?_, ?_, ?_, ?_, ?_, ?_, trivial⟩
    · intro L ax W hf hd
      try simp [Region.binds] at hd
      have e1 : ax.tmps[1]?.getD undef = .pointer (some ⟨w.heap.size, 0, none⟩) := hf.out 1 (by decide) rfl
      refine ⟨fun _ => ?_, fun h => absurd trivial h⟩
      refine free_run (v := .pointer (some ⟨w.heap.size, 0, none⟩)) (W' := W) rfl ?_ rfl (Below.refl _ _)
      go_simp
    · intro L ax W hf hd
      simp [Region.binds] at hd
      have e3 : ax.tmps[3]?.getD undef = .pointer (some ⟨w.heap.size, 0, none⟩) := slv (hf.got 0 (by decide) (by simp [hd]))
      refine ⟨fun _ => ?_, fun h => absurd trivial h⟩
      have h1 : W.cell? ⟨w.heap.size, 0, none⟩ = some (.int .i64 g.validator) := (hf.below.cell (p := ⟨w.heap.size, 0, none⟩) hz0).trans c0
      refine free_run (v := .int .i64 g.validator) (W' := W) rfl ?_ rfl (Below.refl _ _)
      go_simp
    · intro L ax W hf hd
      simp [Region.binds] at hd
      have e4 : ax.tmps[4]?.getD undef = .int .i64 g.validator := slv (hf.got 1 (by decide) (by simp [hd]))
      refine ⟨fun _ => ?_, fun h => absurd trivial h⟩
      refine free_run (v := .int .u8 g.validator) (W' := W) rfl ?_ rfl (Below.refl _ _)
      go_simp
    · intro L ax W hf hd
      simp [Region.binds] at hd
      have e5 : ax.tmps[5]?.getD undef = .int .u8 g.validator := slv (hf.got 2 (by decide) (by simp [hd]))
      refine ⟨fun _ => ?_, fun h => absurd trivial h⟩
      refine free_run (v := .slice (some ⟨W.heap.size, 0, none⟩) 1 1) (W' := W.alloc (.cells #[.int .u8 g.validator] 5)) rfl ?_ ⟨⟨some ⟨W.heap.size, 0, none⟩, 1, 1⟩, rfl, BytesR.one _ _ _ _ _ rfl Hnb.out⟩ (bel_a _ _)
      go_simp
    · intro L ax W hf hd
      try simp [Region.binds] at hd
      have e1 : ax.tmps[1]?.getD undef = .pointer (some ⟨w.heap.size, 0, none⟩) := hf.out 1 (by decide) rfl
      refine ⟨fun _ => ?_, fun h => absurd trivial h⟩
      refine free_run (v := .pointer (some ⟨w.heap.size, 1, none⟩)) (W' := W) rfl ?_ rfl (Below.refl _ _)
      go_simp
    · intro L ax W hf hd
      simp [Region.binds] at hd
      have e7 : ax.tmps[7]?.getD undef = .pointer (some ⟨w.heap.size, 1, none⟩) := slv (hf.got 4 (by decide) (by simp [hd]))
      refine ⟨fun _ => ?_, fun h => absurd trivial h⟩
      have h1 : row? W w.heap.size 1 33 = some (pointA g.source) := (row?_below _ _ _ hf.below hz0).trans c1
      refine free_run (v := .agg (pointA g.source)) (W' := W) rfl ?_ rfl (Below.refl _ _)
      go_simp
    · intro L ax W hf hd
      simp [Region.binds] at hd
      have e8 : ax.tmps[8]?.getD undef = .agg (pointA g.source) := slv (hf.got 5 (by decide) (by simp [hd]))
      refine ⟨fun _ => ?_, fun h => absurd trivial h⟩
      refine free_call (f := 48) (args := #[.agg (pointA g.source)]) rfl (by go_simp) ?_
      refine (fPoint_c g.source W).mono ?_
      rintro e w' ⟨x, rfl, ho, hb⟩
      obtain ⟨s2, rfl⟩ := ho.slice
      exact ⟨_, rfl, ⟨s2, rfl, ho.reads⟩, hb⟩
    · intro L ax W hf hd
      try simp [Region.binds] at hd
      have e1 : ax.tmps[1]?.getD undef = .pointer (some ⟨w.heap.size, 0, none⟩) := hf.out 1 (by decide) rfl
      refine ⟨fun _ => ?_, fun h => absurd trivial h⟩
      refine free_run (v := .pointer (some ⟨w.heap.size, 34, none⟩)) (W' := W) rfl ?_ rfl (Below.refl _ _)
      go_simp
    · intro L ax W hf hd
      simp [Region.binds] at hd
      have e10 : ax.tmps[10]?.getD undef = .pointer (some ⟨w.heap.size, 34, none⟩) := slv (hf.got 7 (by decide) (by simp [hd]))
      refine ⟨fun _ => ?_, fun h => absurd trivial h⟩
      have h1 : row? W w.heap.size 34 33 = some (pointA g.target) := (row?_below _ _ _ hf.below hz0).trans c34
      refine free_run (v := .agg (pointA g.target)) (W' := W) rfl ?_ rfl (Below.refl _ _)
      go_simp
    · intro L ax W hf hd
      simp [Region.binds] at hd
      have e11 : ax.tmps[11]?.getD undef = .agg (pointA g.target) := slv (hf.got 8 (by decide) (by simp [hd]))
      refine ⟨fun _ => ?_, fun h => absurd trivial h⟩
      refine free_call (f := 48) (args := #[.agg (pointA g.target)]) rfl (by go_simp) ?_
      refine (fPoint_c g.target W).mono ?_
      rintro e w' ⟨x, rfl, ho, hb⟩
      obtain ⟨s2, rfl⟩ := ho.slice
      exact ⟨_, rfl, ⟨s2, rfl, ho.reads⟩, hb⟩
    · intro L ax W hf hd
      try simp [Region.binds] at hd
      have e1 : ax.tmps[1]?.getD undef = .pointer (some ⟨w.heap.size, 0, none⟩) := hf.out 1 (by decide) rfl
      refine ⟨fun _ => ?_, fun h => absurd trivial h⟩
      refine free_run (v := .pointer (some ⟨w.heap.size, 67, none⟩)) (W' := W) rfl ?_ rfl (Below.refl _ _)
      go_simp
    · intro L ax W hf hd
      simp [Region.binds] at hd
      have e13 : ax.tmps[13]?.getD undef = .pointer (some ⟨w.heap.size, 67, none⟩) := slv (hf.got 10 (by decide) (by simp [hd]))
      refine ⟨fun _ => ?_, fun h => absurd trivial h⟩
      have h1 : W.cell? ⟨w.heap.size, 67, none⟩ = some (g.sig.v) := (hf.below.cell (p := ⟨w.heap.size, 67, none⟩) hz0).trans c67
      refine free_run (v := g.sig.v) (W' := W) rfl ?_ rfl (Below.refl _ _)
      go_simp
    · intro L ax W hf hd
      simp [Region.binds] at hd
      have e14 : ax.tmps[14]?.getD undef = g.sig.v := slv (hf.got 11 (by decide) (by simp [hd]))
      refine ⟨fun _ => ?_, fun h => absurd trivial h⟩
      refine free_call (f := 65) (args := #[g.sig.v]) rfl (by go_simp) ?_
      refine (rblobf_c g.sig v.sig W (Hs.out.keep hf.below) hsl).mono ?_
      rintro e w' ⟨x, rfl, ho, hb⟩
      obtain ⟨s2, rfl⟩ := ho.slice
      exact ⟨_, rfl, ⟨s2, rfl, ho.reads⟩, hb⟩
    · intro L ax W hf hd
      simp [Region.binds] at hd
      have f6 : IsB (be 1 g.validator.toNat) (sl ax 6) W := hf.got 3 (by decide) (by simp [hd])
      have f9 : IsB (ptBytes g.source) (sl ax 9) W := hf.got 6 (by decide) (by simp [hd])
      have f12 : IsB (ptBytes g.target) (sl ax 12) W := hf.got 9 (by decide) (by simp [hd])
      have f15 : IsB (be 2 v.sig.length ++ v.sig) (sl ax 15) W := hf.got 12 (by decide) (by simp [hd])
      refine ⟨fun _ => ?_, fun h => absurd trivial h⟩
      obtain ⟨s0, e0, r0⟩ := f6
      obtain ⟨s1, e1, r1⟩ := f9
      obtain ⟨s2, e2, r2⟩ := f12
      obtain ⟨s3, e3, r3⟩ := f15
      have e0 := slv e0
      have e1 := slv e1
      have e2 := slv e2
      have e3 := slv e3
      have hb := bel_a W (.cells #[s0.v, s1.v, s2.v, s3.v] 35)
      refine free_run (v := .slice (some ⟨W.heap.size, 0, none⟩) 4 4) (W' := W.alloc (.cells #[s0.v, s1.v, s2.v, s3.v] 35)) rfl ?_ ⟨W.heap.size, [s0, s1, s2, s3], rfl, rfl, ?_, ?_⟩ hb
      · clear hb
        go_simp
      · intro i h
        have hi4 : i = 0 ∨ i = 1 ∨ i = 2 ∨ i = 3 := by simp at h; omega
        rcases hi4 with rfl | rfl | rfl | rfl <;> simp
      · intro i h h'
        have hi4 : i = 0 ∨ i = 1 ∨ i = 2 ∨ i = 3 := by simp at h; omega
        rcases hi4 with rfl | rfl | rfl | rfl
        · exact r0.keep hb
        · exact r1.keep hb
        · exact r2.keep hb
        · exact r3.keep hb
    · intro L ax W hf hd
      simp [Region.binds] at hd
      have f16 : Pieces [be 1 g.validator.toNat, ptBytes g.source, ptBytes g.target, be 2 v.sig.length ++ v.sig] (sl ax 16) W := hf.got 13 (by decide) (by simp [hd])
      refine ⟨fun _ => ?_, fun h => absurd trivial h⟩
      obtain ⟨b, ss, e0, hl, hc, hr⟩ := f16
      have e0 := slv e0
      refine free_call (f := 64) (args := #[.slice (some ⟨b, 0, none⟩) 4 4]) rfl (by simp [execOp, Act.eval, e0, resolve, invoke, Deferred.ofValue]; try go_simp) ?_
      refine (rjoin_c b 4 ss [be 1 g.validator.toNat, ptBytes g.source, ptBytes g.target, be 2 v.sig.length ++ v.sig] W ⟨hl, hc, hr⟩ (by simp) (by simp [be_length, ptBytes_length] <;> omega)).mono ?_
      rintro e w' ⟨x, rfl, ho, hb⟩
      obtain ⟨s, rfl⟩ := ho.slice
      refine ⟨_, rfl, ⟨s, rfl, ?_⟩, hb⟩
      have := ho.reads
      rw [vtBytes, ← E1.out, ← E2.out, ← E3.out]
      simpa using this
    · intro L ax W hf hd
      simp [Region.binds] at hd
      have f17 : IsB (vtBytes v) (sl ax 17) W := hf.got 14 (by decide) (by simp [hd])
      refine ⟨fun _ => ?_, fun h => absurd trivial h⟩
      obtain ⟨s, e0, r0⟩ := f17
      have e0 := slv e0
      refine free_run (v := s.v) (W' := W) rfl ?_ ⟨s, rfl, r0⟩ (Below.refl _ _)
      go_simp
  · intro vs W' hl' hF hb
    obtain ⟨g', hg1, hg2⟩ := vs_lit vs hl' hF
    obtain ⟨s, e15, r15⟩ : IsB (vtBytes v) (g' 15) W' := hg2 15 (by decide)
    rw [hg1]
    clear hF hg1 hg2 hl'
    have Hr := Lib.hid r15
    clear r15
    simp only [List.length_cons, List.length_nil, Nat.reduceAdd, show List.range 16 = [0, 1, 2, 3, 4, 5, 6, 7, 8, 9, 10, 11, 12, 13, 14, 15] from rfl, List.map_cons, List.map_nil, putL, List.zip_cons_cons, List.zip_nil_right, List.setIfInBounds_toArray, List.set_cons_succ, List.set_cons_zero, e15]
    go_wp2_with fail
    go_ret
    exact ⟨s, rfl, Hr.out, HB0.out.trans (hb.mono (Nat.le_of_lt hz0))⟩
end Go.Proofs.Ytbpbnnonialelaa
