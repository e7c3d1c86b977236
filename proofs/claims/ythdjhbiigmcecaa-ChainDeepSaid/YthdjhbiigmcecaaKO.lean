/- Texts of this proof, one behind the other: DeepM, DeepB, DeepQ, DeepW. -/
import Derived.Test.YthdjhbiigmcecaaKJ
import Derived.Test.YthdjhbiigmcecaaKI
import Derived.Test.YthdjhbiigmcecaaKN
import Derived.Deep.CutBlock
set_option linter.unusedVariables false
set_option linter.unusedSimpArgs false
/- A chain in memory, and two slices of checkpoints of the caller's own beside it. -/
namespace Go.Proofs.Ythdjhbiigmcecaa
open Go.RowKit

/-- a chain, and two slices apart from it, and from each other -/
structure DpS (B cb : Nat) (C : List Blk) (s : Sl) (l : List Pt) (t : Sl) (m : List Pt) (W : World) : Prop where
  chn : ∃ T, ChR B T W cb C ∧ (∀ k, W.heap.size ≤ k → T k = 2500000) ∧ (∀ b, s.v.ownBlock = some b → T b = 2500000) ∧ ∀ b, t.v.ownBlock = some b → T b = 2500000
  ls : OwnPt W B s.v l
  ts : OwnPt W B t.v m
  dis : ∀ b, t.v.ownBlock = some b → s.v.ownBlock ≠ some b
section
variable {B cb : Nat} {C : List Blk} {s t : Sl} {l m : List Pt} {W W' : World}
theorem DpS.keep (h : DpS B cb C s l t m W) (hb : Below W.heap.size W W') : DpS B cb C s l t m W' := by
  obtain ⟨T, h1, h2, h3, h4⟩ := h.chn
  exact ⟨⟨T, h1.keep hb, fun k hk => h2 k (Nat.le_trans hb.size hk), h3, h4⟩, h.ls.keep hb, h.ts.keep hb, h.dis⟩
theorem DpS.hB (h : DpS B cb C s l t m W) : B ≤ W.heap.size := by
  obtain ⟨T, h1, -⟩ := h.chn
  obtain ⟨sA, mb, G, h1⟩ := h1
  exact h1.hB
theorem DpS.real (h : DpS B cb C s l t m W) : ∃ T, ChR B T W cb C := by
  obtain ⟨T, h1, -⟩ := h.chn
  exact ⟨T, h1⟩
/-- a header more -/
theorem DpS.add_c (h : DpS B cb C s l t m W) (hok : ChnOk C) {g : GHeader} {hd : Hdr} (hr : HdrR W g hd) (hf : HdrFits hd) :
    Calls Try.prog 35 #[ptrV cb, .agg (headerA g)] W fun r w' => r = .returned (.tuple #[.agg (pointA (chCheck C hd).1), .int .i64 (chCheck C hd).2]) ∧ DpS B cb (chAdd C hd) s l t m w' ∧ Below B W w' := by
  obtain ⟨T, h1, h2, h3, h4⟩ := h.chn
  refine (chadd_c h1 hok hr hf).mono ?_
  rintro r w' ⟨e, ⟨T', hC, hT⟩, hA⟩
  have hno : ∀ b, T b = 2500000 → ¬ MutS T b := fun b hb hm => by
    have := hm.2
    omega
  refine ⟨e, ⟨⟨fun k => if k < w'.heap.size then T' k else 2500000, hC.retag fun k hk => if_pos hk, fun k hk => if_neg (by omega), fun b hb => ?_, fun b hb => ?_⟩, h.ls.off hA fun b hb => hno b (h3 b hb), h.ts.off hA fun b hb => hno b (h4 b hb), h.dis⟩, MutS.ge h1 hA (Nat.le_refl _) h.hB⟩
  · have hlt := (OwnC.lt h.ls b hb).2
    show (if b < w'.heap.size then T' b else 2500000) = 2500000
    rw [if_pos (Nat.lt_of_lt_of_le hlt hA.size), hT b hlt, h3 b hb]
  · have hlt := (OwnC.lt h.ts b hb).2
    show (if b < w'.heap.size then T' b else 2500000) = 2500000
    rw [if_pos (Nat.lt_of_lt_of_le hlt hA.size), hT b hlt, h4 b hb]
/-- one checkpoint more, in the second slice -/
theorem DpS.app (h : DpS B cb C s l t m W) (hl : m.length ≤ 1000000) (hC : C.length ≤ 100000) (x : Pt) : ∃ (t' : Sl) (W' : World), (appPt #[t.v, .slice (some ⟨W.heap.size, 0, none⟩) 1 1]).run Try.prog (W.alloc (.cells (pointA x) 26)) = .ok t'.v W' ∧ DpS B cb C s l t' (m ++ [x]) W' ∧ Below B W W' := by
  obtain ⟨T, h1, h2, h3, h4⟩ := h.chn
  obtain ⟨i0, hi, hy0, hy1, hy2⟩ := info_parts info_ptl
  obtain ⟨t', W', e1, e2, e3, e4⟩ := run_append_one pointA ptA_size (P := Try.prog) (W.alloc (.cells (pointA x) 26)) 89 ptA_one B 26 i0 _ 40 Try.underlying89 hi hy0 hy1 hy2 (by simp [Value.cells]) t.v m (h.ts.keep (bel_a _ _)) W.heap.size 1 x (heap_alloc_new W _) hl (by omega) (by have := h.hB; simp; omega)
  have hA : Asd (fun k => t.v.ownBlock = some k) W W' := (below_fresh (bel_a W (.cells (pointA x) 26)) _).trans (asd_grown e3)
  have hBB : Below B W W' := bel_grown e3 ((bel_a W _).mono h.hB) (by have := h.hB; simp; omega) fun k hk => (OwnC.lt h.ts k hk).1
  have htag : ∀ b, t'.v.ownBlock = some b → T b = 2500000 := fun b hb => by
    rcases e4 with e | e
    · exact h4 b (e ▸ hb)
    · have hb' := Option.some.inj (e.symm.trans hb)
      exact h2 _ (by rw [← hb']; simp)
  refine ⟨t', W', e1, ⟨⟨T, h1.offM hC hA (fun k _ hk => by rw [h4 k hk]; omega), fun k hk => h2 k (Nat.le_trans hA.size hk), h3, htag⟩, h.ls.off hA fun b hb hm => h.dis b hm hb, e2, fun b hb hs => ?_⟩, hBB⟩
  rcases e4 with e | e
  · exact h.dis b (e ▸ hb) hs
  · have hb' := Option.some.inj (e.symm.trans hb)
    have := (OwnC.lt h.ls b hs).2
    rw [← hb'] at this
    simp at this
    omega
theorem OwnPt.reads {w : World} {E : Nat} {s : Sl} {l : List Pt} (h : OwnPt w E s.v l) : PtsR w s l := rows_of_own pointA ptA_size (by omega) h
/-- a slice of one, made on the spot -/
theorem DpS.lit {T : Nat → Nat} (hC : ChR B T W cb C) (x : Pt) : DpS B cb C ⟨none, 0, 0⟩ [] ⟨some ⟨W.heap.size, 0, none⟩, 1, 1⟩ [x] (W.alloc (.cells (pointA x) 26)) := by
  have hB : B ≤ W.heap.size := by
    obtain ⟨sA, mb, G, h1⟩ := hC
    exact h1.hB
  refine ⟨⟨fun k => if k < W.heap.size then T k else 2500000, (hC.retag fun k hk => if_pos hk).keep (bel_a _ _), fun k hk => if_neg (by simp at hk; omega), fun b hb => ?_, fun b hb => ?_⟩, OwnC.nil _ _ _, OwnPt.one W hB x, fun b _ hs => ?_⟩
  · cases hb
  · have hb' : W.heap.size = b := Option.some.inj hb
    exact if_neg (by omega)
  · cases hs
/-- the second slice begins anew, with one -/
theorem DpS.lit2 (h : DpS B cb C ⟨none, 0, 0⟩ [] s l W) (x : Pt) : DpS B cb C s l ⟨some ⟨W.heap.size, 0, none⟩, 1, 1⟩ [x] (W.alloc (.cells (pointA x) 26)) := by
  obtain ⟨T, h1, h2, h3, h4⟩ := h.chn
  refine ⟨⟨T, h1.keep (bel_a _ _), fun k hk => h2 k (by simp at hk; omega), h4, fun b hb => ?_⟩, h.ts.keep (bel_a _ _), OwnPt.one W h.hB x, fun b hb hs => ?_⟩
  · have hb' : W.heap.size = b := Option.some.inj hb
    exact h2 _ (by omega)
  · have hb' : W.heap.size = b := Option.some.inj hb
    have := (OwnC.lt h.ts b hs).2
    omega
end
end Go.Proofs.Ythdjhbiigmcecaa

/- A chain, two slices of checkpoints beside it, and a box: what 'p, e := c.Add(h)' does. -/
namespace Go.Proofs.Ythdjhbiigmcecaa
open Go.RowKit

structure DpB (B cb : Nat) (C : List Blk) (s : Sl) (l : List Pt) (t : Sl) (m : List Pt) (b : Nat) (W : World) : Prop where
  chn : ∃ T, ChR B T W cb C ∧ (∀ k, W.heap.size ≤ k → T k = 2500000) ∧ (∀ b, s.v.ownBlock = some b → T b = 2500000) ∧ (∀ b, t.v.ownBlock = some b → T b = 2500000) ∧ T b = 2500000
  ls : OwnPt W B s.v l
  ts : OwnPt W B t.v m
  dis : ∀ b, t.v.ownBlock = some b → s.v.ownBlock ≠ some b
  sb : s.v.ownBlock ≠ some b
  tb : t.v.ownBlock ≠ some b
  bt : there W b 0 33
  bB : B ≤ b
  bl : b < W.heap.size
section
variable {B cb b : Nat} {C : List Blk} {s t : Sl} {l m : List Pt} {W W' : World}
theorem DpS.box (h : DpS B cb C s l t m W) (ty : TypeId) : DpB B cb C s l t m W.heap.size (W.alloc (.cells (pointA zeroPt) ty)) := by
  obtain ⟨T, h1, h2, h3, h4⟩ := h.chn
  have hB := h.hB
  refine ⟨⟨T, h1.keep (bel_a _ _), fun k hk => h2 k (by simp at hk; omega), h3, h4, h2 _ (Nat.le_refl _)⟩, h.ls.keep (bel_a _ _), h.ts.keep (bel_a _ _), h.dis, fun e => ?_, fun e => ?_, there_new _ _ _ _ _ (by simp), hB, by simp⟩
  · have := (OwnC.lt h.ls _ e).2
    omega
  · have := (OwnC.lt h.ts _ e).2
    omega
theorem DpB.keep (h : DpB B cb C s l t m b W) (hb : Below W.heap.size W W') : DpB B cb C s l t m b W' := by
  obtain ⟨T, h1, h2, h3, h4, h5⟩ := h.chn
  exact ⟨⟨T, h1.keep hb, fun k hk => h2 k (Nat.le_trans hb.size hk), h3, h4, h5⟩, h.ls.keep hb, h.ts.keep hb, h.dis, h.sb, h.tb, there_below hb h.bl h.bt, h.bB, Nat.lt_of_lt_of_le h.bl hb.size⟩
theorem DpB.add_c (h : DpB B cb C s l t m b W) (hok : ChnOk C) {g : GHeader} {hd : Hdr} (hr : HdrR W g hd) (hf : HdrFits hd) :
    Calls Try.prog 35 #[ptrV cb, .agg (headerA g)] W fun r w' => r = .returned (.tuple #[.agg (pointA (chCheck C hd).1), .int .i64 (chCheck C hd).2]) ∧ DpB B cb (chAdd C hd) s l t m b w' ∧ Below B W w' := by
  obtain ⟨T, h1, h2, h3, h4, h5⟩ := h.chn
  have hB : B ≤ W.heap.size := by
    obtain ⟨sA, mb, G, h1⟩ := h1
    exact h1.hB
  refine (chadd_c h1 hok hr hf).mono ?_
  rintro r w' ⟨e, ⟨T', hC, hT⟩, hA⟩
  have hno : ∀ b, T b = 2500000 → ¬ MutS T b := fun b hb hm => by
    have := hm.2
    omega
  have hbz := hA.size
  refine ⟨e, ⟨⟨fun k => if k < w'.heap.size then T' k else 2500000, hC.retag fun k hk => if_pos hk, fun k hk => if_neg (by omega), fun b hb => ?_, fun b hb => ?_, ?_⟩, h.ls.off hA fun b hb => hno b (h3 b hb), h.ts.off hA fun b hb => hno b (h4 b hb), h.dis, h.sb, h.tb, hA.there (hno b h5) h.bl h.bt, h.bB, Nat.lt_of_lt_of_le h.bl hbz⟩, MutS.ge h1 hA (Nat.le_refl _) hB⟩
  · have hlt := (OwnC.lt h.ls b hb).2
    show (if b < w'.heap.size then T' b else 2500000) = 2500000
    rw [if_pos (Nat.lt_of_lt_of_le hlt hA.size), hT b hlt, h3 b hb]
  · have hlt := (OwnC.lt h.ts b hb).2
    show (if b < w'.heap.size then T' b else 2500000) = 2500000
    rw [if_pos (Nat.lt_of_lt_of_le hlt hA.size), hT b hlt, h4 b hb]
  · show (if b < w'.heap.size then T' b else 2500000) = 2500000
    have := h.bl
    rw [if_pos (by omega), hT b this, h5]
theorem DpB.put (h : DpB B cb C s l t m b W) (hC : C.length ≤ 100000) (p : Pt) : DpS B cb C s l t m (putRow W b 0 (pointA p)) ∧ row? (putRow W b 0 (pointA p)) b 0 33 = some (pointA p) ∧ Below B W (putRow W b 0 (pointA p)) := by
  obtain ⟨T, h1, h2, h3, h4, h5⟩ := h.chn
  have hA := asd_put W b 0 (pointA p)
  have hz : (putRow W b 0 (pointA p)).heap.size = W.heap.size := size_put ..
  have hB : B ≤ W.heap.size := Nat.le_trans h.bB (Nat.le_of_lt h.bl)
  refine ⟨⟨⟨T, h1.offM hC hA (fun k _ hk => by rw [hk, h5]; omega), fun k hk => h2 k (by omega), h3, h4⟩, h.ls.off hA fun g hg hm => h.sb (hm ▸ hg), h.ts.off hA fun g hg hm => h.tb (hm ▸ hg), h.dis⟩, row?_put_same _ _ _ _ _ (by simp) (by omega) h.bt, hA.below hB fun k _ e => by rw [e]; exact h.bB⟩
end
/-- a header is added, its checkpoint put into a box: what is done, and what is not yet -/
structure HDeep (W0 : World) (B cb : Nat) (C C' : List Blk) (s : Sl) (l : List Pt) (t : Sl) (m : List Pt) (p : Pt) (L : List Bool) (V : List Value) (W : World) : Prop where
  bel : Below B W0 W
  no : L.getD 1 false = false → DpS B cb (if L.getD 0 false then C' else C) s l t m W
  box : L.getD 1 false = true → L.getD 2 false = false → ∃ b, V.getD 1 undef = .pointer (some ⟨b, 0, none⟩) ∧ DpB B cb (if L.getD 0 false then C' else C) s l t m b W
  put : L.getD 2 false = true → ∃ b, V.getD 1 undef = .pointer (some ⟨b, 0, none⟩) ∧ DpS B cb (if L.getD 0 false then C' else C) s l t m W ∧ row? W b 0 33 = some (pointA p) ∧ b < W.heap.size
section
variable {W0 W W' : World} {B cb : Nat} {C C' : List Blk} {s t : Sl} {l m : List Pt} {p : Pt} {l0 l1 l2 : Bool} {v0 v1 v2 : Value}
theorem HDeep.zero (h : DpS B cb C s l t m W0) (V : List Value) : HDeep W0 B cb C C' s l t m p [false, false, false] V W0.drew :=
  ⟨(Below.refl _ _).drew, fun _ => h.keep (Below.refl _ _).drew, fun q => (by cases q), fun q => (by cases q)⟩
/-- the second slice, as long as the call is not made -/
theorem HDeep.own (h : HDeep W0 B cb C C' s l t m p [l0, l1, l2] [v0, v1, v2] W) (h2 : l2 = false) : OwnPt W B t.v m := by
  cases l1
  · exact (h.no rfl).ts
  · obtain ⟨b, -, hb⟩ := h.box rfl h2
    exact hb.ts
theorem HDeep.call (h : HDeep W0 B cb C C' s l t m p [l0, l1, l2] [v0, v1, v2] W) (h0 : l0 = false) (h2 : l2 = false) (hok : ChnOk C) {g : GHeader} {hd : Hdr} (hr : HdrR W g hd) (hf : HdrFits hd) (hc : chCheck C hd = (p, 0)) (hC' : chAdd C hd = C') :
    Calls Try.prog 35 #[ptrV cb, .agg (headerA g)] W fun r w' => r = .returned (.tuple #[.agg (pointA p), .int .i64 0]) ∧ ∀ v, HDeep W0 B cb C C' s l t m p [true, l1, l2] [v, v1, v2] w' := by
  subst h0 h2
  cases l1
  · have hS : DpS B cb C s l t m W := h.no rfl
    refine (hS.add_c hok hr hf).mono ?_
    rintro r w' ⟨e, h1, h2⟩
    rw [hc] at e
    rw [hC'] at h1
    exact ⟨e, fun v => ⟨h.bel.trans h2, fun _ => h1, fun q => (by cases q), fun q => (by cases q)⟩⟩
  · obtain ⟨b, e1, hb⟩ := h.box rfl rfl
    have hb : DpB B cb C s l t m b W := hb
    refine (hb.add_c hok hr hf).mono ?_
    rintro r w' ⟨e, h1, h2⟩
    rw [hc] at e
    rw [hC'] at h1
    exact ⟨e, fun v => ⟨h.bel.trans h2, fun q => (by cases q), fun _ _ => ⟨b, e1, h1⟩, fun q => (by cases q)⟩⟩
theorem HDeep.alloc (h : HDeep W0 B cb C C' s l t m p [l0, l1, l2] [v0, v1, v2] W) (h1 : l1 = false) (h2 : l2 = false) (ty : TypeId) : HDeep W0 B cb C C' s l t m p [l0, true, l2] [v0, .pointer (some ⟨W.heap.size, 0, none⟩), v2] (W.alloc (.cells (pointA zeroPt) ty)) := by
  subst h1 h2
  have hS := h.no rfl
  exact ⟨h.bel.trans ((bel_a _ _).mono hS.hB), fun q => (by cases q), fun _ _ => ⟨_, rfl, hS.box ty⟩, fun q => (by cases q)⟩
theorem HDeep.store (h : HDeep W0 B cb C C' s l t m p [l0, l1, l2] [v0, v1, v2] W) (h1 : l1 = true) (h2 : l2 = false) (hC : C.length ≤ 100000) (hC' : C'.length ≤ 100000) {b : Nat} (e : v1 = .pointer (some ⟨b, 0, none⟩)) : there W b 0 33 ∧ HDeep W0 B cb C C' s l t m p [l0, l1, true] [v0, v1, undef] (putRow W b 0 (pointA p)) := by
  subst h1
  obtain ⟨b', q1, q2⟩ := h.box rfl h2
  have q1' : v1 = .pointer (some ⟨b', 0, none⟩) := q1
  rw [e] at q1'
  have hb : b = b' := by
    injection q1' with q1'
    injection q1' with q1'
    injection q1'
  subst hb
  have hcl : (if l0 then C' else C).length ≤ 100000 := by cases l0 <;> assumption
  obtain ⟨r1, r2, r3⟩ := DpB.put (C := if l0 then C' else C) q2 hcl p
  exact ⟨q2.bt, ⟨h.bel.trans r3, fun q => (by cases q), fun _ q => (by cases q), fun _ => ⟨b, e, r1, r2, by rw [size_put]; exact q2.bl⟩⟩⟩
end
/-- what a slice of points tells of one -/
theorem OwnPt.at {W : World} {B g n c : Nat} {m : List Pt} (h : OwnPt W B (.slice (some ⟨g, 0, none⟩) n c) m) {k : Nat} (hk : k < m.length) :
    row? W g (k * 33) 33 = some (pointA m[k]) ∧ row? W g (k * 33 + 1) 32 = some (hashA m[k].name) ∧ W.cell? ⟨g, k * 33, none⟩ = some (.int .u64 (m[k].epoch.toNat : Int)) := by
  have hn : n = m.length := (OwnPt.reads (s := ⟨some ⟨g, 0, none⟩, n, c⟩) h).1
  subst hn
  have hr := own_row pointA ptA_size (by omega) h k hk
  have h1 := row_part hr 1 32 (by omega)
  have h0 := cell_of_row? hr 0 (by omega)
  rw [Nat.add_zero] at h0
  refine ⟨hr, ?_, ?_⟩
  · rw [h1]
    congr 1
    first | exact pointA_name_part _ | (unfold pointA; simp)
  · rw [h0]
    simp
end Go.Proofs.Ythdjhbiigmcecaa

/- ChainDeep, plainly: the checkpoints of both branches; what stands at an epoch, found along the way. -/
namespace Go.Proofs.Ythdjhbiigmcecaa

def mPt (g k : Nat) : Pt := (mBlk g k).p
def oPt (g a k : Nat) : Pt := ⟨UInt64.ofNat (oEp g a k), onH g a k⟩
def oI (a long k : Nat) : Nat := if k = 0 then a else long + k
theorem mPt_name (g k : Nat) : (mPt g k).name = mnH g k := mBlk_name g k
theorem mPt_eq (g k : Nat) : mPt g k = ⟨UInt64.ofNat (1 + k * g), mnH g k⟩ := by
  unfold mPt mBlk
  split
  · rename_i h
    subst h
    rw [mnH_zero, Nat.zero_mul]
    rfl
  · rfl
theorem oPt_zero (g a : Nat) : oPt g a 0 = mPt g a := by
  rw [mPt_eq]
  unfold oPt oEp
  rw [Nat.zero_mul, Nat.add_zero, onH_zero]
def mPts (g n : Nat) : List Pt := (List.range (n + 1)).map (mPt g)
def oPts (g a n : Nat) : List Pt := (List.range (n + 1)).map (oPt g a)
theorem mPts_length (g n : Nat) : (mPts g n).length = n + 1 := by simp [mPts]
theorem oPts_length (g a n : Nat) : (oPts g a n).length = n + 1 := by simp [oPts]
theorem oPts_zero (g a : Nat) : oPts g a 0 = [mPt g a] := by
  show [oPt g a 0] = _
  rw [oPt_zero]
theorem mPts_succ (g n : Nat) : mPts g (n + 1) = mPts g n ++ [mPt g (n + 1)] := by
  unfold mPts
  rw [List.range_succ (n := n + 1), List.map_append]
  rfl
theorem oPts_succ (g a n : Nat) : oPts g a (n + 1) = oPts g a n ++ [oPt g a (n + 1)] := by
  unfold oPts
  rw [List.range_succ (n := n + 1), List.map_append]
  rfl
theorem mPts_get {g n k : Nat} (hk : k < (mPts g n).length) : (mPts g n)[k] = mPt g k := by simp [mPts]
theorem oPts_get {g a n k : Nat} (hk : k < (oPts g a n).length) : (oPts g a n)[k] = oPt g a k := by simp [oPts]
theorem mPt_epoch {g k : Nat} (hg : g ≤ 9) (hk : k ≤ 401) : (mPt g k).epoch.toNat = 1 + k * g := by
  rw [mPt_eq]
  exact ofNat_small (small_ep hg hk)
theorem oPt_epoch {g a k : Nat} (hg : g ≤ 9) (ha : a ≤ 400) (hk : k ≤ 100) : (oPt g a k).epoch.toNat = oEp g a k := ofNat_small (oEp_small hg ha hk)
theorem de_ptM {g long a n k : Nat} (hk : k ≤ long) : ptAt (de g long a n) k = mPt g k := ptAt_of (de_get hk)
theorem de_ptO {g long a n k : Nat} (ha : a ≤ long) (hk : k ≤ n) : ptAt (de g long a n) (oI a long k) = oPt g a k := by
  unfold oI
  split
  · rename_i h
    subst h
    rw [oPt_zero, de_ptM ha]
  · exact ptAt_of (de_get2 (by omega) hk)
theorem de_epO {g long a n k : Nat} (h9 : g ≤ 9) (hl : long ≤ 400) (ha : a ≤ long) (hk : k ≤ n) : epAt (de g long a n) (oI a long k) = (oPt g a k).epoch.toNat := by
  unfold oI
  split
  · rename_i h
    subst h
    rw [oPt_zero, de_ep h9 hl ha, mPt_epoch h9 (by omega)]
  · rw [epAt_of (de_get2 (by omega) hk)]
    rfl
theorem de_epM {g long a n k : Nat} (h9 : g ≤ 9) (hl : long ≤ 400) (hk : k ≤ long) : epAt (de g long a n) k = (mPt g k).epoch.toNat := by
  rw [de_ep h9 hl hk, mPt_epoch h9 (by omega)]
theorem wantI_snoc (C : List Blk) (e : Nat) (l : List Nat) (k : Nat) : wantI C e (l ++ [k]) = if epAt C k ≤ e then k else wantI C e l := by
  unfold wantI
  rw [List.foldl_append]
  rfl
theorem wantI_again (C : List Blk) (e : Nat) (l : List Nat) (k : Nat) (r : List Nat) : wantI C e (l ++ [k] ++ k :: r) = wantI C e (l ++ [k] ++ r) := by
  unfold wantI
  simp only [List.foldl_append, List.foldl_cons, List.foldl_nil]
  congr 1
  split <;> simp
theorem deep_want {g long a n e : Nat} (h1 : 1 ≤ g) (h9 : g ≤ 9) (hl : long ≤ 400) (ha : a ≤ long) (hn : n ≤ 100) :
    wantI (de g long a n) e (List.range (a + 1) ++ (List.range (n + 1)).map (oI a long)) = bk (de g long a n) e (oI a long n) := by
  have hok := de_ok h1 h9 hl ha n hn
  have hi : oI a long n < (de g long a n).length := by
    rw [de_length]
    unfold oI
    split <;> omega
  rw [← wantI_path hok e hi]
  have hp := de_path2 h1 h9 hl ha hn n (Nat.le_refl _)
  have ho : (if n = 0 then a else long + n) = oI a long n := rfl
  rw [ho] at hp
  rw [hp, List.range_succ_eq_map (n := n), List.map_cons, List.map_map, List.range_succ, show oI a long 0 = a from rfl, wantI_again]
  rfl
end Go.Proofs.Ythdjhbiigmcecaa

/- The walk of ChainDeep. -/
namespace Go.Proofs.Ythdjhbiigmcecaa
open Go.RowKit

theorem run_bldPt1 (n : Hash) (W : World) : (bldPt #[(0, .int .u64 1), (1, .agg (hashA n))]).run Try.prog W = .ok (.agg (pointA ⟨1, n⟩)) W := by
  unfold bldPt
  go_simp
  rw [if_neg (fun h => by have := congrArg Array.size h; simp at this)]
  have h := pointA_set_epoch zeroPt 1
  rw [show (.int .u64 ((1 : UInt64).toNat : Int) : Value) = .int .u64 1 from rfl] at h
  rw [h, splice_point_name]
  rfl
theorem chAtE_at {C : List Blk} {n : Hash} {i : Nat} {e : UInt64} (h : chAt C n = some i) : chAtE C n e = if e.toNat < epAt C 0 then (zeroPt, 6) else (ptAt C (bk C e.toNat i), 0) := by
  unfold chAtE
  rw [h]
  rfl
theorem pt_name {W : World} {b : Nat} {p : Pt} (h : row? W b 0 33 = some (pointA p)) : row? W b 1 32 = some (hashA p.name) := by
  have h1 := row_part h 1 32 (by omega)
  rw [Nat.zero_add] at h1
  rw [h1]
  simp
attribute [local go_sem ↓] fold_bldNm fold_bldPt fold_bldHd fold_bsPt fold_appPt
set_option maxRecDepth 100000 in
set_option maxHeartbeats 3200000 in
theorem deep_walk (lo0 at0 ot0 ga0 : Int) (ep : UInt64) (i0 k0 : Int) (w : World) :
    Calls Try.prog 7 #[.int .i64 lo0, .int .i64 at0, .int .i64 ot0, .int .i64 ga0, .int .u64 (ep.toNat : Int), .int .i64 i0, .int .i64 k0] w fun e w' => e = .returned (.bool true) ∧ Below w.heap.size w w' := by
  have HK := fun W => known10_c W
  have hend := Lib.hid (show ∀ W, Below w.heap.size w W → Calls Try.prog 31 #[] W fun e w' => e = .returned (.bool true) ∧ Below w.heap.size w w' from fun W hW => (HK W).mono fun e w' ⟨h1, h2⟩ => ⟨h1, hW.trans (h2.mono hW.size)⟩)
  clear HK
  have HE := hend.out w (Below.refl _ _)
  go_enter Try.func7, Try.ntmps7
  go_upto_region 1 with fail
  by_cases hc0 : lo0 < 1
  · go_wp2_with fail
    (with_reducible refine HE.mono ?_)
    rintro e w3 ⟨rfl, hb3⟩
    go_wp2_with fail
    go_ret
    exact ⟨rfl, hb3⟩
  by_cases hc1 : 400 < lo0
  · go_wp2_with fail
    (with_reducible refine HE.mono ?_)
    rintro e w3 ⟨rfl, hb3⟩
    go_wp2_with fail
    go_ret
    exact ⟨rfl, hb3⟩
  by_cases hc2 : at0 < 0
  · go_wp2_with fail
    (with_reducible refine HE.mono ?_)
    rintro e w3 ⟨rfl, hb3⟩
    go_wp2_with fail
    go_ret
    exact ⟨rfl, hb3⟩
  by_cases hc3 : lo0 < at0
  · go_wp2_with fail
    (with_reducible refine HE.mono ?_)
    rintro e w3 ⟨rfl, hb3⟩
    go_wp2_with fail
    go_ret
    exact ⟨rfl, hb3⟩
  by_cases hc4 : ot0 < 0
  · go_wp2_with fail
    (with_reducible refine HE.mono ?_)
    rintro e w3 ⟨rfl, hb3⟩
    go_wp2_with fail
    go_ret
    exact ⟨rfl, hb3⟩
  by_cases hc5 : 100 < ot0
  · go_wp2_with fail
    (with_reducible refine HE.mono ?_)
    rintro e w3 ⟨rfl, hb3⟩
    go_wp2_with fail
    go_ret
    exact ⟨rfl, hb3⟩
  by_cases hc6 : ga0 < 1
  · go_wp2_with fail
    (with_reducible refine HE.mono ?_)
    rintro e w3 ⟨rfl, hb3⟩
    go_wp2_with fail
    go_ret
    exact ⟨rfl, hb3⟩
  by_cases hc7 : 9 < ga0
  · go_wp2_with fail
    (with_reducible refine HE.mono ?_)
    rintro e w3 ⟨rfl, hb3⟩
    go_wp2_with fail
    go_ret
    exact ⟨rfl, hb3⟩
  by_cases hc8 : i0 < 0
  · go_wp2_with fail
    (with_reducible refine HE.mono ?_)
    rintro e w3 ⟨rfl, hb3⟩
    go_wp2_with fail
    go_ret
    exact ⟨rfl, hb3⟩
  by_cases hc9 : lo0 < i0
  · go_wp2_with fail
    (with_reducible refine HE.mono ?_)
    rintro e w3 ⟨rfl, hb3⟩
    go_wp2_with fail
    go_ret
    exact ⟨rfl, hb3⟩
  by_cases hc10 : k0 < 0
  · go_wp2_with fail
    (with_reducible refine HE.mono ?_)
    rintro e w3 ⟨rfl, hb3⟩
    go_wp2_with fail
    go_ret
    exact ⟨rfl, hb3⟩
  by_cases hc11 : lo0 < k0
  · go_wp2_with fail
    (with_reducible refine HE.mono ?_)
    rintro e w3 ⟨rfl, hb3⟩
    go_wp2_with fail
    go_ret
    exact ⟨rfl, hb3⟩
  clear HE
  obtain ⟨lo, rfl⟩ : ∃ n : Nat, lo0 = n := ⟨lo0.toNat, by omega⟩
  obtain ⟨at1, rfl⟩ : ∃ n : Nat, at0 = n := ⟨at0.toNat, by omega⟩
  obtain ⟨ot, rfl⟩ : ∃ n : Nat, ot0 = n := ⟨ot0.toNat, by omega⟩
  obtain ⟨ga, rfl⟩ : ∃ n : Nat, ga0 = n := ⟨ga0.toNat, by omega⟩
  obtain ⟨i, rfl⟩ : ∃ n : Nat, i0 = n := ⟨i0.toNat, by omega⟩
  obtain ⟨k, rfl⟩ : ∃ n : Nat, k0 = n := ⟨k0.toNat, by omega⟩
  have q1 : 1 ≤ lo := by omega
  have q2 : lo ≤ 400 := by omega
  have q3 : at1 ≤ lo := by omega
  have q4 : ot ≤ 100 := by omega
  have q5 : 1 ≤ ga := by omega
  have q6 : ga ≤ 9 := by omega
  have q7 : i ≤ lo := by omega
  have q8 : k ≤ lo := by omega
  have hn1 := run_bldNm
  have hp1 := run_bldPt1 nm1H
  obtain ⟨n1, hn1e⟩ : ∃ n, n = nm1H := ⟨_, rfl⟩
  rw [← hn1e] at hn1 hp1
  replace hn1e := Lib.hid hn1e
  go_upto_region 3 with fail
  clear hc0 hc1 hc2 hc3 hc4 hc5 hc6 hc7 hc8 hc9 hc10 hc11
  obtain ⟨w0, hw0⟩ : ∃ W, W = w := ⟨_, rfl⟩
  rw [← hw0] at hend ⊢
  replace hw0 := Lib.hid hw0
  have HN := chnew_c ⟨1, n1⟩ w0 (by show (1 : UInt64).toNat ≤ _; decide)
  unfold ptrV at HN
  go_wp2_with fail
  (with_reducible refine HN.mono ?_)
  clear HN
  rintro e w1 ⟨cb, rfl, hcb, ⟨T0, hC0⟩, hb1⟩
  rw [hn1e.out] at hC0
  have hAn := show Calls Try.prog 47 #[ptrV cb] w1 fun e w' => e = .returned (.agg (pointA ⟨1, n1⟩)) ∧ Below w1.heap.size w1 w' from by
    obtain ⟨sA, mb, G, hM⟩ := hC0
    obtain ⟨ab, -, -, hv⟩ := hM.view (by show 0 < 1; omega)
    rw [hn1e.out]
    exact chanchor_c hv (b := ⟨⟨1, nm1H⟩, zeroHdr, none⟩) rfl
  unfold ptrV at hAn
  go_wp2_with fail
  (with_reducible refine hAn.mono ?_)
  clear hAn
  rintro e w2 ⟨rfl, hb2⟩
  have hbs := bsPt_one ⟨1, n1⟩ w2
  have hB0 := Lib.hid (Below.trans hb1 ((hb2.mono hb1.size)))
  have hD0 := Lib.hid (DpS.lit (hC0.keep hb2) ⟨1, nm1H⟩)
  clear hcb hC0 hb1 hb2
  go_upto_region 7 with fail
  obtain ⟨bl0, hbl0⟩ : ∃ b, b = w2.heap.size := ⟨_, rfl⟩
  obtain ⟨w3, hw3⟩ : ∃ W, W = w2.alloc (.cells (pointA ⟨1, n1⟩) 26) := ⟨_, rfl⟩
  rw [← hw3, ← hbl0]
  have hB3 := Lib.hid (show Below w0.heap.size w0 w3 from by rw [hw3]; exact hB0.out.trans ((bel_a _ _).mono hB0.out.size))
  have hD3 := Lib.hid (show DpS w0.heap.size cb (dm ga 0) ⟨none, 0, 0⟩ [] ⟨some ⟨bl0, 0, none⟩, 0 + 1, 1⟩ (mPts ga 0) w3 from by
    rw [hw3, hbl0, hn1e.out]
    exact hD0.out)
  clear hw3 hbl0 hD0 hB0 hbs
  replace hn1 := Lib.hid hn1
  replace hp1 := Lib.hid hp1
  have hcv : IntKind.u64.wrap (ga : Int) = (ga : Int) := by rw [IntKind.wrap_u64]; omega
  go_wp2_with fail
  go_loopw [17, 18] (fun v x W' => ∃ (n bl lc : Nat), n ≤ lo ∧ x = .int .i64 n ∧ v = .slice (some ⟨bl, 0, none⟩) (n + 1) lc ∧ Hid (DpS w0.heap.size cb (dm ga n) ⟨none, 0, 0⟩ [] ⟨some ⟨bl, 0, none⟩, n + 1, lc⟩ (mPts ga n) W') ∧ Hid (Below w0.heap.size w0 W')) (fun _ x _ => lo - (intOf x).toNat)
  case atStart => exact ⟨0, bl0, 1, Nat.zero_le _, rfl, rfl, hD3, hB3⟩
  case round =>
    obtain ⟨n, bl, lc, hn, rfl, rfl, hDp, hB⟩ := hrel
    clear hD3 hB3
    by_cases hnl : n < lo
    · have n0 : (0 : Int) ≤ (n : Int) := by omega
      have n1' : (n : Int) < (lo : Int) := by omega
      have n2 : (n : Int) < (n : Int) + 1 := by omega
      obtain ⟨nm, hnm⟩ : ∃ x, x = mnH ga n := ⟨_, rfl⟩
      obtain ⟨e1, he1⟩ : ∃ x, x = (mPt ga n).epoch := ⟨_, rfl⟩
      obtain ⟨e2, he2⟩ : ∃ x, x = UInt64.ofNat (1 + (n + 1) * ga) := ⟨_, rfl⟩
      obtain ⟨p2, hp2⟩ : ∃ x, x = mPt ga (n + 1) := ⟨_, rfl⟩
      have hrd := fun W (h : OwnPt W w0.heap.size (.slice (some ⟨bl, 0, none⟩) (n + 1) lc) (mPts ga n)) => show row? W bl (n * 33 + 1) 32 = some (hashA nm) ∧ W.cell? ⟨bl, n * 33, none⟩ = some (.int .u64 (e1.toNat : Int)) from by
        obtain ⟨-, a2, a3⟩ := h.at (k := n) (by rw [mPts_length]; omega)
        rw [mPts_get] at a2 a3
        rw [hnm, he1, ← mPt_name]
        exact ⟨a2, a3⟩
      have hsum : IntKind.u64.wrap ((e1.toNat : Int) + (ga : Int)) = (e2.toNat : Int) := by
        rw [he1, he2, mPt_epoch q6 (by omega), ofNat_small (small_ep q6 (by omega)), IntKind.wrap_u64, Nat.add_mul, Nat.one_mul]
        have := small_ep (g := ga) (k := n) q6 (by omega)
        omega
      have hokn := Lib.hid (dm_ok q5 q6 n (by omega))
      have hca := dm_ok_add q5 q6 (show n < 400 by omega) hokn.out
      have hchk := Lib.hid (show chCheck (dm ga n) ⟨nm, e2, []⟩ = (p2, 0) from by rw [hnm, he2, hp2, mPt_eq]; exact hca.1)
      have hadd := Lib.hid (show chAdd (dm ga n) ⟨nm, e2, []⟩ = dm ga (n + 1) from by rw [hnm, he2]; exact hca.2)
      have hlC := Lib.hid (show (dm ga n).length ≤ 100000 by rw [dm_length]; omega)
      have hlC2 := Lib.hid (show (dm ga (n + 1)).length ≤ 100000 by rw [dm_length]; omega)
      have hp2' := Lib.hid hp2
      have hnl2 := Lib.hid hnl
      clear hnm he1 he2 hp2 hca hnl
      go_upto_region 10 with fail
      refine wp_region_freeI_l (by kernel_rfl) [101, 102, 103, 104, 105, 106, 107, 108, 109, 110, 111, 112, 113, 114, 115, 116, 100, 117, 118, 19, 326, 20]
        [(fun v => v = .pointer (some ⟨cb, 0, none⟩)), (fun v => v = .slice (some ⟨bl, 0, none⟩) (n + 1) lc), (fun v => v = .int .i64 (n : Int)), (fun v => v = .pointer (some ⟨bl, n * 33, none⟩)), (fun v => v = .pointer (some ⟨bl, n * 33 + 1, none⟩)), (fun v => v = .agg (hashA nm)), (fun v => v = .slice (some ⟨bl, 0, none⟩) (n + 1) lc), (fun v => v = .int .i64 (n : Int)), (fun v => v = .pointer (some ⟨bl, n * 33, none⟩)), (fun v => v = .pointer (some ⟨bl, n * 33, none⟩)), (fun v => v = .int .u64 (e1.toNat : Int)), (fun v => v = .int .i64 (ga : Int)), (fun v => v = .int .u64 (ga : Int)), (fun v => v = .int .u64 (e2.toNat : Int)), (fun v => v = .agg (headerA ⟨nm, e2, ⟨none, 0, 0⟩⟩)), (fun v => v = .tuple #[.agg (pointA p2), .int .i64 0]), (fun v => v = .tuple #[.agg (pointA p2), .int .i64 0]), (fun v => v = .agg (pointA p2)), (fun v => v = .int .i64 0), (fun v => ∃ b, v = .pointer (some ⟨b, 0, none⟩)), (fun _ => True), (fun v => v = .int .i64 0)]
        [15, 19, 20] (HDeep wr w0.heap.size cb (dm ga n) (dm ga (n + 1)) ⟨none, 0, 0⟩ [] ⟨some ⟨bl, 0, none⟩, n + 1, lc⟩ (mPts ga n) p2) [[15, 16, 17, 18, 20, 21], [3, 4, 5, 14, 15, 16, 17, 18, 20, 21], [3, 4, 5, 14, 15, 16, 17, 18, 20, 21], [4, 5, 14, 15, 16, 17, 18, 20, 21], [5, 14, 15, 16, 17, 18, 20, 21], [14, 15, 16, 17, 18, 20, 21], [8, 9, 10, 13, 14, 15, 16, 17, 18, 20, 21], [8, 9, 10, 13, 14, 15, 16, 17, 18, 20, 21], [9, 10, 13, 14, 15, 16, 17, 18, 20, 21], [10, 13, 14, 15, 16, 17, 18, 20, 21], [13, 14, 15, 16, 17, 18, 20, 21], [12, 13, 14, 15, 16, 17, 18, 20, 21], [13, 14, 15, 16, 17, 18, 20, 21], [14, 15, 16, 17, 18, 20, 21], [15, 16, 17, 18, 20, 21], [16, 17, 18, 20, 21], [17, 18, 20, 21], [20], [21], [20], [], []] (by kernel_rfl) (by kernel_rfl) ?_ ?_ ?_
      · show HDeep wr w0.heap.size cb (dm ga n) (dm ga (n + 1)) ⟨none, 0, 0⟩ [] ⟨some ⟨bl, 0, none⟩, n + 1, lc⟩ (mPts ga n) p2 [false, false, false] [_, _, _] _
        exact HDeep.zero hDp.out _
      · refine ⟨?_, ?_, ?_, ?_, ?_, ?_, ?_, ?_, ?_, ?_, ?_, ?_, ?_, ?_, ?_, ?_, ?_, ?_, ?_, ?_, ?_, ?_, trivial⟩
        · intro L ax W hf hLi hno hd
          try simp [Region.binds] at hd
          have e15 : ax.tmps[15]?.getD undef = .pointer (some ⟨cb, 0, none⟩) := hf.out 15 (by decide) rfl
          refine ⟨fun _ => ?_, fun h => absurd trivial h⟩
          refine freeI_run (v := .pointer (some ⟨cb, 0, none⟩)) rfl hf (by decide) ?_ rfl
          go_simp
        · intro L ax W hf hLi hno hd
          try simp [Region.binds] at hd
          have e17 : ax.tmps[17]?.getD undef = .slice (some ⟨bl, 0, none⟩) (n + 1) lc := hf.out 17 (by decide) rfl
          refine ⟨fun _ => ?_, fun h => absurd trivial h⟩
          refine freeI_run (v := .slice (some ⟨bl, 0, none⟩) (n + 1) lc) rfl hf (by decide) ?_ rfl
          go_simp
        · intro L ax W hf hLi hno hd
          try simp [Region.binds] at hd
          have e18 : ax.tmps[18]?.getD undef = .int .i64 (n : Int) := hf.out 18 (by decide) rfl
          refine ⟨fun _ => ?_, fun h => absurd trivial h⟩
          refine freeI_run (v := .int .i64 (n : Int)) rfl hf (by decide) ?_ rfl
          go_simp
        · intro L ax W hf hLi hno hd
          simp [Region.binds] at hd
          have e102 : ax.tmps[102]?.getD undef = .slice (some ⟨bl, 0, none⟩) (n + 1) lc := slv (hf.got 1 (by decide) (by simp [hd]))
          have e103 : ax.tmps[103]?.getD undef = .int .i64 (n : Int) := slv (hf.got 2 (by decide) (by simp [hd]))
          refine ⟨fun _ => ?_, fun h => absurd trivial h⟩
          refine freeI_run (v := .pointer (some ⟨bl, n * 33, none⟩)) rfl hf (by decide) ?_ rfl
          go_simp
        · intro L ax W hf hLi hno hd
          simp [Region.binds] at hd
          have e104 : ax.tmps[104]?.getD undef = .pointer (some ⟨bl, n * 33, none⟩) := slv (hf.got 3 (by decide) (by simp [hd]))
          refine ⟨fun _ => ?_, fun h => absurd trivial h⟩
          refine freeI_run (v := .pointer (some ⟨bl, n * 33 + 1, none⟩)) rfl hf (by decide) ?_ rfl
          go_simp
        · intro L ax W hf hLi hno hd
          simp [Region.binds] at hd
          have e105 : ax.tmps[105]?.getD undef = .pointer (some ⟨bl, n * 33 + 1, none⟩) := slv (hf.got 4 (by decide) (by simp [hd]))
          refine ⟨fun _ => ?_, fun h => absurd trivial h⟩
          have hG : HDeep wr w0.heap.size cb (dm ga n) (dm ga (n + 1)) ⟨none, 0, 0⟩ [] ⟨some ⟨bl, 0, none⟩, n + 1, lc⟩ (mPts ga n) p2 [L 15, L 19, L 20] [sl ax 116, sl ax 19, sl ax 326] W := hf.glob
          obtain ⟨h1, h2⟩ := hrd W (hG.own (hno 20 (by decide)))
          refine freeI_run (v := .agg (hashA nm)) rfl hf (by decide) ?_ rfl
          go_simp
        · intro L ax W hf hLi hno hd
          try simp [Region.binds] at hd
          have e17 : ax.tmps[17]?.getD undef = .slice (some ⟨bl, 0, none⟩) (n + 1) lc := hf.out 17 (by decide) rfl
          refine ⟨fun _ => ?_, fun h => absurd trivial h⟩
          refine freeI_run (v := .slice (some ⟨bl, 0, none⟩) (n + 1) lc) rfl hf (by decide) ?_ rfl
          go_simp
        · intro L ax W hf hLi hno hd
          try simp [Region.binds] at hd
          have e18 : ax.tmps[18]?.getD undef = .int .i64 (n : Int) := hf.out 18 (by decide) rfl
          refine ⟨fun _ => ?_, fun h => absurd trivial h⟩
          refine freeI_run (v := .int .i64 (n : Int)) rfl hf (by decide) ?_ rfl
          go_simp
        · intro L ax W hf hLi hno hd
          simp [Region.binds] at hd
          have e107 : ax.tmps[107]?.getD undef = .slice (some ⟨bl, 0, none⟩) (n + 1) lc := slv (hf.got 6 (by decide) (by simp [hd]))
          have e108 : ax.tmps[108]?.getD undef = .int .i64 (n : Int) := slv (hf.got 7 (by decide) (by simp [hd]))
          refine ⟨fun _ => ?_, fun h => absurd trivial h⟩
          refine freeI_run (v := .pointer (some ⟨bl, n * 33, none⟩)) rfl hf (by decide) ?_ rfl
          go_simp
        · intro L ax W hf hLi hno hd
          simp [Region.binds] at hd
          have e109 : ax.tmps[109]?.getD undef = .pointer (some ⟨bl, n * 33, none⟩) := slv (hf.got 8 (by decide) (by simp [hd]))
          refine ⟨fun _ => ?_, fun h => absurd trivial h⟩
          refine freeI_run (v := .pointer (some ⟨bl, n * 33, none⟩)) rfl hf (by decide) ?_ rfl
          go_simp
        · intro L ax W hf hLi hno hd
          simp [Region.binds] at hd
          have e110 : ax.tmps[110]?.getD undef = .pointer (some ⟨bl, n * 33, none⟩) := slv (hf.got 9 (by decide) (by simp [hd]))
          refine ⟨fun _ => ?_, fun h => absurd trivial h⟩
          have hG : HDeep wr w0.heap.size cb (dm ga n) (dm ga (n + 1)) ⟨none, 0, 0⟩ [] ⟨some ⟨bl, 0, none⟩, n + 1, lc⟩ (mPts ga n) p2 [L 15, L 19, L 20] [sl ax 116, sl ax 19, sl ax 326] W := hf.glob
          obtain ⟨h1, h2⟩ := hrd W (hG.own (hno 20 (by decide)))
          refine freeI_run (v := .int .u64 (e1.toNat : Int)) rfl hf (by decide) ?_ rfl
          go_simp
        · intro L ax W hf hLi hno hd
          try simp [Region.binds] at hd
          have e3 : ax.tmps[3]?.getD undef = .int .i64 (ga : Int) := hf.out 3 (by decide) rfl
          refine ⟨fun _ => ?_, fun h => absurd trivial h⟩
          refine freeI_run (v := .int .i64 (ga : Int)) rfl hf (by decide) ?_ rfl
          go_simp
        · intro L ax W hf hLi hno hd
          simp [Region.binds] at hd
          have e112 : ax.tmps[112]?.getD undef = .int .i64 (ga : Int) := slv (hf.got 11 (by decide) (by simp [hd]))
          refine ⟨fun _ => ?_, fun h => absurd trivial h⟩
          refine freeI_run (v := .int .u64 (ga : Int)) rfl hf (by decide) ?_ rfl
          go_simp
        · intro L ax W hf hLi hno hd
          simp [Region.binds] at hd
          have e111 : ax.tmps[111]?.getD undef = .int .u64 (e1.toNat : Int) := slv (hf.got 10 (by decide) (by simp [hd]))
          have e113 : ax.tmps[113]?.getD undef = .int .u64 (ga : Int) := slv (hf.got 12 (by decide) (by simp [hd]))
          refine ⟨fun _ => ?_, fun h => absurd trivial h⟩
          refine freeI_run (v := .int .u64 (e2.toNat : Int)) rfl hf (by decide) ?_ rfl
          go_simp
        · intro L ax W hf hLi hno hd
          simp [Region.binds] at hd
          have e106 : ax.tmps[106]?.getD undef = .agg (hashA nm) := slv (hf.got 5 (by decide) (by simp [hd]))
          have e114 : ax.tmps[114]?.getD undef = .int .u64 (e2.toNat : Int) := slv (hf.got 13 (by decide) (by simp [hd]))
          refine ⟨fun _ => ?_, fun h => absurd trivial h⟩
          have hG : HDeep wr w0.heap.size cb (dm ga n) (dm ga (n + 1)) ⟨none, 0, 0⟩ [] ⟨some ⟨bl, 0, none⟩, n + 1, lc⟩ (mPts ga n) p2 [L 15, L 19, L 20] [sl ax 116, sl ax 19, sl ax 326] W := hf.glob
          have hbd := run_bldHd nm e2 W
          refine freeI_run (v := .agg (headerA ⟨nm, e2, ⟨none, 0, 0⟩⟩)) rfl hf (by decide) ?_ rfl
          go_simp
        · intro L ax W hf hLi hno hd
          simp [Region.binds] at hd
          have e101 : ax.tmps[101]?.getD undef = .pointer (some ⟨cb, 0, none⟩) := slv (hf.got 0 (by decide) (by simp [hd]))
          have e115 : ax.tmps[115]?.getD undef = .agg (headerA ⟨nm, e2, ⟨none, 0, 0⟩⟩) := slv (hf.got 14 (by decide) (by simp [hd]))
          refine ⟨fun _ => ?_, fun h => absurd trivial h⟩
          have hG : HDeep wr w0.heap.size cb (dm ga n) (dm ga (n + 1)) ⟨none, 0, 0⟩ [] ⟨some ⟨bl, 0, none⟩, n + 1, lc⟩ (mPts ga n) p2 [L 15, L 19, L 20] [sl ax 116, sl ax 19, sl ax 326] W := hf.glob
          refine freeI_call (f := 35) (args := #[.pointer (some ⟨cb, 0, none⟩), .agg (headerA ⟨nm, e2, ⟨none, 0, 0⟩⟩)]) rfl (by go_simp) ?_
          refine (hG.call hLi (hno 20 (by decide)) hokn.out (bare_r W nm e2) (bare_fits nm e2) hchk.out hadd.out).mono ?_
          rintro e w' ⟨rfl, hH⟩
          exact ⟨_, rfl, rfl, hH _⟩
        · intro L ax W hf hLi hno hd
          simp [Region.binds] at hd
          have f116 : (fun v => v = .tuple #[.agg (pointA p2), .int .i64 0]) (sl ax 116) := hf.got 15 (by decide) (by simp [hd])
          refine ⟨fun _ => ?_, fun h => absurd trivial h⟩
          have hG : HDeep wr w0.heap.size cb (dm ga n) (dm ga (n + 1)) ⟨none, 0, 0⟩ [] ⟨some ⟨bl, 0, none⟩, n + 1, lc⟩ (mPts ga n) p2 [L 15, L 19, L 20] [sl ax 116, sl ax 19, sl ax 326] W := hf.glob
          have e116 : ax.tmps[116]?.getD undef = .tuple #[.agg (pointA p2), .int .i64 0] := slv f116
          refine freeI_run (v := .tuple #[.agg (pointA p2), .int .i64 0]) rfl hf (by decide) ?_ rfl
          go_simp
        · intro L ax W hf hLi hno hd
          simp [Region.binds] at hd
          have e100 : ax.tmps[100]?.getD undef = .tuple #[.agg (pointA p2), .int .i64 0] := slv (hf.got 16 (by decide) (by simp [hd]))
          refine ⟨fun _ => ?_, fun h => absurd trivial h⟩
          refine freeI_run (v := .agg (pointA p2)) rfl hf (by decide) ?_ rfl
          go_simp
        · intro L ax W hf hLi hno hd
          simp [Region.binds] at hd
          have e100 : ax.tmps[100]?.getD undef = .tuple #[.agg (pointA p2), .int .i64 0] := slv (hf.got 16 (by decide) (by simp [hd]))
          refine ⟨fun _ => ?_, fun h => absurd trivial h⟩
          refine freeI_run (v := .int .i64 0) rfl hf (by decide) ?_ rfl
          go_simp
        · intro L ax W hf hLi hno hd
          try simp [Region.binds] at hd
          refine ⟨fun _ => ?_, fun h => absurd trivial h⟩
          have hG : HDeep wr w0.heap.size cb (dm ga n) (dm ga (n + 1)) ⟨none, 0, 0⟩ [] ⟨some ⟨bl, 0, none⟩, n + 1, lc⟩ (mPts ga n) p2 [L 15, L 19, L 20] [sl ax 116, sl ax 19, sl ax 326] W := hf.glob
          refine freeI_val (v := .pointer (some ⟨W.heap.size, 0, none⟩)) (W' := W.alloc (.cells (pointA zeroPt) 26)) rfl ?_ ⟨_, rfl⟩ (hG.alloc hLi (hno 20 (by decide)) _)
          go_simp
        · intro L ax W hf hLi hno hd
          simp [Region.binds] at hd
          have f19 : (fun v => ∃ b, v = .pointer (some ⟨b, 0, none⟩)) (sl ax 19) := hf.got 19 (by decide) (by simp [hd])
          have e117 : ax.tmps[117]?.getD undef = .agg (pointA p2) := slv (hf.got 17 (by decide) (by simp [hd]))
          refine ⟨fun _ => ?_, fun h => absurd trivial h⟩
          have hG : HDeep wr w0.heap.size cb (dm ga n) (dm ga (n + 1)) ⟨none, 0, 0⟩ [] ⟨some ⟨bl, 0, none⟩, n + 1, lc⟩ (mPts ga n) p2 [L 15, L 19, L 20] [sl ax 116, sl ax 19, sl ax 326] W := hf.glob
          have hl : L 19 = true := by simp [hd]
          obtain ⟨b, e19⟩ := f19
          have e19' := slv e19
          obtain ⟨hth, hH⟩ := hG.store hl hLi hlC.out hlC2.out e19
          refine freeI_store (W' := putRow W b 0 (pointA p2)) rfl ?_ trivial hH
          go_simp
        · intro L ax W hf hLi hno hd
          simp [Region.binds] at hd
          have e118 : ax.tmps[118]?.getD undef = .int .i64 0 := slv (hf.got 18 (by decide) (by simp [hd]))
          refine ⟨fun _ => ?_, fun h => absurd trivial h⟩
          refine freeI_run (v := .int .i64 0) rfl hf (by decide) ?_ rfl
          go_simp
      · intro vs w4 hl' hF hG
        obtain ⟨g', hg1, hg2⟩ := vs_litI vs hl' hF
        obtain ⟨b19, hv19, hD4, hr19, hz19⟩ := hG.put rfl
        have e19 : g' 19 = .pointer (some ⟨b19, 0, none⟩) := by rw [hg1] at hv19; exact hv19
        have e21 : g' 21 = .int .i64 0 := hg2 21 (by decide)
        have hB4 := Lib.hid (hB.out.trans hG.bel)
        replace hD4 : DpS w0.heap.size cb (dm ga (n + 1)) ⟨none, 0, 0⟩ [] ⟨some ⟨bl, 0, none⟩, n + 1, lc⟩ (mPts ga n) w4 := hD4
        obtain ⟨t2, w5, hrun, hD5, hB45⟩ := hD4.app (by rw [mPts_length]; omega) hlC2.out p2
        rw [hp2'.out, ← mPts_succ] at hD5
        obtain ⟨bl2, hbl2, -⟩ := OwnPt.block hD5.ts (by intro e; have := congrArg List.length e; rw [mPts_length] at this; cases this)
        have hn2 := (OwnPt.reads hD5.ts).1
        rw [mPts_length] at hn2
        obtain ⟨ta, tn, tc⟩ := t2
        dsimp only at hbl2 hn2
        subst hbl2 hn2
        have hB5 := Lib.hid (hB4.out.trans hB45)
        have hbs := bsPt_one p2 w4
        replace hD5 := Lib.hid hD5
        dsimp only [Sl.v] at hrun
        rw [hg1]
        simp only [List.length_cons, List.length_nil, Nat.reduceAdd, show List.range 22 = [0, 1, 2, 3, 4, 5, 6, 7, 8, 9, 10, 11, 12, 13, 14, 15, 16, 17, 18, 19, 20, 21] from rfl, List.map_cons, List.map_nil, slotsIn, putL, List.setIfInBounds_toArray, List.set_cons_succ, List.set_cons_zero, List.size_toArray, Nat.reduceLT, if_true, if_false, e19, e21]
        clear hg1 hg2 hG hF hl' hv19 e19 e21 hD4 hB45 hB4 hDp hB hrd hsum
        go_wp2_with fail
        go_roundw
        case rel => exact ⟨n + 1, bl2, tc, by have := hnl2.out; omega, by go_num, rfl, hD5, hB5⟩
        case measure => have := hnl2.out; simp [intOf]; omega
    · obtain rfl : lo = n := by omega
      have hnl3 : ¬ (lo : Int) < (lo : Int) := by omega
      have hat := (hDp.out.ts.at (k := at1) (by rw [mPts_length]; omega)).1
      rw [mPts_get] at hat
      obtain ⟨pa, hpa⟩ : ∃ x, x = mPt ga at1 := ⟨_, rfl⟩
      rw [← hpa] at hat
      have a0 : (0 : Int) ≤ (at1 : Int) := by omega
      have a1 : (at1 : Int) < (lo : Int) + 1 := by omega
      have hbs := bsPt_one pa wr
      have hD6 := Lib.hid (show DpS w0.heap.size cb (de ga lo at1 0) ⟨some ⟨bl, 0, none⟩, lo + 1, lc⟩ (mPts ga lo) ⟨some ⟨wr.heap.size, 0, none⟩, 0 + 1, 1⟩ (oPts ga at1 0) (wr.alloc (.cells (pointA pa) 26)) from by
        rw [show de ga lo at1 0 = dm ga lo by simp [de], oPts_zero, ← hpa]
        exact hDp.out.lit2 pa)
      have hB6 := Lib.hid (hB.out.trans ((bel_a wr (.cells (pointA pa) 26)).mono hB.out.size))
      replace hpa := Lib.hid hpa
      clear hn
      go_upto_region 15 with fail
      obtain ⟨bm0, hbm0⟩ : ∃ b, b = wr.heap.size := ⟨_, rfl⟩
      rw [← hbm0] at hD6 hbs ⊢
      generalize wr.alloc (.cells (pointA pa) 26) = w6 at *
      clear hbs hat hbm0 hDp hB hnl3 hpa a0 a1
      obtain ⟨al, rfl⟩ : ∃ x, x = bl := ⟨_, rfl⟩
      obtain ⟨cl, rfl⟩ : ∃ x, x = lc := ⟨_, rfl⟩
      go_wp2_with fail
      go_loopw [21, 22] (fun v x W' => ∃ (n bl lc : Nat), n ≤ ot ∧ x = .int .i64 n ∧ v = .slice (some ⟨bl, 0, none⟩) (n + 1) lc ∧ Hid (DpS w0.heap.size cb (de ga lo at1 n) ⟨some ⟨al, 0, none⟩, lo + 1, cl⟩ (mPts ga lo) ⟨some ⟨bl, 0, none⟩, n + 1, lc⟩ (oPts ga at1 n) W') ∧ Hid (Below w0.heap.size w0 W')) (fun _ x _ => ot - (intOf x).toNat)
      case atStart => exact ⟨0, bm0, 1, Nat.zero_le _, rfl, rfl, hD6, hB6⟩
      case round =>
      obtain ⟨n, bl, lc, hn, rfl, rfl, hDp, hB⟩ := hrel
      clear hD6 hB6
      by_cases hnl : n < ot
      · have n0 : (0 : Int) ≤ (n : Int) := by omega
        have n1' : (n : Int) < (ot : Int) := by omega
        have n2 : (n : Int) < (n : Int) + 1 := by omega
        obtain ⟨nm, hnm⟩ : ∃ x, x = onH ga at1 n := ⟨_, rfl⟩
        obtain ⟨e1, he1⟩ : ∃ x, x = (oPt ga at1 n).epoch := ⟨_, rfl⟩
        obtain ⟨em, hem⟩ : ∃ x, x = UInt64.ofNat (oEp ga at1 n + ga) := ⟨_, rfl⟩
        obtain ⟨e2, he2⟩ : ∃ x, x = UInt64.ofNat (oEp ga at1 (n + 1)) := ⟨_, rfl⟩
        obtain ⟨p2, hp2⟩ : ∃ x, x = oPt ga at1 (n + 1) := ⟨_, rfl⟩
        have hrd := fun W (h : OwnPt W w0.heap.size (.slice (some ⟨bl, 0, none⟩) (n + 1) lc) (oPts ga at1 n)) => show row? W bl (n * 33 + 1) 32 = some (hashA nm) ∧ W.cell? ⟨bl, n * 33, none⟩ = some (.int .u64 (e1.toNat : Int)) from by
          obtain ⟨-, a2, a3⟩ := h.at (k := n) (by rw [oPts_length]; omega)
          rw [oPts_get] at a2 a3
          rw [hnm, he1]
          exact ⟨a2, a3⟩
        have hE1 : oEp ga at1 (n + 1) = oEp ga at1 n + ga + 1 := by unfold oEp; rw [Nat.add_mul n]; omega
        have hE2 := oEp_small q6 (show at1 ≤ 400 by omega) (show n + 1 ≤ 100 by omega)
        have hsum : IntKind.u64.wrap ((e1.toNat : Int) + (ga : Int)) = (em.toNat : Int) := by
          rw [he1, hem, oPt_epoch q6 (by omega) (by omega), ofNat_small (by omega), IntKind.wrap_u64]
          omega
        have hsum2 : IntKind.u64.wrap ((em.toNat : Int) + 1) = (e2.toNat : Int) := by
          rw [hem, he2, ofNat_small (by omega), ofNat_small (by omega), IntKind.wrap_u64]
          omega
        have hokn := Lib.hid (de_ok q5 q6 q2 q3 n (by omega))
        have hca := de_ok_add q5 q6 q2 q3 (show n < 100 by omega) hokn.out
        have hchk := Lib.hid (show chCheck (de ga lo at1 n) ⟨nm, e2, []⟩ = (p2, 0) from by rw [hnm, he2, hp2]; exact hca.1)
        have hadd := Lib.hid (show chAdd (de ga lo at1 n) ⟨nm, e2, []⟩ = de ga lo at1 (n + 1) from by rw [hnm, he2]; exact hca.2)
        have hlC := Lib.hid (show (de ga lo at1 n).length ≤ 100000 by rw [de_length]; omega)
        have hlC2 := Lib.hid (show (de ga lo at1 (n + 1)).length ≤ 100000 by rw [de_length]; omega)
        have hp2' := Lib.hid hp2
        have hnl2 := Lib.hid hnl
        clear hnm he1 he2 hem hp2 hca hnl hE1 hE2
        go_upto_region 18 with fail
        refine wp_region_freeI_l (by kernel_rfl) [136, 137, 138, 139, 140, 141, 142, 143, 144, 145, 146, 147, 148, 149, 150, 151, 152, 135, 153, 154, 23, 327, 24]
          [(fun v => v = .pointer (some ⟨cb, 0, none⟩)), (fun v => v = .slice (some ⟨bl, 0, none⟩) (n + 1) lc), (fun v => v = .int .i64 (n : Int)), (fun v => v = .pointer (some ⟨bl, n * 33, none⟩)), (fun v => v = .pointer (some ⟨bl, n * 33 + 1, none⟩)), (fun v => v = .agg (hashA nm)), (fun v => v = .slice (some ⟨bl, 0, none⟩) (n + 1) lc), (fun v => v = .int .i64 (n : Int)), (fun v => v = .pointer (some ⟨bl, n * 33, none⟩)), (fun v => v = .pointer (some ⟨bl, n * 33, none⟩)), (fun v => v = .int .u64 (e1.toNat : Int)), (fun v => v = .int .i64 (ga : Int)), (fun v => v = .int .u64 (ga : Int)), (fun v => v = .int .u64 (em.toNat : Int)), (fun v => v = .int .u64 (e2.toNat : Int)), (fun v => v = .agg (headerA ⟨nm, e2, ⟨none, 0, 0⟩⟩)), (fun v => v = .tuple #[.agg (pointA p2), .int .i64 0]), (fun v => v = .tuple #[.agg (pointA p2), .int .i64 0]), (fun v => v = .agg (pointA p2)), (fun v => v = .int .i64 0), (fun v => ∃ b, v = .pointer (some ⟨b, 0, none⟩)), (fun _ => True), (fun v => v = .int .i64 0)]
          [16, 20, 21] (HDeep wr w0.heap.size cb (de ga lo at1 n) (de ga lo at1 (n + 1)) ⟨some ⟨al, 0, none⟩, lo + 1, cl⟩ (mPts ga lo) ⟨some ⟨bl, 0, none⟩, n + 1, lc⟩ (oPts ga at1 n) p2) [[16, 17, 18, 19, 21, 22], [3, 4, 5, 15, 16, 17, 18, 19, 21, 22], [3, 4, 5, 15, 16, 17, 18, 19, 21, 22], [4, 5, 15, 16, 17, 18, 19, 21, 22], [5, 15, 16, 17, 18, 19, 21, 22], [15, 16, 17, 18, 19, 21, 22], [8, 9, 10, 13, 14, 15, 16, 17, 18, 19, 21, 22], [8, 9, 10, 13, 14, 15, 16, 17, 18, 19, 21, 22], [9, 10, 13, 14, 15, 16, 17, 18, 19, 21, 22], [10, 13, 14, 15, 16, 17, 18, 19, 21, 22], [13, 14, 15, 16, 17, 18, 19, 21, 22], [12, 13, 14, 15, 16, 17, 18, 19, 21, 22], [13, 14, 15, 16, 17, 18, 19, 21, 22], [14, 15, 16, 17, 18, 19, 21, 22], [15, 16, 17, 18, 19, 21, 22], [16, 17, 18, 19, 21, 22], [17, 18, 19, 21, 22], [18, 19, 21, 22], [21], [22], [21], [], []] (by kernel_rfl) (by kernel_rfl) ?_ ?_ ?_
        · show HDeep wr w0.heap.size cb (de ga lo at1 n) (de ga lo at1 (n + 1)) ⟨some ⟨al, 0, none⟩, lo + 1, cl⟩ (mPts ga lo) ⟨some ⟨bl, 0, none⟩, n + 1, lc⟩ (oPts ga at1 n) p2 [false, false, false] [_, _, _] _
          exact HDeep.zero hDp.out _
        · refine ⟨?_, ?_, ?_, ?_, ?_, ?_, ?_, ?_, ?_, ?_, ?_, ?_, ?_, ?_, ?_, ?_, ?_, ?_, ?_, ?_, ?_, ?_, ?_, trivial⟩
          · intro L ax W hf hLi hno hd
            try simp [Region.binds] at hd
            have e15 : ax.tmps[15]?.getD undef = .pointer (some ⟨cb, 0, none⟩) := hf.out 15 (by decide) rfl
            refine ⟨fun _ => ?_, fun h => absurd trivial h⟩
            refine freeI_run (v := .pointer (some ⟨cb, 0, none⟩)) rfl hf (by decide) ?_ rfl
            go_simp
          · intro L ax W hf hLi hno hd
            try simp [Region.binds] at hd
            have e21 : ax.tmps[21]?.getD undef = .slice (some ⟨bl, 0, none⟩) (n + 1) lc := hf.out 21 (by decide) rfl
            refine ⟨fun _ => ?_, fun h => absurd trivial h⟩
            refine freeI_run (v := .slice (some ⟨bl, 0, none⟩) (n + 1) lc) rfl hf (by decide) ?_ rfl
            go_simp
          · intro L ax W hf hLi hno hd
            try simp [Region.binds] at hd
            have e22 : ax.tmps[22]?.getD undef = .int .i64 (n : Int) := hf.out 22 (by decide) rfl
            refine ⟨fun _ => ?_, fun h => absurd trivial h⟩
            refine freeI_run (v := .int .i64 (n : Int)) rfl hf (by decide) ?_ rfl
            go_simp
          · intro L ax W hf hLi hno hd
            simp [Region.binds] at hd
            have e137 : ax.tmps[137]?.getD undef = .slice (some ⟨bl, 0, none⟩) (n + 1) lc := slv (hf.got 1 (by decide) (by simp [hd]))
            have e138 : ax.tmps[138]?.getD undef = .int .i64 (n : Int) := slv (hf.got 2 (by decide) (by simp [hd]))
            refine ⟨fun _ => ?_, fun h => absurd trivial h⟩
            refine freeI_run (v := .pointer (some ⟨bl, n * 33, none⟩)) rfl hf (by decide) ?_ rfl
            go_simp
          · intro L ax W hf hLi hno hd
            simp [Region.binds] at hd
            have e139 : ax.tmps[139]?.getD undef = .pointer (some ⟨bl, n * 33, none⟩) := slv (hf.got 3 (by decide) (by simp [hd]))
            refine ⟨fun _ => ?_, fun h => absurd trivial h⟩
            refine freeI_run (v := .pointer (some ⟨bl, n * 33 + 1, none⟩)) rfl hf (by decide) ?_ rfl
            go_simp
          · intro L ax W hf hLi hno hd
            simp [Region.binds] at hd
            have e140 : ax.tmps[140]?.getD undef = .pointer (some ⟨bl, n * 33 + 1, none⟩) := slv (hf.got 4 (by decide) (by simp [hd]))
            refine ⟨fun _ => ?_, fun h => absurd trivial h⟩
            have hG : HDeep wr w0.heap.size cb (de ga lo at1 n) (de ga lo at1 (n + 1)) ⟨some ⟨al, 0, none⟩, lo + 1, cl⟩ (mPts ga lo) ⟨some ⟨bl, 0, none⟩, n + 1, lc⟩ (oPts ga at1 n) p2 [L 16, L 20, L 21] [sl ax 152, sl ax 23, sl ax 327] W := hf.glob
            obtain ⟨h1, h2⟩ := hrd W (hG.own (hno 21 (by decide)))
            refine freeI_run (v := .agg (hashA nm)) rfl hf (by decide) ?_ rfl
            go_simp
          · intro L ax W hf hLi hno hd
            try simp [Region.binds] at hd
            have e21 : ax.tmps[21]?.getD undef = .slice (some ⟨bl, 0, none⟩) (n + 1) lc := hf.out 21 (by decide) rfl
            refine ⟨fun _ => ?_, fun h => absurd trivial h⟩
            refine freeI_run (v := .slice (some ⟨bl, 0, none⟩) (n + 1) lc) rfl hf (by decide) ?_ rfl
            go_simp
          · intro L ax W hf hLi hno hd
            try simp [Region.binds] at hd
            have e22 : ax.tmps[22]?.getD undef = .int .i64 (n : Int) := hf.out 22 (by decide) rfl
            refine ⟨fun _ => ?_, fun h => absurd trivial h⟩
            refine freeI_run (v := .int .i64 (n : Int)) rfl hf (by decide) ?_ rfl
            go_simp
          · intro L ax W hf hLi hno hd
            simp [Region.binds] at hd
            have e142 : ax.tmps[142]?.getD undef = .slice (some ⟨bl, 0, none⟩) (n + 1) lc := slv (hf.got 6 (by decide) (by simp [hd]))
            have e143 : ax.tmps[143]?.getD undef = .int .i64 (n : Int) := slv (hf.got 7 (by decide) (by simp [hd]))
            refine ⟨fun _ => ?_, fun h => absurd trivial h⟩
            refine freeI_run (v := .pointer (some ⟨bl, n * 33, none⟩)) rfl hf (by decide) ?_ rfl
            go_simp
          · intro L ax W hf hLi hno hd
            simp [Region.binds] at hd
            have e144 : ax.tmps[144]?.getD undef = .pointer (some ⟨bl, n * 33, none⟩) := slv (hf.got 8 (by decide) (by simp [hd]))
            refine ⟨fun _ => ?_, fun h => absurd trivial h⟩
            refine freeI_run (v := .pointer (some ⟨bl, n * 33, none⟩)) rfl hf (by decide) ?_ rfl
            go_simp
          · intro L ax W hf hLi hno hd
            simp [Region.binds] at hd
            have e145 : ax.tmps[145]?.getD undef = .pointer (some ⟨bl, n * 33, none⟩) := slv (hf.got 9 (by decide) (by simp [hd]))
            refine ⟨fun _ => ?_, fun h => absurd trivial h⟩
            have hG : HDeep wr w0.heap.size cb (de ga lo at1 n) (de ga lo at1 (n + 1)) ⟨some ⟨al, 0, none⟩, lo + 1, cl⟩ (mPts ga lo) ⟨some ⟨bl, 0, none⟩, n + 1, lc⟩ (oPts ga at1 n) p2 [L 16, L 20, L 21] [sl ax 152, sl ax 23, sl ax 327] W := hf.glob
            obtain ⟨h1, h2⟩ := hrd W (hG.own (hno 21 (by decide)))
            refine freeI_run (v := .int .u64 (e1.toNat : Int)) rfl hf (by decide) ?_ rfl
            go_simp
          · intro L ax W hf hLi hno hd
            try simp [Region.binds] at hd
            have e3 : ax.tmps[3]?.getD undef = .int .i64 (ga : Int) := hf.out 3 (by decide) rfl
            refine ⟨fun _ => ?_, fun h => absurd trivial h⟩
            refine freeI_run (v := .int .i64 (ga : Int)) rfl hf (by decide) ?_ rfl
            go_simp
          · intro L ax W hf hLi hno hd
            simp [Region.binds] at hd
            have e147 : ax.tmps[147]?.getD undef = .int .i64 (ga : Int) := slv (hf.got 11 (by decide) (by simp [hd]))
            refine ⟨fun _ => ?_, fun h => absurd trivial h⟩
            refine freeI_run (v := .int .u64 (ga : Int)) rfl hf (by decide) ?_ rfl
            go_simp
          · intro L ax W hf hLi hno hd
            simp [Region.binds] at hd
            have e146 : ax.tmps[146]?.getD undef = .int .u64 (e1.toNat : Int) := slv (hf.got 10 (by decide) (by simp [hd]))
            have e148 : ax.tmps[148]?.getD undef = .int .u64 (ga : Int) := slv (hf.got 12 (by decide) (by simp [hd]))
            refine ⟨fun _ => ?_, fun h => absurd trivial h⟩
            refine freeI_run (v := .int .u64 (em.toNat : Int)) rfl hf (by decide) ?_ rfl
            go_simp
          · intro L ax W hf hLi hno hd
            simp [Region.binds] at hd
            have e149 : ax.tmps[149]?.getD undef = .int .u64 (em.toNat : Int) := slv (hf.got 13 (by decide) (by simp [hd]))
            refine ⟨fun _ => ?_, fun h => absurd trivial h⟩
            refine freeI_run (v := .int .u64 (e2.toNat : Int)) rfl hf (by decide) ?_ rfl
            go_simp
          · intro L ax W hf hLi hno hd
            simp [Region.binds] at hd
            have e141 : ax.tmps[141]?.getD undef = .agg (hashA nm) := slv (hf.got 5 (by decide) (by simp [hd]))
            have e150 : ax.tmps[150]?.getD undef = .int .u64 (e2.toNat : Int) := slv (hf.got 14 (by decide) (by simp [hd]))
            refine ⟨fun _ => ?_, fun h => absurd trivial h⟩
            have hG : HDeep wr w0.heap.size cb (de ga lo at1 n) (de ga lo at1 (n + 1)) ⟨some ⟨al, 0, none⟩, lo + 1, cl⟩ (mPts ga lo) ⟨some ⟨bl, 0, none⟩, n + 1, lc⟩ (oPts ga at1 n) p2 [L 16, L 20, L 21] [sl ax 152, sl ax 23, sl ax 327] W := hf.glob
            have hbd := run_bldHd nm e2 W
            refine freeI_run (v := .agg (headerA ⟨nm, e2, ⟨none, 0, 0⟩⟩)) rfl hf (by decide) ?_ rfl
            go_simp
          · intro L ax W hf hLi hno hd
            simp [Region.binds] at hd
            have e136 : ax.tmps[136]?.getD undef = .pointer (some ⟨cb, 0, none⟩) := slv (hf.got 0 (by decide) (by simp [hd]))
            have e151 : ax.tmps[151]?.getD undef = .agg (headerA ⟨nm, e2, ⟨none, 0, 0⟩⟩) := slv (hf.got 15 (by decide) (by simp [hd]))
            refine ⟨fun _ => ?_, fun h => absurd trivial h⟩
            have hG : HDeep wr w0.heap.size cb (de ga lo at1 n) (de ga lo at1 (n + 1)) ⟨some ⟨al, 0, none⟩, lo + 1, cl⟩ (mPts ga lo) ⟨some ⟨bl, 0, none⟩, n + 1, lc⟩ (oPts ga at1 n) p2 [L 16, L 20, L 21] [sl ax 152, sl ax 23, sl ax 327] W := hf.glob
            refine freeI_call (f := 35) (args := #[.pointer (some ⟨cb, 0, none⟩), .agg (headerA ⟨nm, e2, ⟨none, 0, 0⟩⟩)]) rfl (by go_simp) ?_
            refine (hG.call hLi (hno 21 (by decide)) hokn.out (bare_r W nm e2) (bare_fits nm e2) hchk.out hadd.out).mono ?_
            rintro e w' ⟨rfl, hH⟩
            exact ⟨_, rfl, rfl, hH _⟩
          · intro L ax W hf hLi hno hd
            simp [Region.binds] at hd
            have f152 : (fun v => v = .tuple #[.agg (pointA p2), .int .i64 0]) (sl ax 152) := hf.got 16 (by decide) (by simp [hd])
            refine ⟨fun _ => ?_, fun h => absurd trivial h⟩
            have hG : HDeep wr w0.heap.size cb (de ga lo at1 n) (de ga lo at1 (n + 1)) ⟨some ⟨al, 0, none⟩, lo + 1, cl⟩ (mPts ga lo) ⟨some ⟨bl, 0, none⟩, n + 1, lc⟩ (oPts ga at1 n) p2 [L 16, L 20, L 21] [sl ax 152, sl ax 23, sl ax 327] W := hf.glob
            have e152 : ax.tmps[152]?.getD undef = .tuple #[.agg (pointA p2), .int .i64 0] := slv f152
            refine freeI_run (v := .tuple #[.agg (pointA p2), .int .i64 0]) rfl hf (by decide) ?_ rfl
            go_simp
          · intro L ax W hf hLi hno hd
            simp [Region.binds] at hd
            have e135 : ax.tmps[135]?.getD undef = .tuple #[.agg (pointA p2), .int .i64 0] := slv (hf.got 17 (by decide) (by simp [hd]))
            refine ⟨fun _ => ?_, fun h => absurd trivial h⟩
            refine freeI_run (v := .agg (pointA p2)) rfl hf (by decide) ?_ rfl
            go_simp
          · intro L ax W hf hLi hno hd
            simp [Region.binds] at hd
            have e135 : ax.tmps[135]?.getD undef = .tuple #[.agg (pointA p2), .int .i64 0] := slv (hf.got 17 (by decide) (by simp [hd]))
            refine ⟨fun _ => ?_, fun h => absurd trivial h⟩
            refine freeI_run (v := .int .i64 0) rfl hf (by decide) ?_ rfl
            go_simp
          · intro L ax W hf hLi hno hd
            try simp [Region.binds] at hd
            refine ⟨fun _ => ?_, fun h => absurd trivial h⟩
            have hG : HDeep wr w0.heap.size cb (de ga lo at1 n) (de ga lo at1 (n + 1)) ⟨some ⟨al, 0, none⟩, lo + 1, cl⟩ (mPts ga lo) ⟨some ⟨bl, 0, none⟩, n + 1, lc⟩ (oPts ga at1 n) p2 [L 16, L 20, L 21] [sl ax 152, sl ax 23, sl ax 327] W := hf.glob
            refine freeI_val (v := .pointer (some ⟨W.heap.size, 0, none⟩)) (W' := W.alloc (.cells (pointA zeroPt) 26)) rfl ?_ ⟨_, rfl⟩ (hG.alloc hLi (hno 21 (by decide)) _)
            go_simp
          · intro L ax W hf hLi hno hd
            simp [Region.binds] at hd
            have f23 : (fun v => ∃ b, v = .pointer (some ⟨b, 0, none⟩)) (sl ax 23) := hf.got 20 (by decide) (by simp [hd])
            have e153 : ax.tmps[153]?.getD undef = .agg (pointA p2) := slv (hf.got 18 (by decide) (by simp [hd]))
            refine ⟨fun _ => ?_, fun h => absurd trivial h⟩
            have hG : HDeep wr w0.heap.size cb (de ga lo at1 n) (de ga lo at1 (n + 1)) ⟨some ⟨al, 0, none⟩, lo + 1, cl⟩ (mPts ga lo) ⟨some ⟨bl, 0, none⟩, n + 1, lc⟩ (oPts ga at1 n) p2 [L 16, L 20, L 21] [sl ax 152, sl ax 23, sl ax 327] W := hf.glob
            have hl : L 20 = true := by simp [hd]
            obtain ⟨b, e23⟩ := f23
            have e23' := slv e23
            obtain ⟨hth, hH⟩ := hG.store hl hLi hlC.out hlC2.out e23
            refine freeI_store (W' := putRow W b 0 (pointA p2)) rfl ?_ trivial hH
            go_simp
          · intro L ax W hf hLi hno hd
            simp [Region.binds] at hd
            have e154 : ax.tmps[154]?.getD undef = .int .i64 0 := slv (hf.got 19 (by decide) (by simp [hd]))
            refine ⟨fun _ => ?_, fun h => absurd trivial h⟩
            refine freeI_run (v := .int .i64 0) rfl hf (by decide) ?_ rfl
            go_simp
        · intro vs w4 hl' hF hG
          obtain ⟨g', hg1, hg2⟩ := vs_litI vs hl' hF
          obtain ⟨b19, hv19, hD4, hr19, hz19⟩ := hG.put rfl
          have e19 : g' 20 = .pointer (some ⟨b19, 0, none⟩) := by rw [hg1] at hv19; exact hv19
          have e21 : g' 22 = .int .i64 0 := hg2 22 (by decide)
          have hB4 := Lib.hid (hB.out.trans hG.bel)
          replace hD4 : DpS w0.heap.size cb (de ga lo at1 (n + 1)) ⟨some ⟨al, 0, none⟩, lo + 1, cl⟩ (mPts ga lo) ⟨some ⟨bl, 0, none⟩, n + 1, lc⟩ (oPts ga at1 n) w4 := hD4
          obtain ⟨t2, w5, hrun, hD5, hB45⟩ := hD4.app (by rw [oPts_length]; omega) hlC2.out p2
          rw [hp2'.out, ← oPts_succ] at hD5
          obtain ⟨bl2, hbl2, -⟩ := OwnPt.block hD5.ts (by intro e; have := congrArg List.length e; rw [oPts_length] at this; cases this)
          have hn2 := (OwnPt.reads hD5.ts).1
          rw [oPts_length] at hn2
          obtain ⟨ta, tn, tc⟩ := t2
          dsimp only at hbl2 hn2
          subst hbl2 hn2
          have hB5 := Lib.hid (hB4.out.trans hB45)
          have hbs := bsPt_one p2 w4
          replace hD5 := Lib.hid hD5
          dsimp only [Sl.v] at hrun
          rw [hg1]
          simp only [List.length_cons, List.length_nil, Nat.reduceAdd, show List.range 23 = [0, 1, 2, 3, 4, 5, 6, 7, 8, 9, 10, 11, 12, 13, 14, 15, 16, 17, 18, 19, 20, 21, 22] from rfl, List.map_cons, List.map_nil, slotsIn, putL, List.setIfInBounds_toArray, List.set_cons_succ, List.set_cons_zero, List.size_toArray, Nat.reduceLT, if_true, if_false, e19, e21]
          clear hg1 hg2 hG hF hl' hv19 e19 e21 hD4 hB45 hB4 hDp hB hrd hsum hsum2
          go_wp2_with fail
          go_roundw
          case rel => exact ⟨n + 1, bl2, tc, by have := hnl2.out; omega, by go_num, rfl, hD5, hB5⟩
          case measure => have := hnl2.out; simp [intOf]; omega
      · obtain rfl : ot = n := by omega
        have hnl4 : ¬ (ot : Int) < (ot : Int) := by omega
        have hal := (OwnC.lt hDp.out.ls al rfl).2
        have hbl := (OwnC.lt hDp.out.ts bl rfl).2
        have hok := Lib.hid (de_ok q5 q6 q2 q3 ot q4)
        obtain ⟨TR, hR0⟩ := hDp.out.real
        have hR := Lib.hid hR0
        obtain ⟨-, rni, -⟩ := hDp.out.ls.at (k := i) (by rw [mPts_length]; omega)
        obtain ⟨-, rnk, -⟩ := hDp.out.ls.at (k := k) (by rw [mPts_length]; omega)
        obtain ⟨-, rnl, -⟩ := hDp.out.ls.at (k := lo) (by rw [mPts_length]; omega)
        obtain ⟨rpe, -, -⟩ := hDp.out.ts.at (k := ot) (by rw [oPts_length]; omega)
        rw [mPts_get, mPt_name] at rni rnk rnl
        rw [oPts_get] at rpe
        have u1 := deep_under q5 q6 q2 q3 q4 q7 q8
        have u2e := deep_under2 q5 q6 q2 q3 q4 q7
        have u3e := Lib.hid fun h0 => deep_under3 q5 q6 q2 q3 q4 q7 h0
        obtain ⟨pe, hpe⟩ : ∃ x, x = oPt ga at1 ot := ⟨_, rfl⟩
        have hpen : pe.name = onH ga at1 ot := by rw [hpe]; rfl
        rw [← hpe] at rpe
        obtain ⟨ne, hne⟩ : ∃ x, x = onH ga at1 ot := ⟨_, rfl⟩
        obtain ⟨ni, hni⟩ : ∃ x, x = mnH ga i := ⟨_, rfl⟩
        obtain ⟨nk, hnk⟩ : ∃ x, x = mnH ga k := ⟨_, rfl⟩
        obtain ⟨nl, hnl5⟩ : ∃ x, x = mnH ga lo := ⟨_, rfl⟩
        rw [← hni] at rni u1 u2e
        rw [← hnk] at rnk u1
        rw [← hnl5] at rnl
        rw [← hne] at u2e hpen
        obtain ⟨u, hu⟩ : ∃ u, u = decide (k ≤ i) := ⟨_, rfl⟩
        obtain ⟨u2, hu2⟩ : ∃ u, u = decide (i ≤ at1) := ⟨_, rfl⟩
        rw [← hu] at u1
        rw [← hu2] at u2e
        have hui : decide (k ≤ i) = u := hu.symm
        have hu2i : decide (i ≤ at1) = u2 := hu2.symm
        have HU := fun W (hb : Below wr.heap.size wr W) => (hR.out.keep hb).under_c hok.out ni nk
        rw [u1] at HU
        have i0 : (0 : Int) ≤ (i : Int) := by omega
        have i1 : (i : Int) < (lo : Int) + 1 := by omega
        have k0 : (0 : Int) ≤ (k : Int) := by omega
        have k1 : (k : Int) < (lo : Int) + 1 := by omega
        unfold ptrV at HU
        replace hni := Lib.hid hni
        replace hnk := Lib.hid hnk
        replace hne := Lib.hid hne
        replace hnl5 := Lib.hid hnl5
        replace hpe := Lib.hid hpe
        replace hpen := Lib.hid hpen
        replace u2e := Lib.hid u2e
        replace hu2i := Lib.hid hu2i
        clear hR0 hn hu hu2 u1
        have hDq := hDp
        have hBq := hB
        clear hDp hB
        go_upto_region 22 with fail
        refine wp_region_freeG_l (fun W W' => Below W.heap.size W W') (by kernel_rfl) [161, 162, 163, 164, 165, 166, 167, 168, 169, 170, 171, 172, 173, 174, 175, 176]
          [Is (.pointer (some ⟨cb, 0, none⟩)), Is (.slice (some ⟨al, 0, none⟩) (lo + 1) cl), Is (.int .i64 (i : Int)), Is (.pointer (some ⟨al, i * 33, none⟩)), Is (.pointer (some ⟨al, i * 33 + 1, none⟩)), Is (.agg (hashA ni)), Is (.slice (some ⟨al, 0, none⟩) (lo + 1) cl), Is (.int .i64 (k : Int)), Is (.pointer (some ⟨al, k * 33, none⟩)), Is (.pointer (some ⟨al, k * 33 + 1, none⟩)), Is (.agg (hashA nk)), Is (.bool u), Is (.int .i64 (k : Int)), Is (.int .i64 (i : Int)), Is (.bool u), Is (.bool false)]
          (by kernel_rfl) (fun W W' h hb => hb.trans (h.mono hb.size)) ?_ ?_ ?_
        · intro f hf
          simp only [List.mem_cons, List.not_mem_nil, or_false] at hf
          rcases hf with rfl | rfl | rfl | rfl | rfl | rfl | rfl | rfl | rfl | rfl | rfl | rfl | rfl | rfl | rfl | rfl <;> intro x W W' h hr <;> first | exact h
        · refine ⟨?_, ?_, ?_, ?_, ?_, ?_, ?_, ?_, ?_, ?_, ?_, ?_, ?_, ?_, ?_, ?_, trivial⟩
          · intro L ax W hf hd
            try simp [Region.binds] at hd
            have e15 : ax.tmps[15]?.getD undef = .pointer (some ⟨cb, 0, none⟩) := hf.out 15 (by decide) rfl
            refine ⟨fun _ => ?_, fun h => absurd trivial h⟩
            refine free_run (v := .pointer (some ⟨cb, 0, none⟩)) (W' := W) rfl ?_ rfl (Below.refl _ _)
            go_simp
          · intro L ax W hf hd
            try simp [Region.binds] at hd
            have e17 : ax.tmps[17]?.getD undef = .slice (some ⟨al, 0, none⟩) (lo + 1) cl := hf.out 17 (by decide) rfl
            refine ⟨fun _ => ?_, fun h => absurd trivial h⟩
            refine free_run (v := .slice (some ⟨al, 0, none⟩) (lo + 1) cl) (W' := W) rfl ?_ rfl (Below.refl _ _)
            go_simp
          · intro L ax W hf hd
            try simp [Region.binds] at hd
            have e5 : ax.tmps[5]?.getD undef = .int .i64 (i : Int) := hf.out 5 (by decide) rfl
            refine ⟨fun _ => ?_, fun h => absurd trivial h⟩
            refine free_run (v := .int .i64 (i : Int)) (W' := W) rfl ?_ rfl (Below.refl _ _)
            go_simp
          · intro L ax W hf hd
            simp [Region.binds] at hd
            have e162 : ax.tmps[162]?.getD undef = .slice (some ⟨al, 0, none⟩) (lo + 1) cl := slv (hf.got 1 (by decide) (by simp [hd]))
            have e163 : ax.tmps[163]?.getD undef = .int .i64 (i : Int) := slv (hf.got 2 (by decide) (by simp [hd]))
            refine ⟨fun _ => ?_, fun h => absurd trivial h⟩
            refine free_run (v := .pointer (some ⟨al, i * 33, none⟩)) (W' := W) rfl ?_ rfl (Below.refl _ _)
            go_simp
          · intro L ax W hf hd
            simp [Region.binds] at hd
            have e164 : ax.tmps[164]?.getD undef = .pointer (some ⟨al, i * 33, none⟩) := slv (hf.got 3 (by decide) (by simp [hd]))
            refine ⟨fun _ => ?_, fun h => absurd trivial h⟩
            refine free_run (v := .pointer (some ⟨al, i * 33 + 1, none⟩)) (W' := W) rfl ?_ rfl (Below.refl _ _)
            go_simp
          · intro L ax W hf hd
            simp [Region.binds] at hd
            have e165 : ax.tmps[165]?.getD undef = .pointer (some ⟨al, i * 33 + 1, none⟩) := slv (hf.got 4 (by decide) (by simp [hd]))
            refine ⟨fun _ => ?_, fun h => absurd trivial h⟩
            have h1 := (row?_below _ _ _ hf.below hal).trans rni
            refine free_run (v := .agg (hashA ni)) (W' := W) rfl ?_ rfl (Below.refl _ _)
            go_simp
          · intro L ax W hf hd
            try simp [Region.binds] at hd
            have e17 : ax.tmps[17]?.getD undef = .slice (some ⟨al, 0, none⟩) (lo + 1) cl := hf.out 17 (by decide) rfl
            refine ⟨fun _ => ?_, fun h => absurd trivial h⟩
            refine free_run (v := .slice (some ⟨al, 0, none⟩) (lo + 1) cl) (W' := W) rfl ?_ rfl (Below.refl _ _)
            go_simp
          · intro L ax W hf hd
            try simp [Region.binds] at hd
            have e6 : ax.tmps[6]?.getD undef = .int .i64 (k : Int) := hf.out 6 (by decide) rfl
            refine ⟨fun _ => ?_, fun h => absurd trivial h⟩
            refine free_run (v := .int .i64 (k : Int)) (W' := W) rfl ?_ rfl (Below.refl _ _)
            go_simp
          · intro L ax W hf hd
            simp [Region.binds] at hd
            have e167 : ax.tmps[167]?.getD undef = .slice (some ⟨al, 0, none⟩) (lo + 1) cl := slv (hf.got 6 (by decide) (by simp [hd]))
            have e168 : ax.tmps[168]?.getD undef = .int .i64 (k : Int) := slv (hf.got 7 (by decide) (by simp [hd]))
            refine ⟨fun _ => ?_, fun h => absurd trivial h⟩
            refine free_run (v := .pointer (some ⟨al, k * 33, none⟩)) (W' := W) rfl ?_ rfl (Below.refl _ _)
            go_simp
          · intro L ax W hf hd
            simp [Region.binds] at hd
            have e169 : ax.tmps[169]?.getD undef = .pointer (some ⟨al, k * 33, none⟩) := slv (hf.got 8 (by decide) (by simp [hd]))
            refine ⟨fun _ => ?_, fun h => absurd trivial h⟩
            refine free_run (v := .pointer (some ⟨al, k * 33 + 1, none⟩)) (W' := W) rfl ?_ rfl (Below.refl _ _)
            go_simp
          · intro L ax W hf hd
            simp [Region.binds] at hd
            have e170 : ax.tmps[170]?.getD undef = .pointer (some ⟨al, k * 33 + 1, none⟩) := slv (hf.got 9 (by decide) (by simp [hd]))
            refine ⟨fun _ => ?_, fun h => absurd trivial h⟩
            have h1 := (row?_below _ _ _ hf.below hal).trans rnk
            refine free_run (v := .agg (hashA nk)) (W' := W) rfl ?_ rfl (Below.refl _ _)
            go_simp
          · intro L ax W hf hd
            simp [Region.binds] at hd
            have e161 : ax.tmps[161]?.getD undef = .pointer (some ⟨cb, 0, none⟩) := slv (hf.got 0 (by decide) (by simp [hd]))
            have e166 : ax.tmps[166]?.getD undef = .agg (hashA ni) := slv (hf.got 5 (by decide) (by simp [hd]))
            have e171 : ax.tmps[171]?.getD undef = .agg (hashA nk) := slv (hf.got 10 (by decide) (by simp [hd]))
            refine ⟨fun _ => ?_, fun h => absurd trivial h⟩
            refine free_call (f := 37) (args := #[.pointer (some ⟨cb, 0, none⟩), .agg (hashA ni), .agg (hashA nk)]) rfl (by go_simp) ?_
            refine (HU W hf.below).mono ?_
            rintro e w' ⟨rfl, hb⟩
            exact ⟨_, rfl, rfl, hb⟩
          · intro L ax W hf hd
            try simp [Region.binds] at hd
            have e6 : ax.tmps[6]?.getD undef = .int .i64 (k : Int) := hf.out 6 (by decide) rfl
            refine ⟨fun _ => ?_, fun h => absurd trivial h⟩
            refine free_run (v := .int .i64 (k : Int)) (W' := W) rfl ?_ rfl (Below.refl _ _)
            go_simp
          · intro L ax W hf hd
            try simp [Region.binds] at hd
            have e5 : ax.tmps[5]?.getD undef = .int .i64 (i : Int) := hf.out 5 (by decide) rfl
            refine ⟨fun _ => ?_, fun h => absurd trivial h⟩
            refine free_run (v := .int .i64 (i : Int)) (W' := W) rfl ?_ rfl (Below.refl _ _)
            go_simp
          · intro L ax W hf hd
            simp [Region.binds] at hd
            have e173 : ax.tmps[173]?.getD undef = .int .i64 (k : Int) := slv (hf.got 12 (by decide) (by simp [hd]))
            have e174 : ax.tmps[174]?.getD undef = .int .i64 (i : Int) := slv (hf.got 13 (by decide) (by simp [hd]))
            refine ⟨fun _ => ?_, fun h => absurd trivial h⟩
            refine free_run (v := .bool u) (W' := W) rfl ?_ rfl (Below.refl _ _)
            go_simp
          · intro L ax W hf hd
            simp [Region.binds] at hd
            have e172 : ax.tmps[172]?.getD undef = .bool u := slv (hf.got 11 (by decide) (by simp [hd]))
            have e175 : ax.tmps[175]?.getD undef = .bool u := slv (hf.got 14 (by decide) (by simp [hd]))
            refine ⟨fun _ => ?_, fun h => absurd trivial h⟩
            refine free_run (v := .bool false) (W' := W) rfl ?_ rfl (Below.refl _ _)
            go_simp
        · intro vs W' hl' hF hb
          obtain ⟨g', hg1, hg2⟩ := vs_lit vs hl' hF
          have e15 : g' 15 = .bool false := hg2 15 (by decide)
          rw [hg1]
          have hB7 := Lib.hid hb
          have rpe7 := (row?_below _ _ _ hb hbl).trans rpe
          have o0 : (0 : Int) ≤ (ot : Int) := by omega
          have o1 : (ot : Int) < (ot : Int) + 1 := by omega
          clear hF hg1 hg2 hl' hb HU hui
          simp only [List.length_cons, List.length_nil, Nat.reduceAdd, show List.range 16 = [0, 1, 2, 3, 4, 5, 6, 7, 8, 9, 10, 11, 12, 13, 14, 15] from rfl, List.map_cons, List.map_nil, putL, List.zip_cons_cons, List.zip_nil_right, List.setIfInBounds_toArray, List.set_cons_succ, List.set_cons_zero, e15]
          go_upto_region 25 with fail
          obtain ⟨w8, hw8, hr25, -, hb8, hz8⟩ := box_row W' (pointA zeroPt) (pointA pe) 26 33 (by omega) (by simp) (by simp)
          rw [← hw8]
          obtain ⟨b25, hb25⟩ : ∃ b, b = W'.heap.size := ⟨_, rfl⟩
          rw [← hb25] at hr25 ⊢
          have h25 : b25 < w8.heap.size := by omega
          have hB8 := Lib.hid (hB7.out.trans (hb8.mono hB7.out.size))
          have rne := pt_name hr25
          rw [hpen.out] at rne
          have hal8 : al < w8.heap.size := Nat.lt_of_lt_of_le hal hB8.out.size
          have rni8 := (row?_below _ _ _ hB8.out hal).trans rni
          have hu2i' := hu2i.out
          have HU2 := fun W (hb : Below w8.heap.size w8 W) => (hR.out.keep (hB8.out.trans (hb.mono hB8.out.size))).under_c hok.out ne ni
          have HU3 := fun W (hb : Below w8.heap.size w8 W) => (hR.out.keep (hB8.out.trans (hb.mono hB8.out.size))).under_c hok.out ni ne
          rw [u2e.out] at HU2
          unfold ptrV at HU2 HU3
          have rnl8 := Lib.hid ((row?_below _ _ _ hB8.out hal).trans rnl)
          have a0 : (0 : Int) ≤ (at1 : Int) := by omega
          replace hb25 := Lib.hid hb25
          replace hz8 := Lib.hid hz8
          clear hw8 hb8 rpe7 rni rnl rnk k0 k1 e15 hB7 o1
          go_cut [210] from 183 to 209 (fun u W => u = .bool false ∧ Hid (Below w8.heap.size w8 W))
          case first =>
            have rni := rni8
            have hal := hal8
            by_cases h0 : 0 < ot
            · have h0i : (0 : Int) < (ot : Int) := by omega
              have e3 := u3e.out h0
              rw [← hni.out, ← hne.out] at e3
              rw [e3] at HU3
              clear e3
              refine wp_region_freeG_l (fun W W' => Below W.heap.size W W') (by kernel_rfl) [183, 184, 185, 186, 187, 188, 189, 190, 191, 192, 193, 194, 195, 196, 197, 198, 199, 200, 201, 202, 203, 204, 205, 206, 207, 208, 209, 210]
                [Is (.pointer (some ⟨cb, 0, none⟩)), Is (.pointer (some ⟨b25, 1, none⟩)), Is (.agg (hashA ne)), Is (.slice (some ⟨al, 0, none⟩) (lo + 1) cl), Is (.int .i64 (i : Int)), Is (.pointer (some ⟨al, i * 33, none⟩)), Is (.pointer (some ⟨al, i * 33 + 1, none⟩)), Is (.agg (hashA ni)), Is (.bool u2), Is (.int .i64 (i : Int)), Is (.int .i64 (at1 : Int)), Is (.bool u2), Is (.bool false), Is (.bool false), Is (.int .i64 (ot : Int)), Is (.bool true), Is (.bool true), Is (.pointer (some ⟨cb, 0, none⟩)), Is (.slice (some ⟨al, 0, none⟩) (lo + 1) cl), Is (.int .i64 (i : Int)), Is (.pointer (some ⟨al, i * 33, none⟩)), Is (.pointer (some ⟨al, i * 33 + 1, none⟩)), Is (.agg (hashA ni)), Is (.pointer (some ⟨b25, 1, none⟩)), Is (.agg (hashA ne)), Is (.bool false), Is (.bool false), Is (.bool false)]
                (by kernel_rfl) (fun W W' h hb => hb.trans (h.mono hb.size)) ?_ ?_ ?_
              · intro f hf
                simp only [List.mem_cons, List.not_mem_nil, or_false] at hf
                rcases hf with rfl | rfl | rfl | rfl | rfl | rfl | rfl | rfl | rfl | rfl | rfl | rfl | rfl | rfl | rfl | rfl | rfl | rfl | rfl | rfl | rfl | rfl | rfl | rfl | rfl | rfl | rfl | rfl <;> intro x W W' h hr <;> first | exact h
              · refine ⟨?_, ?_, ?_, ?_, ?_, ?_, ?_, ?_, ?_, ?_, ?_, ?_, ?_, ?_, ?_, ?_, ?_, ?_, ?_, ?_, ?_, ?_, ?_, ?_, ?_, ?_, ?_, ?_, trivial⟩
                · intro L ax W hf hd
                  try simp [Region.binds] at hd
                  have e15 : ax.tmps[15]?.getD undef = .pointer (some ⟨cb, 0, none⟩) := hf.out 15 (by decide) rfl
                  refine ⟨fun _ => ?_, fun h => absurd trivial h⟩
                  refine free_run (v := .pointer (some ⟨cb, 0, none⟩)) (W' := W) rfl ?_ rfl (Below.refl _ _)
                  go_simp
                · intro L ax W hf hd
                  try simp [Region.binds] at hd
                  have e25 : ax.tmps[25]?.getD undef = .pointer (some ⟨b25, 0, none⟩) := hf.out 25 (by decide) rfl
                  refine ⟨fun _ => ?_, fun h => absurd trivial h⟩
                  refine free_run (v := .pointer (some ⟨b25, 1, none⟩)) (W' := W) rfl ?_ rfl (Below.refl _ _)
                  go_simp
                · intro L ax W hf hd
                  simp [Region.binds] at hd
                  have e184 : ax.tmps[184]?.getD undef = .pointer (some ⟨b25, 1, none⟩) := slv (hf.got 1 (by decide) (by simp [hd]))
                  refine ⟨fun _ => ?_, fun h => absurd trivial h⟩
                  have h2 := (row?_below _ _ _ hf.below h25).trans rne
                  refine free_run (v := .agg (hashA ne)) (W' := W) rfl ?_ rfl (Below.refl _ _)
                  go_simp
                · intro L ax W hf hd
                  try simp [Region.binds] at hd
                  have e17 : ax.tmps[17]?.getD undef = .slice (some ⟨al, 0, none⟩) (lo + 1) cl := hf.out 17 (by decide) rfl
                  refine ⟨fun _ => ?_, fun h => absurd trivial h⟩
                  refine free_run (v := .slice (some ⟨al, 0, none⟩) (lo + 1) cl) (W' := W) rfl ?_ rfl (Below.refl _ _)
                  go_simp
                · intro L ax W hf hd
                  try simp [Region.binds] at hd
                  have e5 : ax.tmps[5]?.getD undef = .int .i64 (i : Int) := hf.out 5 (by decide) rfl
                  refine ⟨fun _ => ?_, fun h => absurd trivial h⟩
                  refine free_run (v := .int .i64 (i : Int)) (W' := W) rfl ?_ rfl (Below.refl _ _)
                  go_simp
                · intro L ax W hf hd
                  simp [Region.binds] at hd
                  have e186 : ax.tmps[186]?.getD undef = .slice (some ⟨al, 0, none⟩) (lo + 1) cl := slv (hf.got 3 (by decide) (by simp [hd]))
                  have e187 : ax.tmps[187]?.getD undef = .int .i64 (i : Int) := slv (hf.got 4 (by decide) (by simp [hd]))
                  refine ⟨fun _ => ?_, fun h => absurd trivial h⟩
                  refine free_run (v := .pointer (some ⟨al, i * 33, none⟩)) (W' := W) rfl ?_ rfl (Below.refl _ _)
                  go_simp
                · intro L ax W hf hd
                  simp [Region.binds] at hd
                  have e188 : ax.tmps[188]?.getD undef = .pointer (some ⟨al, i * 33, none⟩) := slv (hf.got 5 (by decide) (by simp [hd]))
                  refine ⟨fun _ => ?_, fun h => absurd trivial h⟩
                  refine free_run (v := .pointer (some ⟨al, i * 33 + 1, none⟩)) (W' := W) rfl ?_ rfl (Below.refl _ _)
                  go_simp
                · intro L ax W hf hd
                  simp [Region.binds] at hd
                  have e189 : ax.tmps[189]?.getD undef = .pointer (some ⟨al, i * 33 + 1, none⟩) := slv (hf.got 6 (by decide) (by simp [hd]))
                  refine ⟨fun _ => ?_, fun h => absurd trivial h⟩
                  have h1 := (row?_below _ _ _ hf.below hal).trans rni
                  refine free_run (v := .agg (hashA ni)) (W' := W) rfl ?_ rfl (Below.refl _ _)
                  go_simp
                · intro L ax W hf hd
                  simp [Region.binds] at hd
                  have e183 : ax.tmps[183]?.getD undef = .pointer (some ⟨cb, 0, none⟩) := slv (hf.got 0 (by decide) (by simp [hd]))
                  have e185 : ax.tmps[185]?.getD undef = .agg (hashA ne) := slv (hf.got 2 (by decide) (by simp [hd]))
                  have e190 : ax.tmps[190]?.getD undef = .agg (hashA ni) := slv (hf.got 7 (by decide) (by simp [hd]))
                  refine ⟨fun _ => ?_, fun h => absurd trivial h⟩
                  refine free_call (f := 37) (args := #[.pointer (some ⟨cb, 0, none⟩), .agg (hashA ne), .agg (hashA ni)]) rfl (by go_simp) ?_
                  refine (HU2 W hf.below).mono ?_
                  rintro e w' ⟨rfl, hb⟩
                  exact ⟨_, rfl, rfl, hb⟩
                · intro L ax W hf hd
                  try simp [Region.binds] at hd
                  have e5 : ax.tmps[5]?.getD undef = .int .i64 (i : Int) := hf.out 5 (by decide) rfl
                  refine ⟨fun _ => ?_, fun h => absurd trivial h⟩
                  refine free_run (v := .int .i64 (i : Int)) (W' := W) rfl ?_ rfl (Below.refl _ _)
                  go_simp
                · intro L ax W hf hd
                  try simp [Region.binds] at hd
                  have e1 : ax.tmps[1]?.getD undef = .int .i64 (at1 : Int) := hf.out 1 (by decide) rfl
                  refine ⟨fun _ => ?_, fun h => absurd trivial h⟩
                  refine free_run (v := .int .i64 (at1 : Int)) (W' := W) rfl ?_ rfl (Below.refl _ _)
                  go_simp
                · intro L ax W hf hd
                  simp [Region.binds] at hd
                  have e192 : ax.tmps[192]?.getD undef = .int .i64 (i : Int) := slv (hf.got 9 (by decide) (by simp [hd]))
                  have e193 : ax.tmps[193]?.getD undef = .int .i64 (at1 : Int) := slv (hf.got 10 (by decide) (by simp [hd]))
                  refine ⟨fun _ => ?_, fun h => absurd trivial h⟩
                  refine free_run (v := .bool u2) (W' := W) rfl ?_ rfl (Below.refl _ _)
                  go_simp
                · intro L ax W hf hd
                  simp [Region.binds] at hd
                  have e191 : ax.tmps[191]?.getD undef = .bool u2 := slv (hf.got 8 (by decide) (by simp [hd]))
                  have e194 : ax.tmps[194]?.getD undef = .bool u2 := slv (hf.got 11 (by decide) (by simp [hd]))
                  refine ⟨fun _ => ?_, fun h => absurd trivial h⟩
                  refine free_run (v := .bool false) (W' := W) rfl ?_ rfl (Below.refl _ _)
                  go_simp
                · intro L ax W hf hd
                  simp [Region.binds] at hd
                  have e195 : ax.tmps[195]?.getD undef = .bool false := slv (hf.got 12 (by decide) (by simp [hd]))
                  refine ⟨fun _ => ?_, fun h => absurd trivial h⟩
                  refine free_run (v := .bool false) (W' := W) rfl ?_ rfl (Below.refl _ _)
                  go_simp
                · intro L ax W hf hd
                  simp [Region.binds] at hd
                  have e2 : ax.tmps[2]?.getD undef = .int .i64 (ot : Int) := hf.out 2 (by decide) rfl
                  have g0 : sl ax 196 = .bool false := hf.got 13 (by decide) (by simp [hd])
                  refine ⟨fun hh => ?_, fun hh => ?_⟩
                  · first
                      | (exact absurd (g0.symm.trans hh) (undef_ne _))
                      | (exact absurd (g0.symm.trans hh) (bool_ne (by decide)))
                      | (exfalso; revert hh; simp [Held, g0, *]; done)
                      | (refine free_run (v := .int .i64 (ot : Int)) (W' := W) rfl ?_ rfl (Below.refl _ _); go_simp)
                  · first
                      | (exact absurd g0 hh)
                      | (exfalso; revert hh; simp [Held, g0, *]; done)
                      | (show undef = _; first | rfl | (simp [*]; done))
                · intro L ax W hf hd
                  simp [Region.binds] at hd
                  have e197 : ax.tmps[197]?.getD undef = .int .i64 (ot : Int) := slv (hf.got 14 (by decide) (by simp [hd]))
                  have g0 : sl ax 196 = .bool false := hf.got 13 (by decide) (by simp [hd])
                  refine ⟨fun hh => ?_, fun hh => ?_⟩
                  · first
                      | (exact absurd (g0.symm.trans hh) (undef_ne _))
                      | (exact absurd (g0.symm.trans hh) (bool_ne (by decide)))
                      | (exfalso; revert hh; simp [Held, g0, *]; done)
                      | (refine free_run (v := .bool true) (W' := W) rfl ?_ rfl (Below.refl _ _); go_simp)
                  · first
                      | (exact absurd g0 hh)
                      | (exfalso; revert hh; simp [Held, g0, *]; done)
                      | (show undef = _; first | rfl | (simp [*]; done))
                · intro L ax W hf hd
                  simp [Region.binds] at hd
                  have e198 : ax.tmps[198]?.getD undef = .bool true := slv (hf.got 15 (by decide) (by simp [hd]))
                  have g0 : sl ax 196 = .bool false := hf.got 13 (by decide) (by simp [hd])
                  refine ⟨fun hh => ?_, fun hh => ?_⟩
                  · first
                      | (exact absurd (g0.symm.trans hh) (undef_ne _))
                      | (exact absurd (g0.symm.trans hh) (bool_ne (by decide)))
                      | (exfalso; revert hh; simp [Held, g0, *]; done)
                      | (refine free_run (v := .bool true) (W' := W) rfl ?_ rfl (Below.refl _ _); go_simp)
                  · first
                      | (exact absurd g0 hh)
                      | (exfalso; revert hh; simp [Held, g0, *]; done)
                      | (show undef = _; first | rfl | (simp [*]; done))
                · intro L ax W hf hd
                  simp [Region.binds] at hd
                  have e15 : ax.tmps[15]?.getD undef = .pointer (some ⟨cb, 0, none⟩) := hf.out 15 (by decide) rfl
                  have g0 : sl ax 199 = .bool true := hf.got 16 (by decide) (by simp [hd])
                  refine ⟨fun hh => ?_, fun hh => ?_⟩
                  · first
                      | (exact absurd (g0.symm.trans hh) (undef_ne _))
                      | (exact absurd (g0.symm.trans hh) (bool_ne (by decide)))
                      | (exfalso; revert hh; simp [Held, g0, *]; done)
                      | (refine free_run (v := .pointer (some ⟨cb, 0, none⟩)) (W' := W) rfl ?_ rfl (Below.refl _ _); go_simp)
                  · first
                      | (exact absurd g0 hh)
                      | (exfalso; revert hh; simp [Held, g0, *]; done)
                      | (show undef = _; first | rfl | (simp [*]; done))
                · intro L ax W hf hd
                  simp [Region.binds] at hd
                  have e17 : ax.tmps[17]?.getD undef = .slice (some ⟨al, 0, none⟩) (lo + 1) cl := hf.out 17 (by decide) rfl
                  have g0 : sl ax 199 = .bool true := hf.got 16 (by decide) (by simp [hd])
                  refine ⟨fun hh => ?_, fun hh => ?_⟩
                  · first
                      | (exact absurd (g0.symm.trans hh) (undef_ne _))
                      | (exact absurd (g0.symm.trans hh) (bool_ne (by decide)))
                      | (exfalso; revert hh; simp [Held, g0, *]; done)
                      | (refine free_run (v := .slice (some ⟨al, 0, none⟩) (lo + 1) cl) (W' := W) rfl ?_ rfl (Below.refl _ _); go_simp)
                  · first
                      | (exact absurd g0 hh)
                      | (exfalso; revert hh; simp [Held, g0, *]; done)
                      | (show undef = _; first | rfl | (simp [*]; done))
                · intro L ax W hf hd
                  simp [Region.binds] at hd
                  have e5 : ax.tmps[5]?.getD undef = .int .i64 (i : Int) := hf.out 5 (by decide) rfl
                  have g0 : sl ax 199 = .bool true := hf.got 16 (by decide) (by simp [hd])
                  refine ⟨fun hh => ?_, fun hh => ?_⟩
                  · first
                      | (exact absurd (g0.symm.trans hh) (undef_ne _))
                      | (exact absurd (g0.symm.trans hh) (bool_ne (by decide)))
                      | (exfalso; revert hh; simp [Held, g0, *]; done)
                      | (refine free_run (v := .int .i64 (i : Int)) (W' := W) rfl ?_ rfl (Below.refl _ _); go_simp)
                  · first
                      | (exact absurd g0 hh)
                      | (exfalso; revert hh; simp [Held, g0, *]; done)
                      | (show undef = _; first | rfl | (simp [*]; done))
                · intro L ax W hf hd
                  simp [Region.binds] at hd
                  have e201 : ax.tmps[201]?.getD undef = .slice (some ⟨al, 0, none⟩) (lo + 1) cl := slv (hf.got 18 (by decide) (by simp [hd]))
                  have e202 : ax.tmps[202]?.getD undef = .int .i64 (i : Int) := slv (hf.got 19 (by decide) (by simp [hd]))
                  have g0 : sl ax 199 = .bool true := hf.got 16 (by decide) (by simp [hd])
                  refine ⟨fun hh => ?_, fun hh => ?_⟩
                  · first
                      | (exact absurd (g0.symm.trans hh) (undef_ne _))
                      | (exact absurd (g0.symm.trans hh) (bool_ne (by decide)))
                      | (exfalso; revert hh; simp [Held, g0, *]; done)
                      | (refine free_run (v := .pointer (some ⟨al, i * 33, none⟩)) (W' := W) rfl ?_ rfl (Below.refl _ _); go_simp)
                  · first
                      | (exact absurd g0 hh)
                      | (exfalso; revert hh; simp [Held, g0, *]; done)
                      | (show undef = _; first | rfl | (simp [*]; done))
                · intro L ax W hf hd
                  simp [Region.binds] at hd
                  have e203 : ax.tmps[203]?.getD undef = .pointer (some ⟨al, i * 33, none⟩) := slv (hf.got 20 (by decide) (by simp [hd]))
                  have g0 : sl ax 199 = .bool true := hf.got 16 (by decide) (by simp [hd])
                  refine ⟨fun hh => ?_, fun hh => ?_⟩
                  · first
                      | (exact absurd (g0.symm.trans hh) (undef_ne _))
                      | (exact absurd (g0.symm.trans hh) (bool_ne (by decide)))
                      | (exfalso; revert hh; simp [Held, g0, *]; done)
                      | (refine free_run (v := .pointer (some ⟨al, i * 33 + 1, none⟩)) (W' := W) rfl ?_ rfl (Below.refl _ _); go_simp)
                  · first
                      | (exact absurd g0 hh)
                      | (exfalso; revert hh; simp [Held, g0, *]; done)
                      | (show undef = _; first | rfl | (simp [*]; done))
                · intro L ax W hf hd
                  simp [Region.binds] at hd
                  have e204 : ax.tmps[204]?.getD undef = .pointer (some ⟨al, i * 33 + 1, none⟩) := slv (hf.got 21 (by decide) (by simp [hd]))
                  have g0 : sl ax 199 = .bool true := hf.got 16 (by decide) (by simp [hd])
                  refine ⟨fun hh => ?_, fun hh => ?_⟩
                  · first
                      | (exact absurd (g0.symm.trans hh) (undef_ne _))
                      | (exact absurd (g0.symm.trans hh) (bool_ne (by decide)))
                      | (exfalso; revert hh; simp [Held, g0, *]; done)
                      | ((have h1 := (row?_below _ _ _ hf.below hal).trans rni); refine free_run (v := .agg (hashA ni)) (W' := W) rfl ?_ rfl (Below.refl _ _); go_simp)
                  · first
                      | (exact absurd g0 hh)
                      | (exfalso; revert hh; simp [Held, g0, *]; done)
                      | (show undef = _; first | rfl | (simp [*]; done))
                · intro L ax W hf hd
                  simp [Region.binds] at hd
                  have e25 : ax.tmps[25]?.getD undef = .pointer (some ⟨b25, 0, none⟩) := hf.out 25 (by decide) rfl
                  have g0 : sl ax 199 = .bool true := hf.got 16 (by decide) (by simp [hd])
                  refine ⟨fun hh => ?_, fun hh => ?_⟩
                  · first
                      | (exact absurd (g0.symm.trans hh) (undef_ne _))
                      | (exact absurd (g0.symm.trans hh) (bool_ne (by decide)))
                      | (exfalso; revert hh; simp [Held, g0, *]; done)
                      | (refine free_run (v := .pointer (some ⟨b25, 1, none⟩)) (W' := W) rfl ?_ rfl (Below.refl _ _); go_simp)
                  · first
                      | (exact absurd g0 hh)
                      | (exfalso; revert hh; simp [Held, g0, *]; done)
                      | (show undef = _; first | rfl | (simp [*]; done))
                · intro L ax W hf hd
                  simp [Region.binds] at hd
                  have e206 : ax.tmps[206]?.getD undef = .pointer (some ⟨b25, 1, none⟩) := slv (hf.got 23 (by decide) (by simp [hd]))
                  have g0 : sl ax 199 = .bool true := hf.got 16 (by decide) (by simp [hd])
                  refine ⟨fun hh => ?_, fun hh => ?_⟩
                  · first
                      | (exact absurd (g0.symm.trans hh) (undef_ne _))
                      | (exact absurd (g0.symm.trans hh) (bool_ne (by decide)))
                      | (exfalso; revert hh; simp [Held, g0, *]; done)
                      | ((have h2 := (row?_below _ _ _ hf.below h25).trans rne); refine free_run (v := .agg (hashA ne)) (W' := W) rfl ?_ rfl (Below.refl _ _); go_simp)
                  · first
                      | (exact absurd g0 hh)
                      | (exfalso; revert hh; simp [Held, g0, *]; done)
                      | (show undef = _; first | rfl | (simp [*]; done))
                · intro L ax W hf hd
                  simp [Region.binds] at hd
                  have e200 : ax.tmps[200]?.getD undef = .pointer (some ⟨cb, 0, none⟩) := slv (hf.got 17 (by decide) (by simp [hd]))
                  have e205 : ax.tmps[205]?.getD undef = .agg (hashA ni) := slv (hf.got 22 (by decide) (by simp [hd]))
                  have e207 : ax.tmps[207]?.getD undef = .agg (hashA ne) := slv (hf.got 24 (by decide) (by simp [hd]))
                  have g0 : sl ax 199 = .bool true := hf.got 16 (by decide) (by simp [hd])
                  refine ⟨fun hh => ?_, fun hh => ?_⟩
                  · first
                      | (exact absurd (g0.symm.trans hh) (undef_ne _))
                      | (exact absurd (g0.symm.trans hh) (bool_ne (by decide)))
                      | (exfalso; revert hh; simp [Held, g0, *]; done)
                      | (refine free_call (f := 37) (args := #[.pointer (some ⟨cb, 0, none⟩), .agg (hashA ni), .agg (hashA ne)]) rfl (by go_simp) ?_; refine (HU3 W hf.below).mono ?_; rintro e w' ⟨rfl, hb⟩; exact ⟨_, rfl, rfl, hb⟩)
                  · first
                      | (exact absurd g0 hh)
                      | (exfalso; revert hh; simp [Held, g0, *]; done)
                      | (show undef = _; first | rfl | (simp [*]; done))
                · intro L ax W hf hd
                  simp [Region.binds] at hd
                  have e199 : ax.tmps[199]?.getD undef = .bool true := slv (hf.got 16 (by decide) (by simp [hd]))
                  have e208 : ax.tmps[208]?.getD undef = .bool false := slv (hf.got 25 (by decide) (by simp [hd]))
                  have g0 : sl ax 196 = .bool false := hf.got 13 (by decide) (by simp [hd])
                  refine ⟨fun hh => ?_, fun hh => ?_⟩
                  · first
                      | (exact absurd (g0.symm.trans hh) (undef_ne _))
                      | (exact absurd (g0.symm.trans hh) (bool_ne (by decide)))
                      | (exfalso; revert hh; simp [Held, g0, *]; done)
                      | (refine free_run (v := .bool false) (W' := W) rfl ?_ rfl (Below.refl _ _); go_simp)
                  · first
                      | (exact absurd g0 hh)
                      | (exfalso; revert hh; simp [Held, g0, *]; done)
                      | (show undef = _; first | rfl | (simp [*]; done))
                · intro L ax W hf hd
                  simp [Region.binds] at hd
                  have e196 : ax.tmps[196]?.getD undef = .bool false := slv (hf.got 13 (by decide) (by simp [hd]))
                  have e209 : ax.tmps[209]?.getD undef = .bool false := slv (hf.got 26 (by decide) (by simp [hd]))
                  refine ⟨fun _ => ?_, fun h => absurd trivial h⟩
                  refine free_run (v := .bool false) (W' := W) rfl ?_ rfl (Below.refl _ _)
                  go_simp
              · intro vs W' hl' hF hb
                obtain ⟨g', hg1, hg2⟩ := vs_lit vs hl' hF
                have e27 : g' 27 = .bool false := hg2 27 (by decide)
                rw [hg1]
                simp only [List.length_cons, List.length_nil, Nat.reduceAdd, show List.range 28 = [0, 1, 2, 3, 4, 5, 6, 7, 8, 9, 10, 11, 12, 13, 14, 15, 16, 17, 18, 19, 20, 21, 22, 23, 24, 25, 26, 27] from rfl, List.map_cons, List.map_nil, putL, List.zip_cons_cons, List.zip_nil_right, List.setIfInBounds_toArray, List.set_cons_succ, List.set_cons_zero, e27]
                go_wp2_with fail
                go_meet
                exact ⟨rfl, Lib.hid hb⟩
            · obtain rfl : ot = 0 := by omega
              refine wp_region_freeG_l (fun W W' => Below W.heap.size W W') (by kernel_rfl) [183, 184, 185, 186, 187, 188, 189, 190, 191, 192, 193, 194, 195, 196, 197, 198, 199, 200, 201, 202, 203, 204, 205, 206, 207, 208, 209, 210]
                [Is (.pointer (some ⟨cb, 0, none⟩)), Is (.pointer (some ⟨b25, 1, none⟩)), Is (.agg (hashA ne)), Is (.slice (some ⟨al, 0, none⟩) (lo + 1) cl), Is (.int .i64 (i : Int)), Is (.pointer (some ⟨al, i * 33, none⟩)), Is (.pointer (some ⟨al, i * 33 + 1, none⟩)), Is (.agg (hashA ni)), Is (.bool u2), Is (.int .i64 (i : Int)), Is (.int .i64 (at1 : Int)), Is (.bool u2), Is (.bool false), Is (.bool false), Is (.int .i64 0), Is (.bool false), Is (.bool false), Is (undef), Is (undef), Is (undef), Is (undef), Is (undef), Is (undef), Is (undef), Is (undef), Is (undef), Is (.bool false), Is (.bool false)]
                (by kernel_rfl) (fun W W' h hb => hb.trans (h.mono hb.size)) ?_ ?_ ?_
              · intro f hf
                simp only [List.mem_cons, List.not_mem_nil, or_false] at hf
                rcases hf with rfl | rfl | rfl | rfl | rfl | rfl | rfl | rfl | rfl | rfl | rfl | rfl | rfl | rfl | rfl | rfl | rfl | rfl | rfl | rfl | rfl | rfl | rfl | rfl | rfl | rfl | rfl | rfl <;> intro x W W' h hr <;> first | exact h
              · refine ⟨?_, ?_, ?_, ?_, ?_, ?_, ?_, ?_, ?_, ?_, ?_, ?_, ?_, ?_, ?_, ?_, ?_, ?_, ?_, ?_, ?_, ?_, ?_, ?_, ?_, ?_, ?_, ?_, trivial⟩
                · intro L ax W hf hd
                  try simp [Region.binds] at hd
                  have e15 : ax.tmps[15]?.getD undef = .pointer (some ⟨cb, 0, none⟩) := hf.out 15 (by decide) rfl
                  refine ⟨fun _ => ?_, fun h => absurd trivial h⟩
                  refine free_run (v := .pointer (some ⟨cb, 0, none⟩)) (W' := W) rfl ?_ rfl (Below.refl _ _)
                  go_simp
                · intro L ax W hf hd
                  try simp [Region.binds] at hd
                  have e25 : ax.tmps[25]?.getD undef = .pointer (some ⟨b25, 0, none⟩) := hf.out 25 (by decide) rfl
                  refine ⟨fun _ => ?_, fun h => absurd trivial h⟩
                  refine free_run (v := .pointer (some ⟨b25, 1, none⟩)) (W' := W) rfl ?_ rfl (Below.refl _ _)
                  go_simp
                · intro L ax W hf hd
                  simp [Region.binds] at hd
                  have e184 : ax.tmps[184]?.getD undef = .pointer (some ⟨b25, 1, none⟩) := slv (hf.got 1 (by decide) (by simp [hd]))
                  refine ⟨fun _ => ?_, fun h => absurd trivial h⟩
                  have h2 := (row?_below _ _ _ hf.below h25).trans rne
                  refine free_run (v := .agg (hashA ne)) (W' := W) rfl ?_ rfl (Below.refl _ _)
                  go_simp
                · intro L ax W hf hd
                  try simp [Region.binds] at hd
                  have e17 : ax.tmps[17]?.getD undef = .slice (some ⟨al, 0, none⟩) (lo + 1) cl := hf.out 17 (by decide) rfl
                  refine ⟨fun _ => ?_, fun h => absurd trivial h⟩
                  refine free_run (v := .slice (some ⟨al, 0, none⟩) (lo + 1) cl) (W' := W) rfl ?_ rfl (Below.refl _ _)
                  go_simp
                · intro L ax W hf hd
                  try simp [Region.binds] at hd
                  have e5 : ax.tmps[5]?.getD undef = .int .i64 (i : Int) := hf.out 5 (by decide) rfl
                  refine ⟨fun _ => ?_, fun h => absurd trivial h⟩
                  refine free_run (v := .int .i64 (i : Int)) (W' := W) rfl ?_ rfl (Below.refl _ _)
                  go_simp
                · intro L ax W hf hd
                  simp [Region.binds] at hd
                  have e186 : ax.tmps[186]?.getD undef = .slice (some ⟨al, 0, none⟩) (lo + 1) cl := slv (hf.got 3 (by decide) (by simp [hd]))
                  have e187 : ax.tmps[187]?.getD undef = .int .i64 (i : Int) := slv (hf.got 4 (by decide) (by simp [hd]))
                  refine ⟨fun _ => ?_, fun h => absurd trivial h⟩
                  refine free_run (v := .pointer (some ⟨al, i * 33, none⟩)) (W' := W) rfl ?_ rfl (Below.refl _ _)
                  go_simp
                · intro L ax W hf hd
                  simp [Region.binds] at hd
                  have e188 : ax.tmps[188]?.getD undef = .pointer (some ⟨al, i * 33, none⟩) := slv (hf.got 5 (by decide) (by simp [hd]))
                  refine ⟨fun _ => ?_, fun h => absurd trivial h⟩
                  refine free_run (v := .pointer (some ⟨al, i * 33 + 1, none⟩)) (W' := W) rfl ?_ rfl (Below.refl _ _)
                  go_simp
                · intro L ax W hf hd
                  simp [Region.binds] at hd
                  have e189 : ax.tmps[189]?.getD undef = .pointer (some ⟨al, i * 33 + 1, none⟩) := slv (hf.got 6 (by decide) (by simp [hd]))
                  refine ⟨fun _ => ?_, fun h => absurd trivial h⟩
                  have h1 := (row?_below _ _ _ hf.below hal).trans rni
                  refine free_run (v := .agg (hashA ni)) (W' := W) rfl ?_ rfl (Below.refl _ _)
                  go_simp
                · intro L ax W hf hd
                  simp [Region.binds] at hd
                  have e183 : ax.tmps[183]?.getD undef = .pointer (some ⟨cb, 0, none⟩) := slv (hf.got 0 (by decide) (by simp [hd]))
                  have e185 : ax.tmps[185]?.getD undef = .agg (hashA ne) := slv (hf.got 2 (by decide) (by simp [hd]))
                  have e190 : ax.tmps[190]?.getD undef = .agg (hashA ni) := slv (hf.got 7 (by decide) (by simp [hd]))
                  refine ⟨fun _ => ?_, fun h => absurd trivial h⟩
                  refine free_call (f := 37) (args := #[.pointer (some ⟨cb, 0, none⟩), .agg (hashA ne), .agg (hashA ni)]) rfl (by go_simp) ?_
                  refine (HU2 W hf.below).mono ?_
                  rintro e w' ⟨rfl, hb⟩
                  exact ⟨_, rfl, rfl, hb⟩
                · intro L ax W hf hd
                  try simp [Region.binds] at hd
                  have e5 : ax.tmps[5]?.getD undef = .int .i64 (i : Int) := hf.out 5 (by decide) rfl
                  refine ⟨fun _ => ?_, fun h => absurd trivial h⟩
                  refine free_run (v := .int .i64 (i : Int)) (W' := W) rfl ?_ rfl (Below.refl _ _)
                  go_simp
                · intro L ax W hf hd
                  try simp [Region.binds] at hd
                  have e1 : ax.tmps[1]?.getD undef = .int .i64 (at1 : Int) := hf.out 1 (by decide) rfl
                  refine ⟨fun _ => ?_, fun h => absurd trivial h⟩
                  refine free_run (v := .int .i64 (at1 : Int)) (W' := W) rfl ?_ rfl (Below.refl _ _)
                  go_simp
                · intro L ax W hf hd
                  simp [Region.binds] at hd
                  have e192 : ax.tmps[192]?.getD undef = .int .i64 (i : Int) := slv (hf.got 9 (by decide) (by simp [hd]))
                  have e193 : ax.tmps[193]?.getD undef = .int .i64 (at1 : Int) := slv (hf.got 10 (by decide) (by simp [hd]))
                  refine ⟨fun _ => ?_, fun h => absurd trivial h⟩
                  refine free_run (v := .bool u2) (W' := W) rfl ?_ rfl (Below.refl _ _)
                  go_simp
                · intro L ax W hf hd
                  simp [Region.binds] at hd
                  have e191 : ax.tmps[191]?.getD undef = .bool u2 := slv (hf.got 8 (by decide) (by simp [hd]))
                  have e194 : ax.tmps[194]?.getD undef = .bool u2 := slv (hf.got 11 (by decide) (by simp [hd]))
                  refine ⟨fun _ => ?_, fun h => absurd trivial h⟩
                  refine free_run (v := .bool false) (W' := W) rfl ?_ rfl (Below.refl _ _)
                  go_simp
                · intro L ax W hf hd
                  simp [Region.binds] at hd
                  have e195 : ax.tmps[195]?.getD undef = .bool false := slv (hf.got 12 (by decide) (by simp [hd]))
                  refine ⟨fun _ => ?_, fun h => absurd trivial h⟩
                  refine free_run (v := .bool false) (W' := W) rfl ?_ rfl (Below.refl _ _)
                  go_simp
                · intro L ax W hf hd
                  simp [Region.binds] at hd
                  have e2 : ax.tmps[2]?.getD undef = .int .i64 0 := hf.out 2 (by decide) rfl
                  have g0 : sl ax 196 = .bool false := hf.got 13 (by decide) (by simp [hd])
                  refine ⟨fun hh => ?_, fun hh => ?_⟩
                  · first
                      | (exact absurd (g0.symm.trans hh) (undef_ne _))
                      | (exact absurd (g0.symm.trans hh) (bool_ne (by decide)))
                      | (exfalso; revert hh; simp [Held, g0, *]; done)
                      | (refine free_run (v := .int .i64 0) (W' := W) rfl ?_ rfl (Below.refl _ _); go_simp)
                  · first
                      | (exact absurd g0 hh)
                      | (exfalso; revert hh; simp [Held, g0, *]; done)
                      | (show undef = _; first | rfl | (simp [*]; done))
                · intro L ax W hf hd
                  simp [Region.binds] at hd
                  have e197 : ax.tmps[197]?.getD undef = .int .i64 0 := slv (hf.got 14 (by decide) (by simp [hd]))
                  have g0 : sl ax 196 = .bool false := hf.got 13 (by decide) (by simp [hd])
                  refine ⟨fun hh => ?_, fun hh => ?_⟩
                  · first
                      | (exact absurd (g0.symm.trans hh) (undef_ne _))
                      | (exact absurd (g0.symm.trans hh) (bool_ne (by decide)))
                      | (exfalso; revert hh; simp [Held, g0, *]; done)
                      | (refine free_run (v := .bool false) (W' := W) rfl ?_ rfl (Below.refl _ _); go_simp)
                  · first
                      | (exact absurd g0 hh)
                      | (exfalso; revert hh; simp [Held, g0, *]; done)
                      | (show undef = _; first | rfl | (simp [*]; done))
                · intro L ax W hf hd
                  simp [Region.binds] at hd
                  have e198 : ax.tmps[198]?.getD undef = .bool false := slv (hf.got 15 (by decide) (by simp [hd]))
                  have g0 : sl ax 196 = .bool false := hf.got 13 (by decide) (by simp [hd])
                  refine ⟨fun hh => ?_, fun hh => ?_⟩
                  · first
                      | (exact absurd (g0.symm.trans hh) (undef_ne _))
                      | (exact absurd (g0.symm.trans hh) (bool_ne (by decide)))
                      | (exfalso; revert hh; simp [Held, g0, *]; done)
                      | (refine free_run (v := .bool false) (W' := W) rfl ?_ rfl (Below.refl _ _); go_simp)
                  · first
                      | (exact absurd g0 hh)
                      | (exfalso; revert hh; simp [Held, g0, *]; done)
                      | (show undef = _; first | rfl | (simp [*]; done))
                · intro L ax W hf hd
                  simp [Region.binds] at hd
                  have e15 : ax.tmps[15]?.getD undef = .pointer (some ⟨cb, 0, none⟩) := hf.out 15 (by decide) rfl
                  have g0 : sl ax 199 = .bool false := hf.got 16 (by decide) (by simp [hd])
                  refine ⟨fun hh => ?_, fun hh => ?_⟩
                  · first
                      | (exact absurd (g0.symm.trans hh) (undef_ne _))
                      | (exact absurd (g0.symm.trans hh) (bool_ne (by decide)))
                      | (exfalso; revert hh; simp [Held, g0, *]; done)
                      | (refine free_run (v := undef) (W' := W) rfl ?_ rfl (Below.refl _ _); go_simp)
                  · first
                      | (exact absurd g0 hh)
                      | (exfalso; revert hh; simp [Held, g0, *]; done)
                      | (show undef = _; first | rfl | (simp [*]; done))
                · intro L ax W hf hd
                  simp [Region.binds] at hd
                  have e17 : ax.tmps[17]?.getD undef = .slice (some ⟨al, 0, none⟩) (lo + 1) cl := hf.out 17 (by decide) rfl
                  have g0 : sl ax 199 = .bool false := hf.got 16 (by decide) (by simp [hd])
                  refine ⟨fun hh => ?_, fun hh => ?_⟩
                  · first
                      | (exact absurd (g0.symm.trans hh) (undef_ne _))
                      | (exact absurd (g0.symm.trans hh) (bool_ne (by decide)))
                      | (exfalso; revert hh; simp [Held, g0, *]; done)
                      | (refine free_run (v := undef) (W' := W) rfl ?_ rfl (Below.refl _ _); go_simp)
                  · first
                      | (exact absurd g0 hh)
                      | (exfalso; revert hh; simp [Held, g0, *]; done)
                      | (show undef = _; first | rfl | (simp [*]; done))
                · intro L ax W hf hd
                  simp [Region.binds] at hd
                  have e5 : ax.tmps[5]?.getD undef = .int .i64 (i : Int) := hf.out 5 (by decide) rfl
                  have g0 : sl ax 199 = .bool false := hf.got 16 (by decide) (by simp [hd])
                  refine ⟨fun hh => ?_, fun hh => ?_⟩
                  · first
                      | (exact absurd (g0.symm.trans hh) (undef_ne _))
                      | (exact absurd (g0.symm.trans hh) (bool_ne (by decide)))
                      | (exfalso; revert hh; simp [Held, g0, *]; done)
                      | (refine free_run (v := undef) (W' := W) rfl ?_ rfl (Below.refl _ _); go_simp)
                  · first
                      | (exact absurd g0 hh)
                      | (exfalso; revert hh; simp [Held, g0, *]; done)
                      | (show undef = _; first | rfl | (simp [*]; done))
                · intro L ax W hf hd
                  simp [Region.binds] at hd
                  have e201 : ax.tmps[201]?.getD undef = undef := slv (hf.got 18 (by decide) (by simp [hd]))
                  have e202 : ax.tmps[202]?.getD undef = undef := slv (hf.got 19 (by decide) (by simp [hd]))
                  have g0 : sl ax 199 = .bool false := hf.got 16 (by decide) (by simp [hd])
                  refine ⟨fun hh => ?_, fun hh => ?_⟩
                  · first
                      | (exact absurd (g0.symm.trans hh) (undef_ne _))
                      | (exact absurd (g0.symm.trans hh) (bool_ne (by decide)))
                      | (exfalso; revert hh; simp [Held, g0, *]; done)
                      | (refine free_run (v := undef) (W' := W) rfl ?_ rfl (Below.refl _ _); go_simp)
                  · first
                      | (exact absurd g0 hh)
                      | (exfalso; revert hh; simp [Held, g0, *]; done)
                      | (show undef = _; first | rfl | (simp [*]; done))
                · intro L ax W hf hd
                  simp [Region.binds] at hd
                  have e203 : ax.tmps[203]?.getD undef = undef := slv (hf.got 20 (by decide) (by simp [hd]))
                  have g0 : sl ax 199 = .bool false := hf.got 16 (by decide) (by simp [hd])
                  refine ⟨fun hh => ?_, fun hh => ?_⟩
                  · first
                      | (exact absurd (g0.symm.trans hh) (undef_ne _))
                      | (exact absurd (g0.symm.trans hh) (bool_ne (by decide)))
                      | (exfalso; revert hh; simp [Held, g0, *]; done)
                      | (refine free_run (v := undef) (W' := W) rfl ?_ rfl (Below.refl _ _); go_simp)
                  · first
                      | (exact absurd g0 hh)
                      | (exfalso; revert hh; simp [Held, g0, *]; done)
                      | (show undef = _; first | rfl | (simp [*]; done))
                · intro L ax W hf hd
                  simp [Region.binds] at hd
                  have e204 : ax.tmps[204]?.getD undef = undef := slv (hf.got 21 (by decide) (by simp [hd]))
                  have g0 : sl ax 199 = .bool false := hf.got 16 (by decide) (by simp [hd])
                  refine ⟨fun hh => ?_, fun hh => ?_⟩
                  · first
                      | (exact absurd (g0.symm.trans hh) (undef_ne _))
                      | (exact absurd (g0.symm.trans hh) (bool_ne (by decide)))
                      | (exfalso; revert hh; simp [Held, g0, *]; done)
                      | (refine free_run (v := undef) (W' := W) rfl ?_ rfl (Below.refl _ _); go_simp)
                  · first
                      | (exact absurd g0 hh)
                      | (exfalso; revert hh; simp [Held, g0, *]; done)
                      | (show undef = _; first | rfl | (simp [*]; done))
                · intro L ax W hf hd
                  simp [Region.binds] at hd
                  have e25 : ax.tmps[25]?.getD undef = .pointer (some ⟨b25, 0, none⟩) := hf.out 25 (by decide) rfl
                  have g0 : sl ax 199 = .bool false := hf.got 16 (by decide) (by simp [hd])
                  refine ⟨fun hh => ?_, fun hh => ?_⟩
                  · first
                      | (exact absurd (g0.symm.trans hh) (undef_ne _))
                      | (exact absurd (g0.symm.trans hh) (bool_ne (by decide)))
                      | (exfalso; revert hh; simp [Held, g0, *]; done)
                      | (refine free_run (v := undef) (W' := W) rfl ?_ rfl (Below.refl _ _); go_simp)
                  · first
                      | (exact absurd g0 hh)
                      | (exfalso; revert hh; simp [Held, g0, *]; done)
                      | (show undef = _; first | rfl | (simp [*]; done))
                · intro L ax W hf hd
                  simp [Region.binds] at hd
                  have e206 : ax.tmps[206]?.getD undef = undef := slv (hf.got 23 (by decide) (by simp [hd]))
                  have g0 : sl ax 199 = .bool false := hf.got 16 (by decide) (by simp [hd])
                  refine ⟨fun hh => ?_, fun hh => ?_⟩
                  · first
                      | (exact absurd (g0.symm.trans hh) (undef_ne _))
                      | (exact absurd (g0.symm.trans hh) (bool_ne (by decide)))
                      | (exfalso; revert hh; simp [Held, g0, *]; done)
                      | (refine free_run (v := undef) (W' := W) rfl ?_ rfl (Below.refl _ _); go_simp)
                  · first
                      | (exact absurd g0 hh)
                      | (exfalso; revert hh; simp [Held, g0, *]; done)
                      | (show undef = _; first | rfl | (simp [*]; done))
                · intro L ax W hf hd
                  simp [Region.binds] at hd
                  have e200 : ax.tmps[200]?.getD undef = undef := slv (hf.got 17 (by decide) (by simp [hd]))
                  have e205 : ax.tmps[205]?.getD undef = undef := slv (hf.got 22 (by decide) (by simp [hd]))
                  have e207 : ax.tmps[207]?.getD undef = undef := slv (hf.got 24 (by decide) (by simp [hd]))
                  have g0 : sl ax 199 = .bool false := hf.got 16 (by decide) (by simp [hd])
                  refine ⟨fun hh => ?_, fun hh => ?_⟩
                  · first
                      | (exact absurd (g0.symm.trans hh) (undef_ne _))
                      | (exact absurd (g0.symm.trans hh) (bool_ne (by decide)))
                      | (exfalso; revert hh; simp [Held, g0, *]; done)
                      | (refine free_run (v := undef) (W' := W) rfl ?_ rfl (Below.refl _ _); go_simp)
                  · first
                      | (exact absurd g0 hh)
                      | (exfalso; revert hh; simp [Held, g0, *]; done)
                      | (show undef = _; first | rfl | (simp [*]; done))
                · intro L ax W hf hd
                  simp [Region.binds] at hd
                  have e199 : ax.tmps[199]?.getD undef = .bool false := slv (hf.got 16 (by decide) (by simp [hd]))
                  have e208 : ax.tmps[208]?.getD undef = undef := slv (hf.got 25 (by decide) (by simp [hd]))
                  have g0 : sl ax 196 = .bool false := hf.got 13 (by decide) (by simp [hd])
                  refine ⟨fun hh => ?_, fun hh => ?_⟩
                  · first
                      | (exact absurd (g0.symm.trans hh) (undef_ne _))
                      | (exact absurd (g0.symm.trans hh) (bool_ne (by decide)))
                      | (exfalso; revert hh; simp [Held, g0, *]; done)
                      | (refine free_run (v := .bool false) (W' := W) rfl ?_ rfl (Below.refl _ _); go_simp)
                  · first
                      | (exact absurd g0 hh)
                      | (exfalso; revert hh; simp [Held, g0, *]; done)
                      | (show undef = _; first | rfl | (simp [*]; done))
                · intro L ax W hf hd
                  simp [Region.binds] at hd
                  have e196 : ax.tmps[196]?.getD undef = .bool false := slv (hf.got 13 (by decide) (by simp [hd]))
                  have e209 : ax.tmps[209]?.getD undef = .bool false := slv (hf.got 26 (by decide) (by simp [hd]))
                  refine ⟨fun _ => ?_, fun h => absurd trivial h⟩
                  refine free_run (v := .bool false) (W' := W) rfl ?_ rfl (Below.refl _ _)
                  go_simp
              · intro vs W' hl' hF hb
                obtain ⟨g', hg1, hg2⟩ := vs_lit vs hl' hF
                have e27 : g' 27 = .bool false := hg2 27 (by decide)
                rw [hg1]
                simp only [List.length_cons, List.length_nil, Nat.reduceAdd, show List.range 28 = [0, 1, 2, 3, 4, 5, 6, 7, 8, 9, 10, 11, 12, 13, 14, 15, 16, 17, 18, 19, 20, 21, 22, 23, 24, 25, 26, 27] from rfl, List.map_cons, List.map_nil, putL, List.zip_cons_cons, List.zip_nil_right, List.setIfInBounds_toArray, List.set_cons_succ, List.set_cons_zero, e27]
                go_wp2_with fail
                go_meet
                exact ⟨rfl, Lib.hid hb⟩
          case rest =>
            obtain ⟨rfl, hb9⟩ := hcut
            generalize wc = w9 at *
            have hB9 := Lib.hid (hB8.out.trans (hb9.out.mono hB8.out.size))
            have hal9 : al < w9.heap.size := Nat.lt_of_lt_of_le hal hB9.out.size
            have rnl9 := (row?_below _ _ _ hb9.out hal8).trans rnl8.out
            have rne9 := (row?_below _ _ _ hb9.out h25).trans rne
            have h259 : b25 < w9.heap.size := Nat.lt_of_lt_of_le h25 hb9.out.size
            have hepM := Lib.hid (show ∀ n, n ≤ lo → epAt (de ga lo at1 ot) n = (mPt ga n).epoch.toNat from fun n hn => de_epM q6 q2 hn)
            have hepO := Lib.hid (show ∀ n, n ≤ ot → epAt (de ga lo at1 ot) (oI at1 lo n) = (oPt ga at1 n).epoch.toNat from fun n hn => de_epO q6 q2 q3 hn)
            have hptM := Lib.hid (show ∀ n, n ≤ lo → ptAt (de ga lo at1 ot) n = mPt ga n from fun n hn => de_ptM hn)
            have hptO := Lib.hid (show ∀ n, n ≤ ot → ptAt (de ga lo at1 ot) (oI at1 lo n) = oPt ga at1 n from fun n hn => de_ptO q3 hn)
            have hwant := Lib.hid (deep_want (e := ep.toNat) q5 q6 q2 q3 q4)
            have hbk := Lib.hid (fun h => deep_bk q5 q6 q2 q3 q4 (e := ep.toNat) h lo (Nat.le_refl _))
            have h0e : epAt (de ga lo at1 ot) 0 = 1 := by rw [de_ep q6 q2 (Nat.zero_le _), Nat.zero_mul]
            have hA1 := chAtE_at (e := ep) (de_at q5 q6 q2 q3 q4 (Nat.le_refl lo))
            have hA2 := chAtE_at (e := ep) (de_at2 q5 q6 q2 q3 q4)
            rw [show (if ot = 0 then at1 else lo + ot) = oI at1 lo ot from rfl] at hA2
            rw [h0e, ← hnl5.out] at hA1
            rw [h0e, ← hne.out] at hA2
            obtain ⟨C, hCe⟩ : ∃ C, C = de ga lo at1 ot := ⟨_, rfl⟩
            rw [← hCe] at hepM hepO hptM hptO hwant hbk hA1 hA2 hR hok
            replace hCe := Lib.hid hCe
            have HA := (hR.out.keep hB9.out).at_c hok.out nl ep
            unfold ptrV at HA
            clear h0e u3e u2e rni8 hu2i hu2i' HU2 HU3 rne hb9 hnl4 hbl rpe
            by_cases he : ep.toNat < 1
            · have hei : (ep.toNat : Int) < 1 := by omega
              rw [hA1, if_pos he] at HA
              clear hA1 hA2
              go_wp2_with fail
              (with_reducible refine HA.mono ?_)
              clear HA
              rintro e w10 ⟨rfl, hb10⟩
              go_upto_region 28 with fail
              obtain ⟨w11, hw11, -, -, hb11, -⟩ := box_row w10 (pointA zeroPt) (pointA zeroPt) 26 33 (by omega) (by simp) (by simp)
              rw [← hw11]
              have hB11 := hB9.out.trans ((hb10.trans (hb11.mono hb10.size)).mono hB9.out.size)
              have HE := hend.out w11 (hBq.out.trans (hB11.mono hBq.out.size))
              clear hw11 hb10 hb11 hB11 rne9 rnl9
              go_wp2_with fail
              (with_reducible refine HE.mono ?_)
              rintro e w12 ⟨rfl, hb12⟩
              go_wp2_with fail
              go_ret
              rw [hw0.out] at hb12
              exact ⟨rfl, hb12⟩
            · have hei : ¬ (ep.toNat : Int) < 1 := by omega
              rw [hA1, if_neg he, hbk.out (by omega)] at HA
              rw [if_neg he] at hA2
              obtain ⟨N, hN⟩ : ∃ N, N = min lo ((ep.toNat - 1) / ga) := ⟨_, rfl⟩
              rw [← hN] at HA
              obtain ⟨pw1, hpw1⟩ : ∃ p, p = ptAt C N := ⟨_, rfl⟩
              have hNl : N ≤ lo := by omega
              have hpwN := Lib.hid (show mPt ga N = pw1 by rw [hpw1, hptM.out N hNl])
              obtain ⟨pw2, hpw2⟩ : ∃ p, p = ptAt C (bk C ep.toNat (oI at1 lo ot)) := ⟨_, rfl⟩
              rw [← hpw1] at HA
              rw [← hpw2] at hA2
              have hwant := Lib.hid (show ptAt C (wantI C ep.toNat (List.range (at1 + 1) ++ (List.range (ot + 1)).map (oI at1 lo))) = pw2 by rw [hwant.out, hpw2])
              replace hpw1 := Lib.hid hpw1
              replace hpw2 := Lib.hid hpw2
              clear hA1 hbk
              go_wp2_with fail
              (with_reducible refine HA.mono ?_)
              clear HA
              rintro e w10 ⟨rfl, hb10⟩
              go_upto_region 28 with fail
              obtain ⟨w11, hw11, r26, -, hb11, hz11⟩ := box_row w10 (pointA zeroPt) (pointA pw1) 26 33 (by omega) (by simp) (by simp)
              rw [← hw11]
              obtain ⟨b26, hb26⟩ : ∃ b, b = w10.heap.size := ⟨_, rfl⟩
              rw [← hb26] at r26 ⊢
              have h26 : b26 < w11.heap.size := by omega
              have hb911 := hb10.trans (hb11.mono hb10.size)
              have hB11 := Lib.hid (hB9.out.trans (hb911.mono hB9.out.size))
              have rne11 := (row?_below _ _ _ hb911 h259).trans rne9
              have h2511 : b25 < w11.heap.size := Nat.lt_of_lt_of_le h259 hb911.size
              obtain ⟨e', he'⟩ : ∃ n, n = ep.toNat - 1 := ⟨_, rfl⟩
              obtain ⟨Q, hQ⟩ : ∃ n, n = e' / ga := ⟨_, rfl⟩
              have hepl := ep.toNat_lt
              have hQe : Q ≤ e' := by rw [hQ]; exact Nat.div_le_self _ _
              have hsub : IntKind.u64.wrap ((ep.toNat : Int) - 1) = (e' : Int) := by rw [IntKind.wrap_u64]; omega
              have hquo : Int.tdiv (e' : Int) (ga : Int) = (Q : Int) := by rw [hQ]; rfl
              have hwq : IntKind.u64.wrap (Q : Int) = (Q : Int) := by rw [IntKind.wrap_u64]; omega
              have hga0 : ¬ ga = 0 := by omega
              have hwl : IntKind.u64.wrap (lo : Int) = (lo : Int) := by rw [IntKind.wrap_u64]; omega
              rw [← he', ← hQ] at hN
              replace hN := Lib.hid hN
              replace he' := Lib.hid he'
              replace hQ := Lib.hid hQ
              replace hb26 := Lib.hid hb26
              replace hz11 := Lib.hid hz11
              clear hw11 hb10 hb11 hb911 rne9 rnl9 he hepl hQe
              go_upto_if 237 with fail
              go_cut [28, 237] from 238 to 239 (fun u _ W => u = .int .u64 (N : Int) ∧ W = w11)
              case first =>
                by_cases hql : lo < Q
                · have hqi : (lo : Int) < (Q : Int) := by omega
                  have hNv : N = lo := by have := hN.out; omega
                  go_wp2_with fail
                  go_meet
                  exact ⟨by rw [hNv], rfl⟩
                · have hqi : ¬ (lo : Int) < (Q : Int) := by omega
                  have hNv : N = Q := by have := hN.out; omega
                  go_wp2_with fail
                  go_meet
                  exact ⟨by rw [hNv], rfl⟩
              case rest =>
                obtain ⟨rfl, hwc⟩ := hcut
                subst hwc
                generalize wc = w11 at *
                have HA := (hR.out.keep hB11.out).at_c hok.out ne ep
                rw [hA2] at HA
                unfold ptrV at HA
                clear hA2 hsub hquo hwq hwl hga0
                go_wp2_with fail
                (with_reducible refine HA.mono ?_)
                clear HA
                rintro e w12' ⟨rfl, hb12'⟩
                go_upto_region 34 with fail
                obtain ⟨w12, hw12, r29, -, hb12, hz12⟩ := box_row w12' (pointA zeroPt) (pointA pw2) 26 33 (by omega) (by simp) (by simp)
                rw [← hw12]
                obtain ⟨b29, hb29⟩ : ∃ b, b = w12'.heap.size := ⟨_, rfl⟩
                rw [← hb29] at r29 ⊢
                have h29 : b29 < w12.heap.size := by omega
                have hb1112 := hb12'.trans (hb12.mono hb12'.size)
                have hB12 := Lib.hid (hB11.out.trans (hb1112.mono hB11.out.size))
                have r26 := (row?_below _ _ _ hb1112 h26).trans r26
                have h26 : b26 < w12.heap.size := Nat.lt_of_lt_of_le h26 hb1112.size
                have r0 := (OwnPt.at (OwnC.keep hDq.out.ls hB12.out) (k := 0) (by rw [mPts_length]; omega)).1
                rw [mPts_get, Nat.zero_mul] at r0
                obtain ⟨p0, hp0⟩ : ∃ p, p = mPt ga 0 := ⟨_, rfl⟩
                rw [← hp0] at r0
                have hp0' := Lib.hid hp0
                clear hp0
                replace hb29 := Lib.hid hb29
                replace hz12 := Lib.hid hz12
                clear hw12 hb12' hb12 hb1112 rne11
                have l0 : (0 : Int) < (lo : Int) + 1 := by omega
                go_upto_region 35 with fail
                obtain ⟨w13, hw13, r31, t31, hb13, hz13⟩ := box_row w12 (pointA zeroPt) (pointA p0) 26 33 (by omega) (by simp) (by simp)
                rw [← hw13]
                obtain ⟨b31, hb31⟩ : ∃ b, b = w12.heap.size := ⟨_, rfl⟩
                rw [← hb31] at r31 t31 ⊢
                have hf1 := Lib.hid hb13
                have hf2 : Hid (row? w13 b31 0 33 = some (pointA (ptAt C (wantI C ep.toNat (List.range 0))))) := Lib.hid (by
                  rw [show wantI C ep.toNat (List.range 0) = 0 from rfl, hptM.out 0 (Nat.zero_le _), ← hp0'.out]
                  exact r31)
                have hf3 := Lib.hid t31
                replace hb31 := Lib.hid hb31
                replace hz13 := Lib.hid hz13
                clear hw13 hb13 r31 t31 r0
                go_wp2_with fail
                go_loopw [32] (fun x W' => ∃ n : Nat, n ≤ at1 + 1 ∧ x = .int .i64 n ∧ Hid (Below w12.heap.size w12 W') ∧ Hid (row? W' b31 0 33 = some (pointA (ptAt C (wantI C ep.toNat (List.range n))))) ∧ Hid (there W' b31 0 33)) (fun x _ => at1 + 1 - (intOf x).toNat)
                case atStart => exact ⟨0, Nat.zero_le _, rfl, hf1, hf2, hf3⟩
                case round =>
                  obtain ⟨n, hn, rfl, hBn, hwn, htn⟩ := hrel
                  have hBrn := Lib.hid (hB12.out.trans (hBn.out.mono hB12.out.size))
                  by_cases hnx : n < at1 + 1
                  · have n0 : (0 : Int) ≤ (n : Int) := by omega
                    have n1 : (n : Int) ≤ (at1 : Int) := by omega
                    have n2 : (n : Int) < (lo : Int) + 1 := by omega
                    obtain ⟨rp, -, rc⟩ := OwnPt.at (OwnC.keep hDq.out.ls hBrn.out) (k := n) (by rw [mPts_length]; omega)
                    rw [mPts_get] at rp rc
                    have hst := wantI_snoc C ep.toNat (List.range n) (n)
                    rw [hepM.out n (by omega)] at hst
                    have hpt := hptM.out n (by omega)
                    obtain ⟨pn, hpn⟩ : ∃ x, x = mPt ga n := ⟨_, rfl⟩
                    rw [← hpn] at rp rc hst hpt
                    replace hpn := Lib.hid hpn
                    replace hpt := Lib.hid hpt
                    have hnx2 := Lib.hid hnx
                    have hth := htn.out
                    have hmore := Lib.hid (show List.range (n + 1) = List.range n ++ [n] from List.range_succ)
                    by_cases hle : pn.epoch.toNat ≤ ep.toNat
                    · have hlei : (pn.epoch.toNat : Int) ≤ (ep.toNat : Int) := by omega
                      rw [if_pos hle] at hst
                      have hfin : Hid (∀ W9, W9 = putRow wr b31 0 (pointA pn) → Below w12.heap.size w12 W9 ∧ row? W9 b31 0 33 = some (pointA (ptAt C (wantI C ep.toNat (List.range (n + 1))))) ∧ there W9 b31 0 33) := Lib.hid (by
                        rintro W9 rfl
                        refine ⟨below_put hBn.out (Nat.le_of_eq hb31.out.symm) _ _, ?_, by rw [there_put']; exact hth⟩
                        rw [hmore.out, hst, hpt.out]
                        exact row?_put_same _ _ _ _ _ (by simp) (by omega) hth)
                      replace hst := Lib.hid hst
                      clear hle hwn hBn htn hBrn hnx
                      go_upto_region 37 with fail
                      have hf := hfin.out _ rfl
                      generalize putRow wr b31 0 (pointA pn) = w14 at *
                      clear rp rc hth hfin
                      have hf1 := Lib.hid hf.1
                      have hf2 := Lib.hid hf.2.1
                      have hf3 := Lib.hid hf.2.2
                      clear hf
                      go_wp2_with fail
                      go_roundw
                      case rel => exact ⟨n + 1, by have := hnx2.out; omega, by go_num, hf1, hf2, hf3⟩
                      case measure => have := hnx2.out; simp [intOf]; omega
                    · have hlei : ¬ (pn.epoch.toNat : Int) ≤ (ep.toNat : Int) := by omega
                      rw [if_neg hle] at hst
                      have hf2 : Hid (row? wr b31 0 33 = some (pointA (ptAt C (wantI C ep.toNat (List.range (n + 1)))))) := Lib.hid (by rw [hmore.out, hst]; exact hwn.out)
                      replace hst := Lib.hid hst
                      clear hle hwn hBrn hnx rp hth
                      go_wp2_with fail
                      go_roundw
                      case rel => exact ⟨n + 1, by have := hnx2.out; omega, by go_num, hBn, hf2, htn⟩
                      case measure => have := hnx2.out; simp [intOf]; omega
                  · obtain rfl : n = at1 + 1 := by omega
                    have hnn : ¬ ((at1 + 1 : Nat) : Int) ≤ (at1 : Int) := by omega
                    have hw4 : Hid (row? wr b31 0 33 = some (pointA (ptAt C (wantI C ep.toNat (List.range (at1 + 1) ++ (List.range 0).map (oI at1 lo)))))) := Lib.hid (by
                      rw [List.range_zero, List.map_nil, List.append_nil]
                      exact hwn.out)
                    clear hwn hf1 hf2 hf3
                    generalize wr = wq at *
                    go_wp2_with fail
                    go_loopw [33] (fun x W' => ∃ n : Nat, n ≤ ot + 1 ∧ x = .int .i64 n ∧ Hid (Below w12.heap.size w12 W') ∧ Hid (row? W' b31 0 33 = some (pointA (ptAt C (wantI C ep.toNat (List.range (at1 + 1) ++ (List.range n).map (oI at1 lo)))))) ∧ Hid (there W' b31 0 33)) (fun x _ => ot + 1 - (intOf x).toNat)
                    case atStart => exact ⟨0, Nat.zero_le _, rfl, hBn, hw4, htn⟩
                    case round =>
                      obtain ⟨n, hn, rfl, hBn, hwn, htn⟩ := hrel
                      have hBrn := Lib.hid (hB12.out.trans (hBn.out.mono hB12.out.size))
                      by_cases hnx : n < ot + 1
                      · have n0 : (0 : Int) ≤ (n : Int) := by omega
                        have n1 : (n : Int) < (ot : Int) + 1 := by omega
                        have n2 : (n : Int) < (ot : Int) + 1 := by omega
                        obtain ⟨rp, -, rc⟩ := OwnPt.at (OwnC.keep hDq.out.ts hBrn.out) (k := n) (by rw [oPts_length]; omega)
                        rw [oPts_get] at rp rc
                        have hst := wantI_snoc C ep.toNat (List.range (at1 + 1) ++ (List.range n).map (oI at1 lo)) (oI at1 lo n)
                        rw [hepO.out n (by omega)] at hst
                        have hpt := hptO.out n (by omega)
                        obtain ⟨pn, hpn⟩ : ∃ x, x = oPt ga at1 n := ⟨_, rfl⟩
                        rw [← hpn] at rp rc hst hpt
                        replace hpn := Lib.hid hpn
                        replace hpt := Lib.hid hpt
                        have hnx2 := Lib.hid hnx
                        have hth := htn.out
                        have hmore := Lib.hid (show List.range (at1 + 1) ++ (List.range (n + 1)).map (oI at1 lo) = (List.range (at1 + 1) ++ (List.range n).map (oI at1 lo)) ++ [oI at1 lo n] from by rw [List.range_succ (n := n), List.map_append, List.append_assoc]; rfl)
                        by_cases hle : pn.epoch.toNat ≤ ep.toNat
                        · have hlei : (pn.epoch.toNat : Int) ≤ (ep.toNat : Int) := by omega
                          rw [if_pos hle] at hst
                          have hfin : Hid (∀ W9, W9 = putRow wr b31 0 (pointA pn) → Below w12.heap.size w12 W9 ∧ row? W9 b31 0 33 = some (pointA (ptAt C (wantI C ep.toNat (List.range (at1 + 1) ++ (List.range (n + 1)).map (oI at1 lo))))) ∧ there W9 b31 0 33) := Lib.hid (by
                            rintro W9 rfl
                            refine ⟨below_put hBn.out (Nat.le_of_eq hb31.out.symm) _ _, ?_, by rw [there_put']; exact hth⟩
                            rw [hmore.out, hst, hpt.out]
                            exact row?_put_same _ _ _ _ _ (by simp) (by omega) hth)
                          replace hst := Lib.hid hst
                          clear hle hwn hBn htn hBrn hnx
                          go_upto_region 42 with fail
                          have hf := hfin.out _ rfl
                          generalize putRow wr b31 0 (pointA pn) = w14 at *
                          clear rp rc hth hfin
                          have hf1 := Lib.hid hf.1
                          have hf2 := Lib.hid hf.2.1
                          have hf3 := Lib.hid hf.2.2
                          clear hf
                          go_wp2_with fail
                          go_roundw
                          case rel => exact ⟨n + 1, by have := hnx2.out; omega, by go_num, hf1, hf2, hf3⟩
                          case measure => have := hnx2.out; simp [intOf]; omega
                        · have hlei : ¬ (pn.epoch.toNat : Int) ≤ (ep.toNat : Int) := by omega
                          rw [if_neg hle] at hst
                          have hf2 : Hid (row? wr b31 0 33 = some (pointA (ptAt C (wantI C ep.toNat (List.range (at1 + 1) ++ (List.range (n + 1)).map (oI at1 lo)))))) := Lib.hid (by rw [hmore.out, hst]; exact hwn.out)
                          replace hst := Lib.hid hst
                          clear hle hwn hBrn hnx rp hth
                          go_wp2_with fail
                          go_roundw
                          case rel => exact ⟨n + 1, by have := hnx2.out; omega, by go_num, hBn, hf2, htn⟩
                          case measure => have := hnx2.out; simp [intOf]; omega
                      · obtain rfl : n = ot + 1 := by omega
                        have hnn : ¬ ((ot + 1 : Nat) : Int) < (ot : Int) + 1 := by omega
                        have hw9 := hwn.out
                        rw [hwant.out] at hw9
                        have hB13 := Lib.hid (hB12.out.trans (hBn.out.mono hB12.out.size))
                        have hal13 : al < wr.heap.size := Nat.lt_of_lt_of_le hal hB13.out.size
                        obtain ⟨rN, -, -⟩ := OwnPt.at (OwnC.keep hDq.out.ls hB13.out) (k := N) (by rw [mPts_length]; omega)
                        rw [mPts_get, hpwN.out] at rN
                        have r26 := (row?_below _ _ _ hBn.out h26).trans r26
                        have r29 := (row?_below _ _ _ hBn.out h29).trans r29
                        have h26 : b26 < wr.heap.size := Nat.lt_of_lt_of_le h26 hBn.out.size
                        have h29 : b29 < wr.heap.size := Nat.lt_of_lt_of_le h29 hBn.out.size
                        have h31 : b31 < wr.heap.size := lt_of_row hw9
                        have r31 := hw9
                        have hal := hal13
                        have HK := fun W (hb : Below wr.heap.size wr W) => known10_c W
                        have hBe := Lib.hid (hBq.out.trans (hB13.out.mono hBq.out.size))
                        have N0 : (0 : Int) ≤ (N : Int) := by omega
                        have N1 : (N : Int) < (lo : Int) + 1 := by omega
                        clear hBn hwn htn hw9
                        go_upto_region 45 with fail
                        refine wp_region_freeG_l (fun W W' => Below W.heap.size W W') (by kernel_rfl) [284, 285, 286, 287, 288, 289, 290, 291, 292, 293, 294, 295, 296, 297, 298, 299, 300, 301, 302, 303, 304, 305, 14]
                          [Is (.int .i64 0), Is (.bool true), Is (.bool true), Is (.agg (pointA pw1)), Is (.slice (some ⟨al, 0, none⟩) (lo + 1) cl), Is (.int .u64 (N : Int)), Is (.pointer (some ⟨al, N * 33, none⟩)), Is (.agg (pointA pw1)), Is (.bool true), Is (.bool true), Is (.bool true), Is (.int .i64 0), Is (.bool true), Is (.bool true), Is (.bool true), Is (.agg (pointA pw2)), Is (.agg (pointA pw2)), Is (.bool true), Is (.bool true), Is (.bool true), Is (.bool true), Is (.bool true), Is (.bool true)]
                          (by kernel_rfl) (fun W W' h hb => hb.trans (h.mono hb.size)) ?_ ?_ ?_
                        · intro f hf
                          simp only [List.mem_cons, List.not_mem_nil, or_false] at hf
                          rcases hf with rfl | rfl | rfl | rfl | rfl | rfl | rfl | rfl | rfl | rfl | rfl | rfl | rfl | rfl | rfl | rfl | rfl | rfl | rfl | rfl | rfl | rfl | rfl <;> intro x W W' h hr <;> first | exact h
                        · refine ⟨?_, ?_, ?_, ?_, ?_, ?_, ?_, ?_, ?_, ?_, ?_, ?_, ?_, ?_, ?_, ?_, ?_, ?_, ?_, ?_, ?_, ?_, ?_, trivial⟩
                          · intro L ax W hf hd
                            try simp [Region.binds] at hd
                            have e27 : ax.tmps[27]?.getD undef = .int .i64 0 := hf.out 27 (by decide) rfl
                            refine ⟨fun _ => ?_, fun h => absurd trivial h⟩
                            refine free_run (v := .int .i64 0) (W' := W) rfl ?_ rfl (Below.refl _ _)
                            go_simp
                          · intro L ax W hf hd
                            simp [Region.binds] at hd
                            have e284 : ax.tmps[284]?.getD undef = .int .i64 0 := slv (hf.got 0 (by decide) (by simp [hd]))
                            refine ⟨fun _ => ?_, fun h => absurd trivial h⟩
                            refine free_run (v := .bool true) (W' := W) rfl ?_ rfl (Below.refl _ _)
                            go_simp
                          · intro L ax W hf hd
                            simp [Region.binds] at hd
                            have e285 : ax.tmps[285]?.getD undef = .bool true := slv (hf.got 1 (by decide) (by simp [hd]))
                            refine ⟨fun _ => ?_, fun h => absurd trivial h⟩
                            refine free_run (v := .bool true) (W' := W) rfl ?_ rfl (Below.refl _ _)
                            go_simp
                          · intro L ax W hf hd
                            simp [Region.binds] at hd
                            have e26 : ax.tmps[26]?.getD undef = .pointer (some ⟨b26, 0, none⟩) := hf.out 26 (by decide) rfl
                            have g0 : sl ax 286 = .bool true := hf.got 2 (by decide) (by simp [hd])
                            refine ⟨fun hh => ?_, fun hh => ?_⟩
                            · first
                                | (exact absurd (g0.symm.trans hh) (undef_ne _))
                                | (exact absurd (g0.symm.trans hh) (bool_ne (by decide)))
                                | (exfalso; revert hh; simp [Held, g0, *]; done)
                                | ((have h1 := (row?_below _ _ _ hf.below h26).trans r26); refine free_run (v := .agg (pointA pw1)) (W' := W) rfl ?_ rfl (Below.refl _ _); go_simp)
                            · first
                                | (exact absurd g0 hh)
                                | (exfalso; revert hh; simp [Held, g0, *]; done)
                                | (show undef = _; first | rfl | (simp [*]; done))
                          · intro L ax W hf hd
                            simp [Region.binds] at hd
                            have e17 : ax.tmps[17]?.getD undef = .slice (some ⟨al, 0, none⟩) (lo + 1) cl := hf.out 17 (by decide) rfl
                            have g0 : sl ax 286 = .bool true := hf.got 2 (by decide) (by simp [hd])
                            refine ⟨fun hh => ?_, fun hh => ?_⟩
                            · first
                                | (exact absurd (g0.symm.trans hh) (undef_ne _))
                                | (exact absurd (g0.symm.trans hh) (bool_ne (by decide)))
                                | (exfalso; revert hh; simp [Held, g0, *]; done)
                                | (refine free_run (v := .slice (some ⟨al, 0, none⟩) (lo + 1) cl) (W' := W) rfl ?_ rfl (Below.refl _ _); go_simp)
                            · first
                                | (exact absurd g0 hh)
                                | (exfalso; revert hh; simp [Held, g0, *]; done)
                                | (show undef = _; first | rfl | (simp [*]; done))
                          · intro L ax W hf hd
                            simp [Region.binds] at hd
                            have e28 : ax.tmps[28]?.getD undef = .int .u64 (N : Int) := hf.out 28 (by decide) rfl
                            have g0 : sl ax 286 = .bool true := hf.got 2 (by decide) (by simp [hd])
                            refine ⟨fun hh => ?_, fun hh => ?_⟩
                            · first
                                | (exact absurd (g0.symm.trans hh) (undef_ne _))
                                | (exact absurd (g0.symm.trans hh) (bool_ne (by decide)))
                                | (exfalso; revert hh; simp [Held, g0, *]; done)
                                | (refine free_run (v := .int .u64 (N : Int)) (W' := W) rfl ?_ rfl (Below.refl _ _); go_simp)
                            · first
                                | (exact absurd g0 hh)
                                | (exfalso; revert hh; simp [Held, g0, *]; done)
                                | (show undef = _; first | rfl | (simp [*]; done))
                          · intro L ax W hf hd
                            simp [Region.binds] at hd
                            have e288 : ax.tmps[288]?.getD undef = .slice (some ⟨al, 0, none⟩) (lo + 1) cl := slv (hf.got 4 (by decide) (by simp [hd]))
                            have e289 : ax.tmps[289]?.getD undef = .int .u64 (N : Int) := slv (hf.got 5 (by decide) (by simp [hd]))
                            have g0 : sl ax 286 = .bool true := hf.got 2 (by decide) (by simp [hd])
                            refine ⟨fun hh => ?_, fun hh => ?_⟩
                            · first
                                | (exact absurd (g0.symm.trans hh) (undef_ne _))
                                | (exact absurd (g0.symm.trans hh) (bool_ne (by decide)))
                                | (exfalso; revert hh; simp [Held, g0, *]; done)
                                | (refine free_run (v := .pointer (some ⟨al, N * 33, none⟩)) (W' := W) rfl ?_ rfl (Below.refl _ _); go_simp)
                            · first
                                | (exact absurd g0 hh)
                                | (exfalso; revert hh; simp [Held, g0, *]; done)
                                | (show undef = _; first | rfl | (simp [*]; done))
                          · intro L ax W hf hd
                            simp [Region.binds] at hd
                            have e290 : ax.tmps[290]?.getD undef = .pointer (some ⟨al, N * 33, none⟩) := slv (hf.got 6 (by decide) (by simp [hd]))
                            have g0 : sl ax 286 = .bool true := hf.got 2 (by decide) (by simp [hd])
                            refine ⟨fun hh => ?_, fun hh => ?_⟩
                            · first
                                | (exact absurd (g0.symm.trans hh) (undef_ne _))
                                | (exact absurd (g0.symm.trans hh) (bool_ne (by decide)))
                                | (exfalso; revert hh; simp [Held, g0, *]; done)
                                | ((have h1 := (row?_below _ _ _ hf.below hal).trans rN); refine free_run (v := .agg (pointA pw1)) (W' := W) rfl ?_ rfl (Below.refl _ _); go_simp)
                            · first
                                | (exact absurd g0 hh)
                                | (exfalso; revert hh; simp [Held, g0, *]; done)
                                | (show undef = _; first | rfl | (simp [*]; done))
                          · intro L ax W hf hd
                            simp [Region.binds] at hd
                            have e287 : ax.tmps[287]?.getD undef = .agg (pointA pw1) := slv (hf.got 3 (by decide) (by simp [hd]))
                            have e291 : ax.tmps[291]?.getD undef = .agg (pointA pw1) := slv (hf.got 7 (by decide) (by simp [hd]))
                            have g0 : sl ax 286 = .bool true := hf.got 2 (by decide) (by simp [hd])
                            refine ⟨fun hh => ?_, fun hh => ?_⟩
                            · first
                                | (exact absurd (g0.symm.trans hh) (undef_ne _))
                                | (exact absurd (g0.symm.trans hh) (bool_ne (by decide)))
                                | (exfalso; revert hh; simp [Held, g0, *]; done)
                                | (refine free_run (v := .bool true) (W' := W) rfl ?_ rfl (Below.refl _ _); go_simp)
                            · first
                                | (exact absurd g0 hh)
                                | (exfalso; revert hh; simp [Held, g0, *]; done)
                                | (show undef = _; first | rfl | (simp [*]; done))
                          · intro L ax W hf hd
                            simp [Region.binds] at hd
                            have e286 : ax.tmps[286]?.getD undef = .bool true := slv (hf.got 2 (by decide) (by simp [hd]))
                            have e292 : ax.tmps[292]?.getD undef = .bool true := slv (hf.got 8 (by decide) (by simp [hd]))
                            refine ⟨fun _ => ?_, fun h => absurd trivial h⟩
                            refine free_run (v := .bool true) (W' := W) rfl ?_ rfl (Below.refl _ _)
                            go_simp
                          · intro L ax W hf hd
                            simp [Region.binds] at hd
                            have e293 : ax.tmps[293]?.getD undef = .bool true := slv (hf.got 9 (by decide) (by simp [hd]))
                            refine ⟨fun _ => ?_, fun h => absurd trivial h⟩
                            refine free_run (v := .bool true) (W' := W) rfl ?_ rfl (Below.refl _ _)
                            go_simp
                          · intro L ax W hf hd
                            simp [Region.binds] at hd
                            have e30 : ax.tmps[30]?.getD undef = .int .i64 0 := hf.out 30 (by decide) rfl
                            have g0 : sl ax 294 = .bool true := hf.got 10 (by decide) (by simp [hd])
                            refine ⟨fun hh => ?_, fun hh => ?_⟩
                            · first
                                | (exact absurd (g0.symm.trans hh) (undef_ne _))
                                | (exact absurd (g0.symm.trans hh) (bool_ne (by decide)))
                                | (exfalso; revert hh; simp [Held, g0, *]; done)
                                | (refine free_run (v := .int .i64 0) (W' := W) rfl ?_ rfl (Below.refl _ _); go_simp)
                            · first
                                | (exact absurd g0 hh)
                                | (exfalso; revert hh; simp [Held, g0, *]; done)
                                | (show undef = _; first | rfl | (simp [*]; done))
                          · intro L ax W hf hd
                            simp [Region.binds] at hd
                            have e295 : ax.tmps[295]?.getD undef = .int .i64 0 := slv (hf.got 11 (by decide) (by simp [hd]))
                            have g0 : sl ax 294 = .bool true := hf.got 10 (by decide) (by simp [hd])
                            refine ⟨fun hh => ?_, fun hh => ?_⟩
                            · first
                                | (exact absurd (g0.symm.trans hh) (undef_ne _))
                                | (exact absurd (g0.symm.trans hh) (bool_ne (by decide)))
                                | (exfalso; revert hh; simp [Held, g0, *]; done)
                                | (refine free_run (v := .bool true) (W' := W) rfl ?_ rfl (Below.refl _ _); go_simp)
                            · first
                                | (exact absurd g0 hh)
                                | (exfalso; revert hh; simp [Held, g0, *]; done)
                                | (show undef = _; first | rfl | (simp [*]; done))
                          · intro L ax W hf hd
                            simp [Region.binds] at hd
                            have e294 : ax.tmps[294]?.getD undef = .bool true := slv (hf.got 10 (by decide) (by simp [hd]))
                            have e296 : ax.tmps[296]?.getD undef = .bool true := slv (hf.got 12 (by decide) (by simp [hd]))
                            refine ⟨fun _ => ?_, fun h => absurd trivial h⟩
                            refine free_run (v := .bool true) (W' := W) rfl ?_ rfl (Below.refl _ _)
                            go_simp
                          · intro L ax W hf hd
                            simp [Region.binds] at hd
                            have e297 : ax.tmps[297]?.getD undef = .bool true := slv (hf.got 13 (by decide) (by simp [hd]))
                            refine ⟨fun _ => ?_, fun h => absurd trivial h⟩
                            refine free_run (v := .bool true) (W' := W) rfl ?_ rfl (Below.refl _ _)
                            go_simp
                          · intro L ax W hf hd
                            simp [Region.binds] at hd
                            have e29 : ax.tmps[29]?.getD undef = .pointer (some ⟨b29, 0, none⟩) := hf.out 29 (by decide) rfl
                            have g0 : sl ax 298 = .bool true := hf.got 14 (by decide) (by simp [hd])
                            refine ⟨fun hh => ?_, fun hh => ?_⟩
                            · first
                                | (exact absurd (g0.symm.trans hh) (undef_ne _))
                                | (exact absurd (g0.symm.trans hh) (bool_ne (by decide)))
                                | (exfalso; revert hh; simp [Held, g0, *]; done)
                                | ((have h1 := (row?_below _ _ _ hf.below h29).trans r29); refine free_run (v := .agg (pointA pw2)) (W' := W) rfl ?_ rfl (Below.refl _ _); go_simp)
                            · first
                                | (exact absurd g0 hh)
                                | (exfalso; revert hh; simp [Held, g0, *]; done)
                                | (show undef = _; first | rfl | (simp [*]; done))
                          · intro L ax W hf hd
                            simp [Region.binds] at hd
                            have e31 : ax.tmps[31]?.getD undef = .pointer (some ⟨b31, 0, none⟩) := hf.out 31 (by decide) rfl
                            have g0 : sl ax 298 = .bool true := hf.got 14 (by decide) (by simp [hd])
                            refine ⟨fun hh => ?_, fun hh => ?_⟩
                            · first
                                | (exact absurd (g0.symm.trans hh) (undef_ne _))
                                | (exact absurd (g0.symm.trans hh) (bool_ne (by decide)))
                                | (exfalso; revert hh; simp [Held, g0, *]; done)
                                | ((have h1 := (row?_below _ _ _ hf.below h31).trans r31); refine free_run (v := .agg (pointA pw2)) (W' := W) rfl ?_ rfl (Below.refl _ _); go_simp)
                            · first
                                | (exact absurd g0 hh)
                                | (exfalso; revert hh; simp [Held, g0, *]; done)
                                | (show undef = _; first | rfl | (simp [*]; done))
                          · intro L ax W hf hd
                            simp [Region.binds] at hd
                            have e299 : ax.tmps[299]?.getD undef = .agg (pointA pw2) := slv (hf.got 15 (by decide) (by simp [hd]))
                            have e300 : ax.tmps[300]?.getD undef = .agg (pointA pw2) := slv (hf.got 16 (by decide) (by simp [hd]))
                            have g0 : sl ax 298 = .bool true := hf.got 14 (by decide) (by simp [hd])
                            refine ⟨fun hh => ?_, fun hh => ?_⟩
                            · first
                                | (exact absurd (g0.symm.trans hh) (undef_ne _))
                                | (exact absurd (g0.symm.trans hh) (bool_ne (by decide)))
                                | (exfalso; revert hh; simp [Held, g0, *]; done)
                                | (refine free_run (v := .bool true) (W' := W) rfl ?_ rfl (Below.refl _ _); go_simp)
                            · first
                                | (exact absurd g0 hh)
                                | (exfalso; revert hh; simp [Held, g0, *]; done)
                                | (show undef = _; first | rfl | (simp [*]; done))
                          · intro L ax W hf hd
                            simp [Region.binds] at hd
                            have e298 : ax.tmps[298]?.getD undef = .bool true := slv (hf.got 14 (by decide) (by simp [hd]))
                            have e301 : ax.tmps[301]?.getD undef = .bool true := slv (hf.got 17 (by decide) (by simp [hd]))
                            refine ⟨fun _ => ?_, fun h => absurd trivial h⟩
                            refine free_run (v := .bool true) (W' := W) rfl ?_ rfl (Below.refl _ _)
                            go_simp
                          · intro L ax W hf hd
                            simp [Region.binds] at hd
                            have e302 : ax.tmps[302]?.getD undef = .bool true := slv (hf.got 18 (by decide) (by simp [hd]))
                            refine ⟨fun _ => ?_, fun h => absurd trivial h⟩
                            refine free_run (v := .bool true) (W' := W) rfl ?_ rfl (Below.refl _ _)
                            go_simp
                          · intro L ax W hf hd
                            simp [Region.binds] at hd
                            have g0 : sl ax 303 = .bool true := hf.got 19 (by decide) (by simp [hd])
                            refine ⟨fun hh => ?_, fun hh => ?_⟩
                            · first
                                | (exact absurd (g0.symm.trans hh) (undef_ne _))
                                | (exact absurd (g0.symm.trans hh) (bool_ne (by decide)))
                                | (exfalso; revert hh; simp [Held, g0, *]; done)
                                | (refine free_call (f := 31) (args := #[]) rfl (by go_simp) ?_; refine (HK W hf.below).mono ?_; rintro e w' ⟨rfl, hb⟩; exact ⟨_, rfl, rfl, hb⟩)
                            · first
                                | (exact absurd g0 hh)
                                | (exfalso; revert hh; simp [Held, g0, *]; done)
                                | (show undef = _; first | rfl | (simp [*]; done))
                          · intro L ax W hf hd
                            simp [Region.binds] at hd
                            have e303 : ax.tmps[303]?.getD undef = .bool true := slv (hf.got 19 (by decide) (by simp [hd]))
                            have e304 : ax.tmps[304]?.getD undef = .bool true := slv (hf.got 20 (by decide) (by simp [hd]))
                            refine ⟨fun _ => ?_, fun h => absurd trivial h⟩
                            refine free_run (v := .bool true) (W' := W) rfl ?_ rfl (Below.refl _ _)
                            go_simp
                          · intro L ax W hf hd
                            simp [Region.binds] at hd
                            have e305 : ax.tmps[305]?.getD undef = .bool true := slv (hf.got 21 (by decide) (by simp [hd]))
                            refine ⟨fun _ => ?_, fun h => absurd trivial h⟩
                            refine free_run (v := .bool true) (W' := W) rfl ?_ rfl (Below.refl _ _)
                            go_simp
                        · intro vs W' hl' hF hb
                          obtain ⟨g', hg1, hg2⟩ := vs_lit vs hl' hF
                          have e22 : g' 22 = .bool true := hg2 22 (by decide)
                          rw [hg1]
                          have hBz := Lib.hid (hBe.out.trans (hb.mono hBe.out.size))
                          clear hF hg1 hg2 hl' hb HK r26 r29 r31 rN
                          simp only [List.length_cons, List.length_nil, Nat.reduceAdd, show List.range 23 = [0, 1, 2, 3, 4, 5, 6, 7, 8, 9, 10, 11, 12, 13, 14, 15, 16, 17, 18, 19, 20, 21, 22] from rfl, List.map_cons, List.map_nil, putL, List.zip_cons_cons, List.zip_nil_right, List.setIfInBounds_toArray, List.set_cons_succ, List.set_cons_zero, e22]
                          go_wp2_with fail
                          go_ret
                          exact ⟨rfl, by have h := hBz.out; rw [hw0.out] at h; exact h⟩
end Go.Proofs.Ythdjhbiigmcecaa
