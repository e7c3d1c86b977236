/- A gadget, and apart from it the list of what it took: for FfgPlays. -/
import Derived.Test.YtlkflddjpkhndaaTwo
import Derived.Test.YtlkflddjpkhndaaOpenL
namespace Go.Proofs.Ytlkflddjpkhndaa
open Go.RowKit

def GD (W : World) (N B r : Nat) (a : Pt) (l : List Lnk) (t : Sl) (dl : List Lnk) : Prop :=
  ∃ b1 b2 s js fs, Gad W B r b1 b2 s l js fs ∧ Knows a l js fs ∧ OwnC W B 66 t.v dl.length (lnkCells dl) ∧ (∀ k ∈ foot r b1 b2 s, k < N ∧ t.v.ownBlock ≠ some k) ∧ (∀ k, t.v.ownBlock = some k → k < N) ∧ N ≤ W.heap.size
theorem GD.gad {W : World} {N B r : Nat} {a : Pt} {l dl : List Lnk} {t : Sl} (h : GD W N B r a l t dl) : GadX W B r a l := by
  obtain ⟨b1, b2, s, js, fs, h1, h2, _⟩ := h
  exact ⟨b1, b2, s, js, fs, h1, h2⟩
theorem GD.reads {W : World} {N B r : Nat} {a : Pt} {l dl : List Lnk} {t : Sl} (h : GD W N B r a l t dl) : LnksR W t dl := by
  obtain ⟨b1, b2, s, js, fs, h1, h2, h3, _⟩ := h
  exact lnks_of_own h3
theorem GD.keep {W W' : World} {N B r : Nat} {a : Pt} {l dl : List Lnk} {t : Sl} (h : GD W N B r a l t dl) (hb : Below W.heap.size W W') : GD W' N B r a l t dl := by
  obtain ⟨b1, b2, s, js, fs, h1, h2, h3, h4, h5, h6⟩ := h
  exact ⟨b1, b2, s, js, fs, h1.keep hb, h2, h3.keep hb, h4, h5, Nat.le_trans h6 hb.size⟩
theorem GD.own_lt {W : World} {N B r : Nat} {a : Pt} {l dl : List Lnk} {t : Sl} (h : GD W N B r a l t dl) : ∀ k, t.v.ownBlock = some k → k < N := by
  obtain ⟨b1, b2, s, js, fs, h1, h2, h3, h4, h5, h6⟩ := h
  exact h5
theorem GD.renew {W : World} {N B r : Nat} {a : Pt} {l dl : List Lnk} {t : Sl} (h : GD W N B r a l t dl) : GD W W.heap.size B r a l t dl := by
  obtain ⟨b1, b2, s, js, fs, h1, h2, h3, h4, h5, h6⟩ := h
  exact ⟨b1, b2, s, js, fs, h1, h2, h3, fun k hk => ⟨Nat.lt_of_lt_of_le (h4 k hk).1 h6, (h4 k hk).2⟩, fun k hk => Nat.lt_of_lt_of_le (h5 k hk) h6, Nat.le_refl _⟩
theorem GD.start {W : World} {B r : Nat} {a : Pt} {l : List Lnk} (h : GadX W B r a l) : GD W W.heap.size B r a l ⟨none, 0, 0⟩ [] := by
  obtain ⟨b1, b2, s, js, fs, h1, h2⟩ := h
  exact ⟨b1, b2, s, js, fs, h1, h2, OwnC.nil _ _ _, fun k hk => ⟨(h1.foot_lt k hk).2, by simp [Sl.v, Value.ownBlock]⟩, fun k hk => by simp [Sl.v, Value.ownBlock] at hk, Nat.le_refl _⟩
theorem gd_strong (x : Lnk) {W : World} {N B r : Nat} {a : Pt} {l dl : List Lnk} {t : Sl} (h : GD W N B r a l t dl) (hn : l.length < 1000) :
    Calls Try.prog 23 #[.pointer (some ⟨r, 0, none⟩), .agg (linkA x)] W fun e W' => e = .returned (.int .i64 (strongE l x)) ∧ GD W' W'.heap.size B r a (addL l x) t dl ∧ Below B W W' ∧ ∃ S, Fr S W W' ∧ ∀ k ∈ S, k < N := by
  obtain ⟨b1, b2, s, js, fs, h1, h2, h3, h4, h5, h6⟩ := h
  refine (strong_f a h1 h2 hn x).mono ?_
  rintro e W' ⟨rfl, s', js', fs', g1, g2, g3, g4⟩
  have hB : B ≤ W.heap.size := Nat.le_of_lt (Nat.lt_of_le_of_lt h1.br h1.lt.1)
  have hk3 : OwnC W' B 66 t.v dl.length (lnkCells dl) := h3.of_block (fun g hg => g3.block g (h3.lt g hg).2 (fun hgs => (h4 g hgs).2 hg)) g3.size
  refine ⟨rfl, ⟨b1, b2, s', js', fs', g1, g2, hk3, fun k hk => ⟨(g1.foot_lt k hk).2, fun hk' => ?_⟩, fun k hk => (hk3.lt k hk).2, Nat.le_refl _⟩, g3.under hB fun k hk => (h1.foot_lt k hk).1, _, g3, fun k hk => (h4 k hk).1⟩
  rcases mem_foot.1 hk with e | e | e | e
  · exact (h4 k (mem_foot.2 (.inl e))).2 hk'
  · exact (h4 k (mem_foot.2 (.inr (.inl e)))).2 hk'
  · exact (h4 k (mem_foot.2 (.inr (.inr (.inl e))))).2 hk'
  · rcases g4 with g4 | ⟨g, g4, g5⟩
    · exact (h4 k (mem_foot.2 (.inr (.inr (.inr (g4 ▸ e)))))).2 hk'
    · rw [g4] at e
      cases e
      have := h5 k hk'
      omega
theorem gd_app (x : Lnk) {W : World} {N B r : Nat} {a : Pt} {l dl : List Lnk} {t : Sl} (h : GD W N B r a l t dl) (hd : dl.length ≤ 1000) :
    ∃ t' W2, (appLnk #[t.v, .slice (some ⟨W.heap.size, 0, none⟩) 1 1]).run Try.prog (W.alloc (.cells (linkA x) 28)) = .ok t'.v W2 ∧ GD W2 W2.heap.size B r a l t' (dl ++ [x]) ∧ Below B W W2 ∧ Fr t.v.ownBlock.toList W W2 := by
  obtain ⟨b1, b2, s, js, fs, h1, h2, h3, h4, h5, h6⟩ := h
  obtain ⟨i0, hi, hy0, hy1, hy2⟩ := info_parts info_lnk
  obtain ⟨W1, hW1⟩ : ∃ W1, W1 = W.alloc (.cells (linkA x) 28) := ⟨_, rfl⟩
  have hsz : W1.heap.size = W.heap.size + 1 := by rw [hW1]; simp
  have hb01 : Below W.heap.size W W1 := by rw [hW1]; exact bel_a _ _
  have hsrc : Src Try.prog 66 57 (.slice (some ⟨W.heap.size, 0, none⟩) 1 1) 1 (lnkCells [x]) W1 := by
    refine Src.ofSlice W1 Try.underlying57 ⟨W.heap.size, 0, none⟩ 1 1 (lnkCells [x]) (by rw [lnkCells_length]; rfl) (fun j u hu => ?_) (lnkCells_onecell _)
    have hadd : (⟨W.heap.size, 0, none⟩ : Addr).add j = ⟨W.heap.size, j, none⟩ := by unfold Addr.add; split <;> simp_all
    rw [lnkCells_one] at hu
    rw [hadd, hW1, cell_alloc, if_pos (by simp)]
    simpa using hu
  have hB : B ≤ W.heap.size := Nat.le_of_lt (Nat.lt_of_le_of_lt h1.br h1.lt.1)
  have hown1 := h3.keep hb01
  obtain ⟨v', W2, hrun, hown, hgr, hblk⟩ := run_append_ownC (P := Try.prog) W1 B 57 57 57 28 i0 _ 66 80 Try.underlying57 hi hy0 hy1 hy2 (by simp [Value.cells]) t.v dl.length (lnkCells dl) hown1 (.slice (some ⟨W.heap.size, 0, none⟩) 1 1) 1 (lnkCells [x]) hsrc (by simp only [maxLen]; omega) (by omega) (by omega)
  obtain ⟨t', rfl⟩ := hown.slice
  rw [← lnkCells_append] at hown
  have hown' : OwnC W2 B 66 t'.v (dl ++ [x]).length (lnkCells (dl ++ [x])) := by simpa using hown
  rw [hW1, fold_append] at hrun
  have f2 : Fr t.v.ownBlock.toList W W1 := Fr.of_below hb01
  have f3 : Fr t.v.ownBlock.toList W1 W2 := ⟨hgr.os, hgr.tape, hgr.output, hgr.size, fun k hk hs => hgr.block k hk (fun e => hs (by rw [← e]; simp))⟩
  have f := f2.trans f3
  have hG : Gad W2 B r b1 b2 s l js fs := h1.keepFr f (fun k hk hks => (h4 k hk).2 (by simpa using hks))
  refine ⟨t', W2, hrun, ⟨b1, b2, s, js, fs, hG, h2, hown', fun k hk => ⟨(hG.foot_lt k hk).2, fun hk' => ?_⟩, fun k hk => (hown'.lt k hk).2, Nat.le_refl _⟩, f.under hB (fun k hk => (h3.lt k (by simpa using hk)).1), f⟩
  rcases hblk with hh | hh
  · exact (h4 k hk).2 (hh ▸ hk')
  · rw [hh] at hk'
    cases hk'
    have := (h4 _ hk).1
    omega
/-- where the round stands behind the document's lists -/
structure KP (w w1 W : World) (vb ra : Nat) (p : Pt) (x : Lnk) (l2 : List Lnk) (t sj sf : Sl) : Prop where
  gd : GD W W.heap.size (w.heap.size + 1) ra p l2 t l2
  j : PtsR W sj (JL p l2)
  f : PtsR W sf (FL p l2)
  hB : Below w.heap.size w W
  hB0 : Below (w.heap.size + 1) w1 W
  x : row? W vb 0 66 = some (linkA x)
  lt : vb < W.heap.size
theorem KP.step {w w1 W W' : World} {vb ra : Nat} {p : Pt} {x : Lnk} {l2 : List Lnk} {t sj sf : Sl} (h : KP w w1 W vb ra p x l2 t sj sf) (hb : Below W.heap.size W W') : KP w w1 W' vb ra p x l2 t sj sf where
  gd := (h.gd.keep hb).renew
  j := h.j.keep' hb
  f := h.f.keep' hb
  hB := h.hB.trans (hb.mono h.hB.size)
  hB0 := h.hB0.trans (hb.mono (Nat.le_of_lt (Nat.lt_of_le_of_lt h.gd.gad.lt.1 h.gd.gad.lt.2)))
  x := ((kept hb).2.2 _ _ _ h.lt).trans h.x
  lt := Nat.lt_of_lt_of_le h.lt hb.size
theorem PtsR.last {W : World} {s : Sl} {l : List Pt} (h : PtsR W s l) (hn : l ≠ []) : ∃ g o, s.a = some ⟨g, o, none⟩ ∧ row? W g (o + (l.length - 1) * 33) 33 = some (pointA (l.getLast hn)) := by
  have h0 : 0 < l.length := List.length_pos_iff.2 hn
  obtain ⟨g, o, e, _, hc⟩ := h.at h0
  obtain ⟨cs, h1, h2⟩ := hc (l.length - 1) (by omega)
  refine ⟨g, o, by rw [e], ?_⟩
  rw [h1, h2, List.getLast_eq_getElem]
/-- two points as a new slice, by a name that the walk does not open -/
def bld2 (parts : Array (Nat × Value)) : Sem Value := Instr.buildSlice 49 2 parts
theorem fold_bld2 (parts : Array (Nat × Value)) : Instr.buildSlice 49 2 parts = bld2 parts := rfl
def pts2 (p q : Pt) : Array Value := pointA p ++ pointA q
theorem pts2_size (p q : Pt) : (pts2 p q).size = 66 := by simp [pts2]
theorem pts2_at0 (p q : Pt) : (pts2 p q).extract 0 33 = pointA p := by
  unfold pts2
  rw [Array.extract_append]
  simp
theorem pts2_at1 (p q : Pt) : (pts2 p q).extract 33 66 = pointA q := by
  unfold pts2
  rw [Array.extract_append]
  simp
theorem fold0_spl (A B : Array Value) (n : Nat) (hn : B.size = n) (h : n ≤ A.size) : Array.foldl (fun cs (x : Value × Nat) => cs.setIfInBounds x.2 x.1) A B.zipIdx 0 n = splice A 0 B := by
  have := fold_splice A B 0 n hn (by omega)
  simpa using this
theorem splice_two (Z A B : Array Value) (hZ : Z.size = 66) (hA : A.size = 33) (hB : B.size = 33) : splice (splice Z 0 A) 33 B = A ++ B := by
  have h1 : (splice Z 0 A).size = 66 := by rw [splice_size _ _ _ (by omega), hZ]
  apply Array.ext_getElem?
  intro i
  rw [splice_get _ _ _ (by omega), splice_get _ _ _ (by omega), Array.getElem?_append, hA, hB]
  by_cases h : i < 33
  · rw [if_neg (by omega), if_pos (by omega), if_pos h]
    rfl
  · by_cases h' : i < 66
    · rw [if_pos (by omega), if_neg h]
    · rw [if_neg (by omega), if_neg (by omega), if_neg h, Array.getElem?_eq_none (by omega), Array.getElem?_eq_none (by omega)]
theorem run_bld2 (p q : Pt) (W : World) : (bld2 #[(0, .agg (pointA p)), (1, .agg (pointA q))]).run Try.prog W = .ok (.slice (some ⟨W.heap.size, 0, none⟩) 2 2) (W.alloc (.cells (pts2 p q) 26)) := by
  have k1 : ∀ Z : Array Value, Z.size = 66 → Array.foldl (fun cs (x : Value × Nat) => cs.setIfInBounds x.2 x.1) Z (pointA p).zipIdx 0 33 = splice Z 0 (pointA p) := fun Z h => fold0_spl Z _ 33 (by simp) (by omega)
  have k2 : ∀ Z : Array Value, Z.size = 66 → Array.foldl (fun cs (x : Value × Nat) => cs.setIfInBounds (33 + x.2) x.1) (splice Z 0 (pointA p)) (pointA q).zipIdx 0 33 = pts2 p q := fun Z h => by
    rw [fold_splice _ _ 33 33 (by simp) (by rw [splice_size _ _ _ (by simp; omega)]; omega), splice_two _ _ _ h (by simp) (by simp)]
    rfl
  unfold bld2
  go_simp
  rw [if_neg (by rw [splice_size _ _ _ (by simp)]; simp)]
  simp
end Go.Proofs.Ytlkflddjpkhndaa
