/- Two gadgets, apart from each other; ffg.New of what may not be. -/
import Derived.Test.YtlkflddjpkhndaaKnown13
namespace Go.Proofs.Ytlkflddjpkhndaa
open Go.RowKit

def foot (r b1 b2 : Nat) (s : Sl) : List Nat := [r, b1, b2] ++ s.v.ownBlock.toList
theorem mem_foot {r b1 b2 : Nat} {s : Sl} {k : Nat} : k ∈ foot r b1 b2 s ↔ k = r ∨ k = b1 ∨ k = b2 ∨ s.v.ownBlock = some k := by
  unfold foot
  simp only [List.mem_append, List.mem_cons, List.not_mem_nil, or_false, Option.mem_toList]
  constructor
  · rintro ((h | h | h) | h)
    · exact .inl h
    · exact .inr (.inl h)
    · exact .inr (.inr (.inl h))
    · exact .inr (.inr (.inr h))
  · rintro (h | h | h | h)
    · exact .inl (.inl h)
    · exact .inl (.inr (.inl h))
    · exact .inl (.inr (.inr h))
    · exact .inr h
theorem OwnC.of_block {w w' : World} {base k n : Nat} {v : Value} {xs : List Value} (h : OwnC w base k v n xs) (hb : ∀ g, v.ownBlock = some g → w'.heap[g]? = w.heap[g]?) (hsz : w.heap.size ≤ w'.heap.size) : OwnC w' base k v n xs := by
  refine ⟨h.1, ?_⟩
  rcases h.2 with h2 | ⟨g, cap, rfl, h1, hlt, hn, hm, hc, hf, hx⟩
  · exact .inl h2
  · have hg := hb g rfl
    have e1 := fun j => World.cell?_of_block (a := ⟨g, j, none⟩) hg
    have e2 := fun j => World.frozen?_of_block (a := ⟨g, j, none⟩) hg
    exact .inr ⟨g, cap, rfl, h1, Nat.lt_of_lt_of_le hlt hsz, hn, hm, fun j hj => by rw [e1]; exact hc j hj, fun j hj => by rw [e2]; exact hf j hj, fun j u hu => by rw [e1]; exact hx j u hu⟩
theorem Gad.keepFr {w w' : World} {B r b1 b2 : Nat} {s : Sl} {ls : List Lnk} {js fs : List Pt} {S : List Nat} (h : Gad w B r b1 b2 s ls js fs) (hf : Fr S w w') (hd : ∀ k ∈ foot r b1 b2 s, k ∉ S) : Gad w' B r b1 b2 s ls js fs := by
  have hlt := h.lt
  exact { h with
    row := (hf.block r hlt.1 (hd r (mem_foot.2 (.inl rfl)))).trans h.row
    own := h.own.of_block (fun g hg => hf.block g (hlt.2.2.2 g hg) (hd g (mem_foot.2 (.inr (.inr (.inr hg)))))) hf.size
    j := h.j.of_block (hf.block b1 hlt.2.1 (hd b1 (mem_foot.2 (.inr (.inl rfl)))))
    f := h.f.of_block (hf.block b2 hlt.2.2.1 (hd b2 (mem_foot.2 (.inr (.inr (.inl rfl)))))) }
theorem Gad.foot_lt {w : World} {B r b1 b2 : Nat} {s : Sl} {ls : List Lnk} {js fs : List Pt} (h : Gad w B r b1 b2 s ls js fs) : ∀ k ∈ foot r b1 b2 s, B ≤ k ∧ k < w.heap.size := by
  intro k hk
  have hlt := h.lt
  rcases mem_foot.1 hk with rfl | rfl | rfl | hk
  · exact ⟨h.br, hlt.1⟩
  · exact ⟨h.bb1, hlt.2.1⟩
  · exact ⟨h.bb2, hlt.2.2.1⟩
  · exact ⟨(h.own.lt k hk).1, hlt.2.2.2 k hk⟩
theorem GadX.keepFr {w w' : World} {B r : Nat} {a : Pt} {ls : List Lnk} {S : List Nat} (h : GadX w B r a ls) (hf : Fr S w w') (hS : ∀ k ∈ S, k < B) : GadX w' B r a ls := by
  obtain ⟨b1, b2, s, js, fs, h1, h2⟩ := h
  exact ⟨b1, b2, s, js, fs, h1.keepFr hf fun k hk hks => by have := h1.foot_lt k hk; have := hS k hks; omega, h2⟩

/-- two gadgets of one anchor; all their blocks lie below N -/
def Two (W : World) (N B ra rb : Nat) (a : Pt) (la lb : List Lnk) : Prop :=
  ∃ b1 b2 s js fs c1 c2 t ks gs, Gad W B ra b1 b2 s la js fs ∧ Knows a la js fs ∧ Gad W B rb c1 c2 t lb ks gs ∧ Knows a lb ks gs ∧ (∀ k ∈ foot ra b1 b2 s, k < N ∧ k ∉ foot rb c1 c2 t) ∧ (∀ k ∈ foot rb c1 c2 t, k < N) ∧ N ≤ W.heap.size
theorem Two.symm {W : World} {N B ra rb : Nat} {a : Pt} {la lb : List Lnk} (h : Two W N B ra rb a la lb) : Two W N B rb ra a lb la := by
  obtain ⟨b1, b2, s, js, fs, c1, c2, t, ks, gs, h1, h2, h3, h4, h5, h6, h7⟩ := h
  exact ⟨c1, c2, t, ks, gs, b1, b2, s, js, fs, h3, h4, h1, h2, fun k hk => ⟨h6 k hk, fun hk' => (h5 k hk').2 hk⟩, fun k hk => (h5 k hk).1, h7⟩
theorem Two.keep {W W' : World} {N B ra rb : Nat} {a : Pt} {la lb : List Lnk} (h : Two W N B ra rb a la lb) (hb : Below W.heap.size W W') : Two W' N B ra rb a la lb := by
  obtain ⟨b1, b2, s, js, fs, c1, c2, t, ks, gs, h1, h2, h3, h4, h5, h6, h7⟩ := h
  exact ⟨b1, b2, s, js, fs, c1, c2, t, ks, gs, h1.keep hb, h2, h3.keep hb, h4, h5, h6, Nat.le_trans h7 hb.size⟩
theorem Two.renew {W : World} {N B ra rb : Nat} {a : Pt} {la lb : List Lnk} (h : Two W N B ra rb a la lb) : Two W W.heap.size B ra rb a la lb := by
  obtain ⟨b1, b2, s, js, fs, c1, c2, t, ks, gs, h1, h2, h3, h4, h5, h6, h7⟩ := h
  exact ⟨b1, b2, s, js, fs, c1, c2, t, ks, gs, h1, h2, h3, h4, fun k hk => ⟨Nat.lt_of_lt_of_le (h5 k hk).1 h7, (h5 k hk).2⟩, fun k hk => Nat.lt_of_lt_of_le (h6 k hk) h7, Nat.le_refl _⟩
theorem Two.gad {W : World} {N B ra rb : Nat} {a : Pt} {la lb : List Lnk} (h : Two W N B ra rb a la lb) : GadX W B ra a la := by
  obtain ⟨b1, b2, s, js, fs, c1, c2, t, ks, gs, h1, h2, _⟩ := h
  exact ⟨b1, b2, s, js, fs, h1, h2⟩
theorem two_strong (x : Lnk) {W : World} {N B ra rb : Nat} {a : Pt} {la lb : List Lnk} (h : Two W N B ra rb a la lb) (hn : la.length < 1000) :
    Calls Try.prog 23 #[.pointer (some ⟨ra, 0, none⟩), .agg (linkA x)] W fun e W' => e = .returned (.int .i64 (strongE la x)) ∧ Two W' W'.heap.size B ra rb a (addL la x) lb ∧ Below B W W' ∧ ∃ S, Fr S W W' ∧ ∀ k ∈ S, k < N := by
  obtain ⟨b1, b2, s, js, fs, c1, c2, t, ks, gs, h1, h2, h3, h4, h5, h6, h7⟩ := h
  refine (strong_f a h1 h2 hn x).mono ?_
  rintro e W' ⟨rfl, s', js', fs', g1, g2, g3, g4⟩
  have hB : B ≤ W.heap.size := Nat.le_of_lt (Nat.lt_of_le_of_lt h1.br h1.lt.1)
  have hk3 : Gad W' B rb c1 c2 t lb ks gs := h3.keepFr g3 fun k hk hks => (h5 k hks).2 hk
  refine ⟨rfl, ⟨b1, b2, s', js', fs', c1, c2, t, ks, gs, g1, g2, hk3, h4, fun k hk => ⟨(g1.foot_lt k hk).2, fun hk' => ?_⟩, fun k hk => (hk3.foot_lt k hk).2, Nat.le_refl _⟩, g3.under hB fun k hk => (h1.foot_lt k hk).1, _, g3, fun k hk => (h5 k hk).1⟩
  rcases mem_foot.1 hk with e | e | e | e
  · exact (h5 k (mem_foot.2 (.inl e))).2 hk'
  · exact (h5 k (mem_foot.2 (.inr (.inl e)))).2 hk'
  · exact (h5 k (mem_foot.2 (.inr (.inr (.inl e))))).2 hk'
  · rcases g4 with g4 | ⟨g, g4, g5⟩
    · exact (h5 k (mem_foot.2 (.inr (.inr (.inr (g4 ▸ e)))))).2 hk'
    · rw [g4] at e
      cases e
      have := h6 k hk'
      omega
/-- two new ones -/
theorem Two.start {w1 w2 : World} {B ra b1 b2 rb c1 c2 : Nat} {p : Pt} (ha : NewR w1 ra b1 b2 p) (h0 : B ≤ ra) (h1 : B ≤ b1) (h2 : B ≤ b2) (hB : B ≤ w1.heap.size) (hb : Below w1.heap.size w1 w2) (hc : NewR w2 rb c1 c2 p) (g0 : w1.heap.size ≤ rb) (g1 : w1.heap.size ≤ c1) (g2 : w1.heap.size ≤ c2) :
    Two w2 w2.heap.size B ra rb p [] [] := by
  have hA := ha.gad h0 h1 h2
  have hC := hc.gad (Nat.le_trans hB g0) (Nat.le_trans hB g1) (Nat.le_trans hB g2)
  refine ⟨b1, b2, _, _, _, c1, c2, _, _, _, hA.keep hb, Knows.start p, hC, Knows.start p, fun k hk => ⟨Nat.lt_of_lt_of_le (hA.foot_lt k hk).2 hb.size, fun hk' => ?_⟩, fun k hk => (hC.foot_lt k hk).2, Nat.le_refl _⟩
  have := (hA.foot_lt k hk).2
  rcases mem_foot.1 hk' with rfl | rfl | rfl | e
  · omega
  · omega
  · omega
  · simp [Value.ownBlock] at e

theorem new_no (p : Pt) (w : World) (hp : mayPt p = false) : Calls Try.prog 22 #[.agg (pointA p)] w fun e w' => e = .returned (.tuple #[.pointer none, .int .i64 2]) ∧ Below w.heap.size w w' := by
  have HM := fun W => mayPoint_c p W
  rw [hp] at HM
  go_enter Try.func22, Try.ntmps22
  go_wp2_with fail
  refine (HM _).mono ?_
  rintro e w1 ⟨rfl, hb⟩
  go_wp2_with fail
  go_ret2
  exact ⟨rfl, by (repeat' (first | (with_reducible exact Below.refl _ _) | (with_reducible assumption) | (with_reducible refine bel_trans (by assumption) ?_ ?_) | (with_reducible refine bel_grown (by assumption) ?_ ?_ ?_) | (with_reducible refine Below.alloc ?_ ?_ _) | (with_reducible refine Below.drew ?_) | (with_reducible refine below_drewN ?_ _) | (with_reducible refine Below.setCell ?_ ?_ _) | (with_reducible refine below_put ?_ ?_ _ _) | (with_reducible exact Nat.le_refl _) | omega | (with_reducible refine Nat.le_trans ?_ (Below.size (by assumption))) | (with_reducible refine Nat.le_trans ?_ (World.grownBy.size (by assumption))) | (simp only [World.size_alloc, World.size_setCell, World.size_drew, size_drewN]; omega) | (simp only [World.size_alloc, World.size_setCell, World.size_drew, size_drewN, size_put]; omega) | (intro k hk; simp [Value.ownBlock] at hk; done) | (intro k hk; simp [Value.ownBlock] at hk; omega) | (simp [size_drewN] at *; omega)))⟩

/-! what a list of links leaves -/
def addAll (ls : List Lnk) : List Lnk := ls.foldl addL []
theorem mem_addL (la : List Lnk) (x y : Lnk) : y ∈ addL la x ↔ y ∈ la ∨ (y = x ∧ goodL x = true) := by
  unfold addL
  split
  · rename_i h
    simp [h.1]
  · rename_i h
    refine ⟨.inl, ?_⟩
    rintro (h' | ⟨rfl, h'⟩)
    · exact h'
    · exact Classical.byContradiction fun h2 => h ⟨h', h2⟩
theorem addL_length (la : List Lnk) (x : Lnk) : (addL la x).length ≤ la.length + 1 := by unfold addL; split <;> simp
theorem fold_addL : ∀ (ls la : List Lnk), (∀ y, y ∈ ls.foldl addL la ↔ y ∈ la ∨ (y ∈ ls ∧ goodL y = true)) ∧ (ls.foldl addL la).length ≤ la.length + ls.length
  | [], la => ⟨fun y => by simp, by simp⟩
  | x :: ls, la => by
    obtain ⟨h1, h2⟩ := fold_addL ls (addL la x)
    have := addL_length la x
    refine ⟨fun y => ?_, by simp only [List.foldl_cons, List.length_cons]; omega⟩
    simp only [List.foldl_cons]
    rw [h1, mem_addL]
    simp only [List.mem_cons]
    constructor
    · rintro ((h | ⟨rfl, h⟩) | ⟨h, h'⟩)
      · exact .inl h
      · exact .inr ⟨.inl rfl, h⟩
      · exact .inr ⟨.inr h, h'⟩
    · rintro (h | ⟨rfl | h, h'⟩)
      · exact .inl (.inl h)
      · exact .inl (.inr ⟨rfl, h'⟩)
      · exact .inr ⟨h, h'⟩
theorem mem_addAll (ls : List Lnk) (y : Lnk) : y ∈ addAll ls ↔ y ∈ ls ∧ goodL y = true := by
  have := (fold_addL ls []).1 y
  simpa [addAll] using this
theorem addAll_length (ls : List Lnk) : (addAll ls).length ≤ ls.length := by
  have := (fold_addL ls []).2
  simpa [addAll] using this
theorem addAll_succ (ls : List Lnk) (k : Nat) (hk : k < ls.length) : addAll (ls.take (k + 1)) = addL (addAll (ls.take k)) ls[k] := fold_take_succ addL ls [] k hk
theorem JL_grows (a : Pt) {la lb : List Lnk} (h : ∀ x ∈ la, x ∈ lb) : (JL a la).length ≤ (JL a lb).length :=
  nodup_sub_length (sorted_nodup (JL_sorted a la)) fun p hp => (JL_mem a lb p).2 (((JL_mem a la p).1 hp).mono h)
end Go.Proofs.Ytlkflddjpkhndaa
