/- Justified and final checkpoints, and lists in order: plain Lean. -/
import Derived.Test.YtlkflddjpkhndaaTypes
namespace Go.Proofs.Ytlkflddjpkhndaa

/-- a checkpoint is ahead of another one -/
def ptLt (p q : Pt) : Prop := p.epoch.toNat < q.epoch.toNat ∨ (p.epoch = q.epoch ∧ p.name.1 < q.name.1)
instance (p q : Pt) : Decidable (ptLt p q) := by unfold ptLt; infer_instance
theorem ptLt_irrefl (p : Pt) : ¬ ptLt p p := by
  rintro (h | ⟨_, h⟩)
  · omega
  · exact List.lt_irrefl _ h
theorem ptLt_trans {p q r : Pt} (h1 : ptLt p q) (h2 : ptLt q r) : ptLt p r := by
  rcases h1 with h1 | ⟨e1, h1⟩
  · rcases h2 with h2 | ⟨e2, h2⟩
    · exact .inl (by omega)
    · exact .inl (by rw [← e2]; exact h1)
  · rcases h2 with h2 | ⟨e2, h2⟩
    · exact .inl (by rw [e1]; exact h2)
    · exact .inr ⟨e1.trans e2, List.lt_trans h1 h2⟩
theorem ptLt_tri {p q : Pt} (h1 : ¬ ptLt p q) (h2 : ¬ ptLt q p) : p = q := by
  simp only [ptLt, not_or, not_and] at h1 h2
  have he : p.epoch = q.epoch := UInt64.toNat_inj.1 (by omega)
  have hn := List.le_antisymm (List.not_lt.1 (h2.2 he.symm)) (List.not_lt.1 (h1.2 he))
  cases p; cases q
  simp only [Pt.mk.injEq]
  exact ⟨he, Subtype.ext hn⟩
theorem ptLt_asymm {p q : Pt} (h1 : ptLt p q) : ¬ ptLt q p := fun h2 => ptLt_irrefl _ (ptLt_trans h1 h2)

/-- lists in order are the same if they have the same members -/
theorem sorted_uniq : ∀ {l m : List Pt}, l.Pairwise ptLt → m.Pairwise ptLt → (∀ p, p ∈ l ↔ p ∈ m) → l = m
  | [], [], _, _, _ => rfl
  | [], b :: m, _, _, h => absurd ((h b).2 (by simp)) (by simp)
  | a :: l, [], _, _, h => absurd ((h a).1 (by simp)) (by simp)
  | a :: l, b :: m, hl, hm, h => by
    rw [List.pairwise_cons] at hl hm
    have hab : a = b := by
      rcases List.mem_cons.1 ((h a).1 (by simp)) with e | ha
      · exact e
      · rcases List.mem_cons.1 ((h b).2 (by simp)) with e | hb
        · exact e.symm
        · exact absurd (hm.1 _ ha) (ptLt_asymm (hl.1 _ hb))
    subst hab
    congr 1
    refine sorted_uniq hl.2 hm.2 fun p => ⟨fun hp => ?_, fun hp => ?_⟩
    · rcases List.mem_cons.1 ((h p).1 (List.mem_cons_of_mem _ hp)) with e | hp'
      · subst e; exact absurd (hl.1 _ hp) (ptLt_irrefl _)
      · exact hp'
    · rcases List.mem_cons.1 ((h p).2 (List.mem_cons_of_mem _ hp)) with e | hp'
      · subst e; exact absurd (hm.1 _ hp) (ptLt_irrefl _)
      · exact hp'
theorem sorted_nodup {l : List Pt} (h : l.Pairwise ptLt) : l.Nodup := h.imp fun h e => by subst e; exact ptLt_irrefl _ h

/-- how many at the head are ahead of x -/
def insAt (x : Pt) : List Pt → Nat
  | [] => 0
  | p :: l => if ptLt p x then insAt x l + 1 else 0
def insPt (x : Pt) (l : List Pt) : List Pt := l.take (insAt x l) ++ x :: l.drop (insAt x l)
theorem insAt_le (x : Pt) : ∀ l : List Pt, insAt x l ≤ l.length
  | [] => Nat.le_refl _
  | p :: l => by
    unfold insAt
    split
    · simpa using insAt_le x l
    · simp
theorem insAt_lt (x : Pt) : ∀ (l : List Pt) (i : Nat) (hi : i < l.length), i < insAt x l → ptLt l[i] x
  | p :: l, i, hi, h => by
    unfold insAt at h
    split at h
    · cases i with
      | zero => simpa
      | succ i => simpa using insAt_lt x l i (by simpa using hi) (by omega)
    · omega
theorem insAt_eq (x : Pt) : ∀ (l : List Pt) (h : insAt x l < l.length), ¬ ptLt l[insAt x l] x
  | p :: l, h => by
    by_cases hp : ptLt p x
    · have e : insAt x (p :: l) = insAt x l + 1 := by rw [insAt, if_pos hp]
      simp only [e, List.getElem_cons_succ]
      exact insAt_eq x l (by rw [e] at h; simpa using h)
    · have e : insAt x (p :: l) = 0 := by rw [insAt, if_neg hp]
      simpa only [e, List.getElem_cons_zero]
/-- k is where it stops -/
theorem insAt_is (x : Pt) (l : List Pt) (k : Nat) (hk : k ≤ l.length) (h1 : ∀ (i : Nat) (hi : i < l.length), i < k → ptLt l[i] x) (h2 : ∀ h : k < l.length, ¬ ptLt l[k] x) : insAt x l = k := by
  rcases Nat.lt_trichotomy (insAt x l) k with h | h | h
  · exact absurd (h1 _ (by omega) h) (insAt_eq x l (by omega))
  · exact h
  · have := insAt_le x l
    exact absurd (insAt_lt x l k (by omega) h) (h2 (by omega))
theorem insPt_mem (x p : Pt) (l : List Pt) : p ∈ insPt x l ↔ p = x ∨ p ∈ l := by
  unfold insPt
  have h := List.take_append_drop (insAt x l) l
  constructor
  · intro hp
    simp only [List.mem_append, List.mem_cons] at hp
    rcases hp with hp | hp | hp
    · exact .inr (List.mem_of_mem_take hp)
    · exact .inl hp
    · exact .inr (List.mem_of_mem_drop hp)
  · intro hp
    simp only [List.mem_append, List.mem_cons]
    rcases hp with hp | hp
    · exact .inr (.inl hp)
    · rw [← h, List.mem_append] at hp
      rcases hp with hp | hp
      · exact .inl hp
      · exact .inr (.inr hp)
theorem insPt_length (x : Pt) (l : List Pt) : (insPt x l).length = l.length + 1 := by
  have := insAt_le x l
  unfold insPt
  simp
  omega
theorem insPt_sorted (x : Pt) (l : List Pt) (h : l.Pairwise ptLt) (hx : x ∉ l) : (insPt x l).Pairwise ptLt := by
  unfold insPt
  have hle := insAt_le x l
  have h1 : ∀ p ∈ l.take (insAt x l), ptLt p x := by
    intro p hp
    obtain ⟨i, hi, rfl⟩ := List.mem_iff_getElem.1 hp
    rw [List.getElem_take]
    have : i < insAt x l := by simp at hi; omega
    exact insAt_lt x l i (by omega) this
  have h2 : ∀ p ∈ l.drop (insAt x l), ptLt x p := by
    intro p hp
    obtain ⟨i, hi, rfl⟩ := List.mem_iff_getElem.1 hp
    rw [List.getElem_drop]
    simp at hi
    have hk : insAt x l < l.length := by omega
    have hn := insAt_eq x l hk
    have hxk : ptLt x l[insAt x l] := by
      by_cases h' : ptLt x l[insAt x l]
      · exact h'
      · exact absurd (List.getElem_mem hk) (by rw [← ptLt_tri h' hn]; exact hx)
    cases i with
    | zero => exact hxk
    | succ i => exact ptLt_trans hxk (List.pairwise_iff_getElem.1 h _ _ hk (by omega) (by omega))
  refine List.pairwise_append.2 ⟨h.sublist (List.take_sublist _ _), List.pairwise_cons.2 ⟨h2, h.sublist (List.drop_sublist _ _)⟩, ?_⟩
  intro p hp q hq
  rcases List.mem_cons.1 hq with e | hq
  · subst e; exact h1 _ hp
  · exact ptLt_trans (h1 _ hp) (h2 _ hq)
/-- the document's sort -/
def srtPt (l : List Pt) : List Pt := l.foldl (fun o x => insPt x o) []
theorem srt_fold : ∀ (l o : List Pt), (l.foldl (fun o x => insPt x o) o).length = o.length + l.length ∧ (∀ p, p ∈ l.foldl (fun o x => insPt x o) o ↔ p ∈ o ∨ p ∈ l) ∧ (o.Pairwise ptLt → l.Nodup → (∀ p ∈ l, p ∉ o) → (l.foldl (fun o x => insPt x o) o).Pairwise ptLt)
  | [], o => ⟨rfl, fun p => by simp, fun h _ _ => h⟩
  | x :: l, o => by
    obtain ⟨h1, h2, h3⟩ := srt_fold l (insPt x o)
    simp only [List.foldl_cons]
    refine ⟨by rw [h1, insPt_length]; simp; omega, fun p => ?_, fun ho hn hd => ?_⟩
    · rw [h2, insPt_mem]
      simp only [List.mem_cons]
      constructor
      · rintro ((h | h) | h)
        · exact .inr (.inl h)
        · exact .inl h
        · exact .inr (.inr h)
      · rintro (h | h | h)
        · exact .inl (.inr h)
        · exact .inl (.inl h)
        · exact .inr h
    · rw [List.nodup_cons] at hn
      refine h3 (insPt_sorted x o ho (hd x (by simp))) hn.2 fun p hp hi => ?_
      rcases (insPt_mem x p o).1 hi with e | hi
      · subst e; exact hn.1 hp
      · exact hd p (List.mem_cons_of_mem _ hp) hi
theorem srt_mem (l : List Pt) (p : Pt) : p ∈ srtPt l ↔ p ∈ l := by
  have := (srt_fold l []).2.1 p
  simpa [srtPt] using this
theorem srt_length (l : List Pt) : (srtPt l).length = l.length := by
  have := (srt_fold l []).1
  simpa [srtPt] using this
theorem srt_sorted (l : List Pt) (h : l.Nodup) : (srtPt l).Pairwise ptLt := (srt_fold l []).2.2 List.Pairwise.nil h (by simp)
/-- whatever is in order and has these members is the document's list -/
theorem srt_of {l m : List Pt} (hm : m.Pairwise ptLt) (hl : l.Nodup) (h : ∀ p, p ∈ m ↔ p ∈ l) : m = srtPt l :=
  sorted_uniq hm (srt_sorted l hl) fun p => by rw [h, srt_mem]
theorem srt_eq {l m : List Pt} (hm : m.Nodup) (hl : l.Nodup) (h : ∀ p, p ∈ m ↔ p ∈ l) : srtPt m = srtPt l := srt_of (srt_sorted m hm) hl fun p => by rw [srt_mem, h]

/-- justified -/
inductive Jus (a : Pt) (ls : List Lnk) : Pt → Prop
  | anchor : Jus a ls a
  | step (l : Lnk) : l ∈ ls → Jus a ls l.source → Jus a ls l.target
theorem Jus.mono {a : Pt} {ls ms : List Lnk} (h : ∀ l ∈ ls, l ∈ ms) {p : Pt} (hp : Jus a ls p) : Jus a ms p := by
  induction hp with
  | anchor => exact .anchor
  | step l hl _ ih => exact .step l (h l hl) ih
/-- the next epoch's -/
def Nxt (l : Lnk) : Prop := l.target.epoch = l.source.epoch + 1
instance (l : Lnk) : Decidable (Nxt l) := by unfold Nxt; infer_instance
def Fin (a : Pt) (ls : List Lnk) (p : Pt) : Prop := p = a ∨ ∃ l ∈ ls, l.source = p ∧ Jus a ls p ∧ Nxt l
theorem Fin.mono {a : Pt} {ls ms : List Lnk} (h : ∀ l ∈ ls, l ∈ ms) {p : Pt} (hp : Fin a ls p) : Fin a ms p := by
  rcases hp with e | ⟨l, hl, e, hj, hn⟩
  · exact .inl e
  · exact .inr ⟨l, h l hl, e, hj.mono h, hn⟩
theorem Fin.jus {a : Pt} {ls : List Lnk} {p : Pt} (h : Fin a ls p) : Jus a ls p := by
  rcases h with e | ⟨_, _, _, hj, _⟩
  · subst e; exact .anchor
  · exact hj
/-- has the anchor, and is closed under the links -/
def Clo (ls : List Lnk) (js : List Pt) : Prop := ∀ l ∈ ls, l.source ∈ js → l.target ∈ js
theorem Clo.jus {a : Pt} {ls : List Lnk} {js : List Pt} (hc : Clo ls js) (ha : a ∈ js) {p : Pt} (hp : Jus a ls p) : p ∈ js := by
  induction hp with
  | anchor => exact ha
  | step l hl _ ih => exact hc l hl ih
/-- what a gadget knows: of what is justified, and final -/
structure Knows (a : Pt) (ls : List Lnk) (js fs : List Pt) : Prop where
  jn : js.Nodup
  fn : fs.Nodup
  j : ∀ p, p ∈ js ↔ Jus a ls p
  f : ∀ p, p ∈ fs ↔ Fin a ls p
theorem Knows.start (a : Pt) : Knows a [] [a] [a] := by
  have hj : ∀ p, p ∈ [a] ↔ Jus a [] p := fun p => ⟨fun h => by simp at h; subst h; exact .anchor, fun h => Clo.jus (fun l hl => by cases hl) (by simp) h⟩
  exact ⟨by simp, by simp, hj, fun p => ⟨fun h => .inl (by simpa using h), fun h => (hj p).2 h.jus⟩⟩
theorem Knows.same {a : Pt} {ls ms : List Lnk} {js fs js' fs' : List Pt} (h : Knows a ls js fs) (h' : Knows a ms js' fs') (hm : ∀ l, l ∈ ls ↔ l ∈ ms) : srtPt js = srtPt js' ∧ srtPt fs = srtPt fs' :=
  ⟨srt_eq h.jn h'.jn fun p => by rw [h.j, h'.j]; exact ⟨Jus.mono fun l hl => (hm l).1 hl, Jus.mono fun l hl => (hm l).2 hl⟩,
   srt_eq h.fn h'.fn fun p => by rw [h.f, h'.f]; exact ⟨Fin.mono fun l hl => (hm l).1 hl, Fin.mono fun l hl => (hm l).2 hl⟩⟩

/-! the document's rounds -/
def one1 (l : List Pt) (x : Lnk) : List Pt := if x.source ∈ l ∧ x.target ∉ l then l ++ [x.target] else l
def pass (ls : List Lnk) (l : List Pt) : List Pt := ls.foldl one1 l
def passes (ls : List Lnk) : Nat → List Pt → List Pt
  | 0, l => l
  | n + 1, l => pass ls (passes ls n l)
theorem one1_sub (l : List Pt) (x : Lnk) : ∀ p ∈ l, p ∈ one1 l x := by
  intro p hp
  unfold one1
  split
  · exact List.mem_append_left _ hp
  · exact hp
theorem one1_length (l : List Pt) (x : Lnk) : l.length ≤ (one1 l x).length := by
  unfold one1
  split <;> simp
theorem one1_nodup (l : List Pt) (x : Lnk) (h : l.Nodup) : (one1 l x).Nodup := by
  unfold one1
  split
  · rename_i hx
    refine List.nodup_append.2 ⟨h, by simp, fun a ha b hb => ?_⟩
    simp only [List.mem_singleton] at hb
    subst hb
    intro e
    subst e
    exact hx.2 ha
  · exact h
theorem pass_inv : ∀ (ls : List Lnk) (l : List Pt), l.length ≤ (pass ls l).length ∧ (∀ p ∈ l, p ∈ pass ls l) ∧ (l.Nodup → (pass ls l).Nodup) ∧ (∀ p ∈ pass ls l, p ∈ l ∨ ∃ x ∈ ls, x.target = p) ∧ ((pass ls l).length = l.length → pass ls l = l ∧ Clo ls l)
  | [], l => ⟨Nat.le_refl _, fun _ h => h, fun h => h, fun _ h => .inl h, fun _ => ⟨rfl, fun _ h => by cases h⟩⟩
  | x :: ls, l => by
    obtain ⟨h1, h2, h3, h4, h5⟩ := pass_inv ls (one1 l x)
    have e : pass (x :: ls) l = pass ls (one1 l x) := rfl
    have hl := one1_length l x
    rw [e]
    refine ⟨by omega, fun p hp => h2 p (one1_sub l x p hp), fun h => h3 (one1_nodup l x h), fun p hp => ?_, fun hlen => ?_⟩
    · rcases h4 p hp with h | ⟨y, hy, rfl⟩
      · unfold one1 at h
        split at h
        · rcases List.mem_append.1 h with h | h
          · exact .inl h
          · exact .inr ⟨x, by simp, by rw [List.mem_singleton] at h; exact h.symm⟩
        · exact .inl h
      · exact .inr ⟨y, List.mem_cons_of_mem _ hy, rfl⟩
    · have hx : ¬ (x.source ∈ l ∧ x.target ∉ l) := by
        intro hx
        have : (one1 l x).length = l.length + 1 := by unfold one1; rw [if_pos hx]; simp
        omega
      have eo : one1 l x = l := by unfold one1; rw [if_neg hx]
      rw [eo] at h5 ⊢ hlen
      obtain ⟨g1, g2⟩ := h5 hlen
      refine ⟨g1, fun y hy hs => ?_⟩
      rcases List.mem_cons.1 hy with rfl | hy
      · exact Classical.byContradiction fun h => hx ⟨hs, h⟩
      · exact g2 y hy hs
theorem pass_jus (a : Pt) (all : List Lnk) : ∀ (ls : List Lnk) (l : List Pt), (∀ x ∈ ls, x ∈ all) → (∀ p ∈ l, Jus a all p) → ∀ p ∈ pass ls l, Jus a all p
  | [], _, _, h => h
  | x :: ls, l, hs, h => by
    refine pass_jus a all ls (one1 l x) (fun y hy => hs y (List.mem_cons_of_mem _ hy)) fun p hp => ?_
    unfold one1 at hp
    split at hp
    · rename_i hx
      rcases List.mem_append.1 hp with hp | hp
      · exact h p hp
      · simp only [List.mem_singleton] at hp
        subst hp
        exact .step x (hs x (by simp)) (h _ hx.1)
    · exact h p hp
theorem nodup_sub_length {l m : List Pt} (hl : l.Nodup) (h : ∀ p ∈ l, p ∈ m) : l.length ≤ m.length := by
  induction l generalizing m with
  | nil => simp
  | cons a l ih =>
    rw [List.nodup_cons] at hl
    have ha := h a (by simp)
    have hp := List.perm_cons_erase ha
    have := ih (m := m.erase a) hl.2 (fun p hp' => by
      have hne : p ≠ a := fun e => by subst e; exact hl.1 hp'
      exact (List.mem_erase_of_ne hne).2 (h p (List.mem_cons_of_mem _ hp')))
    have hlen := hp.length_eq
    simp only [List.length_cons] at hlen ⊢
    omega
theorem passes_inv (a : Pt) (ls : List Lnk) : ∀ n, (passes ls n [a]).Nodup ∧ a ∈ passes ls n [a] ∧ (∀ p ∈ passes ls n [a], Jus a ls p) ∧ (∀ p ∈ passes ls n [a], p = a ∨ ∃ x ∈ ls, x.target = p) ∧ (Clo ls (passes ls n [a]) ∨ n + 1 ≤ (passes ls n [a]).length)
  | 0 => ⟨by simp [passes], by simp [passes], fun p hp => by simp [passes] at hp; subst hp; exact .anchor, fun p hp => by simp [passes] at hp; exact .inl hp, .inr (by simp [passes])⟩
  | n + 1 => by
    obtain ⟨h1, h2, h3, h4, h5⟩ := passes_inv a ls n
    obtain ⟨g1, g2, g3, g4, g5⟩ := pass_inv ls (passes ls n [a])
    show (pass ls (passes ls n [a])).Nodup ∧ _ ∧ _ ∧ _ ∧ _
    refine ⟨g3 h1, g2 _ h2, pass_jus a ls ls _ (fun _ h => h) h3, fun p hp => ?_, ?_⟩
    · rcases g4 p hp with h | h
      · exact h4 p h
      · exact .inr h
    · by_cases hl : (pass ls (passes ls n [a])).length = (passes ls n [a]).length
      · obtain ⟨e1, e2⟩ := g5 hl
        left
        show Clo ls (pass ls (passes ls n [a]))
        rw [e1]
        exact e2
      · rcases h5 with h5 | h5
        · exfalso
          have hsame : ∀ (ms : List Lnk) (l : List Pt), (∀ x ∈ ms, x ∈ ls) → Clo ls l → pass ms l = l := by
            intro ms
            induction ms with
            | nil => intro l _ _; rfl
            | cons x ms ih =>
              intro l hms hc
              have : one1 l x = l := by
                unfold one1
                rw [if_neg]
                rintro ⟨q1, q2⟩
                exact q2 (hc x (hms x (by simp)) q1)
              show pass ms (one1 l x) = l
              rw [this]
              exact ih l (fun y hy => hms y (List.mem_cons_of_mem _ hy)) hc
          exact hl (by rw [hsame ls _ (fun _ h => h) h5])
        · right
          show n + 1 + 1 ≤ (pass ls (passes ls n [a])).length
          omega
def refJus (a : Pt) (ls : List Lnk) : List Pt := passes ls (ls.length + 1) [a]
theorem refJus_nodup (a : Pt) (ls : List Lnk) : (refJus a ls).Nodup := (passes_inv a ls _).1
theorem refJus_mem (a : Pt) (ls : List Lnk) (p : Pt) : p ∈ refJus a ls ↔ Jus a ls p := by
  obtain ⟨h1, h2, h3, h4, h5⟩ := passes_inv a ls (ls.length + 1)
  refine ⟨h3 p, fun hp => ?_⟩
  rcases h5 with h5 | h5
  · exact h5.jus h2 hp
  · have := nodup_sub_length (m := a :: ls.map (·.target)) h1 (fun p hp => by
      rcases h4 p hp with h | ⟨x, hx, h⟩
      · simp [h]
      · exact List.mem_cons_of_mem _ (List.mem_map.2 ⟨x, hx, h⟩))
    simp only [List.length_cons, List.length_map] at this
    omega
def fone (j : List Pt) (l : List Pt) (x : Lnk) : List Pt := if x.source ∈ j ∧ Nxt x ∧ x.source ∉ l then l ++ [x.source] else l
def refFin (a : Pt) (ls : List Lnk) (j : List Pt) : List Pt := ls.foldl (fone j) [a]
theorem fone_fold (j : List Pt) : ∀ (ls : List Lnk) (l : List Pt), (l.Nodup → (ls.foldl (fone j) l).Nodup) ∧ ∀ p, p ∈ ls.foldl (fone j) l ↔ p ∈ l ∨ ∃ x ∈ ls, x.source = p ∧ p ∈ j ∧ Nxt x
  | [], l => ⟨fun h => h, fun p => by simp⟩
  | x :: ls, l => by
    obtain ⟨h1, h2⟩ := fone_fold j ls (fone j l x)
    simp only [List.foldl_cons]
    refine ⟨fun h => h1 ?_, fun p => ?_⟩
    · unfold fone
      split
      · rename_i hx
        refine List.nodup_append.2 ⟨h, by simp, fun a ha b hb => ?_⟩
        simp only [List.mem_singleton] at hb
        subst hb
        intro e
        subst e
        exact hx.2.2 ha
      · exact h
    · rw [h2]
      have hm : p ∈ fone j l x ↔ p ∈ l ∨ (x.source = p ∧ p ∈ j ∧ Nxt x) := by
        unfold fone
        split
        · rename_i hx
          simp only [List.mem_append, List.mem_singleton]
          constructor
          · rintro (h | rfl)
            · exact .inl h
            · exact .inr ⟨rfl, hx.1, hx.2.1⟩
          · rintro (h | ⟨rfl, _⟩)
            · exact .inl h
            · exact .inr rfl
        · rename_i hx
          refine ⟨.inl, ?_⟩
          rintro (h | ⟨rfl, h1, h2⟩)
          · exact h
          · exact Classical.byContradiction fun h => hx ⟨h1, h2, h⟩
      rw [hm]
      constructor
      · rintro ((h | h) | ⟨y, hy, h⟩)
        · exact .inl h
        · exact .inr ⟨x, by simp, h⟩
        · exact .inr ⟨y, List.mem_cons_of_mem _ hy, h⟩
      · rintro (h | ⟨y, hy, h⟩)
        · exact .inl (.inl h)
        · rcases List.mem_cons.1 hy with rfl | hy
          · exact .inl (.inr h)
          · exact .inr ⟨y, hy, h⟩
theorem refFin_nodup (a : Pt) (ls : List Lnk) (j : List Pt) : (refFin a ls j).Nodup := (fone_fold j ls [a]).1 (by simp)
theorem refFin_mem (a : Pt) (ls : List Lnk) (j : List Pt) (hj : ∀ p, p ∈ j ↔ Jus a ls p) (p : Pt) : p ∈ refFin a ls j ↔ Fin a ls p := by
  unfold refFin Fin
  rw [(fone_fold j ls [a]).2 p]
  simp only [List.mem_singleton, hj]
/-- the document's lists are the gadget's -/
theorem Knows.ref {a : Pt} {ls : List Lnk} {js fs : List Pt} (h : Knows a ls js fs) : srtPt (refJus a ls) = srtPt js ∧ srtPt (refFin a ls (srtPt (refJus a ls))) = srtPt fs :=
  ⟨srt_eq (refJus_nodup a ls) h.jn fun p => by rw [refJus_mem, h.j],
   srt_eq (refFin_nodup a ls _) h.fn fun p => by rw [refFin_mem a ls _ (fun p => by rw [srt_mem, refJus_mem]), h.f]⟩
end Go.Proofs.Ytlkflddjpkhndaa
