/- A region that draws its order and ends in an operation that waits for all others (a store): the others as in FreeG, then that one. Over any program. -/
import Derived.Test.YtbpbnnonialelaaFreeG
namespace Go.Proofs.Ytbpbnnonialelaa
open Go.RowKit

/-- as Free, but that a fact may die with an operation: 'live i j': operation i's fact outlasts operation j -/
structure FreeL (live : Nat → Nat → Bool) (n : Nat) (d : Nat → Nat) (F : Nat → Value → World → Prop) (a0 : Act) (W0 : World) (L : Nat → Bool) (a : Act) (w : World) : Prop where
  defers : a.defers = a0.defers
  size : a.tmps.size = a0.tmps.size
  below : Below W0.heap.size W0 w
  got : ∀ i, i < n → L i = true → (∀ j, L j = true → live i j = true) → F i (sl a (d i)) w
  rest : ∀ k, (∀ i, i < n → L i = true → d i ≠ k) → sl a k = sl a0 k
theorem FreeL.out {live : Nat → Nat → Bool} {ds : List Nat} {F : Nat → Value → World → Prop} {a0 : Act} {W0 : World} {L : Nat → Bool} {a : Act} {w : World} (h : FreeL live ds.length (fun i => ds.getD i 0) F a0 W0 L a w) (k : Nat) (hk : k ∉ ds) {v : Value} (hv : sl a0 k = v) : a.tmps[k]?.getD undef = v := by
  refine slv (Eq.trans (h.rest k fun i hi _ e => hk ?_) hv)
  simp only [List.getD_eq_getElem?_getD, List.getElem?_eq_getElem hi, Option.getD_some] at e
  rw [← e]
  exact List.getElem_mem _
theorem FreeL.all {live : Nat → Nat → Bool} {n : Nat} {d : Nat → Nat} {F : Nat → Value → World → Prop} {a0 : Act} {W0 : World} {a : Act} {w : World} (h : FreeL live n d F a0 W0 (fun _ => true) a w) :
    ∃ vs : List Value, vs.length = n ∧ (∀ i (hi : i < vs.length), (∀ j, live i j = true) → F i vs[i] w) ∧ a = ⟨putL a0.tmps (((List.range n).map d).zip vs), a0.defers⟩ := by
  refine ⟨(List.range n).map fun i => sl a (d i), by simp, fun i hi hl => by simp at hi ⊢; exact h.got i hi rfl (fun j _ => hl j), ?_⟩
  obtain ⟨t, df⟩ := a
  have h1 := h.defers
  simp only at h1
  subst h1
  congr 1
  refine eq_putL t _ _ h.size (fun p hp => ?_) fun k hk => h.rest k fun i hi _ e => ?_
  · obtain ⟨i, hi, he⟩ := List.getElem_of_mem hp
    simp at he
    rw [← he]
    rfl
  · subst e
    exact hk (d i, sl ⟨t, a0.defers⟩ (d i)) (List.mem_iff_getElem.2 ⟨i, by simpa using hi, by simp⟩) rfl
theorem wp_region_freeE (live : Nat → Nat → Bool) (Rel : Nat → World → World → Prop) {P : Program} {id : Nat} {ops : Array Oper} {Q : Exit → Act → World → Prop} {a0 : Act} {W0 : World} (hm : P.follows .mixedOrders = true)
    (d : Nat → Nat) (F : Nat → Value → World → Prop) (m : Nat) (st : Oper) (hn : ops.size = m + 1) (hst : ops[m]? = some st) (hsd : ∀ e ∈ st.after, Region.binds .any e = true → e.on < m)
    (hop : ∀ i o, i < m → ops[i]? = some o → o.dst = some (d i) ∧ (∀ e ∈ o.after, Region.binds .any e = true → e.on < i) ∧ ∀ k b, o.guard = some (k, b) → k < m)
    (hchain : ∀ j, j < m → ∃ i o e, j < i ∧ ops[i]? = some o ∧ e ∈ o.after ∧ Region.binds .any e = true ∧ e.on = j)
    (hdist : ∀ i j, i < m → j < m → d i = d j → i = j) (hlt : ∀ i, i < m → d i < a0.tmps.size)
    (hrel : ∀ i w w', Rel i w w' → Below W0.heap.size W0 w → Below W0.heap.size W0 w')
    (hstable : ∀ i j v w w', i ≠ j → live i j = true → F i v w → Rel j w w' → F i v w')
    (hstep : ∀ (i : Nat) (o : Oper), i < m → ops[i]? = some o → ∀ L a w, FreeL live m d F a0 W0 L a w → L i = false → (∀ e ∈ o.after, Region.binds .any e = true → L e.on = true) →
      (Held o d a → o.wp P a w (fun a' w' => ∃ v, a' = a.put (some (d i)) v ∧ F i v w' ∧ Rel i w w') Q) ∧ (¬ Held o d a → F i undef w))
    (hfin : ∀ a w, FreeL live m d F a0 W0 (fun _ => true) a w → wpList P ops Q [st] a w) : (Code.region id ops true).wp P Q a0 W0 := by
  refine wp_region_any hm ?_
  have hdeps : ∀ i o, ops[i]? = some o → ∀ e ∈ o.after, Region.binds .any e = true → e.on < i := by
    intro i o ho
    by_cases him : i < m
    · exact (hop i o him ho).2.1
    · have : i < ops.size := (Array.getElem?_eq_some_iff.1 ho).1
      obtain rfl : i = m := by omega
      rw [hst] at ho
      injection ho with ho
      subst ho
      exact hsd
  let St (listed : Array Bool) (a : Act) (w : World) : Prop :=
    (listed.getD m false = false ∧ (∀ i o, ops[i]? = some o → listed.getD i false = true → ∀ e ∈ o.after, Region.binds .any e = true → listed.getD e.on false = true) ∧ FreeL live m d F a0 W0 (fun i => listed.getD i false) a w) ∨
      ((∀ i, i < ops.size → listed.getD i false = true) ∧ Q .normal a w)
  have done : ∀ (listed : Array Bool) (a : Act) (w : World), listed.size = ops.size → St listed a w → Region.ready .any ops listed = [] → Q .normal a w := by
    intro listed a w hs hf hr
    have hall : ∀ i, i < ops.size → listed.getD i false = true := by
      intro i
      induction i using Nat.strongRecOn with
      | ind i ih =>
        intro hi
        cases hb : listed.getD i false with
        | true => rfl
        | false =>
          exfalso
          have hmem : i ∈ Region.ready .any ops listed := by
            refine mem_ready.2 ⟨?_, ops[i], Array.getElem?_eq_getElem hi, fun e he hb' => ih e.on (hdeps i _ (Array.getElem?_eq_getElem hi) e he hb') ?_⟩
            · simpa [Array.getD, hs, hi] using hb
            · exact Nat.lt_trans (hdeps i _ (Array.getElem?_eq_getElem hi) e he hb') hi
          rw [hr] at hmem
          cases hmem
    rcases hf with ⟨h1, _⟩ | ⟨_, h2⟩
    · rw [hall m (by omega)] at h1
      cases h1
    · exact h2
  have main : ∀ (fuel : Nat) (listed : Array Bool) (a : Act) (w : World), listed.size = ops.size → (List.range ops.size).countP (fun i => !listed.getD i false) ≤ fuel →
      St listed a w → wpAny P .any ops Q fuel listed a w := by
    intro fuel
    induction fuel with
    | zero =>
      intro listed a w hs hc hf
      have hr : Region.ready .any ops listed = [] := by
        cases hr : Region.ready .any ops listed with
        | nil => rfl
        | cons x xs =>
          exfalso
          obtain ⟨hx, o, ho, _⟩ := mem_ready.1 (show x ∈ Region.ready .any ops listed by rw [hr]; exact List.mem_cons_self ..)
          have hxl : x < ops.size := (Array.getElem?_eq_some_iff.1 ho).1
          have : 0 < (List.range ops.size).countP (fun i => !listed.getD i false) := List.countP_pos_iff.2 ⟨x, List.mem_range.2 hxl, by simpa [Array.getD, hs, hxl] using hx⟩
          omega
      exact ⟨hr, done listed a w hs hf hr⟩
    | succ fuel ih =>
      intro listed a w hs hc hst'
      refine ⟨done listed a w hs hst', fun i hi => ?_⟩
      obtain ⟨hx, o, ho, hdep⟩ := mem_ready.1 hi
      have hil : i < ops.size := (Array.getElem?_eq_some_iff.1 ho).1
      have hxf : listed.getD i false = false := by simpa [Array.getD, hs, hil] using hx
      have hless : (List.range ops.size).countP (fun j => !(listed.setIfInBounds i true).getD j false) ≤ fuel := by
        have hlt' := countP_lt (p := fun j => !(listed.setIfInBounds i true).getD j false) (q := fun j => !listed.getD j false) (List.range ops.size)
          (fun x _ hp => by
            by_cases hxi : i = x
            · subst hxi; simp [Array.getD, hs, hil] at hp
            · simpa [getD_set_ne false hxi] using hp)
          ⟨i, List.mem_range.2 hil, by simpa using hxf, by simp [Array.getD, hs, hil]⟩
        omega
      rcases hst' with ⟨hlast, hclosed, hf⟩ | ⟨hall, _⟩
      rotate_left
      · rw [hall i hil] at hxf
        cases hxf
      by_cases him : i < m
      rotate_left
      · obtain rfl : i = m := by omega
        rw [hst] at ho
        injection ho with ho
        subst ho
        have hall : ∀ k j, j + k = i → 0 < k → listed.getD j false = true := by
          intro k
          induction k using Nat.strongRecOn with
          | ind k ihk =>
            intro j hj hk
            obtain ⟨i', o', e, h1, h2, h3, h4, h5⟩ := hchain j (by omega)
            have h6 : i' < ops.size := (Array.getElem?_eq_some_iff.1 h2).1
            rw [← h5]
            by_cases h7 : i' < i
            · exact hclosed i' o' h2 (ihk (i - i') (by omega) i' (by omega) (by omega)) e h3 h4
            · obtain rfl : i' = i := by omega
              rw [hst] at h2
              injection h2 with h2
              subst h2
              exact hdep e h3 h4
        have hF : FreeL live i d F a0 W0 (fun _ => true) a w := ⟨hf.defers, hf.size, hf.below, fun j hj _ hl => hf.got j hj (hall (i - j) j (by omega) (by omega)) (fun j' _ => hl j' rfl), fun k hk => hf.rest k fun j hj hL => hk j hj rfl⟩
        have hl := hfin a w hF
        unfold wpOp
        simp only [hst]
        have hpost : ∀ a' w', Q .normal a' w' → wpAny P .any ops Q fuel (listed.setIfInBounds i true) a' w' := by
          intro a' w' hq
          refine ih _ _ _ (by simpa using hs) hless (.inr ⟨fun j hj => ?_, hq⟩)
          by_cases hij : i = j
          · subst hij
            simp [Array.getD, hs, hj]
          · rw [getD_set_ne false hij]
            exact hall (i - j) j (by omega) (by omega)
        simp only [wpList] at hl
        split at hl
        · rw [if_pos (by assumption)]
          rcases hl with hl | hl
          · exact .inl (Oper.wp_mono (fun a' w' h => hpost _ _ h) hl)
          · exact .inr hl
        · rw [if_neg (by assumption)]
          exact hpost _ _ hl
      unfold wpOp
      simp only [ho]
      have putd : ∀ v w', F i v w' → (∀ j, j < m → listed.getD j false = true → (∀ k, (listed.setIfInBounds i true).getD k false = true → live j k = true) → F j (sl a (d j)) w') → Below W0.heap.size W0 w' →
          FreeL live m d F a0 W0 (fun j => (listed.setIfInBounds i true).getD j false) (a.put (some (d i)) v) w' := by
        intro v w' hF hgot hbl
        refine ⟨hf.defers, by simp [Act.put, hf.size], hbl, fun j hj hLj hlv => ?_, fun k hk => ?_⟩
        · by_cases hij : i = j
          · subst hij
            rw [sl_put_same _ _ _ (by rw [hf.size]; exact hlt i him)]
            exact hF
          · rw [sl_put_other _ _ _ _ (fun e => hij (hdist i j him hj e))]
            exact hgot j hj (by rw [← hLj, getD_set_ne false hij]) hlv
        · rw [sl_put_other _ _ _ _ (hk i him (by simp [Array.getD, hs, hil]))]
          exact hf.rest k fun j hj hLj => hk j hj (by
            by_cases hij : i = j
            · subst hij; simp [Array.getD, hs, hil]
            · rw [getD_set_ne false hij]; exact hLj)
      have hwt : Region.wanted o (yielded ops a.tmps) = true ↔ Held o d a := by
        unfold Region.wanted Held
        cases hgd : o.guard with
        | none => simp
        | some g =>
          obtain ⟨k, b⟩ := g
          have hk := (hop i o him ho).2.2 k b hgd
          have hks' : k < ops.size := by omega
          have hkd := (hop k _ hk (Array.getElem?_eq_getElem hks')).1
          have hks : d k < a.tmps.size := by rw [hf.size]; exact hlt k hk
          simp only [yielded, Array.getElem?_eq_getElem hks', Option.bind_some, hkd, Array.getElem?_eq_getElem hks, sl, Array.getD_eq_getD_getElem?, Option.getD_some, beq_iff_eq]
          cases hv : a.tmps[d k] <;> simp
      have hnext : ∀ a' w', FreeL live m d F a0 W0 (fun j => (listed.setIfInBounds i true).getD j false) a' w' → wpAny P .any ops Q fuel (listed.setIfInBounds i true) a' w' := by
        intro a' w' hfr
        refine ih _ _ _ (by simpa using hs) hless (.inl ⟨by rw [getD_set_ne false (by omega)]; exact hlast, fun j o' ho' hL e he hb => ?_, hfr⟩)
        by_cases hij : i = j
        · subst hij
          rw [ho] at ho'
          injection ho' with ho'
          subst ho'
          have h1 := hdep e he hb
          have h2 := (hop i o him ho).2.1 e he hb
          rw [getD_set_ne false (by omega)]
          exact h1
        · rw [getD_set_ne false hij] at hL
          have h1 := hclosed j o' ho' hL e he hb
          by_cases hie : i = e.on
          · rw [← hie]
            simp [Array.getD, hs, hil]
          · rw [getD_set_ne false hie]
            exact h1
      by_cases hheld : Held o d a
      · rw [if_pos (hwt.2 hheld)]
        refine .inl (Oper.wp_mono ?_ ((hstep i o him ho _ a w hf hxf hdep).1 hheld))
        rintro a' w' ⟨v, rfl, hF, hb⟩
        exact hnext _ _ (putd v w' hF (fun j hj hL hlv => hstable _ i _ _ _ (fun e => by rw [e, hxf] at hL; cases hL) (hlv i (by simp [Array.getD, hs, hil])) (hf.got j hj hL (fun k hk => hlv k (by
          by_cases hik : i = k
          · subst hik; simp [Array.getD, hs, hil]
          · rw [getD_set_ne false hik]; exact hk))) hb) (hrel _ _ _ hb hf.below))
      · rw [if_neg (fun h => hheld (hwt.1 h)), (hop i o him ho).1]
        exact hnext _ _ (putd undef w ((hstep i o him ho _ a w hf hxf hdep).2 hheld) (fun j hj hL hlv => hf.got j hj hL (fun k hk => hlv k (by
          by_cases hik : i = k
          · subst hik; simp [Array.getD, hs, hil]
          · rw [getD_set_ne false hik]; exact hk))) hf.below)
  refine main ops.size _ a0 _ (by simp) (by exact Nat.le_trans List.countP_le_length (by simp)) (.inl ⟨by simp [Array.getD], fun i o ho h => ?_, ⟨rfl, rfl, (Below.refl _ _).drew, fun i hi h => ?_, fun _ _ => rfl⟩⟩)
  · have := (Array.getElem?_eq_some_iff.1 ho).1
    simp [Array.getD, this] at h
  · have : i < ops.size := by omega
    simp [Array.getD, this] at h

/-- the region's shape, asked of the kernel -/
def regionOkE (ops : Array Oper) (ds : List Nat) (N : Nat) : Bool :=
  decide (ops.size = ds.length + 1) && decide ds.Nodup && ds.all (fun k => decide (k < N)) &&
    ((List.range ds.length).all fun i => ((ops[i]?).map fun o => (match o.guard with | none => true | some g => decide (g.1 < ds.length)) && (o.dst == some (ds.getD i 0)) && o.after.all fun e => !Region.binds .any e || decide (e.on < i)).getD false) &&
    (((ops[ds.length]?).map fun o => o.after.all fun e => !Region.binds .any e || decide (e.on < ds.length)).getD false) &&
    (List.range ds.length).all fun j => (List.range ops.size).any fun i => decide (j < i) && ((ops[i]?).map fun o => o.after.any fun e => Region.binds .any e && e.on == j).getD false
/-- one operation's step -/
def FreeStepL (live : Nat → Nat → Bool) (Rel : Nat → World → World → Prop) (P : Program) (n : Nat) (d : Nat → Nat) (F : Nat → Value → World → Prop) (a0 : Act) (W0 : World) (Q : Exit → Act → World → Prop) (i : Nat) (o : Oper) : Prop :=
  ∀ L a w, FreeL live n d F a0 W0 L a w → L i = false → (∀ e ∈ o.after, Region.binds .any e = true → L e.on = true) →
    (Held o d a → o.wp P a w (fun a' w' => ∃ v, a' = a.put (some (d i)) v ∧ F i v w' ∧ Rel i w w') Q) ∧ (¬ Held o d a → F i undef w)
/-- the operations' steps, and the last one's -/
def FreeStepsE (live : Nat → Nat → Bool) (Rel : Nat → World → World → Prop) (P : Program) (n : Nat) (d : Nat → Nat) (F : Nat → Value → World → Prop) (a0 : Act) (W0 : World) (Q : Exit → Act → World → Prop) (fin : Oper → Prop) : Nat → List Oper → Prop
  | _, [] => True
  | _, [o] => fin o
  | i, o :: o' :: r => FreeStepL live Rel P n d F a0 W0 Q i o ∧ FreeStepsE live Rel P n d F a0 W0 Q fin (i + 1) (o' :: r)
theorem FreeStepsE.at {live : Nat → Nat → Bool} {Rel : Nat → World → World → Prop} {P : Program} {n : Nat} {d : Nat → Nat} {F : Nat → Value → World → Prop} {a0 : Act} {W0 : World} {Q : Exit → Act → World → Prop} {fin : Oper → Prop} :
    ∀ (l : List Oper) (k : Nat), FreeStepsE live Rel P n d F a0 W0 Q fin k l → (∀ i o, i + 1 < l.length → l[i]? = some o → FreeStepL live Rel P n d F a0 W0 Q (k + i) o) ∧ ∀ o, l.getLast? = some o → fin o
  | [], _, _ => ⟨fun i o h => by simp at h, fun o h => by simp at h⟩
  | [o], k, h => ⟨fun i o h => by simp at h, fun o' h' => by simp at h'; subst h'; exact h⟩
  | o :: o' :: r, k, h => by
    obtain ⟨h1, h2⟩ := FreeStepsE.at (o' :: r) (k + 1) h.2
    refine ⟨fun i x hi hx => ?_, fun x hx => h2 x (by rwa [List.getLast?_cons_cons] at hx)⟩
    cases i with
    | zero =>
      simp at hx
      subst hx
      exact h.1
    | succ i =>
      have := h1 i x (by simpa using hi) (by simpa using hx)
      rwa [Nat.add_assoc, Nat.add_comm 1 i] at this
theorem wp_region_freeE_l (live : Nat → Nat → Bool) (Rel : Nat → World → World → Prop) {P : Program} {id : Nat} {ops : List Oper} {Q : Exit → Act → World → Prop} {a0 : Act} {W0 : World} (hm : P.follows .mixedOrders = true)
    (ds : List Nat) (Fs : List (Value → World → Prop)) (hok : regionOkE ops.toArray ds a0.tmps.size = true)
    (hrel : ∀ i w w', Rel i w w' → Below W0.heap.size W0 w → Below W0.heap.size W0 w')
    (hstable : ∀ i j, i < Fs.length → i ≠ j → live i j = true → ∀ v w w', Fs.getD i (fun _ _ => True) v w → Rel j w w' → Fs.getD i (fun _ _ => True) v w')
    (hstep : FreeStepsE live Rel P ds.length (fun i => ds.getD i 0) (fun i => Fs.getD i fun _ _ => True) a0 W0 Q
      (fun st => ∀ (vs : List Value) w, vs.length = ds.length → (∀ i (hi : i < vs.length), (∀ j, live i j = true) → Fs.getD i (fun _ _ => True) vs[i] w) → Below W0.heap.size W0 w → wpList P ops.toArray Q [st] ⟨putL a0.tmps (ds.zip vs), a0.defers⟩ w) 0 ops) :
    (Code.region id ops.toArray true).wp P Q a0 W0 := by
  unfold regionOkE at hok
  simp only [Bool.and_eq_true, decide_eq_true_eq, List.all_eq_true, List.mem_range] at hok
  obtain ⟨⟨⟨⟨⟨h1, h2⟩, h3⟩, h4⟩, h5⟩, h6⟩ := hok
  have hn : ops.length = ds.length + 1 := by simpa using h1
  obtain ⟨hs1, hs2⟩ := FreeStepsE.at ops 0 hstep
  obtain ⟨st, hlast⟩ : ∃ st, ops[ds.length]? = some st := ⟨_, List.getElem?_eq_getElem (by omega)⟩
  have hlast' : ops.toArray[ds.length]? = some st := by
    rw [← hlast]
    simp
  have hgl : ops.getLast? = some st := by
    rw [List.getLast?_eq_getElem?, show ops.length - 1 = ds.length by omega]
    exact hlast
  have hop : ∀ (i : Nat) (o : Oper), i < ds.length → ops.toArray[i]? = some o → o.dst = some (ds.getD i 0) ∧ (∀ e ∈ o.after, Region.binds .any e = true → e.on < i) ∧ ∀ k b, o.guard = some (k, b) → k < ds.length := by
    intro i o hi ho
    have := h4 i hi
    rw [ho] at this
    simp only [Option.map_some, Option.getD_some, Bool.and_eq_true, beq_iff_eq, Array.all_eq_true_iff_forall_mem, Bool.or_eq_true, Bool.not_eq_true', decide_eq_true_eq] at this
    refine ⟨this.1.2, fun e he hb => (this.2 e he).resolve_left (by simp [hb]), fun k b hg => ?_⟩
    have h5 := this.1.1
    rw [hg] at h5
    simpa using h5
  refine wp_region_freeE live Rel hm (fun i => ds.getD i 0) (fun i => Fs.getD i fun _ _ => True) ds.length st (by simpa using hn) hlast' ?_ hop ?_ (fun i j hi hj he => ?_) (fun i hi => ?_) hrel (fun i j v w w' hij hlv hv hb => ?_) (fun i o hi ho => ?_) (fun a w hf => ?_)
  · rw [hlast'] at h5
    simp only [Option.map_some, Option.getD_some, Array.all_eq_true_iff_forall_mem, Bool.or_eq_true, Bool.not_eq_true', decide_eq_true_eq] at h5
    exact fun e he hb => (h5 e he).resolve_left (by simp [hb])
  · intro j hj
    have h7 := h6 j hj
    rw [List.any_eq_true] at h7
    obtain ⟨i, hi, h8⟩ := h7
    rw [List.mem_range] at hi
    rw [Array.getElem?_eq_getElem hi] at h8
    simp only [Option.map_some, Option.getD_some, Bool.and_eq_true, decide_eq_true_eq] at h8
    obtain ⟨h9, h10⟩ := h8
    rw [← Array.any_toList, List.any_eq_true] at h10
    obtain ⟨e, he, hbj⟩ := h10
    rw [Bool.and_eq_true, beq_iff_eq] at hbj
    exact ⟨i, _, e, h9, Array.getElem?_eq_getElem hi, Array.mem_toList_iff.1 he, hbj.1, hbj.2⟩
  · simp only [List.getD_eq_getElem?_getD, List.getElem?_eq_getElem hi, List.getElem?_eq_getElem hj, Option.getD_some] at he
    exact (List.getElem_inj h2).1 he
  · simp only [List.getD_eq_getElem?_getD, List.getElem?_eq_getElem hi, Option.getD_some]
    exact h3 _ (List.getElem_mem _)
  · by_cases hi : i < Fs.length
    · exact hstable i j hi hij hlv _ _ _ hv hb
    · simp only [List.getD_eq_getElem?_getD, List.getElem?_eq_none (Nat.le_of_not_lt hi), Option.getD_none]
  · have := hs1 i o (by omega) (by simpa using ho)
    rw [Nat.zero_add] at this
    exact this
  · obtain ⟨vs, hl, hF, rfl⟩ := hf.all
    have := hs2 _ hgl vs w hl hF hf.below
    have e : (List.range ds.length).map (fun i => ds.getD i 0) = ds := by
      apply List.ext_getElem (by simp)
      intro i h1 h2
      simp [h2]
    rw [e]
    exact this
end Go.Proofs.Ytbpbnnonialelaa
