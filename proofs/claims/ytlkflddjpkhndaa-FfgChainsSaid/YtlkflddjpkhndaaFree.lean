/- A region that draws its order and makes memory: where what each operation yields is told by a fact that lasts while old memory stays, every order ends alike. Over any program. -/
import Derived.Test.YtlkflddjpkhndaaKit
import Derived.Orders
namespace Go.Proofs.Ytlkflddjpkhndaa
open Go.RowKit

/-- slot k of an act -/
def sl (a : Act) (k : Nat) : Value := a.tmps.getD k undef

/-- what is known in the midst of the region: L says which operations are done -/
structure Free (n : Nat) (d : Nat → Nat) (F : Nat → Value → World → Prop) (a0 : Act) (W0 : World) (L : Nat → Bool) (a : Act) (w : World) : Prop where
  defers : a.defers = a0.defers
  size : a.tmps.size = a0.tmps.size
  below : Below W0.heap.size W0 w
  got : ∀ i, i < n → L i = true → F i (sl a (d i)) w
  rest : ∀ k, (∀ i, i < n → L i = true → d i ≠ k) → sl a k = sl a0 k

theorem sl_put_same (a : Act) (k : Nat) (v : Value) (h : k < a.tmps.size) : sl (a.put (some k) v) k = v := by simp [sl, Act.put, h]
theorem sl_put_other (a : Act) (k j : Nat) (v : Value) (h : k ≠ j) : sl (a.put (some k) v) j = sl a j := by
  simp only [sl, Act.put, Array.getD_eq_getD_getElem?]
  rw [Array.getElem?_setIfInBounds_ne h]

theorem countP_lt {p q : Nat → Bool} : ∀ (l : List Nat), (∀ x ∈ l, p x = true → q x = true) → (∃ y ∈ l, q y = true ∧ p y = false) → l.countP p < l.countP q
  | [], _, ⟨y, h, _⟩ => by cases h
  | x :: l, hpq, ⟨y, hy, hq, hp⟩ => by
    have hle : l.countP p ≤ l.countP q := List.countP_mono_left fun x hx => hpq x (List.mem_cons_of_mem _ hx)
    rw [List.countP_cons, List.countP_cons]
    rcases List.mem_cons.1 hy with rfl | hy
    · simp [hq, hp]; omega
    · have := countP_lt l (fun x hx => hpq x (List.mem_cons_of_mem _ hx)) ⟨y, hy, hq, hp⟩
      have h2 := hpq x (List.mem_cons_self ..)
      cases hpx : p x <;> cases hqx : q x <;> simp_all <;> omega

theorem wp_region_free (Rel : World → World → Prop) {P : Program} {id : Nat} {ops : Array Oper} {Q : Exit → Act → World → Prop} {a0 : Act} {W0 : World} (hm : P.follows .mixedOrders = true)
    (d : Nat → Nat) (F : Nat → Value → World → Prop)
    (hop : ∀ i o, ops[i]? = some o → o.guard = none ∧ o.dst = some (d i) ∧ ∀ e ∈ o.after, Region.binds .any e = true → e.on < i)
    (hdist : ∀ i j, i < ops.size → j < ops.size → d i = d j → i = j) (hlt : ∀ i, i < ops.size → d i < a0.tmps.size)
    (hrel : ∀ w w', Rel w w' → Below W0.heap.size W0 w → Below W0.heap.size W0 w')
    (hstable : ∀ i v w w', F i v w → Rel w w' → F i v w')
    (hstep : ∀ (i : Nat) (o : Oper), ops[i]? = some o → ∀ L a w, Free ops.size d F a0 W0 L a w → (∀ e ∈ o.after, Region.binds .any e = true → L e.on = true) →
      o.wp P a w (fun a' w' => ∃ v, a' = a.put (some (d i)) v ∧ F i v w' ∧ Rel w w') Q)
    (hfin : ∀ a w, Free ops.size d F a0 W0 (fun _ => true) a w → Q .normal a w) : (Code.region id ops true).wp P Q a0 W0 := by
  refine wp_region_any hm ?_
  have done : ∀ (listed : Array Bool) (a : Act) (w : World), listed.size = ops.size → Free ops.size d F a0 W0 (fun i => listed.getD i false) a w → Region.ready .any ops listed = [] → Q .normal a w := by
    intro listed a w hs hf hr
    have hall : ∀ i, i < ops.size → listed.getD i false = true := by
      intro i
      induction i using Nat.strongRecOn with
      | ind i ih =>
        intro hi
        cases hb : listed.getD i false with
        | true => rfl
        | false =>
          exfalso
          have hmem : i ∈ Region.ready .any ops listed := by
            refine mem_ready.2 ⟨?_, ops[i], Array.getElem?_eq_getElem hi, fun e he hb' => ih e.on ((hop i _ (Array.getElem?_eq_getElem hi)).2.2 e he hb') ?_⟩
            · simpa [Array.getD, hs, hi] using hb
            · exact Nat.lt_trans ((hop i _ (Array.getElem?_eq_getElem hi)).2.2 e he hb') hi
          rw [hr] at hmem
          cases hmem
    exact hfin a w ⟨hf.defers, hf.size, hf.below, fun i hi _ => hf.got i hi (hall i hi), fun k hk => hf.rest k fun i hi _ => hk i hi rfl⟩
  have main : ∀ (fuel : Nat) (listed : Array Bool) (a : Act) (w : World), listed.size = ops.size → (List.range ops.size).countP (fun i => !listed.getD i false) ≤ fuel →
      Free ops.size d F a0 W0 (fun i => listed.getD i false) a w → wpAny P .any ops Q fuel listed a w := by
    intro fuel
    induction fuel with
    | zero =>
      intro listed a w hs hc hf
      have hr : Region.ready .any ops listed = [] := by
        cases hr : Region.ready .any ops listed with
        | nil => rfl
        | cons x xs =>
          exfalso
          obtain ⟨hx, o, ho, _⟩ := mem_ready.1 (show x ∈ Region.ready .any ops listed by rw [hr]; exact List.mem_cons_self ..)
          have hxl : x < ops.size := (Array.getElem?_eq_some_iff.1 ho).1
          have : 0 < (List.range ops.size).countP (fun i => !listed.getD i false) := List.countP_pos_iff.2 ⟨x, List.mem_range.2 hxl, by simpa [Array.getD, hs, hxl] using hx⟩
          omega
      exact ⟨hr, done listed a w hs hf hr⟩
    | succ fuel ih =>
      intro listed a w hs hc hf
      refine ⟨done listed a w hs hf, fun i hi => ?_⟩
      obtain ⟨hx, o, ho, hdep⟩ := mem_ready.1 hi
      have hil : i < ops.size := (Array.getElem?_eq_some_iff.1 ho).1
      have hxf : listed.getD i false = false := by simpa [Array.getD, hs, hil] using hx
      unfold wpOp
      simp only [ho]
      have hw : Region.wanted o (yielded ops a.tmps) = true := by simp [Region.wanted, (hop i o ho).1]
      rw [if_pos hw]
      refine .inl (Oper.wp_mono ?_ (hstep i o ho _ a w hf hdep))
      rintro a' w' ⟨v, rfl, hF, hb⟩
      refine ih _ _ _ (by simpa using hs) ?_ ?_
      · have hlt' := countP_lt (p := fun j => !(listed.setIfInBounds i true).getD j false) (q := fun j => !listed.getD j false) (List.range ops.size)
          (fun x _ hp => by
            by_cases hxi : i = x
            · subst hxi; simp [Array.getD, hs, hil] at hp
            · simpa [getD_set_ne false hxi] using hp)
          ⟨i, List.mem_range.2 hil, by simpa using hxf, by simp [Array.getD, hs, hil]⟩
        omega
      · refine ⟨hf.defers, by simp [Act.put, hf.size], hrel _ _ hb hf.below, fun j hj hLj => ?_, fun k hk => ?_⟩
        · by_cases hij : i = j
          · subst hij
            rw [sl_put_same _ _ _ (by rw [hf.size]; exact hlt i hil)]
            exact hF
          · rw [sl_put_other _ _ _ _ (fun e => hij (hdist i j hil hj e))]
            exact hstable _ _ _ _ (hf.got j hj (by rw [← hLj, getD_set_ne false hij])) hb
        · rw [sl_put_other _ _ _ _ (hk i hil (by simp [Array.getD, hs, hil]))]
          exact hf.rest k fun j hj hLj => hk j hj (by
            by_cases hij : i = j
            · subst hij; simp [Array.getD, hs, hil]
            · rw [getD_set_ne false hij]; exact hLj)
  refine main ops.size _ a0 _ (by simp) (by exact Nat.le_trans List.countP_le_length (by simp)) ⟨rfl, rfl, (Below.refl _ _).drew, fun i hi h => ?_, fun _ _ => rfl⟩
  simp [Array.getD, hi] at h

/-- slots written one by one -/
def putL (t : Array Value) : List (Nat × Value) → Array Value
  | [] => t
  | p :: r => putL (t.setIfInBounds p.1 p.2) r
theorem eq_putL (A : Array Value) : ∀ (l : List (Nat × Value)) (t : Array Value), A.size = t.size → (∀ p ∈ l, A.getD p.1 undef = p.2) → (∀ k, (∀ p ∈ l, p.1 ≠ k) → A.getD k undef = t.getD k undef) → A = putL t l
  | [], t, hs, _, hk => by
    refine Array.ext hs fun i h1 h2 => ?_
    have := hk i (fun p hp => by cases hp)
    have h2' : i < t.size := h2
    show A[i] = t[i]
    simpa [Array.getD, h1, h2'] using this
  | p :: r, t, hs, hp, hk => by
    refine eq_putL A r _ (by simpa using hs) (fun q hq => hp q (List.mem_cons_of_mem _ hq)) fun k hkr => ?_
    by_cases hpk : p.1 = k
    · subst hpk
      rw [hp p (List.mem_cons_self ..)]
      by_cases hlt : p.1 < t.size
      · simp [Array.getD, hlt]
      · have h1 := hp p (List.mem_cons_self ..)
        have h2 : ¬ p.1 < A.size := by omega
        simp [Array.getD, h2] at h1
        simp [Array.getD, hlt, ← h1]
    · rw [hk k (fun q hq => (by rcases List.mem_cons.1 hq with rfl | hq <;> first | exact hpk | exact hkr q hq))]
      simp only [Array.getD_eq_getD_getElem?]
      rw [Array.getElem?_setIfInBounds_ne hpk]
/-- at the region's end: the frame, written out -/
theorem Free.all {n : Nat} {d : Nat → Nat} {F : Nat → Value → World → Prop} {a0 : Act} {W0 : World} {a : Act} {w : World} (h : Free n d F a0 W0 (fun _ => true) a w) :
    ∃ vs : List Value, vs.length = n ∧ (∀ i (hi : i < vs.length), F i vs[i] w) ∧ a = ⟨putL a0.tmps (((List.range n).map d).zip vs), a0.defers⟩ := by
  refine ⟨(List.range n).map fun i => sl a (d i), by simp, fun i hi => by simp at hi ⊢; exact h.got i hi rfl, ?_⟩
  obtain ⟨t, df⟩ := a
  have h1 := h.defers
  simp only at h1
  subst h1
  congr 1
  refine eq_putL t _ _ h.size (fun p hp => ?_) fun k hk => h.rest k fun i hi _ e => ?_
  · obtain ⟨i, hi, he⟩ := List.getElem_of_mem hp
    simp at he
    rw [← he]
    rfl
  · subst e
    exact hk (d i, sl ⟨t, a0.defers⟩ (d i)) (List.mem_iff_getElem.2 ⟨i, by simpa using hi, by simp⟩) rfl

/-- the region's shape, asked of the kernel -/
def regionOk (ops : Array Oper) (ds : List Nat) (N : Nat) : Bool :=
  decide (ops.size = ds.length) && decide ds.Nodup && ds.all (fun k => decide (k < N)) &&
    (List.range ops.size).all fun i => ((ops[i]?).map fun o => o.guard.isNone && (o.dst == some (ds.getD i 0)) && o.after.all fun e => !Region.binds .any e || decide (e.on < i)).getD false
/-- one operation's step -/
def FreeStep (Rel : World → World → Prop) (P : Program) (n : Nat) (d : Nat → Nat) (F : Nat → Value → World → Prop) (a0 : Act) (W0 : World) (Q : Exit → Act → World → Prop) (i : Nat) (o : Oper) : Prop :=
  ∀ L a w, Free n d F a0 W0 L a w → (∀ e ∈ o.after, Region.binds .any e = true → L e.on = true) →
    o.wp P a w (fun a' w' => ∃ v, a' = a.put (some (d i)) v ∧ F i v w' ∧ Rel w w') Q
def FreeSteps (Rel : World → World → Prop) (P : Program) (n : Nat) (d : Nat → Nat) (F : Nat → Value → World → Prop) (a0 : Act) (W0 : World) (Q : Exit → Act → World → Prop) : Nat → List Oper → Prop
  | _, [] => True
  | i, o :: r => FreeStep Rel P n d F a0 W0 Q i o ∧ FreeSteps Rel P n d F a0 W0 Q (i + 1) r
theorem FreeSteps.at {Rel : World → World → Prop} {P : Program} {n : Nat} {d : Nat → Nat} {F : Nat → Value → World → Prop} {a0 : Act} {W0 : World} {Q : Exit → Act → World → Prop} :
    ∀ (l : List Oper) (k : Nat), FreeSteps Rel P n d F a0 W0 Q k l → ∀ i o, l[i]? = some o → FreeStep Rel P n d F a0 W0 Q (k + i) o
  | [], _, _, _, _, h => by simp at h
  | o :: r, k, h, 0, o', ho => by
    simp at ho
    subst ho
    exact h.1
  | o :: r, k, h, i + 1, o', ho => by
    have := FreeSteps.at r (k + 1) h.2 i o' (by simpa using ho)
    rwa [Nat.add_assoc, Nat.add_comm 1 i] at this
theorem wp_region_free_l (Rel : World → World → Prop) {P : Program} {id : Nat} {ops : List Oper} {Q : Exit → Act → World → Prop} {a0 : Act} {W0 : World} (hm : P.follows .mixedOrders = true)
    (ds : List Nat) (Fs : List (Value → World → Prop)) (hok : regionOk ops.toArray ds a0.tmps.size = true)
    (hrel : ∀ w w', Rel w w' → Below W0.heap.size W0 w → Below W0.heap.size W0 w')
    (hstable : ∀ f ∈ Fs, ∀ v w w', f v w → Rel w w' → f v w')
    (hstep : FreeSteps Rel P ds.length (fun i => ds.getD i 0) (fun i => Fs.getD i fun _ _ => True) a0 W0 Q 0 ops)
    (hfin : ∀ (vs : List Value) w, vs.length = ds.length → (∀ i (hi : i < vs.length), Fs.getD i (fun _ _ => True) vs[i] w) → Below W0.heap.size W0 w → Q .normal ⟨putL a0.tmps (ds.zip vs), a0.defers⟩ w) :
    (Code.region id ops.toArray true).wp P Q a0 W0 := by
  unfold regionOk at hok
  simp only [Bool.and_eq_true, decide_eq_true_eq, List.all_eq_true, List.mem_range] at hok
  obtain ⟨⟨⟨h1, h2⟩, h3⟩, h4⟩ := hok
  have hn : ops.length = ds.length := by simpa using h1
  have hop : ∀ (i : Nat) (o : Oper), ops.toArray[i]? = some o → o.guard = none ∧ o.dst = some (ds.getD i 0) ∧ ∀ e ∈ o.after, Region.binds .any e = true → e.on < i := by
    intro i o ho
    have hi := (Array.getElem?_eq_some_iff.1 ho).1
    have := h4 i hi
    rw [ho] at this
    simp only [Option.map_some, Option.getD_some, Bool.and_eq_true, Option.isNone_iff_eq_none, beq_iff_eq, Array.all_eq_true_iff_forall_mem, Bool.or_eq_true, Bool.not_eq_true', decide_eq_true_eq] at this
    refine ⟨this.1.1, this.1.2, fun e he hb => (this.2 e he).resolve_left (by simp [hb])⟩
  have hsz : ops.toArray.size = ds.length := by simpa using hn
  refine wp_region_free Rel hm (fun i => ds.getD i 0) (fun i => Fs.getD i fun _ _ => True) hop (fun i j hi hj he => ?_) (fun i hi => ?_) hrel (fun i v w w' hv hb => ?_) (fun i o ho => ?_) (fun a w hf => ?_)
  · rw [hsz] at hi hj
    simp only [List.getD_eq_getElem?_getD, List.getElem?_eq_getElem hi, List.getElem?_eq_getElem hj, Option.getD_some] at he
    exact (List.getElem_inj h2).1 he
  · rw [hsz] at hi
    simp only [List.getD_eq_getElem?_getD, List.getElem?_eq_getElem hi, Option.getD_some]
    exact h3 _ (List.getElem_mem _)
  · by_cases hi : i < Fs.length
    · simp only [List.getD_eq_getElem?_getD, List.getElem?_eq_getElem hi, Option.getD_some] at hv ⊢
      exact hstable _ (List.getElem_mem _) _ _ _ hv hb
    · simp only [List.getD_eq_getElem?_getD, List.getElem?_eq_none (Nat.le_of_not_lt hi), Option.getD_none]
  · have := FreeSteps.at ops 0 hstep i o (by simpa using ho)
    rw [Nat.zero_add] at this
    rw [hsz]
    exact this
  · rw [hsz] at hf
    obtain ⟨vs, hl, hF, rfl⟩ := hf.all
    have := hfin vs w hl hF hf.below
    have e : (List.range ds.length).map (fun i => ds.getD i 0) = ds := by
      apply List.ext_getElem (by simp)
      intro i h1 h2
      simp [h2]
    rw [e]
    exact this

theorem slv {a : Act} {k : Nat} {v : Value} (h : sl a k = v) : a.tmps[k]?.getD undef = v := by simpa [sl] using h
theorem Free.out {ds : List Nat} {F : Nat → Value → World → Prop} {a0 : Act} {W0 : World} {L : Nat → Bool} {a : Act} {w : World} (h : Free ds.length (fun i => ds.getD i 0) F a0 W0 L a w) (k : Nat) (hk : k ∉ ds) {v : Value} (hv : sl a0 k = v) : a.tmps[k]?.getD undef = v := by
  refine slv (Eq.trans (h.rest k fun i hi _ e => hk ?_) hv)
  simp only [List.getD_eq_getElem?_getD, List.getElem?_eq_getElem hi, Option.getD_some] at e
  rw [← e]
  exact List.getElem_mem _

theorem free_run {P : Program} {o : Oper} {a : Act} {W W' : World} {d : Nat} {v : Value} {F : Value → World → Prop} {Rel : World → World → Prop} {Q : Exit → Act → World → Prop} (ho : o.dst = some d)
    (h : (execOp a.eval o).run P W = .ok (.value v) W') (hF : F v W') (hr : Rel W W') : o.wp P a W (fun a' w' => ∃ v, a' = a.put (some d) v ∧ F v w' ∧ Rel W w') Q := by
  unfold Oper.wp
  rw [h]
  exact ⟨v, by rw [ho], hF, hr⟩
theorem free_call {P : Program} {o : Oper} {a : Act} {W : World} {d : Nat} {f : FuncId} {args : Array Value} {F : Value → World → Prop} {Rel : World → World → Prop} {Q : Exit → Act → World → Prop} (ho : o.dst = some d)
    (h : (execOp a.eval o).run P W = .ok (.enter f args) W) (hc : Calls P f args W fun e w' => ∃ v, e = .returned v ∧ F v w' ∧ Rel W w') : o.wp P a W (fun a' w' => ∃ v, a' = a.put (some d) v ∧ F v w' ∧ Rel W w') Q := by
  unfold Oper.wp
  rw [h]
  refine hc.mono ?_
  rintro e w' ⟨v, rfl, hF, hr⟩
  exact ⟨v, by rw [ho], hF, hr⟩

/-- cells stay; marks may come -/
structure CellsKept (B : Nat) (w w' : World) : Prop where
  os : w'.os = w.os
  tape : w'.tape = w.tape
  output : w'.output = w.output
  size : w.heap.size ≤ w'.heap.size
  block : ∀ k, k < B → w'.heap[k]? = w.heap[k]?
  cells : ∀ (k : Nat) (C : Array Value) (e : TypeId) (fr : Nat × Nat), w.heap[k]? = some (Obj.cells C e fr) → ∃ fr' : Nat × Nat, w'.heap[k]? = some (Obj.cells C e fr')
theorem CellsKept.of {B : Nat} {w w' : World} (h : Below w.heap.size w w') (hB : B ≤ w.heap.size) : CellsKept B w w' :=
  ⟨h.os, h.tape, h.output, h.size, fun k hk => h.block k (by omega), fun k C e fr hk => ⟨fr, by
    have : k < w.heap.size := by
      rcases Nat.lt_or_ge k w.heap.size with hlt | hge
      · exact hlt
      · rw [Array.getElem?_eq_none hge] at hk; cases hk
    rw [h.block k this]; exact hk⟩⟩
theorem CellsKept.below {B : Nat} {w0 w w' : World} (h : CellsKept B w w') (hb : Below B w0 w) : Below B w0 w' :=
  ⟨h.os.trans hb.os, h.tape.trans hb.tape, h.output.trans hb.output, Nat.le_trans hb.size h.size, fun k hk => (h.block k hk).trans (hb.block k hk)⟩
theorem CellsKept.cell {B : Nat} {w w' : World} (h : CellsKept B w w') {b o : Nat} {v : Value} (hc : w.cell? ⟨b, o, none⟩ = some v) : w'.cell? ⟨b, o, none⟩ = some v := by
  have hc' := hc
  unfold World.cell? at hc
  split at hc
  · rename_i C e fr hb
    obtain ⟨fr', hb'⟩ := h.cells b C e fr hb
    rw [cell_of_row w b o C e fr hb] at hc'
    rw [cell_of_row w' b o C e fr' hb']
    exact hc'
  · cases hc
theorem freeze_kept (w : World) (b o B : Nat) (hB : B ≤ b) : CellsKept B w (w.freeze ⟨b, o, none⟩ 1) := by
  unfold World.freeze
  rw [if_neg (by decide)]
  refine ⟨rfl, rfl, rfl, by simp, fun k hk => ?_, fun k C e fr hk => ?_⟩
  · show (w.heap.modify b _)[k]? = _
    rw [Array.getElem?_modify, if_neg (by omega)]
  · show ∃ fr' : Nat × Nat, (w.heap.modify b _)[k]? = some (Obj.cells C e fr')
    rw [Array.getElem?_modify]
    by_cases hbk : b = k
    · subst hbk
      rw [if_pos rfl, hk]
      obtain ⟨lo, hi⟩ := fr
      exact ⟨_, rfl⟩
    · rw [if_neg hbk]
      exact ⟨fr, hk⟩
/-- '[]byte("..")': the row that was made for it is marked -/
theorem run_convert_lit {P : Program} (w : World) (t e : TypeId) (C : Array Value) (fr : Nat × Nat) (b n c : Nat) (ht : P.underlying t = some (.slice e)) (he : P.underlying e = some (.int .u8)) (hb : w.heap[b]? = some (.cells C e fr)) :
    (convert t t (.slice (some ⟨b, 0, none⟩) n c)).run P w = .ok (.slice (some ⟨b, 0, none⟩) n c) (w.freeze ⟨b, C.size, none⟩ 1) := by
  have hsh : w.shape? b = some (e, C.size) := by
    unfold World.shape?
    rw [hb]
  simp [convert, run_underlying ht, run_underlying he, markStringish, hsh]
/-- an operation's value is known -/
def Is (c : Value) (v : Value) (_ : World) : Prop := v = c
end Go.Proofs.Ytlkflddjpkhndaa
