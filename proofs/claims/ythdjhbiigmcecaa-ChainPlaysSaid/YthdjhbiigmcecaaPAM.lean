/- Texts of this proof, one behind the other: FreeI, ChnF, ChnG, ChnH, TenH, TenA, TenB, TenC. -/
import Derived.Test.YthdjhbiigmcecaaPAG
import Derived.Test.YthdjhbiigmcecaaPAL
import Derived.Test.YthdjhbiigmcecaaPAF
import Derived.Deep.CutRange
import Derived.Carry
import Derived.Test.YthdjhbiigmcecaaPAI
import Derived.Test.YthdjhbiigmcecaaPAK
set_option linter.unusedVariables false
set_option linter.unusedSimpArgs false
/- A region that draws its order, reads, writes and makes memory: an invariant that is told by which operations (of some) are done, and by what they yielded. Over any program. -/
namespace Go.Proofs.Ythdjhbiigmcecaa
open Go.RowKit

def updB (L : Nat → Bool) (i : Nat) : Nat → Bool := fun j => if j = i then true else L j
def updV (V : Nat → Value) (i : Nat) (v : Value) : Nat → Value := fun j => if j = i then v else V j
theorem updB_map {L : Nat → Bool} {i : Nat} {ms : List Nat} (h : i ∉ ms) : ms.map (updB L i) = ms.map L :=
 List.map_congr_left fun j hj => if_neg (fun e : j = i => h (e ▸ hj))
theorem updV_map {V : Nat → Value} {i : Nat} {v : Value} {ms : List Nat} (h : i ∉ ms) : ms.map (updV V i v) = ms.map V :=
 List.map_congr_left fun j hj => if_neg (fun e : j = i => h (e ▸ hj))
/-- in the midst of the region: L says which operations are done -/
structure FreeI (n : Nat) (d : Nat → Nat) (F : Nat → Value → Prop) (ms : List Nat) (H : List Bool → List Value → World → Prop) (a0 : Act) (L : Nat → Bool) (a : Act) (w : World) : Prop where
 defers : a.defers = a0.defers
 size : a.tmps.size = a0.tmps.size
 glob : H (ms.map L) (ms.map fun i => sl a (d i)) w
 got : ∀ i, i < n → L i = true → F i (sl a (d i))
 rest : ∀ k, (∀ i, i < n → L i = true → d i ≠ k) → sl a k = sl a0 k
/-- what a step must bring -/
def PostI (o : Oper) (i : Nat) (d : Nat → Nat) (F : Nat → Value → Prop) (ms : List Nat) (H : List Bool → List Value → World → Prop) (L : Nat → Bool) (a : Act) (a' : Act) (w' : World) : Prop :=
 ∃ v, a' = a.put o.dst v ∧ (o.dst = none → v = undef) ∧ F i v ∧ H (ms.map (updB L i)) (ms.map (updV (fun i => sl a (d i)) i v)) w'
theorem wp_region_freeI {P : Program} {id : Nat} {ops : Array Oper} {Q : Exit → Act → World → Prop} {a0 : Act} {W0 : World} (hm : P.follows .mixedOrders = true)
  (d : Nat → Nat) (F : Nat → Value → Prop) (ms : List Nat) (H : List Bool → List Value → World → Prop) (hms : ∀ j ∈ ms, j < ops.size)
  (hop : ∀ i o, ops[i]? = some o → ((o.dst = some (d i) ∧ d i < a0.tmps.size) ∨ (o.dst = none ∧ a0.tmps.size ≤ d i)) ∧ (∀ e ∈ o.after, Region.binds .any e = true → e.on < i) ∧ ∀ k b, o.guard = some (k, b) → k < ops.size ∧ d k < a0.tmps.size)
  (hdist : ∀ i j, i < ops.size → j < ops.size → d i = d j → i = j)
  (las : Nat → List Nat) (hlas : ∀ (L : Nat → Bool), (∀ i o, ops[i]? = some o → L i = true → ∀ e ∈ o.after, Region.binds .any e = true → L e.on = true) → ∀ i, i < ops.size → L i = false → ∀ j ∈ las i, L j = false)
  (h0 : H (ms.map fun _ => false) (ms.map fun i => sl a0 (d i)) W0.drew)
  (hstep : ∀ (i : Nat) (o : Oper), ops[i]? = some o → ∀ L a w, FreeI ops.size d F ms H a0 L a w → L i = false → (∀ j ∈ las i, L j = false) → (∀ e ∈ o.after, Region.binds .any e = true → L e.on = true) →
   (Held o d a → o.wp P a w (PostI o i d F ms H L a) Q) ∧ (¬ Held o d a → F i undef ∧ H (ms.map (updB L i)) (ms.map (updV (fun i => sl a (d i)) i undef)) w))
  (hfin : ∀ a w, FreeI ops.size d F ms H a0 (fun _ => true) a w → Q .normal a w) : (Code.region id ops true).wp P Q a0 W0 := by
 refine wp_region_any hm ?_
 have hdst : ∀ i o, ops[i]? = some o → ∀ a : Act, a.tmps.size = a0.tmps.size → ∀ v, (o.dst = none → v = undef) → (∀ j, j < ops.size → sl (a.put o.dst v) (d j) = updV (fun i => sl a (d i)) i v j) ∧ (a.put o.dst v).tmps.size = a0.tmps.size ∧ (a.put o.dst v).defers = a.defers ∧ ∀ k, d i ≠ k → sl (a.put o.dst v) k = sl a k := by
  intro i o ho a ha v hv
  have hil : i < ops.size := (Array.getElem?_eq_some_iff.1 ho).1
  rcases (hop i o ho).1 with ⟨e, hlt⟩ | ⟨e, hge⟩
  ·rw [e]
   refine ⟨fun j hj => ?_, by simp [Act.put, ha], rfl, fun k hk => sl_put_other _ _ _ _ hk⟩
   unfold updV
   by_cases hij : j = i
   ·subst hij
    rw [if_pos rfl, sl_put_same _ _ _ (by rw [ha]; exact hlt)]
   ·rw [if_neg hij, sl_put_other _ _ _ _ (fun e => hij (hdist i j hil hj e).symm)]
  ·rw [e]
   refine ⟨fun j hj => ?_, ha, rfl, fun k _ => rfl⟩
   unfold updV
   by_cases hij : j = i
   ·subst hij
    rw [if_pos rfl, hv e]
    show sl a (d j) = undef
    simp only [sl, Array.getD_eq_getD_getElem?]
    rw [Array.getElem?_eq_none (by omega)]
    rfl
   ·rw [if_neg hij]
    rfl
 have hmv : ∀ (V V' : Nat → Value), (∀ j, j < ops.size → V j = V' j) → ms.map V = ms.map V' := fun V V' h => List.map_congr_left fun j hj => h j (hms j hj)
 have done : ∀ (listed : Array Bool) (a : Act) (w : World), listed.size = ops.size → FreeI ops.size d F ms H a0 (fun i => listed.getD i false) a w → Region.ready .any ops listed = [] → Q .normal a w := by
  intro listed a w hs hf hr
  have hall : ∀ i, i < ops.size → listed.getD i false = true := by
   intro i
   induction i using Nat.strongRecOn with
   | ind i ih =>
    intro hi
    cases hb : listed.getD i false with
    | true => rfl
    | false =>
     exfalso
     have hmem : i ∈ Region.ready .any ops listed := by
      refine mem_ready.2 ⟨?_, ops[i], Array.getElem?_eq_getElem hi, fun e he hb' => ih e.on ((hop i _ (Array.getElem?_eq_getElem hi)).2.1 e he hb') ?_⟩
      ·simpa [Array.getD, hs, hi] using hb
      ·exact Nat.lt_trans ((hop i _ (Array.getElem?_eq_getElem hi)).2.1 e he hb') hi
     rw [hr] at hmem
     cases hmem
  refine hfin a w ⟨hf.defers, hf.size, ?_, fun i hi _ => hf.got i hi (hall i hi), fun k hk => hf.rest k fun i hi _ => hk i hi rfl⟩
  have e : (ms.map fun i => listed.getD i false) = ms.map fun _ => true := List.map_congr_left fun j hj => hall j (hms j hj)
  have hg := hf.glob
  rw [e] at hg
  exact hg
 have main : ∀ (fuel : Nat) (listed : Array Bool) (a : Act) (w : World), listed.size = ops.size → (List.range ops.size).countP (fun i => !listed.getD i false) ≤ fuel →
   (∀ i o, ops[i]? = some o → listed.getD i false = true → ∀ e ∈ o.after, Region.binds .any e = true → listed.getD e.on false = true) →
   FreeI ops.size d F ms H a0 (fun i => listed.getD i false) a w → wpAny P .any ops Q fuel listed a w := by
  intro fuel
  induction fuel with
  | zero =>
   intro listed a w hs hc _ hf
   have hr : Region.ready .any ops listed = [] := by
    cases hr : Region.ready .any ops listed with
    | nil => rfl
    | cons x xs =>
     exfalso
     obtain ⟨hx, o, ho, _⟩ := mem_ready.1 (show x ∈ Region.ready .any ops listed by rw [hr]; exact List.mem_cons_self ..)
     have hxl : x < ops.size := (Array.getElem?_eq_some_iff.1 ho).1
     have : 0 < (List.range ops.size).countP (fun i => !listed.getD i false) := List.countP_pos_iff.2 ⟨x, List.mem_range.2 hxl, by simpa [Array.getD, hs, hxl] using hx⟩
     omega
   exact ⟨hr, done listed a w hs hf hr⟩
  | succ fuel ih =>
   intro listed a w hs hc hcl hf
   refine ⟨done listed a w hs hf, fun i hi => ?_⟩
   obtain ⟨hx, o, ho, hdep⟩ := mem_ready.1 hi
   have hil : i < ops.size := (Array.getElem?_eq_some_iff.1 ho).1
   have hxf : listed.getD i false = false := by simpa [Array.getD, hs, hil] using hx
   have hupd : (fun j => (listed.setIfInBounds i true).getD j false) = updB (fun j => listed.getD j false) i := by
    funext j
    unfold updB
    by_cases hij : j = i
    ·subst hij
     simp [Array.getD, hs, hil]
    ·rw [if_neg hij, getD_set_ne false (fun e => hij e.symm)]
   unfold wpOp
   simp only [ho]
   have hless : (List.range ops.size).countP (fun j => !(listed.setIfInBounds i true).getD j false) ≤ fuel := by
    have hlt' := countP_lt (p := fun j => !(listed.setIfInBounds i true).getD j false) (q := fun j => !listed.getD j false) (List.range ops.size)
     (fun x _ hp => by
      by_cases hxi : i = x
      ·subst hxi; simp [Array.getD, hs, hil] at hp
      ·simpa [getD_set_ne false hxi] using hp)
     ⟨i, List.mem_range.2 hil, by simpa using hxf, by simp [Array.getD, hs, hil]⟩
    omega
   have putd : ∀ v w', (o.dst = none → v = undef) → F i v → H (ms.map (updB (fun j => listed.getD j false) i)) (ms.map (updV (fun i => sl a (d i)) i v)) w' →
     FreeI ops.size d F ms H a0 (fun j => (listed.setIfInBounds i true).getD j false) (a.put o.dst v) w' := by
    intro v w' hv hF hG
    obtain ⟨h1, h2, h3, h4⟩ := hdst i o ho a hf.size v hv
    rw [hupd]
    refine ⟨h3.trans hf.defers, h2, ?_, fun j hj hLj => ?_, fun k hk => ?_⟩
    ·rw [hmv _ _ h1]
     exact hG
    ·rw [h1 j hj]
     unfold updV
     by_cases hij : j = i
     ·subst hij
      rw [if_pos rfl]
      exact hF
     ·rw [if_neg hij]
      exact hf.got j hj (by simpa [updB, hij] using hLj)
    ·rw [h4 k (hk i hil (by simp [updB]))]
     exact hf.rest k fun j hj hLj => hk j hj (by
      unfold updB
      split
      ·rfl
      ·exact hLj)
   have hwt : Region.wanted o (yielded ops a.tmps) = true ↔ Held o d a := by
    unfold Region.wanted Held
    cases hgd : o.guard with
    | none => simp
    | some g =>
     obtain ⟨k, b⟩ := g
     obtain ⟨hk, hks'⟩ := (hop i o ho).2.2 k b hgd
     have hkd : (ops[k]'hk).dst = some (d k) := by
      rcases (hop k _ (Array.getElem?_eq_getElem hk)).1 with h | h
      ·exact h.1
      ·omega
     have hks : d k < a.tmps.size := by rw [hf.size]; exact hks'
     simp only [yielded, Array.getElem?_eq_getElem hk, Option.bind_some, hkd, Array.getElem?_eq_getElem hks, sl, Array.getD_eq_getD_getElem?, Option.getD_some, beq_iff_eq]
     cases hv : a.tmps[d k] <;> simp
   have hcl' : ∀ j o', ops[j]? = some o' → (listed.setIfInBounds i true).getD j false = true → ∀ e ∈ o'.after, Region.binds .any e = true → (listed.setIfInBounds i true).getD e.on false = true := by
    intro j o' ho' hL e he hb
    have h1 : listed.getD e.on false = true := by
     by_cases hij : i = j
     ·subst hij
      rw [ho] at ho'
      injection ho' with ho'
      subst ho'
      exact hdep e he hb
     ·rw [getD_set_ne false hij] at hL
      exact hcl j o' ho' hL e he hb
    by_cases hie : i = e.on
    ·rw [← hie]
     simp [Array.getD, hs, hil]
    ·rw [getD_set_ne false hie]
     exact h1
   have hno := hlas (fun j => listed.getD j false) hcl i hil hxf
   by_cases hheld : Held o d a
   ·rw [if_pos (hwt.2 hheld)]
    refine .inl (Oper.wp_mono ?_ ((hstep i o ho _ a w hf hxf hno hdep).1 hheld))
    rintro a' w' ⟨v, rfl, hv, hF, hG⟩
    exact ih _ _ _ (by simpa using hs) hless hcl' (putd v w' hv hF hG)
   ·rw [if_neg (fun h => hheld (hwt.1 h))]
    obtain ⟨h1, h2⟩ := (hstep i o ho _ a w hf hxf hno hdep).2 hheld
    exact ih _ _ _ (by simpa using hs) hless hcl' (putd undef w (fun _ => rfl) h1 h2)
 refine main ops.size _ a0 _ (by simp) (by exact Nat.le_trans List.countP_le_length (by simp)) (fun i o ho h => by
  have := (Array.getElem?_eq_some_iff.1 ho).1
  simp [Array.getD, this] at h) ⟨rfl, rfl, ?_, fun i hi h => ?_, fun _ _ => rfl⟩
 ·have e : (ms.map fun i => ((Array.replicate ops.size false).getD i false)) = ms.map fun _ => false := List.map_congr_left fun j _ => by
   simp only [Array.getD_eq_getD_getElem?, Array.getElem?_replicate]
   split <;> rfl
  first | exact h0 | (rw [e]; exact h0)
 ·simp [Array.getD, hi] at h

/-- the region's shape, asked of the kernel: ds are the operations' slots; for a store a number from N on -/
def regionOkI (ops : Array Oper) (ds : List Nat) (ms : List Nat) (N : Nat) : Bool :=
 decide (ops.size = ds.length) && decide ds.Nodup && (ms.all fun j => decide (j < ops.size)) &&
  (List.range ops.size).all fun i => ((ops[i]?).map fun o => (match o.guard with | none => true | some g => decide (g.1 < ops.size) && decide (ds.getD g.1 0 < N)) && ((o.dst == some (ds.getD i 0) && decide (ds.getD i 0 < N)) || (o.dst == none && decide (N ≤ ds.getD i 0))) && o.after.all fun e => !Region.binds .any e || decide (e.on < i)).getD false
/-- las tells of each operation some that wait for it -/
def lasOk (ops : Array Oper) (las : List (List Nat)) : Bool :=
 (List.range las.length).all fun i => (las.getD i []).all fun j => ((ops[j]?).map fun o => o.after.any fun e => Region.binds .any e && decide (e.on < j) && (e.on == i || (las.getD i []).contains e.on)).getD false
theorem las_listed {ops : Array Oper} {las : List (List Nat)} (h : lasOk ops las = true) (L : Nat → Bool) (hc : ∀ i o, ops[i]? = some o → L i = true → ∀ e ∈ o.after, Region.binds .any e = true → L e.on = true) (i : Nat) (hi : L i = false) :
  ∀ j ∈ las.getD i [], L j = false := by
 intro j
 induction j using Nat.strongRecOn with
 | ind j ih =>
  intro hj
  by_cases hil : i < las.length
  ·unfold lasOk at h
   simp only [List.all_eq_true, List.mem_range] at h
   have h1 := h i hil j hj
   cases ho : ops[j]? with
   | none => rw [ho] at h1; simp at h1
   | some o =>
    rw [ho] at h1
    simp only [Option.map_some, Option.getD_some] at h1
    rw [← Array.any_toList, List.any_eq_true] at h1
    obtain ⟨e, he, hb⟩ := h1
    simp only [Bool.and_eq_true, decide_eq_true_eq, Bool.or_eq_true, beq_iff_eq] at hb
    obtain ⟨⟨hb1, hlt⟩, hor⟩ := hb
    cases hL : L j with
    | false => rfl
    | true =>
     have h2 := hc j o ho hL e (Array.mem_toList_iff.1 he) hb1
     rcases hor with hor | hor
     ·rw [hor, hi] at h2
      cases h2
     ·rw [ih e.on hlt (List.contains_iff_mem.1 hor)] at h2
      cases h2
  ·rw [List.getD_eq_getElem?_getD, List.getElem?_eq_none (Nat.le_of_not_lt hil)] at hj
   cases hj
/-- one operation's step -/
def FreeStepI (P : Program) (n : Nat) (d : Nat → Nat) (F : Nat → Value → Prop) (ms : List Nat) (H : List Bool → List Value → World → Prop) (a0 : Act) (Q : Exit → Act → World → Prop) (las : Nat → List Nat) (i : Nat) (o : Oper) : Prop :=
 ∀ L a w, FreeI n d F ms H a0 L a w → L i = false → (∀ j ∈ las i, L j = false) → (∀ e ∈ o.after, Region.binds .any e = true → L e.on = true) →
  (Held o d a → o.wp P a w (PostI o i d F ms H L a) Q) ∧ (¬ Held o d a → F i undef ∧ H (ms.map (updB L i)) (ms.map (updV (fun i => sl a (d i)) i undef)) w)
def FreeStepsI (P : Program) (n : Nat) (d : Nat → Nat) (F : Nat → Value → Prop) (ms : List Nat) (H : List Bool → List Value → World → Prop) (a0 : Act) (Q : Exit → Act → World → Prop) (las : Nat → List Nat) : Nat → List Oper → Prop
 | _, [] => True
 | i, o :: r => FreeStepI P n d F ms H a0 Q las i o ∧ FreeStepsI P n d F ms H a0 Q las (i + 1) r
theorem FreeStepsI.at {P : Program} {n : Nat} {d : Nat → Nat} {F : Nat → Value → Prop} {ms : List Nat} {H : List Bool → List Value → World → Prop} {a0 : Act} {Q : Exit → Act → World → Prop} {las : Nat → List Nat} :
  ∀ (l : List Oper) (k : Nat), FreeStepsI P n d F ms H a0 Q las k l → ∀ i o, l[i]? = some o → FreeStepI P n d F ms H a0 Q las (k + i) o
 | [], _, _, _, _, h => by simp at h
 | o :: r, k, h, 0, o', ho => by
  simp at ho
  subst ho
  exact h.1
 | o :: r, k, h, i + 1, o', ho => by
  have := FreeStepsI.at r (k + 1) h.2 i o' (by simpa using ho)
  rwa [Nat.add_assoc, Nat.add_comm 1 i] at this
/-- slots that lie in the frame -/
def slotsIn (N : Nat) : List Nat → List Value → List (Nat × Value)
 | k :: ks, v :: vs => if k < N then (k, v) :: slotsIn N ks vs else slotsIn N ks vs
 | _, _ => []
theorem slotsIn_mem {N : Nat} : ∀ {ks : List Nat} {vs : List Value} {p : Nat × Value}, p ∈ slotsIn N ks vs → p ∈ ks.zip vs ∧ p.1 < N
 | [], _, _, h => by simp [slotsIn] at h
 | _ :: _, [], _, h => by simp [slotsIn] at h
 | k :: ks, v :: vs, p, h => by
  unfold slotsIn at h
  split at h
  ·rcases List.mem_cons.1 h with rfl | h
   ·exact ⟨List.mem_cons_self .., by assumption⟩
   ·exact ⟨List.mem_cons_of_mem _ (slotsIn_mem h).1, (slotsIn_mem h).2⟩
  ·exact ⟨List.mem_cons_of_mem _ (slotsIn_mem h).1, (slotsIn_mem h).2⟩
theorem mem_slotsIn {N : Nat} : ∀ {ks : List Nat} {vs : List Value} {p : Nat × Value}, p ∈ ks.zip vs → p.1 < N → p ∈ slotsIn N ks vs
 | [], _, _, h, _ => by simp at h
 | _ :: _, [], _, h, _ => by simp at h
 | k :: ks, v :: vs, p, h, hp => by
  rw [List.zip_cons_cons] at h
  unfold slotsIn
  rcases List.mem_cons.1 h with rfl | h
  ·rw [if_pos hp]
   exact List.mem_cons_self ..
  ·split
   ·exact List.mem_cons_of_mem _ (mem_slotsIn h hp)
   ·exact mem_slotsIn h hp
theorem FreeI.all {n : Nat} {d : Nat → Nat} {F : Nat → Value → Prop} {ms : List Nat} {H : List Bool → List Value → World → Prop} {a0 : Act} {a : Act} {w : World} (h : FreeI n d F ms H a0 (fun _ => true) a w) (hms : ∀ j ∈ ms, j < n) :
  ∃ vs : List Value, vs.length = n ∧ (∀ i (hi : i < vs.length), F i vs[i]) ∧ H (ms.map fun _ => true) (ms.map fun i => vs.getD i undef) w ∧ a = ⟨putL a0.tmps (slotsIn a0.tmps.size ((List.range n).map d) vs), a0.defers⟩ := by
 refine ⟨(List.range n).map fun i => sl a (d i), by simp, fun i hi => by simp at hi ⊢; exact h.got i hi rfl, ?_, ?_⟩
 ·have e : (ms.map fun i => ((List.range n).map fun i => sl a (d i)).getD i undef) = ms.map fun i => sl a (d i) := List.map_congr_left fun j hj => by
   simp [List.getD_eq_getElem?_getD, hms j hj]
  rw [e]
  exact h.glob
 ·obtain ⟨t, df⟩ := a
  have h1 := h.defers
  simp only at h1
  subst h1
  congr 1
  refine eq_putL t _ _ h.size (fun p hp => ?_) fun k hk => ?_
  ·obtain ⟨i, hi, he⟩ := List.getElem_of_mem (slotsIn_mem hp).1
   simp at he
   rw [← he]
   rfl
  ·by_cases hkn : k < a0.tmps.size
   ·exact h.rest k fun i hi _ e => by
     subst e
     exact hk (d i, sl ⟨t, a0.defers⟩ (d i)) (mem_slotsIn (List.mem_iff_getElem.2 ⟨i, by simpa using hi, by simp⟩) hkn) rfl
   ·have hs := h.size
    simp only at hs
    simp only [Array.getD_eq_getD_getElem?]
    rw [Array.getElem?_eq_none (by omega), Array.getElem?_eq_none (by omega)]
theorem wp_region_freeI_l {P : Program} {id : Nat} {ops : List Oper} {Q : Exit → Act → World → Prop} {a0 : Act} {W0 : World} (hm : P.follows .mixedOrders = true)
  (ds : List Nat) (Fs : List (Value → Prop)) (ms : List Nat) (H : List Bool → List Value → World → Prop) (las : List (List Nat)) (hok : regionOkI ops.toArray ds ms a0.tmps.size = true) (hlo : lasOk ops.toArray las = true)
  (h0 : H (ms.map fun _ => false) (ms.map fun i => sl a0 (ds.getD i 0)) W0.drew)
  (hstep : FreeStepsI P ds.length (fun i => ds.getD i 0) (fun i => Fs.getD i fun _ => True) ms H a0 Q (fun i => las.getD i []) 0 ops)
  (hfin : ∀ (vs : List Value) w, vs.length = ds.length → (∀ i (hi : i < vs.length), (Fs.getD i fun _ => True) vs[i]) → H (ms.map fun _ => true) (ms.map fun i => vs.getD i undef) w → Q .normal ⟨putL a0.tmps (slotsIn a0.tmps.size ds vs), a0.defers⟩ w) :
  (Code.region id ops.toArray true).wp P Q a0 W0 := by
 unfold regionOkI at hok
 simp only [Bool.and_eq_true, decide_eq_true_eq, List.all_eq_true, List.mem_range] at hok
 obtain ⟨⟨⟨h1, h2⟩, h3⟩, h4⟩ := hok
 have hn : ops.length = ds.length := by simpa using h1
 have hop : ∀ (i : Nat) (o : Oper), ops.toArray[i]? = some o → ((o.dst = some (ds.getD i 0) ∧ ds.getD i 0 < a0.tmps.size) ∨ (o.dst = none ∧ a0.tmps.size ≤ ds.getD i 0)) ∧ (∀ e ∈ o.after, Region.binds .any e = true → e.on < i) ∧ ∀ k b, o.guard = some (k, b) → k < ops.toArray.size ∧ ds.getD k 0 < a0.tmps.size := by
  intro i o ho
  have hi := (Array.getElem?_eq_some_iff.1 ho).1
  have := h4 i hi
  rw [ho] at this
  simp only [Option.map_some, Option.getD_some, Bool.and_eq_true, Bool.or_eq_true, beq_iff_eq, decide_eq_true_eq, Array.all_eq_true_iff_forall_mem, Bool.not_eq_true'] at this
  refine ⟨this.1.2, fun e he hb => (this.2 e he).resolve_left (by simp [hb]), fun k b hg => ?_⟩
  have h5 := this.1.1
  rw [hg] at h5
  simpa using h5
 have hms : ∀ j ∈ ms, j < ops.toArray.size := fun j hj => by simpa using h3 j hj
 refine wp_region_freeI hm (fun i => ds.getD i 0) (fun i => Fs.getD i fun _ => True) ms H hms hop (fun i j hi hj he => ?_) (fun i => las.getD i []) (fun L hc i _ hi => las_listed hlo L hc i hi) h0 (fun i o ho => ?_) (fun a w hf => ?_)
 ·have hi' : i < ds.length := by rw [← hn]; simpa using hi
  have hj' : j < ds.length := by rw [← hn]; simpa using hj
  simp only [List.getD_eq_getElem?_getD, List.getElem?_eq_getElem hi', List.getElem?_eq_getElem hj', Option.getD_some] at he
  exact (List.getElem_inj h2).1 he
 ·have := FreeStepsI.at ops 0 hstep i o (by simpa using ho)
  rw [Nat.zero_add] at this
  have e : ops.toArray.size = ds.length := by simpa using hn
  rw [e]
  exact this
 ·have e0 : ops.toArray.size = ds.length := by simpa using hn
  rw [e0] at hf
  obtain ⟨vs, hl, hF, hG, rfl⟩ := hf.all (fun j hj => by rw [← e0]; exact hms j hj)
  have := hfin vs w hl hF hG
  have e : (List.range ds.length).map (fun i => ds.getD i 0) = ds := by
   apply List.ext_getElem (by simp)
   intro i h1 h2
   simp [h2]
  rw [e]
  exact this
theorem FreeI.out {ds : List Nat} {F : Nat → Value → Prop} {ms : List Nat} {H : List Bool → List Value → World → Prop} {a0 : Act} {L : Nat → Bool} {a : Act} {w : World} (h : FreeI ds.length (fun i => ds.getD i 0) F ms H a0 L a w) (k : Nat) (hk : k ∉ ds) {v : Value} (hv : sl a0 k = v) : a.tmps[k]?.getD undef = v := by
 refine slv (Eq.trans (h.rest k fun i hi _ e => hk ?_) hv)
 simp only [List.getD_eq_getElem?_getD, List.getElem?_eq_getElem hi, Option.getD_some] at e
 rw [← e]
 exact List.getElem_mem _
/-- an operation that yields a value and leaves the world -/
theorem freeI_run {P : Program} {o : Oper} {a : Act} {W : World} {k i : Nat} {n : Nat} {d : Nat → Nat} {F : Nat → Value → Prop} {ms : List Nat} {H : List Bool → List Value → World → Prop} {a0 : Act} {L : Nat → Bool} {Q : Exit → Act → World → Prop} {v : Value} (ho : o.dst = some k) (hf : FreeI n d F ms H a0 L a W) (hi : i ∉ ms)
  (h : (execOp a.eval o).run P W = .ok (.value v) W) (hF : F i v) : o.wp P a W (PostI o i d F ms H L a) Q := by
 unfold Oper.wp
 rw [h]
 exact ⟨v, rfl, (fun e => by rw [ho] at e; cases e), hF, by rw [updB_map hi, updV_map hi]; exact hf.glob⟩
/-- an operation that yields a value and turns the world -/
theorem freeI_val {P : Program} {o : Oper} {a : Act} {W W' : World} {k i : Nat} {d : Nat → Nat} {F : Nat → Value → Prop} {ms : List Nat} {H : List Bool → List Value → World → Prop} {L : Nat → Bool} {Q : Exit → Act → World → Prop} {v : Value} (ho : o.dst = some k)
  (h : (execOp a.eval o).run P W = .ok (.value v) W') (hF : F i v) (hH : H (ms.map (updB L i)) (ms.map (updV (fun i => sl a (d i)) i v)) W') : o.wp P a W (PostI o i d F ms H L a) Q := by
 unfold Oper.wp
 rw [h]
 exact ⟨v, rfl, (fun e => by rw [ho] at e; cases e), hF, hH⟩
/-- a store -/
theorem freeI_store {P : Program} {o : Oper} {a : Act} {W W' : World} {i : Nat} {d : Nat → Nat} {F : Nat → Value → Prop} {ms : List Nat} {H : List Bool → List Value → World → Prop} {L : Nat → Bool} {Q : Exit → Act → World → Prop} (ho : o.dst = none)
  (h : (execOp a.eval o).run P W = .ok .skip W') (hF : F i undef) (hH : H (ms.map (updB L i)) (ms.map (updV (fun i => sl a (d i)) i undef)) W') : o.wp P a W (PostI o i d F ms H L a) Q := by
 unfold Oper.wp
 rw [h]
 exact ⟨undef, by rw [ho], fun _ => rfl, hF, hH⟩
/-- a call -/
theorem freeI_call {P : Program} {o : Oper} {a : Act} {W : World} {k i : Nat} {d : Nat → Nat} {F : Nat → Value → Prop} {ms : List Nat} {H : List Bool → List Value → World → Prop} {L : Nat → Bool} {Q : Exit → Act → World → Prop} {f : FuncId} {args : Array Value} (ho : o.dst = some k)
  (h : (execOp a.eval o).run P W = .ok (.enter f args) W) (hc : Calls P f args W fun e w' => ∃ v, e = .returned v ∧ F i v ∧ H (ms.map (updB L i)) (ms.map (updV (fun i => sl a (d i)) i v)) w') : o.wp P a W (PostI o i d F ms H L a) Q := by
 unfold Oper.wp
 rw [h]
 refine hc.mono ?_
 rintro e w' ⟨v, rfl, hF, hH⟩
 exact ⟨v, rfl, (fun e => by rw [ho] at e; cases e), hF, hH⟩
theorem vs_litI {ds : List Nat} {Fs : List (Value → Prop)} (vs : List Value) (hl : vs.length = ds.length) (hF : ∀ (i : Nat) (hi : i < vs.length), (Fs.getD i fun _ => True) vs[i]) :
  ∃ g : Nat → Value, vs = (List.range ds.length).map g ∧ ∀ i, i < ds.length → (Fs.getD i fun _ => True) (g i) := by
 refine ⟨fun i => vs.getD i undef, ?_, fun i hi => ?_⟩
 ·apply List.ext_getElem (by simpa using hl)
  intro i h1 h2
  simp [h1]
 ·have := hF i (by omega)
  simp only [List.getD_eq_getElem?_getD, List.getElem?_eq_getElem (show i < vs.length by omega), Option.getD_some]
  simpa using this
end Go.Proofs.Ythdjhbiigmcecaa

/- chain.clone: a header in new memory. -/
namespace Go.Proofs.Ythdjhbiigmcecaa
open Go.RowKit

theorem OwnC.setc {w : World} {B k n cap g : Nat} {xs : List Value} (h : OwnC w B k (.slice (some ⟨g, 0, none⟩) n cap) n xs) (j : Nat) (hj : j < n * k) (v : Value) :
  (w.cell? ⟨g, j, none⟩).isSome = true ∧ w.frozen? ⟨g, j, none⟩ = false ∧ OwnC (w.setCell ⟨g, j, none⟩ v) B k (.slice (some ⟨g, 0, none⟩) n cap) n (xs.set j v) := by
 rcases h.2 with ⟨hv, _⟩ | ⟨g', cap', hv, h1, hlt, hn, hm, hc, hf, hx⟩
 ·cases hv
 ·injection hv with a b c
  injection a with a
  injection a with a
  subst a c
  have hjc : j < cap * k := Nat.lt_of_lt_of_le hj (Nat.mul_le_mul_right k hn)
  have hs := hc j hjc
  refine ⟨hs, hf j hjc, by rw [List.length_set]; exact h.1, .inr ⟨g, cap, rfl, h1, by simpa [World.setCell] using hlt, hn, hm, fun q hq => ?_, fun q hq => ?_, fun q u hu => ?_⟩⟩
  ·by_cases hqj : q = j
   ·subst hqj
    rw [cell_set_same hs]
    rfl
   ·rw [World.cell?_setCell_other _ _ _ _ (fun e => hqj (by injection e with _ e; exact e.symm))]
    exact hc q hq
  ·rw [World.frozen?_setCell]
   exact hf q hq
  ·rw [List.getElem?_set] at hu
   by_cases hqj : j = q
   ·subst hqj
    have hjx : j < xs.length := by rw [h.1]; exact hj
    rw [if_pos rfl, if_pos hjx] at hu
    injection hu with hu
    subst hu
    exact cell_set_same hs
   ·rw [if_neg hqj] at hu
    rw [World.cell?_setCell_other _ _ _ _ (fun e => hqj (by injection e))]
    exact hx q u hu
theorem flatC_set {α : Type} (A : α → Array Value) {k : Nat} (hk : ∀ x, (A x).size = k) {r : Nat} (hr : r < k) {y : α} {v : Value} : ∀ (xs : List α) (i : Nat) (x : α), xs[i]? = some x → A y = (A x).setIfInBounds r v → flatC A (xs.set i y) = (flatC A xs).set (i * k + r) v
 | [], _, _, h, _ => by simp at h
 | x0 :: xs, 0, x, h, e => by
  simp at h
  subst h
  rw [List.set_cons_zero, flatC_cons, flatC_cons, e, Nat.zero_mul, Nat.zero_add, List.set_append_left _ _ (by rw [Array.length_toList, hk]; exact hr)]
  simp
 | x0 :: xs, i + 1, x, h, e => by
  have ih := flatC_set A hk hr xs i x (by simpa using h) e
  rw [List.set_cons_succ, flatC_cons, flatC_cons, ih, List.set_append_right _ _ (by rw [Array.length_toList, hk, Nat.add_mul]; omega), Array.length_toList, hk]
  congr 2
  rw [Nat.add_mul]
  omega
/-- a region that calls and stores what comes of it into a cell -/
def CallSet (W0 : World) (a : Addr) (P : Sl → World → Prop) (L : List Bool) (V : List Value) (w : World) : Prop :=
 if L.getD 1 false then ∃ (s' : Sl) (w1 : World), V.getD 0 undef = s'.v ∧ P s' w1 ∧ Below W0.heap.size W0 w1 ∧ w = w1.setCell a s'.v
 else Below W0.heap.size W0 w ∧ (L.getD 0 false = true → ∃ s' : Sl, V.getD 0 undef = s'.v ∧ P s' w)
theorem callSet_no {W0 w : World} {a : Addr} {P : Sl → World → Prop} {l0 l1 : Bool} {V : List Value} (hl : l1 = false) (h : CallSet W0 a P [l0, l1] V w) : Below W0.heap.size W0 w := by
 subst hl
 exact h.1
theorem rows_split {Γ α : Type} {A : Γ → Array Value} {k : Nat} {R : Γ → α → Prop} {w : World} {s : Sl} {l : List α} (h : SlR k (fun cs x => ∃ g, cs = A g ∧ R g x) w s l) :
  ∃ gs : List Γ, gs.length = l.length ∧ SlR k (fun cs g => cs = A g) w s gs ∧ ∀ (i : Nat) (g : Γ) (x : α), gs[i]? = some g → l[i]? = some x → R g x := by
 obtain ⟨hn, hc, hr⟩ := h
 by_cases hl : l = []
 ·subst hl
  exact ⟨[], rfl, ⟨hn, hc, fun e => absurd rfl e⟩, fun i g x hg => by simp at hg⟩
 ·obtain ⟨b, off, ha, hrow⟩ := hr hl
  have hx : ∀ i : Fin l.length, ∃ g, row? w b (off + i.1 * k) k = some (A g) ∧ R g l[i.1] := fun i => by
   obtain ⟨cs, h1, g, rfl, h2⟩ := hrow i.1 i.2
   exact ⟨g, h1, h2⟩
  refine ⟨List.ofFn fun i => Classical.choose (hx i), by simp, ⟨by simpa using hn, hc, fun _ => ⟨b, off, ha, fun i hi => ?_⟩⟩, fun i g x hg hxl => ?_⟩
  ·have hi' : i < l.length := by simpa using hi
   refine ⟨_, ?_, rfl⟩
   rw [List.getElem_ofFn]
   exact (Classical.choose_spec (hx ⟨i, hi'⟩)).1
  ·have hi := (List.getElem?_eq_some_iff.1 hxl).1
   rw [List.getElem?_ofFn, dif_pos hi] at hg
   injection hg with hg
   subst hg
   have := (Classical.choose_spec (hx ⟨i, hi⟩)).2
   rw [← (List.getElem?_eq_some_iff.1 hxl).2]
   exact this
/-- what clone goes through is small -/
def ClnFits (h : Hdr) : Prop := h.ops.length ≤ 1000 ∧ ∀ o ∈ h.ops, o.evidence.length ≤ 1000 ∧ ∀ v ∈ o.evidence, v.sig.length ≤ 1000000
theorem clnFits_may {h : Hdr} (hm : hdrMay h = true) : ClnFits h := by
 unfold hdrMay at hm
 simp only [Bool.and_eq_true, decide_eq_true_eq, List.all_eq_true] at hm
 obtain ⟨⟨h1, h2⟩, h3⟩ := hm
 refine ⟨by omega, fun o ho => ?_⟩
 have h4 := h3 o ho
 unfold opMay at h4
 rw [Bool.and_eq_true, decide_eq_true_eq] at h4
 obtain ⟨h5, h6⟩ := h4
 by_cases k3 : o.kind = 3
 ·rw [if_neg (by omega), if_neg (by omega), if_pos k3] at h6
  simp only [Bool.and_eq_true, decide_eq_true_eq, List.all_eq_true] at h6
  refine ⟨by omega, fun v hv => ?_⟩
  have := h6.2 v hv
  unfold voteMay at this
  simp only [Bool.and_eq_true, decide_eq_true_eq] at this
  omega
 ·have he : o.evidence = [] := by
   rw [h5]
   unfold bareO
   rw [if_neg k3]
   split
   ·rfl
   ·split <;> rfl
  rw [he]
  exact ⟨by simp, fun v hv => by cases hv⟩
abbrev HdrAt (B : Nat) (W : World) (g : GHeader) (h : Hdr) : Prop := Safe (fun k => k < B) W fun W => HdrR W g h
theorem opA_ev (o : GOp) (e : Sl) : opA { o with evidence := e } = (opA o).setIfInBounds 35 e.v := by
 apply Array.ext'
 simp [opA, hashA, o.key.2, List.set_append]
theorem voteA_sg (v : GVote) (e : Sl) : voteA { v with sig := e } = (voteA v).setIfInBounds 67 e.v := by
 apply Array.ext'
 simp [voteA, pointA, hashA, v.source.name.2, v.target.name.2, List.set_append]
end Go.Proofs.Ythdjhbiigmcecaa

/- chain.clone: the walk. -/
namespace Go.Proofs.Ythdjhbiigmcecaa
open Go.RowKit

theorem clone_res : Try.f103.results = #[.cell 2 49] := by kernel_rfl
theorem info_clo : (Try.prog.info? 97).map (fun i => (i.zero, i.size, i.bytes)) = some (some (.agg (opA ⟨0, zeroHash, 0, 0, ⟨none, 0, 0⟩⟩)), 36, 80) := by kernel_rfl
theorem info_clv : (Try.prog.info? 99).map (fun i => (i.zero, i.size, i.bytes)) = some (some (.agg (voteA ⟨0, zeroPt, zeroPt, ⟨none, 0, 0⟩⟩)), 68, 112) := by kernel_rfl
theorem clopA_one (g : GOp) : ∀ u ∈ (opA g).toList, u.oneCell' = true := by
 intro u hu
 simp only [opA, hashA, Array.toList_append, List.mem_append, List.mem_map] at hu
 rcases hu with (hu | ⟨y, _, rfl⟩) | hu
 ·simp at hu; subst hu; rfl
 ·rfl
 ·simp at hu; rcases hu with rfl | rfl | rfl <;> rfl
theorem clvoteA_one (g : GVote) : ∀ u ∈ (voteA g).toList, u.oneCell' = true := by
 intro u hu
 simp only [voteA, pointA, hashA, Array.toList_append, List.mem_append, List.mem_map] at hu
 rcases hu with ((hu | (hu | ⟨y, _, rfl⟩)) | (hu | ⟨y, _, rfl⟩)) | hu
 all_goals first | rfl | (simp at hu; subst hu; rfl)
def byA (b : UInt8) : Array Value := #[byteV b]
theorem byA_one (b : UInt8) : ∀ u ∈ (byA b).toList, u.oneCell' = true := by simp [byA, byteV, Value.oneCell']
theorem bytes_rows {w : World} {s : Sl} {l : List UInt8} (h : BytesR w s l) : SlR 1 (fun cs b => cs = byA b) w s l := by
 refine ⟨h.1, h.2.1, fun hl => ?_⟩
 obtain ⟨b, off, ha, hc⟩ := h.2.2 hl
 refine ⟨b, off, ha, fun i hi => ⟨_, ?_, rfl⟩⟩
 have h1 := hc i hi
 have hlt := lt_of_cell h1
 unfold World.cell? at h1
 unfold row?
 cases hg : w.heap[b]? with
 | none => rw [hg] at h1; simp at h1
 | some o =>
  cases o with
  | cells cs t fr =>
   have h2 : cs[off + i]? = some (byteV l[i]) := by
    have := cell_of_row w b (off + i) cs t fr hg
    rw [← this]
    exact hc i hi
   have h3 := (Array.getElem?_eq_some_iff.1 h2)
   obtain ⟨h4, h5⟩ := h3
   simp only [Nat.mul_one]
   rw [if_pos (by omega)]
   congr 1
   apply Array.ext
   ·simp [byA]; omega
   ·intro j hj1 hj2
    have hj0 : j = 0 := by simp [byA] at hj2; omega
    subst hj0
    simp only [Array.getElem_extract, Nat.add_zero, byA]
    exact h5
  | _ => rw [hg] at h1; simp at h1
theorem rows_bytes {w : World} {s : Sl} {l : List UInt8} (h : SlR 1 (fun cs b => cs = byA b) w s l) : BytesR w s l := by
 refine ⟨h.1, h.2.1, fun hl => ?_⟩
 obtain ⟨b, off, ha, hc⟩ := h.2.2 hl
 refine ⟨b, off, ha, fun i hi => ?_⟩
 obtain ⟨cs, h1, rfl⟩ := hc i hi
 have := cell_of_row? h1 0 (by omega)
 rw [Nat.mul_one, Nat.add_zero] at this
 rw [this]
 rfl
theorem rows_join {Γ α : Type} {A : Γ → Array Value} {k : Nat} {R : Γ → α → Prop} {w : World} {s : Sl} {gs : List Γ} {l : List α} (h : SlR k (fun cs g => cs = A g) w s gs) (hl : gs.length = l.length) (hr : ∀ (i : Nat) (g : Γ) (x : α), gs[i]? = some g → l[i]? = some x → R g x) :
  SlR k (fun cs x => ∃ g, cs = A g ∧ R g x) w s l := by
 refine ⟨h.1.trans hl, h.2.1, fun hne => ?_⟩
 obtain ⟨b, off, ha, hc⟩ := h.2.2 (fun e => hne (by subst e; exact List.eq_nil_of_length_eq_zero (by simpa using hl.symm)))
 refine ⟨b, off, ha, fun i hi => ?_⟩
 obtain ⟨cs, h1, rfl⟩ := hc i (by omega)
 exact ⟨_, h1, _, rfl, hr i _ _ (List.getElem?_eq_getElem (by omega)) (List.getElem?_eq_getElem hi)⟩
/-- slices that a clone made: each at the head of a block that is not old, all of its cells can be written -/
def SigT (B : Nat) (W : World) (s : Sl) : Prop := s.n = 0 ∨ ∃ q, s.a = some ⟨q, 0, none⟩ ∧ B ≤ q ∧ ∀ j, j < s.n → (∃ u : UInt8, W.cell? ⟨q, j, none⟩ = some (byteV u)) ∧ W.frozen? ⟨q, j, none⟩ = false
def EvT (B : Nat) (W : World) (s : Sl) : Prop := s.n = 0 ∨ ∃ e, s.a = some ⟨e, 0, none⟩ ∧ (B ≤ e ∧ s.n ≤ 9223372036854775807) ∧ ∀ j, j < s.n → there W e (j * 68) 68 ∧ (∃ v : Int, W.cell? ⟨e, j * 68, none⟩ = some (.int .i64 v)) ∧ ∃ t : Sl, W.cell? ⟨e, j * 68 + 67, none⟩ = some t.v ∧ SigT B W t
def OpsT (B : Nat) (W : World) (s : Sl) : Prop := s.n = 0 ∨ ∃ b, s.a = some ⟨b, 0, none⟩ ∧ (B ≤ b ∧ s.n ≤ 9223372036854775807) ∧ ∀ j, j < s.n → there W b (j * 36) 36 ∧ (∃ v : UInt64, W.cell? ⟨b, j * 36 + 33, none⟩ = some (.int .u64 (v.toNat : Int))) ∧ ∃ t : Sl, W.cell? ⟨b, j * 36 + 35, none⟩ = some t.v ∧ EvT B W t
theorem SigT.more {B B' : Nat} {W : World} {s : Sl} (h : SigT B W s) (hb : B' ≤ B) : SigT B' W s := h.imp_right fun ⟨q, h1, h2, h3⟩ => ⟨q, h1, Nat.le_trans hb h2, h3⟩
theorem EvT.more {B B' : Nat} {W : World} {s : Sl} (h : EvT B W s) (hb : B' ≤ B) : EvT B' W s := h.imp_right fun ⟨q, h1, h2, h3⟩ => ⟨q, h1, ⟨Nat.le_trans hb h2.1, h2.2⟩, fun j hj => by obtain ⟨r1, r2, t, r3, r4⟩ := h3 j hj; exact ⟨r1, r2, t, r3, r4.more hb⟩⟩
theorem OpsT.more {B B' : Nat} {W : World} {s : Sl} (h : OpsT B W s) (hb : B' ≤ B) : OpsT B' W s := h.imp_right fun ⟨q, h1, h2, h3⟩ => ⟨q, h1, ⟨Nat.le_trans hb h2.1, h2.2⟩, fun j hj => by obtain ⟨r1, r2, t, r3, r4⟩ := h3 j hj; exact ⟨r1, r2, t, r3, r4.more hb⟩⟩
theorem own_there {W : World} {B k n : Nat} {s : Sl} {xs : List Value} (h : OwnC W B k s.v n xs) : s.n = n ∧ (n = 0 ∨ ∃ q, s.a = some ⟨q, 0, none⟩ ∧ (B ≤ q ∧ n ≤ 9223372036854775807) ∧ ∀ j, j < n → there W q (j * k) k) := by
 obtain ⟨sa, sn, sc⟩ := s
 rcases h.2 with ⟨e, hn⟩ | ⟨q, cap, e, h1, -, h3, hmx, h5, h6, -⟩
 ·injection e with e1 e2 e3
  exact ⟨e2.trans hn.symm, .inl hn⟩
 ·injection e with e1 e2 e3
  refine ⟨e2, .inr ⟨q, e1, ⟨h1, by simp only [maxLen] at hmx; omega⟩, fun j hj i hi => ?_⟩⟩
  have hm : (j + 1) * k ≤ cap * k := Nat.mul_le_mul_right k (by omega)
  rw [Nat.succ_mul] at hm
  exact ⟨h5 _ (by omega), h6 _ (by omega)⟩
theorem sigT_own {W : World} {B : Nat} {s : Sl} {l : List UInt8} (h : OwnC W B 1 s.v l.length (flatC byA l)) : SigT B W s := by
 obtain ⟨hn, h0 | ⟨q, h1, h2, h3⟩⟩ := own_there h
 ·exact .inl (hn.trans h0)
 ·refine .inr ⟨q, h1, h2.1, fun j hj => ?_⟩
  obtain ⟨-, -, hr⟩ := rows_bytes (rows_of_own byA (k := 1) (fun _ => rfl) (by omega) h)
  have hjl : j < l.length := by rw [hn] at hj; exact hj
  obtain ⟨b, off, ha, hc⟩ := hr (by intro e; rw [e] at hjl; exact absurd hjl (Nat.not_lt_zero _))
  rw [h1] at ha
  injection ha with ha
  injection ha with ha1 ha2
  subst ha1 ha2
  have h4 := hc j hjl
  rw [Nat.zero_add] at h4
  have h5 := (h3 j hjl 0 (by omega)).2
  rw [Nat.mul_one, Nat.add_zero] at h5
  exact ⟨⟨_, h4⟩, h5⟩
theorem evT_own {W : World} {B : Nat} {s : Sl} {vs : List GVote} (h : OwnC W B 68 s.v vs.length (flatC voteA vs)) (hs : ∀ (j : Nat) (v : GVote), vs[j]? = some v → SigT B W v.sig) : EvT B W s := by
 obtain ⟨hn, h0 | ⟨q, h1, h2, h3⟩⟩ := own_there h
 ·exact .inl (hn.trans h0)
 ·refine .inr ⟨q, h1, ⟨h2.1, by rw [hn]; exact h2.2⟩, fun j hj => ?_⟩
  have hjl : j < vs.length := by rw [hn] at hj; exact hj
  obtain ⟨sa, sn, sc⟩ := s
  simp only at h1 hn
  subst h1 hn
  have hr := own_row voteA voteA_size (by omega) h j hjl
  have c0 := cell_of_row? hr 0 (by omega)
  have c1 := cell_of_row? hr 67 (by omega)
  rw [voteA_validator, Nat.add_zero] at c0
  rw [voteA_sig] at c1
  exact ⟨h3 j hjl, ⟨_, c0⟩, _, c1, hs j _ (List.getElem?_eq_getElem hjl)⟩
theorem opsT_own {W : World} {B : Nat} {s : Sl} {gs : List GOp} (h : OwnC W B 36 s.v gs.length (flatC opA gs)) (hs : ∀ (j : Nat) (x : GOp), gs[j]? = some x → EvT B W x.evidence) : OpsT B W s := by
 obtain ⟨hn, h0 | ⟨q, h1, h2, h3⟩⟩ := own_there h
 ·exact .inl (hn.trans h0)
 ·refine .inr ⟨q, h1, ⟨h2.1, by rw [hn]; exact h2.2⟩, fun j hj => ?_⟩
  have hjl : j < gs.length := by rw [hn] at hj; exact hj
  obtain ⟨sa, sn, sc⟩ := s
  simp only at h1 hn
  subst h1 hn
  have hr := own_row opA opA_size (by omega) h j hjl
  have c0 := cell_of_row? hr 33 (by omega)
  have c1 := cell_of_row? hr 35 (by omega)
  rw [opA_stake] at c0
  rw [opA_evidence] at c1
  exact ⟨h3 j hjl, ⟨_, c0⟩, _, c1, hs j _ (List.getElem?_eq_getElem hjl)⟩
/-- memory from block B on is changed to its like -/
def Kd (v v' : Value) : Prop := v' = v ∨ (∃ a b : UInt8, v = byteV a ∧ v' = byteV b) ∨ (∃ a b : UInt64, v = .int .u64 (a.toNat : Int) ∧ v' = .int .u64 (b.toNat : Int)) ∨ ∃ a b : Int, v = .int .i64 a ∧ v' = .int .i64 b
def KdW (B : Nat) (W W' : World) : Prop := ∀ q j, B ≤ q → (∀ v, W.cell? ⟨q, j, none⟩ = some v → ∃ v', W'.cell? ⟨q, j, none⟩ = some v' ∧ Kd v v') ∧ ((W.cell? ⟨q, j, none⟩).isSome = true → W'.frozen? ⟨q, j, none⟩ = W.frozen? ⟨q, j, none⟩)
theorem KdW.there {B : Nat} {W W' : World} (h : KdW B W W') {b o n : Nat} (hb : B ≤ b) (ht : Proofs.Ythdjhbiigmcecaa.there W b o n) : Proofs.Ythdjhbiigmcecaa.there W' b o n := fun j hj => by
 obtain ⟨h1, h2⟩ := ht j hj
 obtain ⟨k1, k2⟩ := h b (o + j) hb
 obtain ⟨v, hv⟩ := Option.isSome_iff_exists.1 h1
 obtain ⟨v', hv', -⟩ := k1 v hv
 exact ⟨by rw [hv']; rfl, (k2 h1).trans h2⟩
theorem KdW.slice {B : Nat} {W W' : World} (h : KdW B W W') {b o : Nat} (hb : B ≤ b) {s : Sl} (hs : W.cell? ⟨b, o, none⟩ = some s.v) : W'.cell? ⟨b, o, none⟩ = some s.v := by
 obtain ⟨v', h1, h2⟩ := (h b o hb).1 _ hs
 rcases h2 with rfl | ⟨a, c, e, -⟩ | ⟨a, c, e, -⟩ | ⟨a, c, e, -⟩
 ·exact h1
 ·unfold byteV Sl.v at e; cases e
 ·unfold Sl.v at e; cases e
 ·unfold Sl.v at e; cases e
theorem SigT.kd {B : Nat} {W W' : World} {s : Sl} (h : SigT B W s) (hk : KdW B W W') : SigT B W' s := h.imp_right fun ⟨q, h1, h2, h3⟩ => ⟨q, h1, h2, fun j hj => by
 obtain ⟨⟨u, hu⟩, hf⟩ := h3 j hj
 obtain ⟨k1, k2⟩ := hk q j h2
 obtain ⟨v', h4, h5⟩ := k1 _ hu
 refine ⟨?_, (k2 (by rw [hu]; rfl)).trans hf⟩
 rcases h5 with rfl | ⟨a, c, -, rfl⟩ | ⟨a, c, e, -⟩ | ⟨a, c, e, -⟩
 ·exact ⟨u, h4⟩
 ·exact ⟨c, h4⟩
 ·unfold byteV at e; cases e
 ·unfold byteV at e; cases e⟩
theorem EvT.kd {B : Nat} {W W' : World} {s : Sl} (h : EvT B W s) (hk : KdW B W W') : EvT B W' s := h.imp_right fun ⟨q, h1, h2, h3⟩ => ⟨q, h1, h2, fun j hj => by
 obtain ⟨r1, ⟨x, r2⟩, t, r3, r4⟩ := h3 j hj
 refine ⟨hk.there h2.1 r1, ?_, t, hk.slice h2.1 r3, r4.kd hk⟩
 obtain ⟨v', h4, h5⟩ := (hk q _ h2.1).1 _ r2
 rcases h5 with rfl | ⟨a, c, e, -⟩ | ⟨a, c, e, -⟩ | ⟨a, c, -, rfl⟩
 ·exact ⟨x, h4⟩
 ·unfold byteV at e; cases e
 ·cases e
 ·exact ⟨c, h4⟩⟩
theorem OpsT.kd {B : Nat} {W W' : World} {s : Sl} (h : OpsT B W s) (hk : KdW B W W') : OpsT B W' s := h.imp_right fun ⟨q, h1, h2, h3⟩ => ⟨q, h1, h2, fun j hj => by
 obtain ⟨r1, ⟨x, r2⟩, t, r3, r4⟩ := h3 j hj
 refine ⟨hk.there h2.1 r1, ?_, t, hk.slice h2.1 r3, r4.kd hk⟩
 obtain ⟨v', h4, h5⟩ := (hk q _ h2.1).1 _ r2
 rcases h5 with rfl | ⟨a, c, e, -⟩ | ⟨a, c, -, rfl⟩ | ⟨a, c, e, -⟩
 ·exact ⟨x, h4⟩
 ·unfold byteV at e; cases e
 ·exact ⟨c, h4⟩
 ·cases e⟩
theorem kd_off {B : Nat} {W W' : World} (h : Asd (fun k => k < B) W W') : KdW B W W' := fun q j hq => by
 refine ⟨fun v hv => ⟨v, h.cell (show ¬ q < B by omega) hv, .inl rfl⟩, fun hs => ?_⟩
 obtain ⟨v, hv⟩ := Option.isSome_iff_exists.1 hs
 exact World.frozen?_of_block (a := ⟨q, j, none⟩) (h.block q (lt_of_cell hv) (by omega))
/-- the operations while they are cloned: i are done -/
structure ClI (w W : World) (g : GHeader) (s : Sl) (gs0 gs : List GOp) (ops : List Op) (i : Nat) : Prop where
 row1 : row? W w.heap.size 0 34 = some (headerA ⟨g.parent, g.epoch, s⟩)
 row2 : row? W (w.heap.size + 1) 0 34 = some (headerA ⟨zeroHash, 0, ⟨none, 0, 0⟩⟩)
 thr2 : there W (w.heap.size + 1) 0 34
 own : OwnC W (w.heap.size + 2) 36 s.v gs.length (flatC opA gs)
 glen : gs.length = ops.length
 done : ∀ (j : Nat) (x : GOp) (o : Op), j < i → gs[j]? = some x → ops[j]? = some o → Safe (fun k => k < w.heap.size + 2 ∨ s.v.ownBlock = some k) W fun W' => OpR W' x o ∧ EvT w.heap.size W' x.evidence
 rest : ∀ j, i ≤ j → gs[j]? = gs0[j]?
 bel : Below w.heap.size w W
/-- the votes of one of them while they are cloned: k are done -/
structure ClV (W5 W : World) (E : Nat) (s : Sl) (vs0 vs : List GVote) (ev : List Vote) (k : Nat) : Prop where
 own : OwnC W E 68 s.v vs.length (flatC voteA vs)
 vlen : vs.length = ev.length
 done : ∀ (j : Nat) (x : GVote) (v : Vote), j < k → vs[j]? = some x → ev[j]? = some v → Safe (fun q => q < E ∨ s.v.ownBlock = some q) W fun W' => VoteR W' x v ∧ SigT E W' x.sig
 rest : ∀ j, k ≤ j → vs[j]? = vs0[j]?
 bel : Below E W5 W
set_option maxRecDepth 100000 in
set_option maxHeartbeats 6400000 in
theorem hclone2_c {w : World} {g : GHeader} {h : Hdr} (hr : HdrR w g h) (hf : ClnFits h) :
  Calls Try.prog 103 #[.agg (headerA g)] w fun e w' => ∃ g', e = .returned (.agg (headerA g')) ∧ HdrAt w.heap.size w' g' h ∧ Below w.heap.size w w' ∧ OpsT w.heap.size w' g'.ops := by
 have hB0 : Below w.heap.size w ((w.alloc (.cells (headerA g) 49)).alloc (.cells (headerA ⟨zeroHash, 0, ⟨none, 0, 0⟩⟩) 49)) := by (repeat' (first | (with_reducible first | exact Below.refl _ _ | assumption | refine bel_trans (by assumption) ?_ ?_ | refine bel_grown (by assumption) ?_ ?_ ?_ | refine Below.alloc ?_ ?_ _ | refine Below.drew ?_ | refine below_drewN ?_ _ | refine Below.setCell ?_ ?_ _ | refine below_put ?_ ?_ _ _ | exact Nat.le_refl _) | omega | (with_reducible first | refine Nat.le_trans ?_ (Below.size (by assumption)) | refine Nat.le_trans ?_ (World.grownBy.size (by assumption))) | (simp only [World.size_alloc, World.size_setCell, World.size_drew, size_drewN]; omega) | (simp only [World.size_alloc, World.size_setCell, World.size_drew, size_drewN, size_put]; omega) | (intro k hk; simp [Value.ownBlock] at hk; first | done | omega) | (simp [size_drewN] at *; omega)))
 have hz0 : ((w.alloc (.cells (headerA g) 49)).alloc (.cells (headerA ⟨zeroHash, 0, ⟨none, 0, 0⟩⟩) 49)).heap.size = w.heap.size + 2 := by simp
 have hrow1 : row? ((w.alloc (.cells (headerA g) 49)).alloc (.cells (headerA ⟨zeroHash, 0, ⟨none, 0, 0⟩⟩) 49)) w.heap.size 0 34 = some (headerA g) := by rw [row?_old _ _ _ _ _ (by simp), row?_new]; simp
 have hth1 : there ((w.alloc (.cells (headerA g) 49)).alloc (.cells (headerA ⟨zeroHash, 0, ⟨none, 0, 0⟩⟩) 49)) w.heap.size 0 34 := there_old _ _ _ _ _ (by simp) (there_new w _ 49 0 34 (by simp))
 have hrow2 : row? ((w.alloc (.cells (headerA g) 49)).alloc (.cells (headerA ⟨zeroHash, 0, ⟨none, 0, 0⟩⟩) 49)) (w.heap.size + 1) 0 34 = some (headerA ⟨zeroHash, 0, ⟨none, 0, 0⟩⟩) := by rw [row?_new_at _ _ _ _ _ _ (by simp)]; simp
 have hth2 : there ((w.alloc (.cells (headerA g) 49)).alloc (.cells (headerA ⟨zeroHash, 0, ⟨none, 0, 0⟩⟩) 49)) (w.heap.size + 1) 0 34 := there_new_at _ _ _ _ _ _ (by simp) (by simp)
 obtain ⟨gs0, hgl, hrows, hgr⟩ := rows_split (A := opA) (R := OpR w) hr.2.2
 have g1 := hr.1
 have g2 := hr.2.1
 have hf1 := hf.1
 have hf2 := Lib.hid hf.2
 obtain ⟨i0, hi, hy0, hy1, hy2⟩ := info_parts info_clo
 have HO := clone_rows opA_size clopA_one clO i0 _ 80 hi hy0 hy1 hy2 (by simp [Value.cells]) (by omega) (by omega) (SlR.keep hrows hB0 fun _ _ h => h) (by omega)
 clear hi hy0 hy1 hy2
 replace hgr := Lib.hid hgr
 clear hr hf hrows
 obtain ⟨gp, ge, ⟨ga, gn, gc⟩⟩ := g
 simp only at g1 g2
 subst g1 g2
 have h33 := cell_of_row? hrow1 33 (by omega)
 simp only [headerA_ops, Nat.zero_add] at h33
 dsimp only [Sl.v] at h33 HO
 go_enter Try.func103, Try.ntmps103
 go_upto_region 1 with fail
 generalize (w.alloc (.cells (headerA ⟨h.parent, h.epoch, ⟨ga, gn, gc⟩⟩) 49)).alloc (.cells (headerA ⟨zeroHash, 0, ⟨none, 0, 0⟩⟩) 49) = w0 at *
 go_wp2_with fail
 refine HO.mono ?_
 clear HO
 rintro e w1 ⟨⟨sa, sn, sc⟩, rfl, ho1, hb1⟩
 have hz1 := hb1.size
 have hB1 := hB0.trans (hb1.mono (by omega))
 have hrow11 := (row?_below _ _ _ hb1 (by omega)).trans hrow1
 have hth11 := there_below hb1 (show w.heap.size < w0.heap.size by omega) hth1
 have hrow21 := (row?_below _ _ _ hb1 (by omega)).trans hrow2
 have hth21 := there_below hb1 (show w.heap.size + 1 < w0.heap.size by omega) hth2
 rw [hz0] at ho1
 have hn1 : sn = h.ops.length := by
  rcases ho1.2 with ⟨e, hn⟩ | ⟨_, _, e, _⟩
  ·injection e with e1 e2 e3
   simp only at e2
   omega
  ·injection e with e1 e2 e3
   exact e2.trans hgl
 subst hn1
 have hst := (hth11 33 (by omega))
 simp only [Nat.zero_add] at hst
 obtain ⟨-, hst2⟩ := hst
 have hst1 := (hb1.cell (p := ⟨w.heap.size, 33, none⟩) (show w.heap.size < w0.heap.size by omega)).trans h33
 have hset : ∃ W, W = w1.setCell ⟨w.heap.size, 33, none⟩ (.slice sa h.ops.length sc) ∧ ClI w W ⟨h.parent, h.epoch, ⟨ga, gn, gc⟩⟩ ⟨sa, h.ops.length, sc⟩ gs0 gs0 h.ops 0 := by
  refine ⟨_, rfl, ?_, ?_, there_set _ _ _ _ _ _ hth21, ?_, hgl, fun j _ _ hj => absurd hj (Nat.not_lt_zero _), fun _ _ => rfl, hB1.setCell (Nat.le_refl _) _⟩
  ·rw [row?_set_in _ _ _ _ _ (by omega) (by rw [hrow11]; rfl), hrow11, Option.map_some]
   refine congrArg some ?_
   simp only [splice, headerA]
   apply Array.ext'
   simp
  ·rw [row?_far _ _ _ _ _ _ (by simp)]
   exact hrow21
  ·exact OwnC.off ho1 (asd_set w1 ⟨w.heap.size, 33, none⟩ _) fun q hq e => by
    have := (OwnC.lt ho1 q hq).1
    have e' : q = w.heap.size := e
    omega
 obtain ⟨w2, hw2, hCI⟩ := hset
 replace hgl := Lib.hid hgl
 replace hCI := Lib.hid hCI
 clear hB0 hrow1 hth1 hrow2 hth2 hb1 hrow11 hth11 hrow21 hth21 ho1 hB1 hz0 hz1 h33
 go_upto_region 2 with fail
 rw [← hw2]
 clear hw2 hst1 hst2
 have h33 := cell_of_row? hCI.out.row1 33 (by omega)
 simp only [headerA_ops, Nat.zero_add] at h33
 dsimp only [Sl.v] at h33
 go_upto_region 3 with fail
 go_loopw [14] (fun t W' => ∃ (i : Nat) (gs : List GOp), i ≤ h.ops.length ∧ t = .int .i64 i ∧ Hid (ClI w W' ⟨h.parent, h.epoch, ⟨ga, gn, gc⟩⟩ ⟨sa, h.ops.length, sc⟩ gs0 gs h.ops i)) (fun t _ => h.ops.length - (intOf t).toNat)
 case atStart => exact ⟨0, gs0, Nat.zero_le _, rfl, hCI⟩
 case round =>
  clear hCI h33
  obtain ⟨i, gs, hi, rfl, hCI⟩ := hrel
  have hgl2 := Lib.hid hCI.out.glen
  by_cases hix : i < h.ops.length
  ·have hks := Lib.hid (show i + 1 ≤ h.ops.length from hix)
   have hgi : i < gs.length := by rw [hgl2.out]; exact hix
   obtain ⟨gO, rfl⟩ : ∃ gO, sa = some ⟨gO, 0, none⟩ := by
    rcases hCI.out.own.2 with ⟨e, hn⟩ | ⟨gO, _, e, _⟩
    ·omega
    ·injection e with e1 e2 e3
     exact ⟨gO, e1⟩
   have hown := hCI.out.own
   rw [hgl2.out] at hown
   obtain ⟨x, hx⟩ : ∃ x, gs[i]? = some x := ⟨_, List.getElem?_eq_getElem hgi⟩
   obtain ⟨o, ho⟩ : ∃ o, h.ops[i]? = some o := ⟨_, List.getElem?_eq_getElem hix⟩
   have hrx : row? wr gO (i * 36) 36 = some (opA x) := by
    have := own_row opA opA_size (by omega) (show OwnC wr (w.heap.size + 2) 36 (.slice (some ⟨gO, 0, none⟩) h.ops.length sc) gs.length (flatC opA gs) from hCI.out.own) i hgi
    rw [(List.getElem?_eq_some_iff.1 hx).2] at this
    exact this
   have hx0 : gs0[i]? = some x := (hCI.out.rest i (Nat.le_refl _)).symm.trans hx
   have hxo := hgr.out i x o hx0 ho
   obtain ⟨of1, of2⟩ := hf2.out o (List.mem_of_getElem? ho)
   obtain ⟨vs0, hvl, hvrows, hvr⟩ := rows_split (A := voteA) (R := VoteR w) hxo.2.2.2.2
   have h33r := cell_of_row? hCI.out.row1 33 (by omega)
   simp only [headerA_ops, Nat.zero_add] at h33r
   dsimp only [Sl.v] at h33r
   have hOl := (OwnC.lt hown gO (by simp [Value.ownBlock]))
   have hwl := hCI.out.bel.size
   have i1 : (i : Int) < (h.ops.length : Int) := by omega
   have i2 : (0 : Int) ≤ (i : Int) := by omega
   go_upto_region 5 with fail
   obtain ⟨wo, hwo, hrow4, -, hb4, hz4⟩ := box_row wr (opA ⟨0, zeroHash, 0, 0, ⟨none, 0, 0⟩⟩) (opA x) 97 36 (by omega) (by simp) (by simp)
   rw [← hwo]
   clear hwo
   obtain ⟨b4, hb4e⟩ : ∃ b, b = wr.heap.size := ⟨_, rfl⟩
   rw [← hb4e] at hrow4 ⊢
   have hb4o : b4 < wo.heap.size := by omega
   have hb1o : w.heap.size < wo.heap.size := by omega
   have h33 := (hb4.cell (p := ⟨w.heap.size, 33, none⟩) (show w.heap.size < wr.heap.size by omega)).trans h33r
   have h435 := cell_of_row? hrow4 35 (by omega)
   rw [opA_evidence, Nat.zero_add] at h435
   have howno := hown.keep hb4
   have hBo := hCI.out.bel.trans (hb4.mono hwl)
   obtain ⟨iv, hiv, hy0, hy1, hy2⟩ := info_parts info_clv
   have HV := fun W (hb : Below wo.heap.size wo W) => clone_rows voteA_size clvoteA_one clV iv _ 112 hiv hy0 hy1 hy2 (by simp [Value.cells]) (by omega) (by omega) (SlR.keep hvrows (hBo.trans (hb.mono (by omega))) fun _ _ h => h) (show vs0.length ≤ 1000000 by omega)
   have hfzO := fun W (hb : Below wo.heap.size wo W) => (show (W.cell? ⟨gO, i * 36 + 35, none⟩).isSome = true ∧ W.frozen? ⟨gO, i * 36 + 35, none⟩ = false from by
    have := OwnC.setc (n := h.ops.length) (howno.keep hb) (i * 36 + 35) (by omega) undef
    exact ⟨this.1, this.2.1⟩)
   obtain ⟨xk, xy, xst, xval, ⟨ea, en, ec⟩⟩ := x
   dsimp only [Sl.v] at h435 HV
   replace hb4e := Lib.hid hb4e
   replace hz4 := Lib.hid hz4
   refine wp_region_freeI_l (by kernel_rfl) [19, 20, 21, 22, 23, 24, 25, 26, 62]
    [(fun v => v = .pointer (some ⟨w.heap.size, 33, none⟩)), (fun v => v = .slice (some ⟨gO, 0, none⟩) h.ops.length sc), (fun v => v = .int .i64 (i : Int)), (fun v => v = .pointer (some ⟨b4, 35, none⟩)), (fun v => v = .slice ea en ec), (fun v => ∃ s : Sl, v = s.v), (fun v => v = .pointer (some ⟨gO, i * 36, none⟩)), (fun v => v = .pointer (some ⟨gO, i * 36 + 35, none⟩)), (fun _ => True)]
    [5, 8] (CallSet wo ⟨gO, i * 36 + 35, none⟩ (fun s w => OwnC w wo.heap.size 68 s.v vs0.length (flatC voteA vs0))) [[1, 6, 7, 8], [6, 7, 8], [6, 7, 8], [4, 5, 8], [5, 8], [8], [7, 8], [8], []] (by kernel_rfl) (by kernel_rfl) ?_ ?_ ?_
   ·show CallSet wo ⟨gO, i * 36 + 35, none⟩ (fun s w => OwnC w wo.heap.size 68 s.v vs0.length (flatC voteA vs0)) [false, false] [_, _] _
    exact ⟨(Below.refl _ _).drew, fun h => by cases h⟩
   ·refine ⟨?_, ?_, ?_, ?_, ?_, ?_, ?_, ?_, ?_, trivial⟩
    ·intro L ax W hf hLi hno hd
     try simp [Region.binds] at hd
     have e1 : ax.tmps[1]?.getD undef = .pointer (some ⟨w.heap.size, 0, none⟩) := hf.out 1 (by decide) rfl
     refine ⟨fun _ => ?_, fun h => absurd trivial h⟩
     refine freeI_run (v := .pointer (some ⟨w.heap.size, 33, none⟩)) rfl hf (by decide) ?_ rfl
     go_simp
    ·intro L ax W hf hLi hno hd
     simp [Region.binds] at hd
     have e19 : ax.tmps[19]?.getD undef = .pointer (some ⟨w.heap.size, 33, none⟩) := slv (hf.got 0 (by decide) (by simp [hd]))
     refine ⟨fun _ => ?_, fun h => absurd trivial h⟩
     have hG : CallSet wo ⟨gO, i * 36 + 35, none⟩ (fun s w => OwnC w wo.heap.size 68 s.v vs0.length (flatC voteA vs0)) [L 5, L 8] [sl ax 24, sl ax 62] W := hf.glob
     have hB := callSet_no (hno 8 (by decide)) hG
     have h1 := (hB.cell (p := ⟨w.heap.size, 33, none⟩) hb1o).trans h33
     refine freeI_run (v := .slice (some ⟨gO, 0, none⟩) h.ops.length sc) rfl hf (by decide) ?_ rfl
     go_simp
    ·intro L ax W hf hLi hno hd
     try simp [Region.binds] at hd
     have e3 : ax.tmps[3]?.getD undef = .int .i64 (i : Int) := hf.out 3 (by decide) rfl
     refine ⟨fun _ => ?_, fun h => absurd trivial h⟩
     refine freeI_run (v := .int .i64 (i : Int)) rfl hf (by decide) ?_ rfl
     go_simp
    ·intro L ax W hf hLi hno hd
     try simp [Region.binds] at hd
     have e4 : ax.tmps[4]?.getD undef = .pointer (some ⟨b4, 0, none⟩) := hf.out 4 (by decide) rfl
     refine ⟨fun _ => ?_, fun h => absurd trivial h⟩
     refine freeI_run (v := .pointer (some ⟨b4, 35, none⟩)) rfl hf (by decide) ?_ rfl
     go_simp
    ·intro L ax W hf hLi hno hd
     simp [Region.binds] at hd
     have e22 : ax.tmps[22]?.getD undef = .pointer (some ⟨b4, 35, none⟩) := slv (hf.got 3 (by decide) (by simp [hd]))
     refine ⟨fun _ => ?_, fun h => absurd trivial h⟩
     have hG : CallSet wo ⟨gO, i * 36 + 35, none⟩ (fun s w => OwnC w wo.heap.size 68 s.v vs0.length (flatC voteA vs0)) [L 5, L 8] [sl ax 24, sl ax 62] W := hf.glob
     have hB := callSet_no (hno 8 (by decide)) hG
     have h1 := (hB.cell (p := ⟨b4, 35, none⟩) hb4o).trans h435
     refine freeI_run (v := .slice ea en ec) rfl hf (by decide) ?_ rfl
     go_simp
    ·intro L ax W hf hLi hno hd
     simp [Region.binds] at hd
     have e23 : ax.tmps[23]?.getD undef = .slice ea en ec := slv (hf.got 4 (by decide) (by simp [hd]))
     refine ⟨fun _ => ?_, fun h => absurd trivial h⟩
     have hG : CallSet wo ⟨gO, i * 36 + 35, none⟩ (fun s w => OwnC w wo.heap.size 68 s.v vs0.length (flatC voteA vs0)) [L 5, L 8] [sl ax 24, sl ax 62] W := hf.glob
     have hB := callSet_no (hno 8 (by decide)) hG
     refine freeI_call (f := 175) (args := #[.slice ea en ec]) rfl (by go_simp) ?_
     refine (HV W hB).mono ?_
     rintro e w' ⟨s', rfl, ho, hb⟩
     have hx : L 8 = false := hno 8 (by decide)
     refine ⟨_, rfl, ⟨s', rfl⟩, ?_⟩
     show CallSet wo _ _ [true, L 8] [s'.v, sl ax 62] w'
     rw [hx]
     exact ⟨hB.trans (hb.mono hB.size), fun _ => ⟨s', rfl, ho.more hB.size⟩⟩
    ·intro L ax W hf hLi hno hd
     simp [Region.binds] at hd
     have e20 : ax.tmps[20]?.getD undef = .slice (some ⟨gO, 0, none⟩) h.ops.length sc := slv (hf.got 1 (by decide) (by simp [hd]))
     have e21 : ax.tmps[21]?.getD undef = .int .i64 (i : Int) := slv (hf.got 2 (by decide) (by simp [hd]))
     refine ⟨fun _ => ?_, fun h => absurd trivial h⟩
     refine freeI_run (v := .pointer (some ⟨gO, i * 36, none⟩)) rfl hf (by decide) ?_ rfl
     go_simp
    ·intro L ax W hf hLi hno hd
     simp [Region.binds] at hd
     have e25 : ax.tmps[25]?.getD undef = .pointer (some ⟨gO, i * 36, none⟩) := slv (hf.got 6 (by decide) (by simp [hd]))
     refine ⟨fun _ => ?_, fun h => absurd trivial h⟩
     refine freeI_run (v := .pointer (some ⟨gO, i * 36 + 35, none⟩)) rfl hf (by decide) ?_ rfl
     go_simp
    ·intro L ax W hf hLi hno hd
     simp [Region.binds] at hd
     have e26 : ax.tmps[26]?.getD undef = .pointer (some ⟨gO, i * 36 + 35, none⟩) := slv (hf.got 7 (by decide) (by simp [hd]))
     have f24 : (fun v => ∃ s : Sl, v = s.v) (sl ax 24) := hf.got 5 (by decide) (by simp [hd])
     refine ⟨fun _ => ?_, fun h => absurd trivial h⟩
     have hG : CallSet wo ⟨gO, i * 36 + 35, none⟩ (fun s w => OwnC w wo.heap.size 68 s.v vs0.length (flatC voteA vs0)) [L 5, L 8] [sl ax 24, sl ax 62] W := hf.glob
     have hl5 : L 5 = true := by simp [hd]
     rw [hl5, hLi] at hG
     obtain ⟨hB, hs⟩ := hG
     obtain ⟨s', hs', ho⟩ := hs rfl
     have e24 := slv hs'
     obtain ⟨hcs0, hfz⟩ := hfzO W hB
     obtain ⟨val, hcs⟩ := Option.isSome_iff_exists.1 hcs0
     refine freeI_store (W' := W.setCell ⟨gO, i * 36 + 35, none⟩ s'.v) rfl ?_ trivial ?_
     ·go_simp
     ·exact ⟨s', W, hs', ho, hB, rfl⟩
   ·intro vs W hl' hF hG
    obtain ⟨g', hg1, hg2⟩ := vs_litI vs hl' hF
    have e5 : ∃ s : Sl, g' 5 = s.v := hg2 5 (by decide)
    obtain ⟨s2, w1, hs2, ho2, hb51, hW⟩ := hG
    have hs2' : g' 5 = s2.v := by
     rw [hg1] at hs2
     simpa using hs2
    rw [hg1]
    simp only [List.length_cons, List.length_nil, Nat.reduceAdd, show List.range 9 = [0, 1, 2, 3, 4, 5, 6, 7, 8] from rfl, List.map_cons, List.map_nil, slotsIn, putL, List.setIfInBounds_toArray, List.set_cons_succ, List.set_cons_zero, hs2', List.size_toArray, Nat.reduceLT, if_true, if_false]
    obtain ⟨s2a, s2n, ec2⟩ := s2
    have hn2 : s2n = o.evidence.length := by
     rcases ho2.2 with ⟨e, hn⟩ | ⟨_, _, e, _⟩
     ·injection e with e1 e2 e3
      simp only at e2
      omega
     ·injection e with e1 e2 e3
      exact e2.trans hvl
    subst hn2
    have hz51 := hb51.size
    have hgOw : gO < wo.heap.size := Nat.lt_of_lt_of_le hOl.2 hb4.size
    have hOw1 := howno.keep hb51
    obtain ⟨hcs, hfz, hOW⟩ := OwnC.setc (n := h.ops.length) hOw1 (i * 36 + 35) (by omega) (.slice s2a o.evidence.length ec2)
    rw [← hW] at hOW
    have hM : Hid (Asd (fun k => k < w.heap.size + 2 ∨ (Sl.v ⟨some ⟨gO, 0, none⟩, h.ops.length, sc⟩).ownBlock = some k) wr W) := Lib.hid (by
     rw [hW]
     exact ((below_fresh hb4 _).trans (below_fresh hb51 _)).trans ((asd_set w1 ⟨gO, i * 36 + 35, none⟩ _).mono fun k _ e => .inr (by simp [Value.ownBlock]; exact e.symm)))
    have hBW : Below w.heap.size w W := by
     rw [hW]
     exact (hBo.trans (hb51.mono (by omega))).setCell (show w.heap.size ≤ gO by omega) _
    have hfar : ∀ q : Nat, q < wo.heap.size → q ≠ gO → W.heap[q]? = wo.heap[q]? := fun q hq hne => by
     rw [hW, Below.heap_setCell _ _ _ q hne]
     exact hb51.block q hq
    have hf33 : W.cell? ⟨w.heap.size, 33, none⟩ = some (.slice (some ⟨gO, 0, none⟩) h.ops.length sc) := (World.cell?_of_block (a := ⟨w.heap.size, 33, none⟩) (hfar w.heap.size hb1o (by omega))).trans h33
    have hev : W.cell? ⟨gO, i * 36 + 35, none⟩ = some (.slice s2a o.evidence.length ec2) := by
     rw [hW]
     exact cell_set_same hcs
    have hoW : OwnC W wo.heap.size 68 (.slice s2a o.evidence.length ec2) vs0.length (flatC voteA vs0) := by
     rw [hW]
     exact OwnC.off ho2 (asd_set w1 ⟨gO, i * 36 + 35, none⟩ _) fun q hq e => by
      have := (OwnC.lt ho2 q hq).1
      have e' : q = gO := e
      omega
    have hrow1W : row? W w.heap.size 0 34 = some (headerA ⟨h.parent, h.epoch, ⟨some ⟨gO, 0, none⟩, h.ops.length, sc⟩⟩) := by
     have h1 := (row?_below _ _ _ hb4 (show w.heap.size < wr.heap.size by omega)).trans hCI.out.row1
     have := hfar w.heap.size hb1o (by omega)
     unfold row? at h1 ⊢
     rw [this]
     exact h1
    have hrow2W : row? W (w.heap.size + 1) 0 34 = some (headerA ⟨zeroHash, 0, ⟨none, 0, 0⟩⟩) := by
     have h1 := (row?_below _ _ _ hb4 (show w.heap.size + 1 < wr.heap.size by omega)).trans hCI.out.row2
     have := hfar (w.heap.size + 1) (by omega) (by omega)
     unfold row? at h1 ⊢
     rw [this]
     exact h1
    have hth2W : there W (w.heap.size + 1) 0 34 := by
     rw [hW]
     exact there_set _ _ _ _ _ _ (there_below hb51 (by omega) (there_below hb4 (by omega) hCI.out.thr2))
    have hWz : wo.heap.size ≤ W.heap.size := by
     rw [hW]
     simpa [World.setCell] using hz51
    have hCV0 : Hid (ClV W W wo.heap.size ⟨s2a, o.evidence.length, ec2⟩ vs0 vs0 o.evidence 0) := Lib.hid ⟨hoW, hvl, fun j _ _ hj => absurd hj (Nat.not_lt_zero _), fun _ _ => rfl, Below.refl _ _⟩
    obtain ⟨E, hE⟩ : ∃ E, E = wo.heap.size := ⟨_, rfl⟩
    rw [← hE] at hCV0 hgOw hWz
    have hE1 : w.heap.size + 1 < E := by omega
    have hBW2 := Lib.hid hBW
    have hEr : wr.heap.size ≤ E := by have := hb4.size; omega
    replace hE := Lib.hid hE
    clear hg1 hg2 hs2 hs2' e5 ho2 hb51 hl' hF hz51 hOw1 hcs hfz hoW hfar HV hfzO howno h33 h435 hrow4 hb4o hb1o h33r hrx hown hBo hb4 hBW
    replace hW := Lib.hid hW
    go_upto_region 7 with fail
    generalize wr = wr0 at *
    go_loopw [34] (fun t W' => ∃ (k : Nat) (vs : List GVote), k ≤ o.evidence.length ∧ t = .int .i64 k ∧ Hid (ClV W W' E ⟨s2a, o.evidence.length, ec2⟩ vs0 vs o.evidence k)) (fun t _ => o.evidence.length - (intOf t).toNat)
    case atStart => exact ⟨0, vs0, Nat.zero_le _, rfl, hCV0⟩
    case round =>
     clear hCV0
     obtain ⟨k, vs, hk, rfl, hCV⟩ := hrel
     have hbV := Lib.hid hCV.out.bel
     have hvl2 := Lib.hid hCV.out.vlen
     have hWr := hCV.out.bel.size
     by_cases hkx : k < o.evidence.length
     ·have hks2 := Lib.hid (show k + 1 ≤ o.evidence.length from hkx)
      have hkv : k < vs.length := by rw [hvl2.out]; exact hkx
      obtain ⟨gE, rfl⟩ : ∃ gE, s2a = some ⟨gE, 0, none⟩ := by
       rcases hCV.out.own.2 with ⟨e, hn⟩ | ⟨gE, _, e, _⟩
       ·omega
       ·injection e with e1 e2 e3
        exact ⟨gE, e1⟩
      have hownV := hCV.out.own
      rw [hvl2.out] at hownV
      have hEl := OwnC.lt hownV gE (by simp [Value.ownBlock])
      obtain ⟨xv, hxv⟩ : ∃ x, vs[k]? = some x := ⟨_, List.getElem?_eq_getElem hkv⟩
      obtain ⟨v, hv⟩ : ∃ v, o.evidence[k]? = some v := ⟨_, List.getElem?_eq_getElem hkx⟩
      have hrv : row? wr gE (k * 68) 68 = some (voteA xv) := by
       have := own_row voteA voteA_size (by omega) (show OwnC wr E 68 (.slice (some ⟨gE, 0, none⟩) o.evidence.length ec2) vs.length (flatC voteA vs) from hCV.out.own) k hkv
       rw [(List.getElem?_eq_some_iff.1 hxv).2] at this
       exact this
      have hx0 : vs0[k]? = some xv := (hCV.out.rest k (Nat.le_refl _)).symm.trans hxv
      have hxo := hvr k xv v hx0 hv
      have hsl := of2 v (List.mem_of_getElem? hv)
      have k1 : (k : Int) < (o.evidence.length : Int) := by omega
      have k2 : (0 : Int) ≤ (k : Int) := by omega
      go_upto_region 9 with fail
      obtain ⟨wq, hwq, hrow6, -, hb6, hz6⟩ := box_row wr Try.zeroCells99 (voteA xv) 99 68 (by omega) (by kernel_rfl) (by simp)
      rw [← hwq]
      clear hwq
      obtain ⟨b6, hb6e⟩ : ∃ b, b = wr.heap.size := ⟨_, rfl⟩
      rw [← hb6e] at hrow6 ⊢
      have hb6q : b6 < wq.heap.size := by omega
      have hqr : wr.heap.size ≤ wq.heap.size := by omega
      have hbWq : Below E W wq := hbV.out.trans (hb6.mono (by omega))
      have hb1q : w.heap.size < wq.heap.size := by omega
      have h33q := (hbWq.cell (p := ⟨w.heap.size, 33, none⟩) (show w.heap.size < E by omega)).trans hf33
      have hgOq : gO < wq.heap.size := by omega
      have hevq := (hbWq.cell (p := ⟨gO, i * 36 + 35, none⟩) hgOw).trans hev
      have h667 := cell_of_row? hrow6 67 (by omega)
      rw [voteA_sig, Nat.zero_add] at h667
      have hownVq := hownV.keep hb6
      have hBq : Below w.heap.size w wq := hBW2.out.trans (hbWq.mono (by omega))
      have hbrows := bytes_rows hxo.2.2.2
      obtain ⟨ib, hib, hq0, hq1, hq2⟩ := info_parts info_u8
      have HS := fun Wx (hb : Below wq.heap.size wq Wx) => clone_rows (A := byA) (k := 1) (fun _ => rfl) byA_one clB ib _ 1 hib hq0 hq1 hq2 (by simp [Value.cells]) (by omega) (by omega) (SlR.keep hbrows (hBq.trans (hb.mono (by omega))) fun _ _ h => h) hsl
      have hfzE := fun Wx (hb : Below wq.heap.size wq Wx) => (show (Wx.cell? ⟨gE, k * 68 + 67, none⟩).isSome = true ∧ Wx.frozen? ⟨gE, k * 68 + 67, none⟩ = false from by
       have := OwnC.setc (n := o.evidence.length) (hownVq.keep hb) (k * 68 + 67) (by omega) undef
       exact ⟨this.1, this.2.1⟩)
      obtain ⟨xval2, xsrc, xtgt, ⟨xa, xn, xc⟩⟩ := xv
      dsimp only [Sl.v] at h667 HS
      replace hb6e := Lib.hid hb6e
      replace hz6 := Lib.hid hz6
      refine wp_region_freeI_l (by kernel_rfl) [39, 40, 41, 42, 43, 44, 45, 46, 47, 48, 49, 50, 66]
       [(fun v => v = .pointer (some ⟨w.heap.size, 33, none⟩)), (fun v => v = .slice (some ⟨gO, 0, none⟩) h.ops.length sc), (fun v => v = .int .i64 (i : Int)), (fun v => v = .pointer (some ⟨gO, i * 36, none⟩)), (fun v => v = .pointer (some ⟨gO, i * 36 + 35, none⟩)), (fun v => v = .slice (some ⟨gE, 0, none⟩) o.evidence.length ec2), (fun v => v = .int .i64 (k : Int)), (fun v => v = .pointer (some ⟨b6, 67, none⟩)), (fun v => v = .slice xa xn xc), (fun v => ∃ s : Sl, v = s.v), (fun v => v = .pointer (some ⟨gE, k * 68, none⟩)), (fun v => v = .pointer (some ⟨gE, k * 68 + 67, none⟩)), (fun _ => True)]
       [9, 12] (CallSet wq ⟨gE, k * 68 + 67, none⟩ (fun s w => OwnC w wq.heap.size 1 s.v v.sig.length (flatC byA v.sig))) [[1, 3, 4, 5, 10, 11, 12], [3, 4, 5, 10, 11, 12], [3, 4, 5, 10, 11, 12], [4, 5, 10, 11, 12], [5, 10, 11, 12], [10, 11, 12], [10, 11, 12], [8, 9, 12], [9, 12], [12], [11, 12], [12], []] (by kernel_rfl) (by kernel_rfl) ?_ ?_ ?_
      ·show CallSet wq ⟨gE, k * 68 + 67, none⟩ (fun s w => OwnC w wq.heap.size 1 s.v v.sig.length (flatC byA v.sig)) [false, false] [_, _] _
       exact ⟨(Below.refl _ _).drew, fun h => by cases h⟩
      ·refine ⟨?_, ?_, ?_, ?_, ?_, ?_, ?_, ?_, ?_, ?_, ?_, ?_, ?_, trivial⟩
       ·intro L ax W hf hLi hno hd
        try simp [Region.binds] at hd
        have e1 : ax.tmps[1]?.getD undef = .pointer (some ⟨w.heap.size, 0, none⟩) := hf.out 1 (by decide) rfl
        refine ⟨fun _ => ?_, fun h => absurd trivial h⟩
        refine freeI_run (v := .pointer (some ⟨w.heap.size, 33, none⟩)) rfl hf (by decide) ?_ rfl
        go_simp
       ·intro L ax W hf hLi hno hd
        simp [Region.binds] at hd
        have e39 : ax.tmps[39]?.getD undef = .pointer (some ⟨w.heap.size, 33, none⟩) := slv (hf.got 0 (by decide) (by simp [hd]))
        refine ⟨fun _ => ?_, fun h => absurd trivial h⟩
        have hG : CallSet wq ⟨gE, k * 68 + 67, none⟩ (fun s w => OwnC w wq.heap.size 1 s.v v.sig.length (flatC byA v.sig)) [L 9, L 12] [sl ax 48, sl ax 66] W := hf.glob
        have hB := callSet_no (hno 12 (by decide)) hG
        have h1 := (hB.cell (p := ⟨w.heap.size, 33, none⟩) hb1q).trans h33q
        refine freeI_run (v := .slice (some ⟨gO, 0, none⟩) h.ops.length sc) rfl hf (by decide) ?_ rfl
        go_simp
       ·intro L ax W hf hLi hno hd
        try simp [Region.binds] at hd
        have e3 : ax.tmps[3]?.getD undef = .int .i64 (i : Int) := hf.out 3 (by decide) rfl
        refine ⟨fun _ => ?_, fun h => absurd trivial h⟩
        refine freeI_run (v := .int .i64 (i : Int)) rfl hf (by decide) ?_ rfl
        go_simp
       ·intro L ax W hf hLi hno hd
        simp [Region.binds] at hd
        have e40 : ax.tmps[40]?.getD undef = .slice (some ⟨gO, 0, none⟩) h.ops.length sc := slv (hf.got 1 (by decide) (by simp [hd]))
        have e41 : ax.tmps[41]?.getD undef = .int .i64 (i : Int) := slv (hf.got 2 (by decide) (by simp [hd]))
        refine ⟨fun _ => ?_, fun h => absurd trivial h⟩
        refine freeI_run (v := .pointer (some ⟨gO, i * 36, none⟩)) rfl hf (by decide) ?_ rfl
        go_simp
       ·intro L ax W hf hLi hno hd
        simp [Region.binds] at hd
        have e42 : ax.tmps[42]?.getD undef = .pointer (some ⟨gO, i * 36, none⟩) := slv (hf.got 3 (by decide) (by simp [hd]))
        refine ⟨fun _ => ?_, fun h => absurd trivial h⟩
        refine freeI_run (v := .pointer (some ⟨gO, i * 36 + 35, none⟩)) rfl hf (by decide) ?_ rfl
        go_simp
       ·intro L ax W hf hLi hno hd
        simp [Region.binds] at hd
        have e43 : ax.tmps[43]?.getD undef = .pointer (some ⟨gO, i * 36 + 35, none⟩) := slv (hf.got 4 (by decide) (by simp [hd]))
        refine ⟨fun _ => ?_, fun h => absurd trivial h⟩
        have hG : CallSet wq ⟨gE, k * 68 + 67, none⟩ (fun s w => OwnC w wq.heap.size 1 s.v v.sig.length (flatC byA v.sig)) [L 9, L 12] [sl ax 48, sl ax 66] W := hf.glob
        have hB := callSet_no (hno 12 (by decide)) hG
        have h1 := (hB.cell (p := ⟨gO, i * 36 + 35, none⟩) hgOq).trans hevq
        refine freeI_run (v := .slice (some ⟨gE, 0, none⟩) o.evidence.length ec2) rfl hf (by decide) ?_ rfl
        go_simp
       ·intro L ax W hf hLi hno hd
        try simp [Region.binds] at hd
        have e5 : ax.tmps[5]?.getD undef = .int .i64 (k : Int) := hf.out 5 (by decide) rfl
        refine ⟨fun _ => ?_, fun h => absurd trivial h⟩
        refine freeI_run (v := .int .i64 (k : Int)) rfl hf (by decide) ?_ rfl
        go_simp
       ·intro L ax W hf hLi hno hd
        try simp [Region.binds] at hd
        have e6 : ax.tmps[6]?.getD undef = .pointer (some ⟨b6, 0, none⟩) := hf.out 6 (by decide) rfl
        refine ⟨fun _ => ?_, fun h => absurd trivial h⟩
        refine freeI_run (v := .pointer (some ⟨b6, 67, none⟩)) rfl hf (by decide) ?_ rfl
        go_simp
       ·intro L ax W hf hLi hno hd
        simp [Region.binds] at hd
        have e46 : ax.tmps[46]?.getD undef = .pointer (some ⟨b6, 67, none⟩) := slv (hf.got 7 (by decide) (by simp [hd]))
        refine ⟨fun _ => ?_, fun h => absurd trivial h⟩
        have hG : CallSet wq ⟨gE, k * 68 + 67, none⟩ (fun s w => OwnC w wq.heap.size 1 s.v v.sig.length (flatC byA v.sig)) [L 9, L 12] [sl ax 48, sl ax 66] W := hf.glob
        have hB := callSet_no (hno 12 (by decide)) hG
        have h1 := (hB.cell (p := ⟨b6, 67, none⟩) hb6q).trans h667
        refine freeI_run (v := .slice xa xn xc) rfl hf (by decide) ?_ rfl
        go_simp
       ·intro L ax W hf hLi hno hd
        simp [Region.binds] at hd
        have e47 : ax.tmps[47]?.getD undef = .slice xa xn xc := slv (hf.got 8 (by decide) (by simp [hd]))
        refine ⟨fun _ => ?_, fun h => absurd trivial h⟩
        have hG : CallSet wq ⟨gE, k * 68 + 67, none⟩ (fun s w => OwnC w wq.heap.size 1 s.v v.sig.length (flatC byA v.sig)) [L 9, L 12] [sl ax 48, sl ax 66] W := hf.glob
        have hB := callSet_no (hno 12 (by decide)) hG
        refine freeI_call (f := 132) (args := #[.slice xa xn xc]) rfl (by go_simp) ?_
        refine (HS W hB).mono ?_
        rintro e w' ⟨s', rfl, ho, hb⟩
        have hx : L 12 = false := hno 12 (by decide)
        refine ⟨_, rfl, ⟨s', rfl⟩, ?_⟩
        show CallSet wq _ _ [true, L 12] [s'.v, sl ax 66] w'
        rw [hx]
        exact ⟨hB.trans (hb.mono hB.size), fun _ => ⟨s', rfl, ho.more hB.size⟩⟩
       ·intro L ax W hf hLi hno hd
        simp [Region.binds] at hd
        have e44 : ax.tmps[44]?.getD undef = .slice (some ⟨gE, 0, none⟩) o.evidence.length ec2 := slv (hf.got 5 (by decide) (by simp [hd]))
        have e45 : ax.tmps[45]?.getD undef = .int .i64 (k : Int) := slv (hf.got 6 (by decide) (by simp [hd]))
        refine ⟨fun _ => ?_, fun h => absurd trivial h⟩
        refine freeI_run (v := .pointer (some ⟨gE, k * 68, none⟩)) rfl hf (by decide) ?_ rfl
        go_simp
       ·intro L ax W hf hLi hno hd
        simp [Region.binds] at hd
        have e49 : ax.tmps[49]?.getD undef = .pointer (some ⟨gE, k * 68, none⟩) := slv (hf.got 10 (by decide) (by simp [hd]))
        refine ⟨fun _ => ?_, fun h => absurd trivial h⟩
        refine freeI_run (v := .pointer (some ⟨gE, k * 68 + 67, none⟩)) rfl hf (by decide) ?_ rfl
        go_simp
       ·intro L ax W hf hLi hno hd
        simp [Region.binds] at hd
        have e50 : ax.tmps[50]?.getD undef = .pointer (some ⟨gE, k * 68 + 67, none⟩) := slv (hf.got 11 (by decide) (by simp [hd]))
        have f48 : (fun v => ∃ s : Sl, v = s.v) (sl ax 48) := hf.got 9 (by decide) (by simp [hd])
        refine ⟨fun _ => ?_, fun h => absurd trivial h⟩
        have hG : CallSet wq ⟨gE, k * 68 + 67, none⟩ (fun s w => OwnC w wq.heap.size 1 s.v v.sig.length (flatC byA v.sig)) [L 9, L 12] [sl ax 48, sl ax 66] W := hf.glob
        have hl9 : L 9 = true := by simp [hd]
        rw [hl9, hLi] at hG
        obtain ⟨hB, hs⟩ := hG
        obtain ⟨s', hs', ho⟩ := hs rfl
        have e48 := slv hs'
        obtain ⟨hcs0, hfz⟩ := hfzE W hB
        obtain ⟨val, hcs⟩ := Option.isSome_iff_exists.1 hcs0
        refine freeI_store (W' := W.setCell ⟨gE, k * 68 + 67, none⟩ s'.v) rfl ?_ trivial ?_
        ·go_simp
        ·exact ⟨s', W, hs', ho, hB, rfl⟩
      ·intro vl W3 hl' hF hG
       obtain ⟨g', hg1, hg2⟩ := vs_litI vl hl' hF
       obtain ⟨s3, w3, hs3, ho3, hb63, hW3⟩ := hG
       have hs3' : g' 9 = s3.v := by
        rw [hg1] at hs3
        simpa using hs3
       rw [hg1]
       simp only [List.length_cons, List.length_nil, Nat.reduceAdd, show List.range 13 = [0, 1, 2, 3, 4, 5, 6, 7, 8, 9, 10, 11, 12] from rfl, List.map_cons, List.map_nil, slotsIn, putL, List.setIfInBounds_toArray, List.set_cons_succ, List.set_cons_zero, hs3', List.size_toArray, Nat.reduceLT, if_true, if_false]
       have hz63 := hb63.size
       have hgEq : gE < wq.heap.size := by omega
       obtain ⟨-, -, hOV⟩ := OwnC.setc (n := o.evidence.length) (hownVq.keep hb63) (k * 68 + 67) (by omega) s3.v
       rw [← hW3] at hOV
       have hA3 : Asd (fun q => q < E ∨ (Sl.v ⟨some ⟨gE, 0, none⟩, o.evidence.length, ec2⟩).ownBlock = some q) wr W3 := by
        rw [hW3]
        exact ((below_fresh hb6 _).trans (below_fresh hb63 _)).trans ((asd_set w3 ⟨gE, k * 68 + 67, none⟩ _).mono fun q _ e => .inr (by simp [Value.ownBlock]; exact e.symm))
       have hoS : OwnC W3 wq.heap.size 1 s3.v v.sig.length (flatC byA v.sig) := by
        rw [hW3]
        exact OwnC.off ho3 (asd_set w3 ⟨gE, k * 68 + 67, none⟩ _) fun q hq e => by
         have := (OwnC.lt ho3 q hq).1
         have e' : q = gE := e
         omega
       have hBel : Below E W W3 := by
        rw [hW3]
        exact (hbWq.trans (hb63.mono (by omega))).setCell (show E ≤ gE from hEl.1) _
       have hnew : Hid (ClV W W3 E ⟨some ⟨gE, 0, none⟩, o.evidence.length, ec2⟩ vs0 (vs.set k ⟨xval2, xsrc, xtgt, s3⟩) o.evidence (k + 1)) := Lib.hid (by
        refine ⟨?_, by rw [List.length_set]; exact hvl2.out, fun j x v' hj hx hv' => ?_, fun j hj => ?_, hBel⟩
        ·rw [List.length_set, flatC_set voteA voteA_size (r := 67) (by omega) (v := s3.v) vs k ⟨xval2, xsrc, xtgt, ⟨xa, xn, xc⟩⟩ hxv (voteA_sg _ s3), hvl2.out]
         exact hOV
        ·rw [List.getElem?_set] at hx
         by_cases hjk : k = j
         ·subst hjk
          rw [if_pos rfl, if_pos hkv] at hx
          cases hx
          rw [hv] at hv'
          cases hv'
          intro W2 h2
          have hoS2 := OwnC.off hoS h2 fun q hq e => by
           have h3 := (OwnC.lt hoS q hq).1
           rcases e with e | e
           ·omega
           ·simp [Value.ownBlock] at e
            omega
          exact ⟨⟨hxo.1, hxo.2.1, hxo.2.2.1, rows_bytes (rows_of_own byA (k := 1) (fun _ => rfl) (by omega) hoS2)⟩, (sigT_own hoS2).more (by omega)⟩
         ·rw [if_neg hjk] at hx
          exact (hCV.out.done j x v' (by omega) hx hv').step hA3 fun _ _ h => h
        ·rw [List.getElem?_set, if_neg (by omega)]
         exact hCV.out.rest j (by omega))
       clear hg1 hg2 hs3 hs3' hl' hF ho3 hb63 hW3 hOV hA3 hoS hBel hz63 HS hfzE hownV hownVq hrv hx0 hxo hbrows h667 hevq h33q hbWq hb6 hrow6 hBq hCV hbV hxv hv
       go_wp2_with fail
       go_roundw
       case rel => exact ⟨k + 1, vs.set k ⟨xval2, xsrc, xtgt, s3⟩, hks2.out, by go_num, hnew⟩
       case measure =>
        have := hks2.out
        simp [intOf]
        omega
     ·have hkm : k = o.evidence.length := by omega
      subst hkm
      have hnew : Hid (ClI w wr ⟨h.parent, h.epoch, ⟨ga, gn, gc⟩⟩ ⟨some ⟨gO, 0, none⟩, h.ops.length, sc⟩ gs0 (gs.set i ⟨xk, xy, xst, xval, ⟨s2a, o.evidence.length, ec2⟩⟩) h.ops (i + 1)) := Lib.hid (by
       have hA : Asd (fun k => k < w.heap.size + 2 ∨ (Sl.v ⟨some ⟨gO, 0, none⟩, h.ops.length, sc⟩).ownBlock = some k) wr0 wr := hM.out.trans' (below_off hbV.out (M := fun q => E ≤ q) fun _ _ h => h) fun q hq hEq => absurd hq (by omega)
       refine ⟨(row?_below _ _ _ hbV.out (show w.heap.size < E by omega)).trans hrow1W, (row?_below _ _ _ hbV.out hE1).trans hrow2W, there_below hbV.out hE1 hth2W, ?_, by rw [List.length_set]; exact hgl2.out, fun j x o' hj hx ho' => ?_, fun j hj => ?_, hBW2.out.trans (hbV.out.mono (by omega))⟩
       ·rw [List.length_set, flatC_set opA opA_size (r := 35) (by omega) (v := .slice s2a o.evidence.length ec2) gs i ⟨xk, xy, xst, xval, ⟨ea, en, ec⟩⟩ hx (opA_ev _ ⟨s2a, o.evidence.length, ec2⟩), hgl2.out]
        exact OwnC.off hOW (below_off hbV.out (M := fun q => E ≤ q) fun _ _ h => h) fun q hq e => by
         simp [Value.ownBlock] at hq
         omega
       ·rw [List.getElem?_set] at hx
        by_cases hji : i = j
        ·subst hji
         rw [if_pos rfl, if_pos hgi] at hx
         cases hx
         rw [ho] at ho'
         cases ho'
         intro W2 h2
         have hlt : ∀ q, (q < w.heap.size + 2 ∨ (Sl.v ⟨some ⟨gO, 0, none⟩, h.ops.length, sc⟩).ownBlock = some q) → q < E := fun q hq => by
          rcases hq with hq | hq
          ·omega
          ·simp [Value.ownBlock] at hq
           omega
         have hoV2 := OwnC.off hCV.out.own h2 fun q hq e => by
          have := (OwnC.lt hCV.out.own q hq).1
          have := hlt q e
          omega
         have hdn := fun j x v hx hv => hCV.out.done j x v (by rw [← hCV.out.vlen]; exact (List.getElem?_eq_some_iff.1 hx).1) hx hv W2 (h2.mono fun q _ hq => .inl (hlt q hq))
         refine ⟨⟨hxo.1, hxo.2.1, hxo.2.2.1, hxo.2.2.2.1, rows_join (rows_of_own voteA voteA_size (by omega) hoV2) hCV.out.vlen fun j x v hx hv => (hdn j x v hx hv).1⟩, EvT.more (evT_own hoV2 fun j x hx => ?_) (show w.heap.size ≤ E by omega)⟩
         have hjv : j < o.evidence.length := by rw [← hCV.out.vlen]; exact (List.getElem?_eq_some_iff.1 hx).1
         exact (hdn j x _ hx (List.getElem?_eq_getElem hjv)).2
        ·rw [if_neg hji] at hx
         exact (hCI.out.done j x o' (by omega) hx ho').step hA fun _ _ h => h
       ·rw [List.getElem?_set, if_neg (by omega)]
        exact hCI.out.rest j (by omega))
      clear hCV hM hrow1W hrow2W hth2W hOW hBW2 hbV hf33 hev hCI hxo hvr hvrows
      go_wp2_with fail
      go_roundw
      case rel => exact ⟨i + 1, gs.set i ⟨xk, xy, xst, xval, ⟨s2a, o.evidence.length, ec2⟩⟩, hks.out, by go_num, hnew⟩
      case measure =>
       have := hks.out
       simp [intOf]
       omega
  ·have him : i = h.ops.length := by omega
   subst him
   have hrow1 := hCI.out.row1
   have hrow2 := hCI.out.row2
   have hth2 := hCI.out.thr2
   have hfin : ∃ W3, W3 = putRow wr (w.heap.size + 1) 0 (headerA ⟨h.parent, h.epoch, ⟨sa, h.ops.length, sc⟩⟩) ∧ Hid (Safe (fun k => k < w.heap.size) W3 fun W => HdrR W ⟨h.parent, h.epoch, ⟨sa, h.ops.length, sc⟩⟩ h ∧ OpsT w.heap.size W (⟨h.parent, h.epoch, ⟨sa, h.ops.length, sc⟩⟩ : GHeader).ops) ∧ Hid (Below w.heap.size w W3) := by
    refine ⟨_, rfl, Lib.hid fun W2 h2 => ?_, Lib.hid (below_put hCI.out.bel (by omega) _ _)⟩
    have hA : Asd (fun k => k < w.heap.size + 2 ∨ (Sl.v ⟨sa, h.ops.length, sc⟩).ownBlock = some k) wr W2 := by
     refine ((asd_put wr (w.heap.size + 1) 0 _).mono fun k _ e => .inl ?_).trans (h2.mono fun k _ e => .inl ?_)
     ·have e' : k < w.heap.size := e
      omega
     ·have e' : k = w.heap.size + 1 := e
      omega
    have hA2 : Asd (fun k => k < w.heap.size + 2) wr W2 := by
     refine ((asd_put wr (w.heap.size + 1) 0 _).mono fun k _ e => ?_).trans (h2.mono fun k _ e => ?_)
     ·have e' : k = w.heap.size + 1 := e
      omega
     ·have e' : k < w.heap.size := e
      omega
    have ho2 := OwnC.off hCI.out.own hA2 fun q hq e => by
     have := (OwnC.lt hCI.out.own q hq).1
     omega
    have hdn := fun j x o hx ho => hCI.out.done j x o (List.getElem?_eq_some_iff.1 ho).1 hx ho W2 hA
    refine ⟨⟨rfl, rfl, rows_join (rows_of_own opA opA_size (by omega) ho2) hCI.out.glen fun j x o hx ho => (hdn j x o hx ho).1⟩, (opsT_own (ho2.more (show w.heap.size ≤ w.heap.size + 2 by omega)) fun j x hx => ?_)⟩
    have hjv : j < h.ops.length := by rw [← hCI.out.glen]; exact (List.getElem?_eq_some_iff.1 hx).1
    exact (hdn j x _ hx (List.getElem?_eq_getElem hjv)).2
   obtain ⟨W3, hW3, hHA0, hBf⟩ := hfin
   have hHA : Hid (HdrAt w.heap.size W3 ⟨h.parent, h.epoch, ⟨sa, h.ops.length, sc⟩⟩ h ∧ OpsT w.heap.size W3 (⟨h.parent, h.epoch, ⟨sa, h.ops.length, sc⟩⟩ : GHeader).ops) := Lib.hid ⟨fun W2 h2 => (hHA0.out W2 h2).1, hHA0.out.now.2⟩
   clear hHA0
   obtain ⟨gf, hgf⟩ : ∃ gf : GHeader, gf = ⟨h.parent, h.epoch, ⟨sa, h.ops.length, sc⟩⟩ := ⟨_, rfl⟩
   rw [← hgf] at hrow1 hW3 hHA
   obtain ⟨b2, hb2⟩ : ∃ b, b = w.heap.size + 1 := ⟨_, rfl⟩
   rw [← hb2] at hrow2 hth2 hW3 ⊢
   have hne : w.heap.size ≠ b2 := by omega
   replace hb2 := Lib.hid hb2
   replace hgf := Lib.hid hgf
   replace hW3 := hW3.symm
   have hrow3 : row? W3 b2 0 34 = some (headerA gf) := by
    rw [← hW3]
    exact row?_put_same _ _ _ _ _ (by simp) (by omega) hth2
   clear hCI
   go_wp2_with (with_reducible refine ret_row Try.isAgg49 Try.sizeOf49 clone_res (x := .pointer (some ⟨b2, 0, none⟩)) (b2) 0 ?rrhx (Eq.refl _) ?rrh ?rrhd ?rrhR; (case rrhx => simp only [Array.getD_eq_getD_getElem?, List.getElem?_toArray, List.getElem?_cons_succ, List.getElem?_cons_zero, Option.getD_some]); (case rrhd => exact rfl); (case rrh => go_simp); (case rrhR => ((first | (rw [hW3, hrow3]; exact ⟨gf, rfl, hHA.out.1, hBf.out, hHA.out.2⟩) | (rw [hrow3]; exact ⟨gf, rfl, hHA.out.1, hBf.out, hHA.out.2⟩)))))
theorem hclone_c {w : World} {g : GHeader} {h : Hdr} (hr : HdrR w g h) (hf : ClnFits h) :
  Calls Try.prog 103 #[.agg (headerA g)] w fun e w' => ∃ g', e = .returned (.agg (headerA g')) ∧ HdrAt w.heap.size w' g' h ∧ Below w.heap.size w w' :=
 (hclone2_c hr hf).mono fun _ _ ⟨g', h1, h2, h3, _⟩ => ⟨g', h1, h2, h3⟩
end Go.Proofs.Ythdjhbiigmcecaa

/- chain.New. -/
namespace Go.Proofs.Ythdjhbiigmcecaa
open Go.RowKit

def zeroG3 : GHeader := ⟨zeroHash, 0, ⟨none, 0, 0⟩⟩
/-- a new anchor's block -/
def nx : GB := ⟨0, zeroG3, ⟨none, 0, 0⟩, ⟨none, 0, 0⟩⟩
def bldB (parts : Array (Nat × Value)) : Sem Value := Instr.build 168 parts
theorem fold_bldB (parts : Array (Nat × Value)) : Instr.build 168 parts = bldB parts := rfl
theorem zero_blk : Try.zeroCells168 = blkA zeroPt nx := by kernel_rfl
theorem blk_tail (p q : Pt) (x : GB) : pointA p ++ (blkA q x).extract 33 69 = blkA p x := by
 simp [blkA, Array.extract_append, ext_self, ext_none]
theorem blk_part (p : Pt) (g : GHeader) (x : GB) : splice (blkA p x) 33 (headerA g) = blkA p { x with g := g } := by
 simp [splice, blkA, Array.extract_append, ext_self, ext_none]
theorem bld_new (p : Pt) (W : World) : (bldB #[(0, .agg (pointA p))]).run Try.prog W = .ok (.agg (blkA p nx)) W := by
 unfold bldB
 go_simp
 rw [zero_blk, fold0_splice _ _ 33 (by simp) (by simp), splice_zero_head _ _ 33 (by simp) (by simp), blkA_size, blk_tail]
theorem bld_blk (p : Pt) (g : GHeader) (W : World) : (bldB #[(0, .agg (pointA p)), (1, .agg (headerA g))]).run Try.prog W = .ok (.agg (blkA p { nx with g := g })) W := by
 unfold bldB
 go_simp
 rw [zero_blk, fold0_splice _ _ 33 (by simp) (by simp), splice_zero_head _ _ 33 (by simp) (by simp), blkA_size, blk_tail p zeroPt, fold_splice _ _ 33 34 (by simp) (by simp), blk_part, if_neg (by simp)]
 rfl
theorem bsP_one (b : Nat) (w : World) : (Instr.buildSlice 115 1 #[(0, ptrV b)]).run Try.prog w = .ok (.slice (some ⟨w.heap.size, 0, none⟩) 1 1) (w.alloc (.cells #[ptrV b] 166)) := by
 unfold ptrV
 go_simp
theorem bld_chain (a m : Nat) (W : World) : (Instr.build 118 #[(0, .slice (some ⟨a, 0, none⟩) 1 1), (1, .map (some m))]).run Try.prog W = .ok (.agg #[.slice (some ⟨a, 0, none⟩) 1 1, .map (some m)]) W := by
 go_simp
attribute [local go_sem ↓] fold_bldB
def HNew (W0 : World) (p : Pt) (L : List Bool) (V : List Value) (w : World) : Prop :=
 Below W0.heap.size W0 w ∧
 (L.getD 0 false = true → ∃ b, V.getD 0 undef = ptrV b ∧ W0.heap.size ≤ b ∧ w.heap[b]? = some (.cells (blkA p nx) 168 (0, 0))) ∧
 (L.getD 1 false = true → ∃ b a, V.getD 0 undef = ptrV b ∧ V.getD 1 undef = .slice (some ⟨a, 0, none⟩) 1 1 ∧ W0.heap.size ≤ a ∧ w.heap[a]? = some (.cells #[ptrV b] 166 (0, 0))) ∧
 (L.getD 2 false = true → ∃ m, V.getD 2 undef = .map (some m) ∧ W0.heap.size ≤ m ∧ MapHv w m (if L.getD 3 false then [(p.name, .int .i64 0)] else [])) ∧
 (L.getD 4 false = true → V.getD 4 undef = V.getD 2 undef) ∧
 (L.getD 5 false = true → V.getD 5 undef = .agg #[V.getD 1 undef, V.getD 2 undef]) ∧
 (L.getD 6 false = true → ∃ c, V.getD 6 undef = ptrV c ∧ W0.heap.size ≤ c ∧ w.heap[c]? = some (.cells #[V.getD 1 undef, V.getD 2 undef] 118 (0, 0))) ∧
 (L.getD 7 false = true → V.getD 7 undef = V.getD 6 undef)
theorem HNew.grow {W0 w w' : World} {p : Pt} {L : List Bool} {V : List Value} (h : HNew W0 p L V w) (hb : Below w.heap.size w w') : HNew W0 p L V w' := by
 obtain ⟨hB, h0, h1, h2, h4, h5, h6, h7⟩ := h
 refine ⟨hB.trans (hb.mono hB.size), fun h => ?_, fun h => ?_, fun h => ?_, h4, h5, fun h => ?_, h7⟩
 ·obtain ⟨b, q1, q2, q3⟩ := h0 h
  exact ⟨b, q1, q2, (hb.block b (Array.getElem?_eq_some_iff.1 q3).1).trans q3⟩
 ·obtain ⟨b, a, q1, q2, q3, q4⟩ := h1 h
  exact ⟨b, a, q1, q2, q3, (hb.block a (Array.getElem?_eq_some_iff.1 q4).1).trans q4⟩
 ·obtain ⟨m, q1, q2, q3⟩ := h2 h
  exact ⟨m, q1, q2, q3.keep hb q3.lt⟩
 ·obtain ⟨c, q1, q2, q3⟩ := h6 h
  exact ⟨c, q1, q2, (hb.block c (Array.getElem?_eq_some_iff.1 q3).1).trans q3⟩
theorem chnew_mem (B : Nat) (p : Pt) {W : World} {a b c m : Nat} (hb : B ≤ b) (ha : B ≤ a) (hm : B ≤ m) (hc : B ≤ c) (hB : B ≤ W.heap.size) (ob : W.heap[b]? = some (.cells (blkA p nx) 168 (0, 0))) (oa : W.heap[a]? = some (.cells #[ptrV b] 166 (0, 0)))
  (hM : MapHv W m [(p.name, .int .i64 0)]) (oc : W.heap[c]? = some (.cells #[.slice (some ⟨a, 0, none⟩) 1 1, .map (some m)] 118 (0, 0))) : ∃ T : Nat → Nat, ChR B T W c (chNew p) := by
 have nsz : ∀ {x y : Nat} {cs ds : Array Value} {t u : TypeId}, W.heap[x]? = some (.cells cs t (0, 0)) → W.heap[y]? = some (.cells ds u (0, 0)) → cs.size ≠ ds.size → x ≠ y := by
  intro x y cs ds t u h1 h2 hs e
  subst e
  rw [h1] at h2
  injection h2 with h2
  injection h2 with h2
  exact hs (by rw [h2])
 have nm : ∀ {x : Nat} {cs : Array Value} {t : TypeId}, W.heap[x]? = some (.cells cs t (0, 0)) → x ≠ m := by
  intro x cs t h1 e
  subst e
  obtain ⟨es, ck, h2, -⟩ := hM
  rw [h1] at h2
  cases h2
 have nab := nsz oa ob (by simp)
 have nac := nsz oa oc (by simp)
 have nbc := nsz ob oc (by simp)
 have nam := nm oa
 have nbm := nm ob
 have ncm := nm oc
 refine ⟨fun k => if k = c then 1 else if k = a then 2 else if k = m then 3 else if k = b then 4 else 0, ⟨some ⟨a, 0, none⟩, 1, 1⟩, m, [{ nx with b := b }], ?_⟩
 refine ⟨rowHeap oc (by simp), there_block oc (by simp), if_pos rfl, ?_, fun g hg => ?_, hM, ?_, fun k hk ht => ?_, hB, rfl, rfl, fun i x bk hx hbk => ?_⟩
 ·refine ⟨rfl, .inr ⟨a, 1, rfl, ha, (Array.getElem?_eq_some_iff.1 oa).1, Nat.le_refl _, by simp [maxLen], fun j hj => ?_, fun j _ => frozen_of_row W a j _ _ oa, fun j u hu => ?_⟩⟩
  ·have : j = 0 := by omega
   subst this
   rw [cell_of_row W a 0 _ _ _ oa]
   rfl
  ·rw [cell_of_row W a j _ _ _ oa]
   simpa [flatC, ptrA] using hu
 ·simp [Value.ownBlock] at hg
  subst hg
  rw [if_neg nac, if_pos rfl]
 ·rw [if_neg ncm.symm, if_neg nam.symm, if_pos rfl]
 ·by_cases h1 : k = c
  ·omega
  ·by_cases h2 : k = a
   ·omega
   ·by_cases h3 : k = m
    ·omega
    ·by_cases h4 : k = b
     ·omega
     ·simp [h1, h2, h3, h4] at ht
 ·have hi : i = 0 := by
   have := (List.getElem?_eq_some_iff.1 hx).1
   simpa using this
  subst hi
  simp only [List.getElem?_cons_zero, Option.some.injEq] at hx
  subst hx
  simp only [chNew, List.getElem?_cons_zero, Option.some.injEq] at hbk
  subst hbk
  refine ⟨rowHeap ob (by simp), there_block ob (by simp), ⟨_, _, ob⟩, ?_, fun W2 _ => ⟨rfl, rfl, SlR.nil _ _ _ _ _⟩, fun W2 _ => SlR.nil _ _ _ _ _, OwnC.nil _ _ _, fun g hg => by simp [nx, Value.ownBlock] at hg⟩
  show (if b = c then 1 else if b = a then 2 else if b = m then 3 else if b = b then 4 else 0) = 4
  rw [if_neg nbc, if_neg nab.symm, if_neg nbm, if_pos rfl]
set_option maxRecDepth 100000 in
set_option maxHeartbeats 6400000 in
theorem chnew_c (p : Pt) (w : World) (hp : p.epoch.toNat ≤ 4611686018427387904) :
  Calls Try.prog 32 #[.agg (pointA p)] w fun e w' => ∃ cb : Nat, e = .returned (.tuple #[ptrV cb, .int .i64 0]) ∧ w.heap.size ≤ cb ∧ (∃ T : Nat → Nat, ChR w.heap.size T w' cb (chNew p)) ∧ Below w.heap.size w w' := by
 have hB0 : Below w.heap.size w (w.alloc (.cells (pointA p) 26)) := bel_a _ _
 have hz0 : (w.alloc (.cells (pointA p) 26)).heap.size = w.heap.size + 1 := by simp
 have hrow : row? (w.alloc (.cells (pointA p) 26)) w.heap.size 0 33 = some (pointA p) := by rw [row?_new]; simp
 have hrown := row_part hrow 1 32 (by omega)
 have hc0 := cell_of_row? hrow 0 (by omega)
 rw [pointA_name] at hrown
 rw [pointA_epoch] at hc0
 have hpe : ¬ (4611686018427387904 : Int) < (p.epoch.toNat : Int) := by omega
 go_enter Try.func32, Try.ntmps32
 go_upto_region 1 with fail
 generalize w.alloc (.cells (pointA p) 26) = w0 at *
 obtain ⟨b1, hb1e⟩ : ∃ b, b = w.heap.size := ⟨_, rfl⟩
 rw [← hb1e] at hrow hrown hc0 ⊢
 have hb1 : b1 < w0.heap.size := by omega
 replace hb1e := Lib.hid hb1e
 replace hz0 := Lib.hid hz0
 go_upto_region 3 with fail
 refine wp_region_freeI_l (by kernel_rfl) [7, 8, 9, 10, 11, 12, 13, 24, 14, 15, 16, 2, 3]
  [(fun v => v = .agg (pointA p)), (fun v => v = .agg (blkA p nx)), (fun v => ∃ b, v = ptrV b), (fun v => ∃ a, v = .slice (some ⟨a, 0, none⟩) 1 1), (fun v => ∃ m, v = .map (some m)), (fun v => v = .pointer (some ⟨b1, 1, none⟩)), (fun v => v = .agg (hashA p.name)), (fun _ => True), (fun v => ∃ m, v = .map (some m)), (fun v => ∃ a m, v = .agg #[.slice (some ⟨a, 0, none⟩) 1 1, .map (some m)]), (fun v => ∃ c, v = ptrV c), (fun v => ∃ c, v = ptrV c), (fun v => v = .int .i64 0)]
  [2, 3, 4, 7, 8, 9, 10, 11] (HNew w0 p) [[1, 2, 3, 9, 10, 11], [2, 3, 9, 10, 11], [3, 9, 10, 11], [9, 10, 11], [7, 8, 9, 10, 11], [6, 7], [7], [], [9, 10, 11], [10, 11], [11], [], []] (by kernel_rfl) (by kernel_rfl) ?_ ?_ ?_
 ·show HNew w0 p [false, false, false, false, false, false, false, false] [_, _, _, _, _, _, _, _] _
  refine ⟨(Below.refl _ _).drew, ?_, ?_, ?_, ?_, ?_, ?_, ?_⟩ <;> (intro h; cases h)
 ·refine ⟨?_, ?_, ?_, ?_, ?_, ?_, ?_, ?_, ?_, ?_, ?_, ?_, ?_, trivial⟩
  ·intro L ax W hf hLi hno hd
   try simp [Region.binds] at hd
   have e1 : ax.tmps[1]?.getD undef = .pointer (some ⟨b1, 0, none⟩) := hf.out 1 (by decide) rfl
   refine ⟨fun _ => ?_, fun h => absurd trivial h⟩
   have hG : HNew w0 p [L 2, L 3, L 4, L 7, L 8, L 9, L 10, L 11] [sl ax 9, sl ax 10, sl ax 11, sl ax 24, sl ax 14, sl ax 15, sl ax 16, sl ax 2] W := hf.glob
   have h1 := (row?_below _ _ _ hG.1 hb1).trans hrow
   refine freeI_run (v := .agg (pointA p)) rfl hf (by decide) ?_ rfl
   go_simp
  ·intro L ax W hf hLi hno hd
   simp [Region.binds] at hd
   have e7 : ax.tmps[7]?.getD undef = .agg (pointA p) := slv (hf.got 0 (by decide) (by simp [hd]))
   refine ⟨fun _ => ?_, fun h => absurd trivial h⟩
   have hG : HNew w0 p [L 2, L 3, L 4, L 7, L 8, L 9, L 10, L 11] [sl ax 9, sl ax 10, sl ax 11, sl ax 24, sl ax 14, sl ax 15, sl ax 16, sl ax 2] W := hf.glob
   have hbd := bld_new p W
   refine freeI_run (v := .agg (blkA p nx)) rfl hf (by decide) ?_ rfl
   go_simp
  ·intro L ax W hf hLi hno hd
   simp [Region.binds] at hd
   have e8 : ax.tmps[8]?.getD undef = .agg (blkA p nx) := slv (hf.got 1 (by decide) (by simp [hd]))
   refine ⟨fun _ => ?_, fun h => absurd trivial h⟩
   have hG : HNew w0 p [L 2, L 3, L 4, L 7, L 8, L 9, L 10, L 11] [sl ax 9, sl ax 10, sl ax 11, sl ax 24, sl ax 14, sl ax 15, sl ax 16, sl ax 2] W := hf.glob
   refine freeI_val (v := ptrV W.heap.size) (W' := W.alloc (.cells (blkA p nx) 168)) rfl ?_ ⟨_, rfl⟩ ?_
   ·unfold ptrV
    go_simp
   ·obtain ⟨hB, h0, h1, h2, h4, h5, h6, h7⟩ := hG.grow (bel_a W (.cells (blkA p nx) 168))
    exact ⟨hB, fun _ => ⟨W.heap.size, rfl, hG.1.size, heap_alloc_new W _⟩, fun h => by (have h' : L 3 = true := h; rw [hno 3 (by decide)] at h'; cases h'), h2, h4, h5, h6, h7⟩
  ·intro L ax W hf hLi hno hd
   simp [Region.binds] at hd
   have f9 : (fun v => ∃ b, v = ptrV b) (sl ax 9) := hf.got 2 (by decide) (by simp [hd])
   refine ⟨fun _ => ?_, fun h => absurd trivial h⟩
   have hG : HNew w0 p [L 2, L 3, L 4, L 7, L 8, L 9, L 10, L 11] [sl ax 9, sl ax 10, sl ax 11, sl ax 24, sl ax 14, sl ax 15, sl ax 16, sl ax 2] W := hf.glob
   obtain ⟨b, e9⟩ := f9
   have e9' := slv e9
   refine freeI_val (v := .slice (some ⟨W.heap.size, 0, none⟩) 1 1) (W' := W.alloc (.cells #[ptrV b] 166)) rfl ?_ ⟨_, rfl⟩ ?_
   ·have hbs := bsP_one b W
    unfold ptrV at e9' hbs ⊢
    go_simp
   ·obtain ⟨hB, h0, h1, h2, h4, h5, h6, h7⟩ := hG.grow (bel_a W (.cells #[ptrV b] 166))
    exact ⟨hB, h0, fun _ => ⟨b, W.heap.size, e9, rfl, hG.1.size, heap_alloc_new W _⟩, h2, h4, fun h => by (have h' : L 9 = true := h; rw [hno 9 (by decide)] at h'; cases h'), fun h => by (have h' : L 10 = true := h; rw [hno 10 (by decide)] at h'; cases h'), h7⟩
  ·intro L ax W hf hLi hno hd
   try simp [Region.binds] at hd
   refine ⟨fun _ => ?_, fun h => absurd trivial h⟩
   have hG : HNew w0 p [L 2, L 3, L 4, L 7, L 8, L 9, L 10, L 11] [sl ax 9, sl ax 10, sl ax 11, sl ax 24, sl ax 14, sl ax 15, sl ax 16, sl ax 2] W := hf.glob
   have hmm := run_makeMap (P := Try.prog) 116 W
   refine freeI_val (v := .map (some W.heap.size)) (W' := W.alloc (.map #[] 0)) rfl ?_ ⟨_, rfl⟩ ?_
   ·go_simp
   ·obtain ⟨hB, h0, h1, h2, h4, h5, h6, h7⟩ := hG.grow (bel_a W (.map #[] 0))
    have hx : L 7 = false := hno 7 (by decide)
    refine ⟨hB, h0, h1, fun _ => ⟨W.heap.size, rfl, hG.1.size, ?_⟩, fun h => by (have h' : L 8 = true := h; rw [hno 8 (by decide)] at h'; cases h'), fun h => by (have h' : L 9 = true := h; rw [hno 9 (by decide)] at h'; cases h'), fun h => by (have h' : L 10 = true := h; rw [hno 10 (by decide)] at h'; cases h'), h7⟩
    show MapHv _ _ (if L 7 then _ else [])
    rw [hx]
    exact MapHv.new W
  ·intro L ax W hf hLi hno hd
   try simp [Region.binds] at hd
   have e1 : ax.tmps[1]?.getD undef = .pointer (some ⟨b1, 0, none⟩) := hf.out 1 (by decide) rfl
   refine ⟨fun _ => ?_, fun h => absurd trivial h⟩
   refine freeI_run (v := .pointer (some ⟨b1, 1, none⟩)) rfl hf (by decide) ?_ rfl
   go_simp
  ·intro L ax W hf hLi hno hd
   simp [Region.binds] at hd
   have e12 : ax.tmps[12]?.getD undef = .pointer (some ⟨b1, 1, none⟩) := slv (hf.got 5 (by decide) (by simp [hd]))
   refine ⟨fun _ => ?_, fun h => absurd trivial h⟩
   have hG : HNew w0 p [L 2, L 3, L 4, L 7, L 8, L 9, L 10, L 11] [sl ax 9, sl ax 10, sl ax 11, sl ax 24, sl ax 14, sl ax 15, sl ax 16, sl ax 2] W := hf.glob
   have h1 := (row?_below _ _ _ hG.1 hb1).trans hrown
   refine freeI_run (v := .agg (hashA p.name)) rfl hf (by decide) ?_ rfl
   go_simp
  ·intro L ax W hf hLi hno hd
   simp [Region.binds] at hd
   have f11 : (fun v => ∃ m, v = .map (some m)) (sl ax 11) := hf.got 4 (by decide) (by simp [hd])
   have e13 : ax.tmps[13]?.getD undef = .agg (hashA p.name) := slv (hf.got 6 (by decide) (by simp [hd]))
   refine ⟨fun _ => ?_, fun h => absurd trivial h⟩
   have hG : HNew w0 p [L 2, L 3, L 4, L 7, L 8, L 9, L 10, L 11] [sl ax 9, sl ax 10, sl ax 11, sl ax 24, sl ax 14, sl ax 15, sl ax 16, sl ax 2] W := hf.glob
   obtain ⟨m0, e11⟩ := f11
   have e11' := slv e11
   have hl4 : L 4 = true := by simp [hd]
   obtain ⟨hB, h0, h1, h2, h4, h5, h6, h7⟩ := hG
   obtain ⟨m, em, hm, hM⟩ := h2 hl4
   have hM' : MapHv W m (if L 7 then [(p.name, .int .i64 0)] else []) := hM
   rw [hLi] at hM'
   obtain rfl : m0 = m := by
    have := e11.symm.trans em
    injection this with this
    injection this
   obtain ⟨W', hrun, hM2, hgr⟩ := insert_hv Try.underlying116 hM' p.name (.int .i64 0) (by simp)
   unfold hsV at hrun
   refine freeI_store (W' := W') rfl ?_ trivial ?_
   ·go_simp
   ·have hfar : ∀ (b : Nat) (cs : Array Value) (t : TypeId), W.heap[b]? = some (.cells cs t (0, 0)) → W'.heap[b]? = some (.cells cs t (0, 0)) := fun b cs t hb => by
     obtain ⟨es, ck, hmb, -⟩ := hM'
     refine (hgr.block b (Array.getElem?_eq_some_iff.1 hb).1 fun e => ?_).trans hb
     injection e with e
     subst e
     rw [hb] at hmb
     cases hmb
    refine ⟨hB.grown hgr hB.size fun k hk => by (injection hk with hk; omega), fun h => ?_, fun h => ?_, fun _ => ⟨m0, em, hm, hM2⟩, h4, h5, fun h => ?_, h7⟩
    ·obtain ⟨b, q1, q2, q3⟩ := h0 h
     exact ⟨b, q1, q2, hfar _ _ _ q3⟩
    ·obtain ⟨b, a, q1, q2, q3, q4⟩ := h1 h
     exact ⟨b, a, q1, q2, q3, hfar _ _ _ q4⟩
    ·obtain ⟨c, q1, q2, q3⟩ := h6 h
     exact ⟨c, q1, q2, hfar _ _ _ q3⟩
  ·intro L ax W hf hLi hno hd
   simp [Region.binds] at hd
   have f11 : (fun v => ∃ m, v = .map (some m)) (sl ax 11) := hf.got 4 (by decide) (by simp [hd])
   refine ⟨fun _ => ?_, fun h => absurd trivial h⟩
   have hG : HNew w0 p [L 2, L 3, L 4, L 7, L 8, L 9, L 10, L 11] [sl ax 9, sl ax 10, sl ax 11, sl ax 24, sl ax 14, sl ax 15, sl ax 16, sl ax 2] W := hf.glob
   obtain ⟨m, e11⟩ := f11
   have e11' := slv e11
   obtain ⟨hB, h0, h1, h2, h4, h5, h6, h7⟩ := hG
   refine freeI_val (v := .map (some m)) (W' := W) rfl ?_ ⟨m, rfl⟩ ?_
   ·go_simp
   ·exact ⟨hB, h0, h1, h2, fun _ => e11.symm, h5, h6, h7⟩
  ·intro L ax W hf hLi hno hd
   simp [Region.binds] at hd
   have f10 : (fun v => ∃ a, v = .slice (some ⟨a, 0, none⟩) 1 1) (sl ax 10) := hf.got 3 (by decide) (by simp [hd])
   have f14 : (fun v => ∃ m, v = .map (some m)) (sl ax 14) := hf.got 8 (by decide) (by simp [hd])
   refine ⟨fun _ => ?_, fun h => absurd trivial h⟩
   have hG : HNew w0 p [L 2, L 3, L 4, L 7, L 8, L 9, L 10, L 11] [sl ax 9, sl ax 10, sl ax 11, sl ax 24, sl ax 14, sl ax 15, sl ax 16, sl ax 2] W := hf.glob
   obtain ⟨a, e10⟩ := f10
   have e10' := slv e10
   obtain ⟨m, e14⟩ := f14
   have e14' := slv e14
   obtain ⟨hB, h0, h1, h2, h4, h5, h6, h7⟩ := hG
   have e11 := (h4 (by simp [hd])).symm.trans e14
   have hbd := bld_chain a m W
   refine freeI_val (v := .agg #[.slice (some ⟨a, 0, none⟩) 1 1, .map (some m)]) (W' := W) rfl ?_ ⟨a, m, rfl⟩ ?_
   ·go_simp
   ·refine ⟨hB, h0, h1, h2, h4, fun _ => ?_, h6, h7⟩
    show Value.agg _ = Value.agg #[sl ax 10, sl ax 11]
    rw [e10]
    exact congrArg (fun v => Value.agg #[_, v]) e11.symm
  ·intro L ax W hf hLi hno hd
   simp [Region.binds] at hd
   have f15 : (fun v => ∃ a m, v = .agg #[.slice (some ⟨a, 0, none⟩) 1 1, .map (some m)]) (sl ax 15) := hf.got 9 (by decide) (by simp [hd])
   refine ⟨fun _ => ?_, fun h => absurd trivial h⟩
   have hG : HNew w0 p [L 2, L 3, L 4, L 7, L 8, L 9, L 10, L 11] [sl ax 9, sl ax 10, sl ax 11, sl ax 24, sl ax 14, sl ax 15, sl ax 16, sl ax 2] W := hf.glob
   obtain ⟨a, m, e15⟩ := f15
   have e15' := slv e15
   refine freeI_val (v := ptrV W.heap.size) (W' := W.alloc (.cells #[.slice (some ⟨a, 0, none⟩) 1 1, .map (some m)] 118)) rfl ?_ ⟨_, rfl⟩ ?_
   ·unfold ptrV
    go_simp
   ·obtain ⟨hB, h0, h1, h2, h4, h5, h6, h7⟩ := hG.grow (bel_a W (.cells #[.slice (some ⟨a, 0, none⟩) 1 1, .map (some m)] 118))
    refine ⟨hB, h0, h1, h2, h4, h5, fun _ => ⟨W.heap.size, rfl, hG.1.size, ?_⟩, fun h => by (have h' : L 11 = true := h; rw [hno 11 (by decide)] at h'; cases h')⟩
    have e := e15.symm.trans (h5 (by simp [hd]))
    have e2 : (#[Value.slice (some ⟨a, 0, none⟩) 1 1, Value.map (some m)] : Array Value) = #[sl ax 10, sl ax 11] := by injection e
    show (W.alloc _).heap[W.heap.size]? = some (.cells #[sl ax 10, sl ax 11] _ _)
    rw [← e2]
    exact heap_alloc_new W _
  ·intro L ax W hf hLi hno hd
   simp [Region.binds] at hd
   have f16 : (fun v => ∃ c, v = ptrV c) (sl ax 16) := hf.got 10 (by decide) (by simp [hd])
   refine ⟨fun _ => ?_, fun h => absurd trivial h⟩
   have hG : HNew w0 p [L 2, L 3, L 4, L 7, L 8, L 9, L 10, L 11] [sl ax 9, sl ax 10, sl ax 11, sl ax 24, sl ax 14, sl ax 15, sl ax 16, sl ax 2] W := hf.glob
   obtain ⟨c, e16⟩ := f16
   have e16' := slv e16
   obtain ⟨hB, h0, h1, h2, h4, h5, h6, h7⟩ := hG
   refine freeI_val (v := ptrV c) (W' := W) rfl ?_ ⟨c, rfl⟩ ?_
   ·unfold ptrV at e16' ⊢
    go_simp
   ·exact ⟨hB, h0, h1, h2, h4, h5, h6, fun _ => e16.symm⟩
  ·intro L ax W hf hLi hno hd
   try simp [Region.binds] at hd
   refine ⟨fun _ => ?_, fun h => absurd trivial h⟩
   refine freeI_run (v := .int .i64 0) rfl hf (by decide) ?_ rfl
   go_simp
 ·intro vs W hl' hF hG
  obtain ⟨g', hg1, hg2⟩ := vs_litI vs hl' hF
  obtain ⟨hB, h0, h1, h2, h4, h5, h6, h7⟩ := hG
  obtain ⟨b, vb, hb, ob⟩ := h0 rfl
  obtain ⟨b', a, vb', va, ha, oa⟩ := h1 rfl
  obtain ⟨m, vm, hm, hM⟩ := h2 rfl
  obtain ⟨c, vc, hc, oc⟩ := h6 rfl
  have v7 := h7 rfl
  rw [hg1] at vb vb' va vm vc v7
  simp only [List.length_cons, List.length_nil, Nat.reduceAdd, List.map_cons, List.map_nil, show List.range 13 = [0, 1, 2, 3, 4, 5, 6, 7, 8, 9, 10, 11, 12] from rfl, List.getD_cons_zero, List.getD_cons_succ] at vb vb' va vm vc v7
  have e12 : g' 12 = .int .i64 0 := hg2 12 (by decide)
  have e11 : g' 11 = ptrV c := v7.trans vc
  obtain rfl : b' = b := by
   have := vb'.symm.trans vb
   unfold ptrV at this
   injection this with this
   injection this with this
   injection this
  have oc' : W.heap[c]? = some (.cells #[.slice (some ⟨a, 0, none⟩) 1 1, .map (some m)] 118 (0, 0)) := by
   rw [hg1] at oc
   simp only [List.length_cons, List.length_nil, Nat.reduceAdd, List.map_cons, List.map_nil, show List.range 13 = [0, 1, 2, 3, 4, 5, 6, 7, 8, 9, 10, 11, 12] from rfl, List.getD_cons_zero, List.getD_cons_succ] at oc
   rw [va, vm] at oc
   exact oc
  have hR : Hid (∃ T : Nat → Nat, ChR w.heap.size T W c (chNew p)) := Lib.hid (chnew_mem w.heap.size p (by have := hz0.out; omega) (by have := hz0.out; omega) (by have := hz0.out; omega) (by have := hz0.out; omega) (by have := hB.size; have := hz0.out; omega) ob oa hM oc')
  have hBf := Lib.hid (hB0.trans (hB.mono (by have := hz0.out; omega)))
  have hcw : w.heap.size ≤ c := by have := hz0.out; omega
  rw [hg1]
  simp only [List.length_cons, List.length_nil, Nat.reduceAdd, show List.range 13 = [0, 1, 2, 3, 4, 5, 6, 7, 8, 9, 10, 11, 12] from rfl, List.map_cons, List.map_nil, slotsIn, putL, List.setIfInBounds_toArray, List.set_cons_succ, List.set_cons_zero, e11, e12, List.size_toArray, Nat.reduceLT, if_true, if_false]
  clear hg1 hg2 hB h0 h1 h2 h4 h5 h6 h7 vb vb' va vm vc v7 e11 e12 ob oa hM oc oc' hF hl' hB0 hrow hrown hc0
  go_wp2_with fail
  go_ret2
  exact ⟨c, rfl, hcw, hR.out, hBf.out⟩
end Go.Proofs.Ythdjhbiigmcecaa

/- landmarkref10.New. -/
namespace Go.Proofs.Ythdjhbiigmcecaa
open Go.RowKit

attribute [simp] rblkA_size
def bldR (parts : Array (Nat × Value)) : Sem Value := Instr.build 71 parts
theorem fold_bldR (parts : Array (Nat × Value)) : Instr.build 71 parts = bldR parts := rfl
theorem zero_rblk : Try.zeroCells71 = rblkA zeroPt zeroG3 (some 0) := by kernel_rfl
theorem rblk_head (p q : Pt) (g : GHeader) (o : Option Nat) : pointA p ++ (rblkA q g o).extract 33 68 = rblkA p g o := by
 simp [rblkA, Array.extract_append, ext_self, ext_none]
theorem rblk_set (p : Pt) (g : GHeader) (o q : Option Nat) : (rblkA p g o).setIfInBounds 67 (.int .i64 (parI q)) = rblkA p g q := by
 unfold rblkA
 rw [Array.setIfInBounds_append_right (by simp)]
 simp
theorem rblk_hdr (p : Pt) (g g' : GHeader) (o : Option Nat) : splice (rblkA p g o) 33 (headerA g') = rblkA p g' o := by
 simp [splice, rblkA, Array.extract_append, ext_self, ext_none]
theorem bldr_new (p : Pt) (W : World) : (bldR #[(0, .agg (pointA p)), (2, .int .i64 (-1))]).run Try.prog W = .ok (.agg (rblkA p zeroG3 none)) W := by
 unfold bldR
 go_simp
 rw [zero_rblk, fold0_splice _ _ 33 (by simp) (by simp), splice_zero_head _ _ 33 (by simp) (by simp), rblkA_size, rblk_head p zeroPt]
 rw [if_neg (by simp), show (Value.int .i64 (-1)) = .int .i64 (parI none) from rfl, rblk_set]
 rfl
theorem bldr_blk (p : Pt) (g : GHeader) (o : Option Nat) (W : World) : (bldR #[(0, .agg (pointA p)), (1, .agg (headerA g)), (2, .int .i64 (parI o))]).run Try.prog W = .ok (.agg (rblkA p g o)) W := by
 unfold bldR
 go_simp
 rw [zero_rblk, fold0_splice _ _ 33 (by simp) (by simp), splice_zero_head _ _ 33 (by simp) (by simp), rblkA_size, rblk_head p zeroPt, fold_splice _ _ 33 34 (by simp) (by simp), rblk_hdr, if_neg (by simp), if_neg (by simp), rblk_set]
 rfl
theorem info_rblk : (Try.prog.info? 71).map (fun i => (i.zero, i.size, i.bytes)) = some (some (.agg (rblkA zeroPt zeroG3 (some 0))), 68, 112) := by kernel_rfl
def bsR (parts : Array (Nat × Value)) : Sem Value := Instr.buildSlice 67 1 parts
theorem fold_bsR (parts : Array (Nat × Value)) : Instr.buildSlice 67 1 parts = bsR parts := rfl
theorem bsR_one (xs : Array Value) (h : xs.size = 68) (w : World) : (bsR #[(0, .agg xs)]).run Try.prog w = .ok (.slice (some ⟨w.heap.size, 0, none⟩) 1 1) (w.alloc (.cells xs 71)) := by
 obtain ⟨i0, hi, hy0, hy1, hy2⟩ := info_parts info_rblk
 exact run_buildSlice_one w Try.underlying67 hi hy0 hy1 (by simp [Value.cells]) (by omega) (by omega) _ h
attribute [local go_sem ↓] fold_bldR fold_bsR
set_option maxRecDepth 100000 in
set_option maxHeartbeats 1600000 in
theorem rnew_c (w0 W : World) (hB : Below w0.heap.size w0 W) (p : Pt) : Calls Try.prog 33 #[.agg (pointA p)] W fun e w' => ∃ cb rb, e = .returned (ptrV cb) ∧ W.heap.size ≤ cb ∧ W.heap.size ≤ rb ∧ RefC w0 w' cb rb 1 [zeroG3] (chNew p) ∧ Below W.heap.size W w' := by
 have hB0 : Below W.heap.size W (W.alloc (.cells (pointA p) 26)) := bel_a _ _
 have hz0 : (W.alloc (.cells (pointA p) 26)).heap.size = W.heap.size + 1 := by simp
 have hrow : row? (W.alloc (.cells (pointA p) 26)) W.heap.size 0 33 = some (pointA p) := by rw [row?_new]; simp
 have hbl := bldr_new p
 have hbs := bsR_one (rblkA p zeroG3 none) (rblkA_size _ _ _)
 have hzW := hB.size
 go_enter Try.func33, Try.ntmps33
 go_upto_region 1 with fail
 generalize W.alloc (.cells (pointA p) 26) = w1 at *
 replace hz0 := Lib.hid hz0
 go_wp2_with fail
 have hz := hz0.out
 have h1 : (w1.alloc (.cells (rblkA p zeroG3 none) 71)).heap.size = w1.heap.size + 1 := by simp
 have hBa : Below W.heap.size W ((w1.alloc (.cells (rblkA p zeroG3 none) 71)).alloc (.cells #[.slice (some ⟨w1.heap.size, 0, none⟩) 1 1] 69)) := hB0.trans (((bel_a w1 _).trans ((bel_a _ _).mono (by omega))).mono (by omega))
 have o1 := heap_alloc_new w1 (.cells (rblkA p zeroG3 none) 71)
 have o2 := heap_alloc_new (w1.alloc (.cells (rblkA p zeroG3 none) 71)) (.cells #[.slice (some ⟨w1.heap.size, 0, none⟩) 1 1] 69)
 rw [h1] at o2
 have o3 := ((Below.heap_alloc (w1.alloc (.cells (rblkA p zeroG3 none) 71)) (.cells #[.slice (some ⟨w1.heap.size, 0, none⟩) 1 1] 69)) w1.heap.size (by omega)).trans o1
 have hsz2 : ((w1.alloc (.cells (rblkA p zeroG3 none) 71)).alloc (.cells #[.slice (some ⟨w1.heap.size, 0, none⟩) 1 1] 69)).heap.size = w1.heap.size + 2 := by simp
 have hfin : RefC w0 ((w1.alloc (.cells (rblkA p zeroG3 none) 71)).alloc (.cells #[.slice (some ⟨w1.heap.size, 0, none⟩) 1 1] 69)) (w1.heap.size + 1) w1.heap.size 1 [zeroG3] (chNew p) := by
  refine ⟨hB.trans (hBa.mono hzW), by omega, by omega, by omega, o2, by omega, Nat.le_refl _, rfl, fun i x b hx hb => ?_⟩
  have hi : i = 0 := by
   have := (List.getElem?_eq_some_iff.1 hx).1
   simpa using this
  subst hi
  simp only [List.getElem?_cons_zero, Option.some.injEq, chNew] at hx hb
  subst hx hb
  exact ⟨rowHeap o3 (by simp), rfl, rfl, SlR.nil _ _ _ _ _⟩
 have hfin' := Lib.hid hfin
 have hBa' := Lib.hid hBa
 clear hfin hBa o1 o2 o3
 go_ret
 exact ⟨w1.heap.size + 1, w1.heap.size, by unfold ptrV; simp, by omega, by omega, hfin'.out, hBa'.out⟩
end Go.Proofs.Ythdjhbiigmcecaa

/- Contracts of package landmarkref10: numbers, checkpoints, votes. -/
namespace Go.Proofs.Ythdjhbiigmcecaa
open Go.RowKit

set_option maxRecDepth 100000 in
set_option maxHeartbeats 800000 in
theorem tnum_c (size n : Nat) (w : World) (hs0 : 1 ≤ size) (hs : size ≤ 8) (hn : n < 18446744073709551616) :
  Calls Try.prog 187 #[.int .u64 n, .int .i64 size] w fun e w' => ∃ v, e = .returned v ∧ Own w' w.heap.size v (be size n) ∧ Below w.heap.size w w' := by
 obtain ⟨i0, hi, hy0, hy1, hy2⟩ := info_parts info_u8
 have hlen := be_length size n
 go_enter Try.func187, Try.ntmps187
 go_wp2_with fail
 go_loopw [5, 6] (fun u i w' => ∃ j : Nat, j ≤ size ∧ Own w' w.heap.size u ((be size n).take j) ∧ i = .int .i64 ((size : Int) - 1 - j) ∧ Below w.heap.size w w') (fun _ i _ => (intOf i + 1).toNat)
 case atStart => exact ⟨0, Nat.zero_le _, Own.nil _ _, by simp, Below.refl _ _⟩
 case round =>
  obtain ⟨j, hj, hown, rfl, hB⟩ := hrel
  have hz := hB.size
  by_cases hlt : j < size
  ·have hts := be_take_succ size n j hlt
   have hbv := byteV_div n (256 ^ (size - 1 - j))
   have htl : ((be size n).take j).length + 1 ≤ 140737488355328 := by simp; omega
   have Hts := Lib.hid hts
   have Hbv := Lib.hid hbv
   have Hown := Lib.hid hown
   clear hts hbv hown
   obtain ⟨q, hq⟩ : ∃ q : Nat, q = size - 1 - j := ⟨_, rfl⟩
   have hqi : (size : Int) - 1 - (j : Int) = (q : Int) := by omega
   have hq7 : q ≤ 7 := by omega
   rw [hqi]
   rw [← hq] at Hbv
   have Hbv2 := Lib.hid (show byteV (UInt8.ofNat (n / 256 ^ q)) = .int .u8 ((n : Int) / 2 ^ (8 * q) % 256) from by
    rw [Hbv.out, show (256 : Nat) ^ q = 2 ^ (8 * q) from by rw [Nat.pow_mul]]
    simp)
   have Hts2 := Lib.hid (show (be size n).take (j + 1) = (be size n).take j ++ [UInt8.ofNat (n / 256 ^ q)] from by rw [hq]; exact Hts.out)
   have hqj : (q : Int) - 1 = (size : Int) - 1 - ((j + 1 : Nat) : Int) := by omega
   clear Hbv Hts hqi
   replace hq := Lib.hid hq
   replace hqj := Lib.hid hqj
   go_wp2_with (at_builtin; refine wpList_append_bytes _ rfl (.tmp 13) (.tmp 20) _ (by rfl) w.heap.size 5 i0 _ Try.underlying32 hi hy0 hy1 hy2 rfl _ _ (by rfl) (Hown.out.keep (bel_a _ _)) ⟨some ⟨_, 0, none⟩, 1, 1⟩ [UInt8.ofNat (n / 256 ^ q)] (by rfl) (BytesR.one _ _ _ _ _ rfl Hbv2.out) htl (by simp; omega) ?_; intro v' w2 hown2 hg2 _)
   have hB2 : Below w.heap.size w w2 := bel_grown hg2 (hB.trans ((bel_a _ _).mono hz)) (by simp; omega) (fun k hk => (Hown.out.lt k hk).1)
   go_roundw
   case rel => exact ⟨j + 1, by omega, by rw [Hts2.out]; exact hown2, by rw [← hqj.out], hB2⟩
   case measure =>
    have := hq.out
    first | (simp [intOf]; done) | (simp [intOf]; omega)
  ·have hfl : (be size n).take j = be size n := by rw [List.take_of_length_le (by omega)]
   rw [hfl] at hown
   clear hfl
   go_wp2_with fail
   go_ret
   exact ⟨_, rfl, hown, hB⟩
set_option maxRecDepth 100000 in
set_option maxHeartbeats 800000 in
theorem tpoint_c (p : Pt) (w : World) : Calls Try.prog 210 #[.agg (pointA p)] w fun e w' => ∃ v, e = .returned v ∧ Own w' w.heap.size v (ptBytes p) ∧ Below w.heap.size w w' := by
 obtain ⟨i0, hi, hz0, hz1, hz2⟩ := info_parts info_u8
 have hn := p.epoch.toNat_lt
 have HC := fun W => tnum_c 8 p.epoch.toNat W (by omega) (by omega) (by omega)
 clear hn
 go_enter Try.func210, Try.ntmps210
 go_wp2_with fail
 go_region_held3 (fun w' => w'.cell? ⟨w.heap.size, 0, none⟩ = some (.int .u64 (p.epoch.toNat : Int)))
  (first | go_keep | (rw [k1 _ _ (by simp)]; simp) | (rw [hb2.cell (p := ⟨w.heap.size, 0, none⟩) (by simp)]; simp))
  (first
   | (go_simp; go_at_call 187; refine (HC _).mono ?_; clear HC; rintro e w1 ⟨v, rfl, ho, hb⟩; obtain ⟨k1, k2, k3⟩ := kept hb)
   | (refine step_append_bytes _ (by rfl) (.tmp 5) (.tmp 7) _ (by rfl) w.heap.size 5 i0 _ Try.underlying32 hi hz0 hz1 hz2 rfl v (be 8 p.epoch.toNat) (by rfl) (ho.more (by simp)) ⟨some ⟨w.heap.size, 1, none⟩, 32, 32⟩ p.name.1 (by rfl) (name_reads (off := 0) (by rw [k3 _ _ _ (by simp)]; simp [row?_drew, row?_new, ext_self]) 32 (Nat.le_refl _)) (by simp [be_length, p.name.2]) (by have := hb.size; simp at this; omega) ?_; intro v' w2 hown hg _; have hb2 := bel_grown hg hb hb.size (fun k hk => (ho.lt k hk).1)))
 go_wp2_with fail
 go_ret
 exact ⟨v', rfl, hown, by (repeat' (first | (with_reducible first | exact Below.refl _ _ | assumption | refine bel_trans (by assumption) ?_ ?_ | refine bel_grown (by assumption) ?_ ?_ ?_ | refine Below.alloc ?_ ?_ _ | refine Below.drew ?_ | refine below_drewN ?_ _ | refine Below.setCell ?_ ?_ _ | refine below_put ?_ ?_ _ _ | exact Nat.le_refl _) | omega | (with_reducible first | refine Nat.le_trans ?_ (Below.size (by assumption)) | refine Nat.le_trans ?_ (World.grownBy.size (by assumption))) | (simp only [World.size_alloc, World.size_setCell, World.size_drew, size_drewN]; omega) | (simp only [World.size_alloc, World.size_setCell, World.size_drew, size_drewN, size_put]; omega) | (intro k hk; simp [Value.ownBlock] at hk; first | done | omega) | (simp [size_drewN] at *; omega)))⟩
end Go.Proofs.Ythdjhbiigmcecaa

/- Appends of bytes in a row, in a region that draws its order: what is appended is made in any order. -/
namespace Go.Proofs.Ythdjhbiigmcecaa
open Go.RowKit

def appB (args : Array Value) : Sem Value := Builtin.append_ #[32, 32] 32 args
theorem fold_appB (args : Array Value) : Builtin.append_ #[32, 32] 32 args = appB args := rfl
theorem run_appB {W : World} {E : Nat} {s : Sl} {l : List UInt8} (h : Own W E s.v l) (hE : E ≤ W.heap.size) {t : Sl} {m : List UInt8} (ht : BytesR W t m) (hl : l.length + m.length ≤ 140737488355328) :
  ∃ (s' : Sl) (W' : World), (appB #[s.v, t.v]).run Try.prog W = .ok s'.v W' ∧ Own W' E s'.v (l ++ m) ∧ W.grownBy W' s.v.ownBlock ∧ (s'.v.ownBlock = s.v.ownBlock ∨ s'.v.ownBlock = some W.heap.size) := by
 obtain ⟨i0, hi, hy0, hy1, hy2⟩ := info_parts info_u8
 obtain ⟨v', W', h1, h2, h3, h4⟩ := run_append_ownC (P := Try.prog) W E 32 32 32 5 i0 _ 1 1 Try.underlying32 hi hy0 hy1 hy2 (by simp [Value.cells]) s.v l.length (l.map byteV) h t.v m.length (m.map byteV) (ht.src Try.underlying32) (by simp only [maxLen]; omega) (by omega) hE
 have h2' : Own W' E v' (l ++ m) := by
  unfold Own
  rw [List.length_append, List.map_append]
  exact h2
 obtain ⟨s', rfl⟩ := h2'.slice
 exact ⟨s', W', h1, h2', h3, h4⟩
theorem row?_of_block {w w' : World} {b off n : Nat} (h : w'.heap[b]? = w.heap[b]?) : row? w' b off n = row? w b off n := by simp [row?, h]
theorem BytesR.keepR {w w' : World} {s : Sl} {l : List UInt8} {row : Option Nat} (h : BytesR w s l) (hg : w.grownBy w' row) (hne : l ≠ [] → ∀ b off, s.a = some ⟨b, off, none⟩ → row ≠ some b) : BytesR w' s l :=
 ⟨h.1, h.2.1, fun hl => by
  obtain ⟨b, off, ha, hc⟩ := h.2.2 hl
  refine ⟨b, off, ha, fun i hi => ?_⟩
  have h1 := hg.block b (lt_of_cell (hc i hi)) (hne hl b off ha).symm
  have h2 := hc i hi
  unfold World.cell? at h2 ⊢
  rw [h1]
  exact h2⟩
/-- a row of bytes that grows (cur, which holds cb), and what is to be appended to it: whether it is made, where, its bytes -/
structure AppS (E : Nat) (W0 : World) (c0 : Value) (w : World) (cur : Value) (cb : List UInt8) (srcs : List (Bool × Value × List UInt8)) : Prop where
 bel : Below E W0 w
 hE : E ≤ W0.heap.size
 far : W0.grownBy w c0.ownBlock
 orig : ∀ g, cur.ownBlock = some g → c0.ownBlock = some g ∨ W0.heap.size ≤ g
 own : ∃ s : Sl, cur = s.v ∧ Own w E s.v cb
 src : ∀ x ∈ srcs, x.1 = true → ∃ s : Sl, x.2.1 = s.v ∧ BytesR w s x.2.2 ∧ (x.2.2 ≠ [] → ∀ b off, s.a = some ⟨b, off, none⟩ → cur.ownBlock ≠ some b ∧ b < w.heap.size)
section
variable {E : Nat} {W0 w w' : World} {c0 cur : Value} {cb : List UInt8} {srcs : List (Bool × Value × List UInt8)}
theorem AppS.size (h : AppS E W0 c0 w cur cb srcs) : E ≤ w.heap.size := Nat.le_trans h.hE h.bel.size
theorem AppS.grow (h : AppS E W0 c0 w cur cb srcs) (hb : Below w.heap.size w w') : AppS E W0 c0 w' cur cb srcs := by
 refine ⟨h.bel.trans (hb.mono h.size), h.hE, ⟨hb.os.trans h.far.os, hb.tape.trans h.far.tape, hb.output.trans h.far.output, Nat.le_trans h.far.size hb.size, fun k hk hn => (hb.block k (Nat.lt_of_lt_of_le hk h.far.size)).trans (h.far.block k hk hn)⟩, h.orig, ?_, fun x hx hx1 => ?_⟩
 ·obtain ⟨s, q1, q2⟩ := h.own
  exact ⟨s, q1, q2.keep hb⟩
 ·obtain ⟨s, q1, q2, q3⟩ := h.src x hx hx1
  exact ⟨s, q1, q2.keep hb, fun hn b off e => ⟨(q3 hn b off e).1, Nat.lt_of_lt_of_le (q3 hn b off e).2 hb.size⟩⟩
theorem AppS.put {a b : List (Bool × Value × List UInt8)} {x : Bool × Value × List UInt8} (h : AppS E W0 c0 w cur cb (a ++ x :: b)) {s : Sl} {m : List UInt8} (ho : BytesR w s m) (hs : m ≠ [] → ∀ b off, s.a = some ⟨b, off, none⟩ → cur.ownBlock ≠ some b ∧ b < w.heap.size) : AppS E W0 c0 w cur cb (a ++ (true, s.v, m) :: b) := by
 refine ⟨h.bel, h.hE, h.far, h.orig, h.own, fun y hy hy1 => ?_⟩
 rcases List.mem_append.1 hy with hy | hy
 ·exact h.src y (List.mem_append_left _ hy) hy1
 ·rcases List.mem_cons.1 hy with rfl | hy
  ·exact ⟨s, rfl, ho, hs⟩
  ·exact h.src y (List.mem_append_right _ (List.mem_cons_of_mem _ hy)) hy1
/-- one more is made -/
theorem AppS.made {a b : List (Bool × Value × List UInt8)} {x : Bool × Value × List UInt8} (h : AppS E W0 c0 w cur cb (a ++ x :: b)) (hb : Below w.heap.size w w') {s : Sl} {m : List UInt8} (ho : Own w' w.heap.size s.v m) : AppS E W0 c0 w' cur cb (a ++ (true, s.v, m) :: b) := by
 refine (h.grow hb).put ho.reads fun _ g off e => ?_
 have hs : s.v.ownBlock = some g := by
  obtain ⟨sa, sn, sc⟩ := s
  simp only at e
  subst e
  rfl
 have h2 := OwnC.lt ho g hs
 refine ⟨fun hgc => ?_, h2.2⟩
 obtain ⟨s0, q1, q2⟩ := h.own
 subst q1
 have h1 := (OwnC.lt q2 g hgc).2
 omega
/-- one more is there: bytes that are read, in memory that was there, apart from the row's -/
theorem AppS.read {a b : List (Bool × Value × List UInt8)} {x : Bool × Value × List UInt8} (h : AppS E W0 c0 w cur cb (a ++ x :: b)) {s : Sl} {m : List UInt8} (ho : BytesR w s m) (hs : m ≠ [] → ∀ g off, s.a = some ⟨g, off, none⟩ → g < W0.heap.size ∧ c0.ownBlock ≠ some g) : AppS E W0 c0 w cur cb (a ++ (true, s.v, m) :: b) := by
 refine h.put ho fun hn g off e => ⟨fun hgc => ?_, Nat.lt_of_lt_of_le (hs hn g off e).1 h.far.size⟩
 have h2 := hs hn g off e
 rcases h.orig g hgc with q | q
 ·exact h2.2 q
 ·omega
/-- an append of bytes that are read -/
theorem AppS.app (h : AppS E W0 c0 w cur cb srcs) {t : Sl} {m : List UInt8} (ht : BytesR w t m) (hl : cb.length + m.length ≤ 140737488355328) : ∃ (s' : Sl) (w' : World), (appB #[cur, t.v]).run Try.prog w = .ok s'.v w' ∧ AppS E W0 c0 w' s'.v (cb ++ m) srcs := by
 obtain ⟨s, rfl, ho⟩ := h.own
 obtain ⟨s', w', h1, h2, h3, h4⟩ := run_appB ho h.size ht hl
 refine ⟨s', w', h1, ⟨h.bel.grown h3 h.size fun k hk => (OwnC.lt ho k hk).1, h.hE, ⟨h3.os.trans h.far.os, h3.tape.trans h.far.tape, h3.output.trans h.far.output, Nat.le_trans h.far.size h3.size, fun k hk hn => (h3.block k (Nat.lt_of_lt_of_le hk h.far.size) fun e => ?_).trans (h.far.block k hk hn)⟩, fun g hg => ?_, ⟨s', rfl, h2⟩, fun x hx hx1 => ?_⟩⟩
 ·rcases h.orig k e.symm with q | q
  ·exact hn q.symm
  ·omega
 ·rcases h4 with h4 | h4
  ·rw [h4] at hg
   exact h.orig g hg
  ·rw [h4] at hg
   injection hg with hg
   have := h.far.size
   omega
 obtain ⟨sx, q1, q2, q3⟩ := h.src x hx hx1
 refine ⟨sx, q1, q2.keepR h3 fun hn b off e => (q3 hn b off e).1, fun hn g off e => ?_⟩
 have hlt := (q3 hn g off e).2
 refine ⟨fun hg => ?_, Nat.lt_of_lt_of_le hlt h3.size⟩
 rcases h4 with h4 | h4
 ·rw [h4] at hg
  exact (q3 hn g off e).1 hg
 ·rw [h4] at hg
  injection hg with hg
  omega
end
/-- two appends: which sources are there, which appends are done -/
structure AppI (E : Nat) (W0 : World) (c0 : Value) (m0 m1 m2 : List UInt8) (L : List Bool) (V : List Value) (w : World) : Prop where
 s : AppS E W0 c0 w (if L.getD 3 false then V.getD 3 undef else if L.getD 1 false then V.getD 1 undef else c0) (if L.getD 3 false then m0 ++ m1 ++ m2 else if L.getD 1 false then m0 ++ m1 else m0) [(L.getD 0 false, V.getD 0 undef, m1), (L.getD 2 false, V.getD 2 undef, m2)]
 d : L.getD 4 false = true → V.getD 4 undef = V.getD 3 undef
section
variable {E : Nat} {W0 w w' : World} {c0 : Value} {m0 m1 m2 : List UInt8} {l0 l1 l2 l3 l4 : Bool} {v0 v1 v2 v3 v4 : Value}
theorem AppI.zero {c : Sl} (hE : E ≤ W0.heap.size) (ho : Own W0 E c.v m0) (V : List Value) : AppI E W0 c.v m0 m1 m2 [false, false, false, false, false] V W0.drew :=
 ⟨⟨(Below.refl _ _).drew, hE, ⟨rfl, rfl, rfl, Nat.le_refl _, fun _ _ _ => rfl⟩, fun g hg => .inl hg, ⟨c, rfl, ho.keep (Below.refl _ _).drew⟩, fun x hx hx1 => by
  simp at hx
  rcases hx with rfl | rfl <;> cases hx1⟩, fun q => (by cases q)⟩
theorem AppI.bel (h : AppI E W0 c0 m0 m1 m2 [l0, l1, l2, l3, l4] [v0, v1, v2, v3, v4] w) : Below E W0 w := h.s.bel
theorem AppI.far (h : AppI E W0 c0 m0 m1 m2 [l0, l1, l2, l3, l4] [v0, v1, v2, v3, v4] w) : W0.grownBy w c0.ownBlock := h.s.far
theorem AppI.o1 (h : AppI E W0 c0 m0 m1 m2 [l0, l1, l2, l3, l4] [v0, v1, v2, v3, v4] w) (hb : Below w.heap.size w w') {s : Sl} (ho : Own w' w.heap.size s.v m1) : AppI E W0 c0 m0 m1 m2 [true, l1, l2, l3, l4] [s.v, v1, v2, v3, v4] w' :=
 ⟨h.s.made (a := []) hb ho, h.d⟩
theorem AppI.r1 (h : AppI E W0 c0 m0 m1 m2 [l0, l1, l2, l3, l4] [v0, v1, v2, v3, v4] w) {s : Sl} (ho : BytesR w s m1) (hs : m1 ≠ [] → ∀ g off, s.a = some ⟨g, off, none⟩ → g < W0.heap.size ∧ c0.ownBlock ≠ some g) : AppI E W0 c0 m0 m1 m2 [true, l1, l2, l3, l4] [s.v, v1, v2, v3, v4] w :=
 ⟨h.s.read (a := []) ho hs, h.d⟩
theorem AppI.o2 (h : AppI E W0 c0 m0 m1 m2 [l0, l1, l2, l3, l4] [v0, v1, v2, v3, v4] w) (hb : Below w.heap.size w w') {s : Sl} (ho : Own w' w.heap.size s.v m2) : AppI E W0 c0 m0 m1 m2 [l0, l1, true, l3, l4] [v0, v1, s.v, v3, v4] w' :=
 ⟨h.s.made (a := [(l0, v0, m1)]) hb ho, h.d⟩
theorem AppI.r2 (h : AppI E W0 c0 m0 m1 m2 [l0, l1, l2, l3, l4] [v0, v1, v2, v3, v4] w) {s : Sl} (ho : BytesR w s m2) (hs : m2 ≠ [] → ∀ g off, s.a = some ⟨g, off, none⟩ → g < W0.heap.size ∧ c0.ownBlock ≠ some g) : AppI E W0 c0 m0 m1 m2 [l0, l1, true, l3, l4] [v0, v1, s.v, v3, v4] w :=
 ⟨h.s.read (a := [(l0, v0, m1)]) ho hs, h.d⟩
theorem AppI.a1 (h : AppI E W0 c0 m0 m1 m2 [l0, l1, l2, l3, l4] [v0, v1, v2, v3, v4] w) (h0 : l0 = true) (h1 : l1 = false) (h3 : l3 = false) (h4 : l4 = false) (hl : (m0).length + m1.length ≤ 140737488355328) :
  ∃ (s' : Sl) (w' : World), (appB #[c0, v0]).run Try.prog w = .ok s'.v w' ∧ AppI E W0 c0 m0 m1 m2 [l0, true, l2, l3, l4] [v0, s'.v, v2, v3, v4] w' := by
 subst h0 h1 h3 h4
 obtain ⟨t, e, ht, -⟩ := h.s.src (true, v0, m1) (List.mem_cons_self ..) rfl
 have e' : v0 = t.v := e
 subst e'
 obtain ⟨s', w', q1, q2⟩ := h.s.app ht hl
 exact ⟨s', w', q1, q2, fun q => (by cases q)⟩
theorem AppI.a2 (h : AppI E W0 c0 m0 m1 m2 [l0, l1, l2, l3, l4] [v0, v1, v2, v3, v4] w) (h2 : l2 = true) (h1 : l1 = true) (h3 : l3 = false) (h4 : l4 = false) (hl : (m0 ++ m1).length + m2.length ≤ 140737488355328) :
  ∃ (s' : Sl) (w' : World), (appB #[v1, v2]).run Try.prog w = .ok s'.v w' ∧ AppI E W0 c0 m0 m1 m2 [l0, l1, l2, true, l4] [v0, v1, v2, s'.v, v4] w' := by
 subst h2 h1 h3 h4
 obtain ⟨t, e, ht, -⟩ := h.s.src (true, v2, m2) (List.mem_cons_of_mem _ (List.mem_cons_self ..)) rfl
 have e' : v2 = t.v := e
 subst e'
 obtain ⟨s', w', q1, q2⟩ := h.s.app ht hl
 exact ⟨s', w', q1, q2, fun q => (by cases q)⟩
theorem AppI.fin (h : AppI E W0 c0 m0 m1 m2 [l0, l1, l2, l3, l4] [v0, v1, v2, v3, v4] w) : AppI E W0 c0 m0 m1 m2 [l0, l1, l2, l3, true] [v0, v1, v2, v3, v3] w := ⟨h.s, fun _ => rfl⟩
theorem AppI.out (h : AppI E W0 c0 m0 m1 m2 [true, true, true, true, true] [v0, v1, v2, v3, v4] w) : v4 = v3 ∧ ∃ s : Sl, v3 = s.v ∧ Own w E s.v (m0 ++ m1 ++ m2) := ⟨h.d rfl, h.s.own⟩
end
/-- three appends -/
structure AppJ (E : Nat) (W0 : World) (c0 : Value) (m0 m1 m2 m3 : List UInt8) (L : List Bool) (V : List Value) (w : World) : Prop where
 s : AppS E W0 c0 w (if L.getD 5 false then V.getD 5 undef else if L.getD 3 false then V.getD 3 undef else if L.getD 1 false then V.getD 1 undef else c0) (if L.getD 5 false then m0 ++ m1 ++ m2 ++ m3 else if L.getD 3 false then m0 ++ m1 ++ m2 else if L.getD 1 false then m0 ++ m1 else m0) [(L.getD 0 false, V.getD 0 undef, m1), (L.getD 2 false, V.getD 2 undef, m2), (L.getD 4 false, V.getD 4 undef, m3)]
 d : L.getD 6 false = true → V.getD 6 undef = V.getD 5 undef
section
variable {E : Nat} {W0 w w' : World} {c0 : Value} {m0 m1 m2 m3 : List UInt8} {l0 l1 l2 l3 l4 l5 l6 : Bool} {v0 v1 v2 v3 v4 v5 v6 : Value}
theorem AppJ.zero {c : Sl} (hE : E ≤ W0.heap.size) (ho : Own W0 E c.v m0) (V : List Value) : AppJ E W0 c.v m0 m1 m2 m3 [false, false, false, false, false, false, false] V W0.drew :=
 ⟨⟨(Below.refl _ _).drew, hE, ⟨rfl, rfl, rfl, Nat.le_refl _, fun _ _ _ => rfl⟩, fun g hg => .inl hg, ⟨c, rfl, ho.keep (Below.refl _ _).drew⟩, fun x hx hx1 => by
  simp at hx
  rcases hx with rfl | rfl | rfl <;> cases hx1⟩, fun q => (by cases q)⟩
theorem AppJ.bel (h : AppJ E W0 c0 m0 m1 m2 m3 [l0, l1, l2, l3, l4, l5, l6] [v0, v1, v2, v3, v4, v5, v6] w) : Below E W0 w := h.s.bel
theorem AppJ.far (h : AppJ E W0 c0 m0 m1 m2 m3 [l0, l1, l2, l3, l4, l5, l6] [v0, v1, v2, v3, v4, v5, v6] w) : W0.grownBy w c0.ownBlock := h.s.far
theorem AppJ.o1 (h : AppJ E W0 c0 m0 m1 m2 m3 [l0, l1, l2, l3, l4, l5, l6] [v0, v1, v2, v3, v4, v5, v6] w) (hb : Below w.heap.size w w') {s : Sl} (ho : Own w' w.heap.size s.v m1) : AppJ E W0 c0 m0 m1 m2 m3 [true, l1, l2, l3, l4, l5, l6] [s.v, v1, v2, v3, v4, v5, v6] w' :=
 ⟨h.s.made (a := []) hb ho, h.d⟩
theorem AppJ.o2 (h : AppJ E W0 c0 m0 m1 m2 m3 [l0, l1, l2, l3, l4, l5, l6] [v0, v1, v2, v3, v4, v5, v6] w) (hb : Below w.heap.size w w') {s : Sl} (ho : Own w' w.heap.size s.v m2) : AppJ E W0 c0 m0 m1 m2 m3 [l0, l1, true, l3, l4, l5, l6] [v0, v1, s.v, v3, v4, v5, v6] w' :=
 ⟨h.s.made (a := [(l0, v0, m1)]) hb ho, h.d⟩
theorem AppJ.o3 (h : AppJ E W0 c0 m0 m1 m2 m3 [l0, l1, l2, l3, l4, l5, l6] [v0, v1, v2, v3, v4, v5, v6] w) (hb : Below w.heap.size w w') {s : Sl} (ho : Own w' w.heap.size s.v m3) : AppJ E W0 c0 m0 m1 m2 m3 [l0, l1, l2, l3, true, l5, l6] [v0, v1, v2, v3, s.v, v5, v6] w' :=
 ⟨h.s.made (a := [(l0, v0, m1), (l2, v2, m2)]) hb ho, h.d⟩
theorem AppJ.a1 (h : AppJ E W0 c0 m0 m1 m2 m3 [l0, l1, l2, l3, l4, l5, l6] [v0, v1, v2, v3, v4, v5, v6] w) (h0 : l0 = true) (h1 : l1 = false) (h3 : l3 = false) (h5 : l5 = false) (h6 : l6 = false) (hl : (m0).length + m1.length ≤ 140737488355328) :
  ∃ (s' : Sl) (w' : World), (appB #[c0, v0]).run Try.prog w = .ok s'.v w' ∧ AppJ E W0 c0 m0 m1 m2 m3 [l0, true, l2, l3, l4, l5, l6] [v0, s'.v, v2, v3, v4, v5, v6] w' := by
 subst h0 h1 h3 h5 h6
 obtain ⟨t, e, ht, -⟩ := h.s.src (true, v0, m1) (List.mem_cons_self ..) rfl
 have e' : v0 = t.v := e
 subst e'
 obtain ⟨s', w', q1, q2⟩ := h.s.app ht hl
 exact ⟨s', w', q1, q2, fun q => (by cases q)⟩
theorem AppJ.a2 (h : AppJ E W0 c0 m0 m1 m2 m3 [l0, l1, l2, l3, l4, l5, l6] [v0, v1, v2, v3, v4, v5, v6] w) (h2 : l2 = true) (h1 : l1 = true) (h3 : l3 = false) (h5 : l5 = false) (h6 : l6 = false) (hl : (m0 ++ m1).length + m2.length ≤ 140737488355328) :
  ∃ (s' : Sl) (w' : World), (appB #[v1, v2]).run Try.prog w = .ok s'.v w' ∧ AppJ E W0 c0 m0 m1 m2 m3 [l0, l1, l2, true, l4, l5, l6] [v0, v1, v2, s'.v, v4, v5, v6] w' := by
 subst h2 h1 h3 h5 h6
 obtain ⟨t, e, ht, -⟩ := h.s.src (true, v2, m2) (List.mem_cons_of_mem _ (List.mem_cons_self ..)) rfl
 have e' : v2 = t.v := e
 subst e'
 obtain ⟨s', w', q1, q2⟩ := h.s.app ht hl
 exact ⟨s', w', q1, q2, fun q => (by cases q)⟩
theorem AppJ.a3 (h : AppJ E W0 c0 m0 m1 m2 m3 [l0, l1, l2, l3, l4, l5, l6] [v0, v1, v2, v3, v4, v5, v6] w) (h4 : l4 = true) (h3 : l3 = true) (h5 : l5 = false) (h6 : l6 = false) (hl : (m0 ++ m1 ++ m2).length + m3.length ≤ 140737488355328) :
  ∃ (s' : Sl) (w' : World), (appB #[v3, v4]).run Try.prog w = .ok s'.v w' ∧ AppJ E W0 c0 m0 m1 m2 m3 [l0, l1, l2, l3, l4, true, l6] [v0, v1, v2, v3, v4, s'.v, v6] w' := by
 subst h4 h3 h5 h6
 obtain ⟨t, e, ht, -⟩ := h.s.src (true, v4, m3) (List.mem_cons_of_mem _ (List.mem_cons_of_mem _ (List.mem_cons_self ..))) rfl
 have e' : v4 = t.v := e
 subst e'
 obtain ⟨s', w', q1, q2⟩ := h.s.app ht hl
 exact ⟨s', w', q1, q2, fun q => (by cases q)⟩
theorem AppJ.fin (h : AppJ E W0 c0 m0 m1 m2 m3 [l0, l1, l2, l3, l4, l5, l6] [v0, v1, v2, v3, v4, v5, v6] w) : AppJ E W0 c0 m0 m1 m2 m3 [l0, l1, l2, l3, l4, l5, true] [v0, v1, v2, v3, v4, v5, v5] w := ⟨h.s, fun _ => rfl⟩
theorem AppJ.out (h : AppJ E W0 c0 m0 m1 m2 m3 [true, true, true, true, true, true, true] [v0, v1, v2, v3, v4, v5, v6] w) : v6 = v5 ∧ ∃ s : Sl, v5 = s.v ∧ Own w E s.v (m0 ++ m1 ++ m2 ++ m3) := ⟨h.d rfl, h.s.own⟩
end
/-- two pieces that are made in any order, and one appended to the other one -/
structure App2 (E : Nat) (W0 : World) (m0 m1 : List UInt8) (L : List Bool) (V : List Value) (w : World) : Prop where
 bel : Below E W0 w
 hE : E ≤ W0.heap.size
 a : L.getD 2 false = false → L.getD 0 false = true → ∃ s : Sl, V.getD 0 undef = s.v ∧ Own w E s.v m0
 b : L.getD 2 false = false → L.getD 1 false = true → ∃ s : Sl, V.getD 1 undef = s.v ∧ Own w E s.v m1
 c : L.getD 2 false = true → ∃ s : Sl, V.getD 2 undef = s.v ∧ Own w E s.v (m0 ++ m1)
 d : L.getD 3 false = true → V.getD 3 undef = V.getD 2 undef
section
variable {E : Nat} {W0 w w' : World} {m0 m1 : List UInt8} {l0 l1 l2 l3 : Bool} {v0 v1 v2 v3 : Value}
theorem App2.grow {L : List Bool} {V : List Value} (h : App2 E W0 m0 m1 L V w) (hb : Below w.heap.size w w') : App2 E W0 m0 m1 L V w' := by
 have hz := Nat.le_trans h.hE h.bel.size
 refine ⟨h.bel.trans (hb.mono hz), h.hE, fun q1 q2 => ?_, fun q1 q2 => ?_, fun q1 => ?_, h.d⟩
 ·obtain ⟨s, e1, e2⟩ := h.a q1 q2
  exact ⟨s, e1, e2.keep hb⟩
 ·obtain ⟨s, e1, e2⟩ := h.b q1 q2
  exact ⟨s, e1, e2.keep hb⟩
 ·obtain ⟨s, e1, e2⟩ := h.c q1
  exact ⟨s, e1, e2.keep hb⟩
theorem App2.fst (h : App2 E W0 m0 m1 [l0, l1, l2, l3] [v0, v1, v2, v3] w) (hb : Below w.heap.size w w') {s : Sl} (ho : Own w' w.heap.size s.v m0) : App2 E W0 m0 m1 [true, l1, l2, l3] [s.v, v1, v2, v3] w' := by
 have hg := h.grow hb
 exact ⟨hg.bel, hg.hE, fun _ _ => ⟨s, rfl, ho.more (Nat.le_trans h.hE h.bel.size)⟩, hg.b, hg.c, hg.d⟩
theorem App2.snd (h : App2 E W0 m0 m1 [l0, l1, l2, l3] [v0, v1, v2, v3] w) (hb : Below w.heap.size w w') {s : Sl} (ho : Own w' w.heap.size s.v m1) : App2 E W0 m0 m1 [l0, true, l2, l3] [v0, s.v, v2, v3] w' := by
 have hg := h.grow hb
 exact ⟨hg.bel, hg.hE, hg.a, fun _ _ => ⟨s, rfl, ho.more (Nat.le_trans h.hE h.bel.size)⟩, hg.c, hg.d⟩
theorem App2.app (h : App2 E W0 m0 m1 [l0, l1, l2, l3] [v0, v1, v2, v3] w) (h0 : l0 = true) (h1 : l1 = true) (h2 : l2 = false) (h3 : l3 = false) (hl : m0.length + m1.length ≤ 140737488355328) :
  ∃ (s' : Sl) (w' : World), (appB #[v0, v1]).run Try.prog w = .ok s'.v w' ∧ App2 E W0 m0 m1 [l0, l1, true, l3] [v0, v1, s'.v, v3] w' := by
 subst h0 h1 h2 h3
 have hz := Nat.le_trans h.hE h.bel.size
 obtain ⟨s, e1, e2⟩ := h.a rfl rfl
 obtain ⟨t, f1, f2⟩ := h.b rfl rfl
 have e1' : v0 = s.v := e1
 have f1' : v1 = t.v := f1
 subst e1' f1'
 obtain ⟨s', w', q1, q2, q3, -⟩ := run_appB e2 hz f2.reads hl
 exact ⟨s', w', q1, ⟨h.bel.grown q3 hz fun k hk => (OwnC.lt e2 k hk).1, h.hE, fun q => (by cases q), fun q => (by cases q), fun _ => ⟨s', rfl, q2⟩, fun q => (by cases q)⟩⟩
theorem App2.fin (h : App2 E W0 m0 m1 [l0, l1, l2, l3] [v0, v1, v2, v3] w) : App2 E W0 m0 m1 [l0, l1, l2, true] [v0, v1, v2, v2] w := ⟨h.bel, h.hE, h.a, h.b, h.c, fun _ => rfl⟩
end
theorem App2.zero {E : Nat} {W0 : World} (hE : E ≤ W0.heap.size) (m0 m1 : List UInt8) (V : List Value) : App2 E W0 m0 m1 [false, false, false, false] V W0.drew :=
 ⟨(Below.refl _ _).drew, hE, fun _ q => (by cases q), fun _ q => (by cases q), fun q => (by cases q), fun q => (by cases q)⟩
end Go.Proofs.Ythdjhbiigmcecaa

/- Contract: landmarkref10.VoteBytes. -/
namespace Go.Proofs.Ythdjhbiigmcecaa
open Go.RowKit

attribute [local go_sem ↓] fold_appB
set_option maxRecDepth 100000 in
set_option maxHeartbeats 1600000 in
theorem tvote_c (g : GVote) (vo : Vote) (w : World) (hv : VoteR w g vo) (h1 : 1 ≤ vo.validator) (h64 : vo.validator ≤ 64) (hs : vo.sig.length ≤ 4096) :
  Calls Try.prog 188 #[.agg (voteA g)] w fun e w' => ∃ x, e = .returned x ∧ Own w' w.heap.size x (vtBytes vo) ∧ Below w.heap.size w w' := by
 have HP := fun p W => tpoint_c p W
 have HN := fun W => tnum_c 2 vo.sig.length W (by omega) (by omega) (by omega)
 obtain ⟨n, hn⟩ : ∃ n : Nat, vo.validator = (n : Int) := ⟨vo.validator.toNat, by omega⟩
 have hvt := Lib.hid (show vtBytes vo = ([UInt8.ofNat n] ++ ptBytes vo.source) ++ ptBytes vo.target ++ be 2 vo.sig.length ++ vo.sig from by
  unfold vtBytes
  rw [hn]
  simp [be, List.append_assoc])
 have hB0 : Below w.heap.size w (w.alloc (.cells (voteA g) 99)) := bel_a _ _
 have hz0 : (w.alloc (.cells (voteA g) 99)).heap.size = w.heap.size + 1 := by simp
 have hrow : row? (w.alloc (.cells (voteA g) 99)) w.heap.size 0 68 = some (voteA g) := by rw [row?_new]; simp
 obtain ⟨gv, gs, gt, ⟨sa, sn, sc⟩⟩ := g
 obtain ⟨a1, a2, a3, a4⟩ := hv
 simp only at a1 a2 a3
 have hsl := Lib.hid (BytesR.keep a4 hB0)
 obtain rfl : sn = vo.sig.length := a4.1
 subst a1 a2 a3
 clear a4
 have c0 := cell_of_row? hrow 0 (by omega)
 have r1 := row_part hrow 1 33 (by omega)
 have r2 := row_part hrow 34 33 (by omega)
 have c67 := cell_of_row? hrow 67 (by omega)
 rw [voteA_validator] at c0
 rw [voteA_source] at r1
 rw [voteA_target] at r2
 rw [voteA_sig] at c67
 simp only [Nat.zero_add] at c0 r1 r2 c67
 dsimp only [Sl.v] at c67
 replace c0 := c0.trans (congrArg (fun x => some (Value.int .i64 x)) hn)
 have hbv := Lib.hid (show byteV (UInt8.ofNat n) = .int .u8 ((n : Int) % 256) from by simp [byteV])
 have hn64 : n ≤ 64 := by omega
 clear hn
 go_enter Try.func188, Try.ntmps188
 go_upto_region 1 with fail
 generalize w.alloc (.cells (voteA ⟨vo.validator, vo.source, vo.target, ⟨sa, vo.sig.length, sc⟩⟩) 99) = w0 at *
 obtain ⟨b1, hb1e⟩ : ∃ b, b = w.heap.size := ⟨_, rfl⟩
 have hw0 : w.heap.size ≤ w0.heap.size := by omega
 have hb1 : b1 < w0.heap.size := by omega
 rw [← hb1e] at c0 r1 r2 c67 ⊢
 replace hb1e := Lib.hid hb1e
 replace hz0 := Lib.hid hz0
 rw [show w.heap.size = b1 from hb1e.out.symm] at hw0 hB0
 clear hrow
 refine wp_region_freeI_l (by kernel_rfl) [4, 5, 6, 7, 8, 9, 10, 11, 3]
  [(fun v => v = .pointer (some ⟨b1, 0, none⟩)), (fun v => v = .int .i64 (n : Int)), (fun v => v = .int .u8 ((n : Int) % 256)), (fun v => ∃ s : Sl, v = s.v), (fun v => v = .pointer (some ⟨b1, 1, none⟩)), (fun v => v = .agg (pointA vo.source)), (fun v => ∃ s : Sl, v = s.v), (fun v => ∃ s : Sl, v = s.v), (fun v => ∃ s : Sl, v = s.v)]
  [3, 6, 7, 8] (App2 w0.heap.size w0 [UInt8.ofNat n] (ptBytes vo.source)) [[1, 2, 3, 7, 8], [2, 3, 7, 8], [3, 7, 8], [7, 8], [5, 6, 7, 8], [6, 7, 8], [7, 8], [8], []] (by kernel_rfl) (by kernel_rfl) ?_ ?_ ?_
 ·show App2 w0.heap.size w0 [UInt8.ofNat n] (ptBytes vo.source) [false, false, false, false] [_, _, _, _] _
  exact App2.zero (Nat.le_refl _) _ _ _
 ·refine ⟨?_, ?_, ?_, ?_, ?_, ?_, ?_, ?_, ?_, trivial⟩
  ·intro L ax W hf hLi hno hd
   try simp [Region.binds] at hd
   have e1 : ax.tmps[1]?.getD undef = .pointer (some ⟨b1, 0, none⟩) := hf.out 1 (by decide) rfl
   refine ⟨fun _ => ?_, fun h => absurd trivial h⟩
   refine freeI_run (v := .pointer (some ⟨b1, 0, none⟩)) rfl hf (by decide) ?_ rfl
   go_simp
  ·intro L ax W hf hLi hno hd
   simp [Region.binds] at hd
   have e4 : ax.tmps[4]?.getD undef = .pointer (some ⟨b1, 0, none⟩) := slv (hf.got 0 (by decide) (by simp [hd]))
   refine ⟨fun _ => ?_, fun h => absurd trivial h⟩
   have hG : App2 w0.heap.size w0 [UInt8.ofNat n] (ptBytes vo.source) [L 3, L 6, L 7, L 8] [sl ax 7, sl ax 10, sl ax 11, sl ax 3] W := hf.glob
   have h1 := (hG.bel.cell (p := ⟨b1, 0, none⟩) hb1).trans c0
   refine freeI_run (v := .int .i64 (n : Int)) rfl hf (by decide) ?_ rfl
   go_simp
  ·intro L ax W hf hLi hno hd
   simp [Region.binds] at hd
   have e5 : ax.tmps[5]?.getD undef = .int .i64 (n : Int) := slv (hf.got 1 (by decide) (by simp [hd]))
   refine ⟨fun _ => ?_, fun h => absurd trivial h⟩
   have hG : App2 w0.heap.size w0 [UInt8.ofNat n] (ptBytes vo.source) [L 3, L 6, L 7, L 8] [sl ax 7, sl ax 10, sl ax 11, sl ax 3] W := hf.glob
   have hwr : IntKind.u8.wrap (n : Int) = (n : Int) % 256 := by rw [IntKind.wrap_u8]
   refine freeI_run (v := .int .u8 ((n : Int) % 256)) rfl hf (by decide) ?_ rfl
   go_simp
  ·intro L ax W hf hLi hno hd
   simp [Region.binds] at hd
   have e6 : ax.tmps[6]?.getD undef = .int .u8 ((n : Int) % 256) := slv (hf.got 2 (by decide) (by simp [hd]))
   refine ⟨fun _ => ?_, fun h => absurd trivial h⟩
   have hG : App2 w0.heap.size w0 [UInt8.ofNat n] (ptBytes vo.source) [L 3, L 6, L 7, L 8] [sl ax 7, sl ax 10, sl ax 11, sl ax 3] W := hf.glob
   have ho := Own.lit W W.heap.size [UInt8.ofNat n] #[.int .u8 ((n : Int) % 256)] 5 1 (by rw [← hbv.out]; rfl) rfl (Nat.le_refl _) (by simp [maxLen])
   refine freeI_val (v := .slice (some ⟨W.heap.size, 0, none⟩) 1 1) (W' := W.alloc (.cells #[.int .u8 ((n : Int) % 256)] 5)) rfl ?_ ⟨⟨some ⟨W.heap.size, 0, none⟩, 1, 1⟩, rfl⟩ (hG.fst (bel_a W _) (s := ⟨some ⟨W.heap.size, 0, none⟩, 1, 1⟩) ho)
   go_simp
  ·intro L ax W hf hLi hno hd
   try simp [Region.binds] at hd
   have e1 : ax.tmps[1]?.getD undef = .pointer (some ⟨b1, 0, none⟩) := hf.out 1 (by decide) rfl
   refine ⟨fun _ => ?_, fun h => absurd trivial h⟩
   refine freeI_run (v := .pointer (some ⟨b1, 1, none⟩)) rfl hf (by decide) ?_ rfl
   go_simp
  ·intro L ax W hf hLi hno hd
   simp [Region.binds] at hd
   have e8 : ax.tmps[8]?.getD undef = .pointer (some ⟨b1, 1, none⟩) := slv (hf.got 4 (by decide) (by simp [hd]))
   refine ⟨fun _ => ?_, fun h => absurd trivial h⟩
   have hG : App2 w0.heap.size w0 [UInt8.ofNat n] (ptBytes vo.source) [L 3, L 6, L 7, L 8] [sl ax 7, sl ax 10, sl ax 11, sl ax 3] W := hf.glob
   have h1 := (row?_below _ _ _ hG.bel hb1).trans r1
   refine freeI_run (v := .agg (pointA vo.source)) rfl hf (by decide) ?_ rfl
   go_simp
  ·intro L ax W hf hLi hno hd
   simp [Region.binds] at hd
   have e9 : ax.tmps[9]?.getD undef = .agg (pointA vo.source) := slv (hf.got 5 (by decide) (by simp [hd]))
   refine ⟨fun _ => ?_, fun h => absurd trivial h⟩
   have hG : App2 w0.heap.size w0 [UInt8.ofNat n] (ptBytes vo.source) [L 3, L 6, L 7, L 8] [sl ax 7, sl ax 10, sl ax 11, sl ax 3] W := hf.glob
   refine freeI_call (f := 210) (args := #[.agg (pointA vo.source)]) rfl (by go_simp) ?_
   refine (HP vo.source W).mono ?_
   rintro e w' ⟨x, rfl, ho, hb⟩
   obtain ⟨s, rfl⟩ := ho.slice
   exact ⟨_, rfl, ⟨s, rfl⟩, hG.snd hb ho⟩
  ·intro L ax W hf hLi hno hd
   simp [Region.binds] at hd
   have f7 : (fun v => ∃ s : Sl, v = s.v) (sl ax 7) := hf.got 3 (by decide) (by simp [hd])
   have f10 : (fun v => ∃ s : Sl, v = s.v) (sl ax 10) := hf.got 6 (by decide) (by simp [hd])
   refine ⟨fun _ => ?_, fun h => absurd trivial h⟩
   have hG : App2 w0.heap.size w0 [UInt8.ofNat n] (ptBytes vo.source) [L 3, L 6, L 7, L 8] [sl ax 7, sl ax 10, sl ax 11, sl ax 3] W := hf.glob
   obtain ⟨s7, e7⟩ := f7
   obtain ⟨s10, e10⟩ := f10
   obtain ⟨s', W', hrun, hH⟩ := hG.app (by simp [hd]) (by simp [hd]) hLi (hno 8 (by decide)) (by simp [ptBytes_length])
   rw [e7, e10] at hrun
   have e7' := slv e7
   have e10' := slv e10
   refine freeI_val (v := s'.v) (W' := W') rfl ?_ ⟨s', rfl⟩ hH
   go_simp
  ·intro L ax W hf hLi hno hd
   simp [Region.binds] at hd
   have f11 : (fun v => ∃ s : Sl, v = s.v) (sl ax 11) := hf.got 7 (by decide) (by simp [hd])
   refine ⟨fun _ => ?_, fun h => absurd trivial h⟩
   have hG : App2 w0.heap.size w0 [UInt8.ofNat n] (ptBytes vo.source) [L 3, L 6, L 7, L 8] [sl ax 7, sl ax 10, sl ax 11, sl ax 3] W := hf.glob
   obtain ⟨s11, e11⟩ := f11
   have e11' := slv e11
   have hH := hG.fin
   refine freeI_val (v := s11.v) (W' := W) rfl ?_ ⟨s11, rfl⟩ ?_
   ·go_simp
   ·rw [e11] at hH
    show App2 _ _ _ _ [L 3, L 6, L 7, true] [sl ax 7, sl ax 10, sl ax 11, s11.v] W
    rw [e11]
    exact hH
 ·intro vs W hl' hF hG
  obtain ⟨g', hg1, hg2⟩ := vs_litI vs hl' hF
  have hBW : Below w0.heap.size w0 W := hG.bel
  obtain ⟨sx, c1, c2⟩ := hG.c rfl
  have c3 := hG.d rfl
  rw [hg1] at c1 c3
  simp only [List.length_cons, List.length_nil, Nat.reduceAdd, List.map_cons, List.map_nil, show List.range 9 = [0, 1, 2, 3, 4, 5, 6, 7, 8] from rfl, List.getD_cons_zero, List.getD_cons_succ] at c1 c3
  have e8 : g' 8 = sx.v := c3.trans c1
  rw [hg1]
  simp only [List.length_cons, List.length_nil, Nat.reduceAdd, show List.range 9 = [0, 1, 2, 3, 4, 5, 6, 7, 8] from rfl, List.map_cons, List.map_nil, slotsIn, putL, List.setIfInBounds_toArray, List.set_cons_succ, List.set_cons_zero, e8, List.size_toArray, Nat.reduceLT, if_true, if_false]
  clear hg1 hg2 hG hF hl' c1 c3 e8
  have hox := Lib.hid c2
  have hBW0 := Lib.hid hBW
  replace r2 := (row?_below _ _ _ hBW hb1).trans r2
  replace c67 := (hBW.cell (p := ⟨b1, 67, none⟩) hb1).trans c67
  have hsz : w0.heap.size ≤ W.heap.size := hBW.size
  have hb1W : b1 < W.heap.size := by omega
  clear c2 hBW c0 r1
  go_upto_region 3 with (first
   | (go_simp; go_at_call 210; refine (HP vo.target W).mono ?_; rintro e w1 ⟨x1, rfl, ho1, hb2⟩; obtain ⟨s1, rfl⟩ := ho1.slice; obtain ⟨s2, W2, hrun, ho2, hg2, -⟩ := run_appB (hox.out.keep hb2) (Nat.le_trans hsz hb2.size) ho1.reads (by simp [ptBytes_length])))
  have hBW2 : Below w0.heap.size w0 W2 := hBW0.out.trans ((hb2.mono hsz).grown hg2 (Nat.le_trans hsz hb2.size) fun k hk => (OwnC.lt (hox.out.keep hb2) k hk).1)
  have c67b := (hBW2.cell (p := ⟨b1, 67, none⟩) hb1).trans (((hBW0.out.cell (p := ⟨b1, 67, none⟩) hb1).symm).trans c67)
  have hb1' := Lib.hid hb1
  have hlow : vo.sig ≠ [] → ∀ g off, sa = some ⟨g, off, none⟩ → g < w0.heap.size := fun hn g off e => by
   obtain ⟨b, o, hab, hc⟩ := hsl.out.2.2 hn
   have h0 : (0 : Nat) < vo.sig.length := List.length_pos_iff.2 hn
   have h1 := lt_of_cell (hc 0 h0)
   have h2 := hab.symm.trans e
   injection h2 with h2
   injection h2 with h2
   omega
  have hsz2 : w0.heap.size ≤ W2.heap.size := hBW2.size
  have hlow2 : vo.sig ≠ [] → ∀ g off, sa = some ⟨g, off, none⟩ → g < W2.heap.size ∧ s2.v.ownBlock ≠ some g := fun hn g off e => ⟨Nat.lt_of_lt_of_le (hlow hn g off e) hsz2, fun q => by
   have h1 := (OwnC.lt ho2 g q).1
   have h2 := hlow hn g off e
   omega⟩
  obtain ⟨mb, hmb⟩ : ∃ mb, mb = ([UInt8.ofNat n] ++ ptBytes vo.source) ++ ptBytes vo.target := ⟨_, rfl⟩
  have hml : mb.length ≤ 200 := by rw [hmb]; simp [ptBytes_length]
  rw [← hmb] at ho2
  have hB02 := hBW2
  replace hmb := Lib.hid hmb
  replace c67 := c67b
  clear c67b hrun hox hbv hn64 r2 HP hb2 hg2 ho1
  refine wp_region_freeI_l (by kernel_rfl) [17, 18, 19, 20, 21, 22, 23, 24, 25, 26, 2]
   [(fun v => v = s2.v), (fun v => v = .pointer (some ⟨b1, 67, none⟩)), (fun v => v = (⟨sa, vo.sig.length, sc⟩ : Sl).v), (fun v => v = .int .i64 (vo.sig.length : Int)), (fun v => v = .int .u64 (vo.sig.length : Int)), (fun v => ∃ s : Sl, v = s.v), (fun v => ∃ s : Sl, v = s.v), (fun v => v = .pointer (some ⟨b1, 67, none⟩)), (fun v => ∃ s : Sl, v = s.v), (fun v => ∃ s : Sl, v = s.v), (fun v => ∃ s : Sl, v = s.v)]
   [5, 6, 8, 9, 10] (AppI w0.heap.size W2 s2.v mb (be 2 vo.sig.length) vo.sig) [[6, 9, 10], [2, 3, 4, 5, 6, 9, 10], [3, 4, 5, 6, 9, 10], [4, 5, 6, 9, 10], [5, 6, 9, 10], [6, 9, 10], [9, 10], [8, 9, 10], [9, 10], [10], []] (by kernel_rfl) (by kernel_rfl) ?_ ?_ ?_
  ·show AppI w0.heap.size W2 s2.v mb (be 2 vo.sig.length) vo.sig [false, false, false, false, false] [_, _, _, _, _] _
   exact AppI.zero hsz2 ho2 _
  ·refine ⟨?_, ?_, ?_, ?_, ?_, ?_, ?_, ?_, ?_, ?_, ?_, trivial⟩
   ·intro L ax W hf hLi hno hd
    try simp [Region.binds] at hd
    have e3 : ax.tmps[3]?.getD undef = s2.v := hf.out 3 (by decide) rfl
    refine ⟨fun _ => ?_, fun h => absurd trivial h⟩
    refine freeI_run (v := s2.v) rfl hf (by decide) ?_ rfl
    go_simp
   ·intro L ax W hf hLi hno hd
    try simp [Region.binds] at hd
    have e1 : ax.tmps[1]?.getD undef = .pointer (some ⟨b1, 0, none⟩) := hf.out 1 (by decide) rfl
    refine ⟨fun _ => ?_, fun h => absurd trivial h⟩
    refine freeI_run (v := .pointer (some ⟨b1, 67, none⟩)) rfl hf (by decide) ?_ rfl
    go_simp
   ·intro L ax W hf hLi hno hd
    simp [Region.binds] at hd
    have e18 : ax.tmps[18]?.getD undef = .pointer (some ⟨b1, 67, none⟩) := slv (hf.got 1 (by decide) (by simp [hd]))
    refine ⟨fun _ => ?_, fun h => absurd trivial h⟩
    have hG : AppI w0.heap.size W2 s2.v mb (be 2 vo.sig.length) vo.sig [L 5, L 6, L 8, L 9, L 10] [sl ax 22, sl ax 23, sl ax 25, sl ax 26, sl ax 2] W := hf.glob
    have h1 := (hG.bel.cell (p := ⟨b1, 67, none⟩) hb1).trans c67
    unfold Sl.v
    refine freeI_run (v := (⟨sa, vo.sig.length, sc⟩ : Sl).v) rfl hf (by decide) ?_ rfl
    go_simp
   ·intro L ax W hf hLi hno hd
    simp [Region.binds] at hd
    have e19 : ax.tmps[19]?.getD undef = (⟨sa, vo.sig.length, sc⟩ : Sl).v := slv (hf.got 2 (by decide) (by simp [hd]))
    refine ⟨fun _ => ?_, fun h => absurd trivial h⟩
    have hG : AppI w0.heap.size W2 s2.v mb (be 2 vo.sig.length) vo.sig [L 5, L 6, L 8, L 9, L 10] [sl ax 22, sl ax 23, sl ax 25, sl ax 26, sl ax 2] W := hf.glob
    unfold Sl.v at e19
    refine freeI_run (v := .int .i64 (vo.sig.length : Int)) rfl hf (by decide) ?_ rfl
    go_simp
   ·intro L ax W hf hLi hno hd
    simp [Region.binds] at hd
    have e20 : ax.tmps[20]?.getD undef = .int .i64 (vo.sig.length : Int) := slv (hf.got 3 (by decide) (by simp [hd]))
    refine ⟨fun _ => ?_, fun h => absurd trivial h⟩
    have hG : AppI w0.heap.size W2 s2.v mb (be 2 vo.sig.length) vo.sig [L 5, L 6, L 8, L 9, L 10] [sl ax 22, sl ax 23, sl ax 25, sl ax 26, sl ax 2] W := hf.glob
    have hq : IntKind.u64.wrap (vo.sig.length : Int) = vo.sig.length := by rw [IntKind.wrap_u64]; omega
    refine freeI_run (v := .int .u64 (vo.sig.length : Int)) rfl hf (by decide) ?_ rfl
    go_simp
   ·intro L ax W hf hLi hno hd
    simp [Region.binds] at hd
    have e21 : ax.tmps[21]?.getD undef = .int .u64 (vo.sig.length : Int) := slv (hf.got 4 (by decide) (by simp [hd]))
    refine ⟨fun _ => ?_, fun h => absurd trivial h⟩
    have hG : AppI w0.heap.size W2 s2.v mb (be 2 vo.sig.length) vo.sig [L 5, L 6, L 8, L 9, L 10] [sl ax 22, sl ax 23, sl ax 25, sl ax 26, sl ax 2] W := hf.glob
    refine freeI_call (f := 187) (args := #[.int .u64 (vo.sig.length : Int), .int .i64 2]) rfl (by go_simp) ?_
    refine (HN W).mono ?_
    rintro e w' ⟨x, rfl, ho, hb⟩
    obtain ⟨s, rfl⟩ := ho.slice
    exact ⟨_, rfl, ⟨s, rfl⟩, hG.o1 hb ho⟩
   ·intro L ax W hf hLi hno hd
    simp [Region.binds] at hd
    have e17 : ax.tmps[17]?.getD undef = s2.v := slv (hf.got 0 (by decide) (by simp [hd]))
    have f22 : (fun v => ∃ s : Sl, v = s.v) (sl ax 22) := hf.got 5 (by decide) (by simp [hd])
    refine ⟨fun _ => ?_, fun h => absurd trivial h⟩
    have hG : AppI w0.heap.size W2 s2.v mb (be 2 vo.sig.length) vo.sig [L 5, L 6, L 8, L 9, L 10] [sl ax 22, sl ax 23, sl ax 25, sl ax 26, sl ax 2] W := hf.glob
    obtain ⟨s22, e22⟩ := f22
    obtain ⟨s', W', hrun, hH⟩ := hG.a1 (by simp [hd]) hLi (hno 9 (by decide)) (hno 10 (by decide)) (by simp [be_length]; omega)
    rw [e22] at hrun
    have e22' := slv e22
    refine freeI_val (v := s'.v) (W' := W') rfl ?_ ⟨s', rfl⟩ hH
    go_simp
   ·intro L ax W hf hLi hno hd
    try simp [Region.binds] at hd
    have e1 : ax.tmps[1]?.getD undef = .pointer (some ⟨b1, 0, none⟩) := hf.out 1 (by decide) rfl
    refine ⟨fun _ => ?_, fun h => absurd trivial h⟩
    refine freeI_run (v := .pointer (some ⟨b1, 67, none⟩)) rfl hf (by decide) ?_ rfl
    go_simp
   ·intro L ax W hf hLi hno hd
    simp [Region.binds] at hd
    have e24 : ax.tmps[24]?.getD undef = .pointer (some ⟨b1, 67, none⟩) := slv (hf.got 7 (by decide) (by simp [hd]))
    refine ⟨fun _ => ?_, fun h => absurd trivial h⟩
    have hG : AppI w0.heap.size W2 s2.v mb (be 2 vo.sig.length) vo.sig [L 5, L 6, L 8, L 9, L 10] [sl ax 22, sl ax 23, sl ax 25, sl ax 26, sl ax 2] W := hf.glob
    have h1 := (hG.bel.cell (p := ⟨b1, 67, none⟩) hb1).trans c67
    refine freeI_val (v := (⟨sa, vo.sig.length, sc⟩ : Sl).v) (W' := W) rfl ?_ ⟨_, rfl⟩ (hG.r2 (s := ⟨sa, vo.sig.length, sc⟩) (hsl.out.keep (hB02.trans hG.bel)) hlow2)
    unfold Sl.v
    go_simp
   ·intro L ax W hf hLi hno hd
    simp [Region.binds] at hd
    have f23 : (fun v => ∃ s : Sl, v = s.v) (sl ax 23) := hf.got 6 (by decide) (by simp [hd])
    have f25 : (fun v => ∃ s : Sl, v = s.v) (sl ax 25) := hf.got 8 (by decide) (by simp [hd])
    refine ⟨fun _ => ?_, fun h => absurd trivial h⟩
    have hG : AppI w0.heap.size W2 s2.v mb (be 2 vo.sig.length) vo.sig [L 5, L 6, L 8, L 9, L 10] [sl ax 22, sl ax 23, sl ax 25, sl ax 26, sl ax 2] W := hf.glob
    obtain ⟨s23, e23⟩ := f23
    obtain ⟨s25, e25⟩ := f25
    obtain ⟨s', W', hrun, hH⟩ := hG.a2 (by simp [hd]) (by simp [hd]) hLi (hno 10 (by decide)) (by simp [be_length]; omega)
    rw [e23, e25] at hrun
    have e23' := slv e23
    have e25' := slv e25
    refine freeI_val (v := s'.v) (W' := W') rfl ?_ ⟨s', rfl⟩ hH
    go_simp
   ·intro L ax W hf hLi hno hd
    simp [Region.binds] at hd
    have f26 : (fun v => ∃ s : Sl, v = s.v) (sl ax 26) := hf.got 9 (by decide) (by simp [hd])
    refine ⟨fun _ => ?_, fun h => absurd trivial h⟩
    have hG : AppI w0.heap.size W2 s2.v mb (be 2 vo.sig.length) vo.sig [L 5, L 6, L 8, L 9, L 10] [sl ax 22, sl ax 23, sl ax 25, sl ax 26, sl ax 2] W := hf.glob
    obtain ⟨s26, e26⟩ := f26
    have e26' := slv e26
    have hH := hG.fin
    refine freeI_val (v := s26.v) (W' := W) rfl ?_ ⟨s26, rfl⟩ ?_
    ·go_simp
    ·rw [e26] at hH
     show AppI _ _ _ _ _ _ [L 5, L 6, L 8, L 9, true] [sl ax 22, sl ax 23, sl ax 25, sl ax 26, s26.v] W
     rw [e26]
     exact hH
  ·intro vs W hl' hF hG
   obtain ⟨g', hg1, hg2⟩ := vs_litI vs hl' hF
   obtain ⟨c3, sx, c1, c2⟩ := hG.out
   rw [hg1] at c1 c3
   simp only [List.length_cons, List.length_nil, Nat.reduceAdd, List.map_cons, List.map_nil, show List.range 11 = [0, 1, 2, 3, 4, 5, 6, 7, 8, 9, 10] from rfl, List.getD_cons_zero, List.getD_cons_succ] at c1 c3
   have e10 : g' 10 = sx.v := c3.trans c1
   have hres : Own W w.heap.size sx.v (vtBytes vo) := by
    rw [hvt.out, ← hmb.out]
    exact c2.more (by have := hz0.out; omega)
   have hbelow : Below w.heap.size w W := by
    have h1 : Below b1 w W := hB0.trans ((hB02.trans hG.bel).mono hw0)
    rwa [hb1e.out] at h1
   rw [hg1]
   simp only [List.length_cons, List.length_nil, Nat.reduceAdd, show List.range 11 = [0, 1, 2, 3, 4, 5, 6, 7, 8, 9, 10] from rfl, List.map_cons, List.map_nil, slotsIn, putL, List.setIfInBounds_toArray, List.set_cons_succ, List.set_cons_zero, e10, List.size_toArray, Nat.reduceLT, if_true, if_false]
   clear hg1 hg2 hG hF hl' c1 c2 c3 e10
   replace hres := Lib.hid hres
   replace hbelow := Lib.hid hbelow
   go_wp2_with fail
   go_ret
   exact ⟨_, rfl, hres.out, hbelow.out⟩
end Go.Proofs.Ythdjhbiigmcecaa
