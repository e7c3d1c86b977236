/- Texts of this proof, one behind the other: RefRd, Read, RefNum, Less, OrderPlain, FreeG, Told. -/
import Derived.Test.YthdjhbiigmcecaaPAF
import Derived.Test.YthdjhbiigmcecaaPAB
import Derived.Test.YthdjhbiigmcecaaPAD
import Derived.Test.YthdjhbiigmcecaaPAA
import Derived.Laws.CopyOwn
import Derived.Deep.RegionHeld3
import Derived.Deep.RegionLaw
import Derived.Test.YthdjhbiigmcecaaPAE
set_option linter.unusedVariables false
set_option linter.unusedSimpArgs false
/- Contracts of landmarkref01.Reader. -/
namespace Go.Proofs.Ythdjhbiigmcecaa
open Go.RowKit

end Go.Proofs.Ythdjhbiigmcecaa

/- Contracts: codec.hash, readPoint. -/
namespace Go.Proofs.Ythdjhbiigmcecaa
open Go.RowKit

theorem copy_at {W : World} {s : Sl} {l : List UInt8} (hs : BytesR W s l) (p : Addr) : 0 < (l.map byteV).length → some p = some p ∧ ∃ ad, s.a = some ad ∧ ∀ j v, (l.map byteV)[j]? = some v → W.cell? (ad.add j) = some v := by
 intro h
 obtain ⟨b, off, ha, hc⟩ := hs.2.2 (by intro e; subst e; simp at h)
 refine ⟨rfl, _, ha, fun j v hv => ?_⟩
 have hj : j < l.length := by
  rcases Nat.lt_or_ge j l.length with hj | hj
  ·exact hj
  ·rw [List.getElem?_eq_none (by simpa using hj)] at hv; cases hv
 have hadd : (⟨b, off, none⟩ : Addr).add j = ⟨b, off + j, none⟩ := by unfold Addr.add; split <;> simp_all
 rw [hadd, hc j hj]
 simpa [hj] using hv
end Go.Proofs.Ythdjhbiigmcecaa

/- Contracts: Reader.Number, Blob; ref09.hash, point. -/
namespace Go.Proofs.Ythdjhbiigmcecaa
open Go.RowKit

end Go.Proofs.Ythdjhbiigmcecaa

/- Contracts: cmp.Or, codec.PointLess. -/
namespace Go.Proofs.Ythdjhbiigmcecaa
open Go.RowKit

end Go.Proofs.Ythdjhbiigmcecaa

/- The order of checkpoints is the order of their bytes: plain Lean. -/
namespace Go.Proofs.Ythdjhbiigmcecaa
open Go.RowKit

end Go.Proofs.Ythdjhbiigmcecaa

/- A region that draws its order and makes memory, some of its operations guarded: as Free. Over any program. -/
namespace Go.Proofs.Ythdjhbiigmcecaa
open Go.RowKit

/-- an operation's guard says yes -/
def Held (o : Oper) (d : Nat → Nat) (a : Act) : Prop := match o.guard with | none => True | some (k, b) => sl a (d k) = .bool b
theorem undef_ne (b : Bool) : undef ≠ Value.bool b := by
 intro h
 simp [undef] at h
theorem bool_ne {a b : Bool} (h : a ≠ b) : Value.bool a ≠ Value.bool b := fun e => h (by injection e)
theorem freeG_any (Rel : World → World → Prop) {P : Program} {ops : Array Oper} {Q : Exit → Act → World → Prop} {a0 : Act} {W0 : World}
  (d : Nat → Nat) (F : Nat → Value → World → Prop)
  (hop : ∀ i o, ops[i]? = some o → o.dst = some (d i) ∧ (∀ e ∈ o.after, Region.binds .any e = true → e.on < i) ∧ ∀ k b, o.guard = some (k, b) → k < ops.size)
  (hdist : ∀ i j, i < ops.size → j < ops.size → d i = d j → i = j) (hlt : ∀ i, i < ops.size → d i < a0.tmps.size)
  (hrel : ∀ w w', Rel w w' → Below W0.heap.size W0 w → Below W0.heap.size W0 w')
  (hstable : ∀ i v w w', F i v w → Rel w w' → F i v w')
  (hstep : ∀ (i : Nat) (o : Oper), ops[i]? = some o → ∀ L a w, Free ops.size d F a0 W0 L a w → (∀ e ∈ o.after, Region.binds .any e = true → L e.on = true) →
   (Held o d a → o.wp P a w (fun a' w' => ∃ v, a' = a.put (some (d i)) v ∧ F i v w' ∧ Rel w w') Q) ∧ (¬ Held o d a → F i undef w))
  (hfin : ∀ a w, Free ops.size d F a0 W0 (fun _ => true) a w → Q .normal a w) : wpAny P .any ops Q ops.size (Array.replicate ops.size false) a0 { W0 with drawn := W0.drawn + 1 } := by
 have done : ∀ (listed : Array Bool) (a : Act) (w : World), listed.size = ops.size → Free ops.size d F a0 W0 (fun i => listed.getD i false) a w → Region.ready .any ops listed = [] → Q .normal a w := by
  intro listed a w hs hf hr
  have hall : ∀ i, i < ops.size → listed.getD i false = true := by
   intro i
   induction i using Nat.strongRecOn with
   | ind i ih =>
    intro hi
    cases hb : listed.getD i false with
    | true => rfl
    | false =>
     exfalso
     have hmem : i ∈ Region.ready .any ops listed := by
      refine mem_ready.2 ⟨?_, ops[i], Array.getElem?_eq_getElem hi, fun e he hb' => ih e.on ((hop i _ (Array.getElem?_eq_getElem hi)).2.1 e he hb') ?_⟩
      ·simpa [Array.getD, hs, hi] using hb
      ·exact Nat.lt_trans ((hop i _ (Array.getElem?_eq_getElem hi)).2.1 e he hb') hi
     rw [hr] at hmem
     cases hmem
  exact hfin a w ⟨hf.defers, hf.size, hf.below, fun i hi _ => hf.got i hi (hall i hi), fun k hk => hf.rest k fun i hi _ => hk i hi rfl⟩
 have main : ∀ (fuel : Nat) (listed : Array Bool) (a : Act) (w : World), listed.size = ops.size → (List.range ops.size).countP (fun i => !listed.getD i false) ≤ fuel →
   Free ops.size d F a0 W0 (fun i => listed.getD i false) a w → wpAny P .any ops Q fuel listed a w := by
  intro fuel
  induction fuel with
  | zero =>
   intro listed a w hs hc hf
   have hr : Region.ready .any ops listed = [] := by
    cases hr : Region.ready .any ops listed with
    | nil => rfl
    | cons x xs =>
     exfalso
     obtain ⟨hx, o, ho, _⟩ := mem_ready.1 (show x ∈ Region.ready .any ops listed by rw [hr]; exact List.mem_cons_self ..)
     have hxl : x < ops.size := (Array.getElem?_eq_some_iff.1 ho).1
     have : 0 < (List.range ops.size).countP (fun i => !listed.getD i false) := List.countP_pos_iff.2 ⟨x, List.mem_range.2 hxl, by simpa [Array.getD, hs, hxl] using hx⟩
     omega
   exact ⟨hr, done listed a w hs hf hr⟩
  | succ fuel ih =>
   intro listed a w hs hc hf
   refine ⟨done listed a w hs hf, fun i hi => ?_⟩
   obtain ⟨hx, o, ho, hdep⟩ := mem_ready.1 hi
   have hil : i < ops.size := (Array.getElem?_eq_some_iff.1 ho).1
   have hxf : listed.getD i false = false := by simpa [Array.getD, hs, hil] using hx
   unfold wpOp
   simp only [ho]
   have putd : ∀ v w', F i v w' → (∀ j, j < ops.size → listed.getD j false = true → F j (sl a (d j)) w') → Below W0.heap.size W0 w' →
     Free ops.size d F a0 W0 (fun j => (listed.setIfInBounds i true).getD j false) (a.put (some (d i)) v) w' := by
    intro v w' hF hgot hbl
    refine ⟨hf.defers, by simp [Act.put, hf.size], hbl, fun j hj hLj => ?_, fun k hk => ?_⟩
    ·by_cases hij : i = j
     ·subst hij
      rw [sl_put_same _ _ _ (by rw [hf.size]; exact hlt i hil)]
      exact hF
     ·rw [sl_put_other _ _ _ _ (fun e => hij (hdist i j hil hj e))]
      exact hgot j hj (by rw [← hLj, getD_set_ne false hij])
    ·rw [sl_put_other _ _ _ _ (hk i hil (by simp [Array.getD, hs, hil]))]
     exact hf.rest k fun j hj hLj => hk j hj (by
      by_cases hij : i = j
      ·subst hij; simp [Array.getD, hs, hil]
      ·rw [getD_set_ne false hij]; exact hLj)
   have hless : (List.range ops.size).countP (fun j => !(listed.setIfInBounds i true).getD j false) ≤ fuel := by
    have hlt' := countP_lt (p := fun j => !(listed.setIfInBounds i true).getD j false) (q := fun j => !listed.getD j false) (List.range ops.size)
     (fun x _ hp => by
      by_cases hxi : i = x
      ·subst hxi; simp [Array.getD, hs, hil] at hp
      ·simpa [getD_set_ne false hxi] using hp)
     ⟨i, List.mem_range.2 hil, by simpa using hxf, by simp [Array.getD, hs, hil]⟩
    omega
   have hwt : Region.wanted o (yielded ops a.tmps) = true ↔ Held o d a := by
    unfold Region.wanted Held
    cases hgd : o.guard with
    | none => simp
    | some g =>
     obtain ⟨k, b⟩ := g
     have hk := (hop i o ho).2.2 k b hgd
     have hkd := (hop k _ (Array.getElem?_eq_getElem hk)).1
     have hks : d k < a.tmps.size := by rw [hf.size]; exact hlt k hk
     simp only [yielded, Array.getElem?_eq_getElem hk, Option.bind_some, hkd, Array.getElem?_eq_getElem hks, sl, Array.getD_eq_getD_getElem?, Option.getD_some, beq_iff_eq]
     cases hv : a.tmps[d k] <;> simp
   by_cases hheld : Held o d a
   ·rw [if_pos (hwt.2 hheld)]
    refine .inl (Oper.wp_mono ?_ ((hstep i o ho _ a w hf hdep).1 hheld))
    rintro a' w' ⟨v, rfl, hF, hb⟩
    exact ih _ _ _ (by simpa using hs) hless (putd v w' hF (fun j hj hL => hstable _ _ _ _ (hf.got j hj hL) hb) (hrel _ _ hb hf.below))
   ·rw [if_neg (fun h => hheld (hwt.1 h)), (hop i o ho).1]
    exact ih _ _ _ (by simpa using hs) hless (putd undef w ((hstep i o ho _ a w hf hdep).2 hheld) (fun j hj hL => hf.got j hj hL) hf.below)
 refine main ops.size _ a0 _ (by simp) (by exact Nat.le_trans List.countP_le_length (by simp)) ⟨rfl, rfl, (Below.refl _ _).drew, fun i hi h => ?_, fun _ _ => rfl⟩
 simp [Array.getD, hi] at h

/-- the region's shape, asked of the kernel -/
def regionOkG (ops : Array Oper) (ds : List Nat) (N : Nat) : Bool :=
 decide (ops.size = ds.length) && decide ds.Nodup && ds.all (fun k => decide (k < N)) &&
  (List.range ops.size).all fun i => ((ops[i]?).map fun o => (match o.guard with | none => true | some g => decide (g.1 < ops.size)) && (o.dst == some (ds.getD i 0)) && o.after.all fun e => !Region.binds .any e || decide (e.on < i)).getD false
/-- one operation's step -/
def FreeStepG (Rel : World → World → Prop) (P : Program) (n : Nat) (d : Nat → Nat) (F : Nat → Value → World → Prop) (a0 : Act) (W0 : World) (Q : Exit → Act → World → Prop) (i : Nat) (o : Oper) : Prop :=
 ∀ L a w, Free n d F a0 W0 L a w → (∀ e ∈ o.after, Region.binds .any e = true → L e.on = true) →
  (Held o d a → o.wp P a w (fun a' w' => ∃ v, a' = a.put (some (d i)) v ∧ F i v w' ∧ Rel w w') Q) ∧ (¬ Held o d a → F i undef w)
def FreeStepsG (Rel : World → World → Prop) (P : Program) (n : Nat) (d : Nat → Nat) (F : Nat → Value → World → Prop) (a0 : Act) (W0 : World) (Q : Exit → Act → World → Prop) : Nat → List Oper → Prop
 | _, [] => True
 | i, o :: r => FreeStepG Rel P n d F a0 W0 Q i o ∧ FreeStepsG Rel P n d F a0 W0 Q (i + 1) r
theorem FreeStepsG.at {Rel : World → World → Prop} {P : Program} {n : Nat} {d : Nat → Nat} {F : Nat → Value → World → Prop} {a0 : Act} {W0 : World} {Q : Exit → Act → World → Prop} :
  ∀ (l : List Oper) (k : Nat), FreeStepsG Rel P n d F a0 W0 Q k l → ∀ i o, l[i]? = some o → FreeStepG Rel P n d F a0 W0 Q (k + i) o
 | [], _, _, _, _, h => by simp at h
 | o :: r, k, h, 0, o', ho => by
  simp at ho
  subst ho
  exact h.1
 | o :: r, k, h, i + 1, o', ho => by
  have := FreeStepsG.at r (k + 1) h.2 i o' (by simpa using ho)
  rwa [Nat.add_assoc, Nat.add_comm 1 i] at this
theorem freeG_any_l (Rel : World → World → Prop) {P : Program} {ops : List Oper} {Q : Exit → Act → World → Prop} {a0 : Act} {W0 : World}
  (ds : List Nat) (Fs : List (Value → World → Prop)) (hok : regionOkG ops.toArray ds a0.tmps.size = true)
  (hrel : ∀ w w', Rel w w' → Below W0.heap.size W0 w → Below W0.heap.size W0 w')
  (hstable : ∀ f ∈ Fs, ∀ v w w', f v w → Rel w w' → f v w')
  (hstep : FreeStepsG Rel P ds.length (fun i => ds.getD i 0) (fun i => Fs.getD i fun _ _ => True) a0 W0 Q 0 ops)
  (hfin : ∀ (vs : List Value) w, vs.length = ds.length → (∀ i (hi : i < vs.length), Fs.getD i (fun _ _ => True) vs[i] w) → Below W0.heap.size W0 w → Q .normal ⟨putL a0.tmps (ds.zip vs), a0.defers⟩ w) :
  wpAny P .any ops.toArray Q ops.toArray.size (Array.replicate ops.toArray.size false) a0 { W0 with drawn := W0.drawn + 1 } := by
 unfold regionOkG at hok
 simp only [Bool.and_eq_true, decide_eq_true_eq, List.all_eq_true, List.mem_range] at hok
 obtain ⟨⟨⟨h1, h2⟩, h3⟩, h4⟩ := hok
 have hn : ops.length = ds.length := by simpa using h1
 have hop : ∀ (i : Nat) (o : Oper), ops.toArray[i]? = some o → o.dst = some (ds.getD i 0) ∧ (∀ e ∈ o.after, Region.binds .any e = true → e.on < i) ∧ ∀ k b, o.guard = some (k, b) → k < ops.toArray.size := by
  intro i o ho
  have hi := (Array.getElem?_eq_some_iff.1 ho).1
  have := h4 i hi
  rw [ho] at this
  simp only [Option.map_some, Option.getD_some, Bool.and_eq_true, beq_iff_eq, Array.all_eq_true_iff_forall_mem, Bool.or_eq_true, Bool.not_eq_true', decide_eq_true_eq] at this
  refine ⟨this.1.2, fun e he hb => (this.2 e he).resolve_left (by simp [hb]), fun k b hg => ?_⟩
  have h5 := this.1.1
  rw [hg] at h5
  simpa using h5
 have hsz : ops.toArray.size = ds.length := by simpa using hn
 refine freeG_any Rel (fun i => ds.getD i 0) (fun i => Fs.getD i fun _ _ => True) hop (fun i j hi hj he => ?_) (fun i hi => ?_) hrel (fun i v w w' hv hb => ?_) (fun i o ho => ?_) (fun a w hf => ?_)
 ·rw [hsz] at hi hj
  simp only [List.getD_eq_getElem?_getD, List.getElem?_eq_getElem hi, List.getElem?_eq_getElem hj, Option.getD_some] at he
  exact (List.getElem_inj h2).1 he
 ·rw [hsz] at hi
  simp only [List.getD_eq_getElem?_getD, List.getElem?_eq_getElem hi, Option.getD_some]
  exact h3 _ (List.getElem_mem _)
 ·by_cases hi : i < Fs.length
  ·simp only [List.getD_eq_getElem?_getD, List.getElem?_eq_getElem hi, Option.getD_some] at hv ⊢
   exact hstable _ (List.getElem_mem _) _ _ _ hv hb
  ·simp only [List.getD_eq_getElem?_getD, List.getElem?_eq_none (Nat.le_of_not_lt hi), Option.getD_none]
 ·have := FreeStepsG.at ops 0 hstep i o (by simpa using ho)
  rw [Nat.zero_add] at this
  rw [hsz]
  exact this
 ·rw [hsz] at hf
  obtain ⟨vs, hl, hF, rfl⟩ := hf.all
  have := hfin vs w hl hF hf.below
  have e : (List.range ds.length).map (fun i => ds.getD i 0) = ds := by
   apply List.ext_getElem (by simp)
   intro i h1 h2
   simp [h2]
  rw [e]
  exact this

theorem wp_region_freeG_l (Rel : World → World → Prop) {P : Program} {id : Nat} {ops : List Oper} {Q : Exit → Act → World → Prop} {a0 : Act} {W0 : World} (hm : P.follows .mixedOrders = true)
  (ds : List Nat) (Fs : List (Value → World → Prop)) (hok : regionOkG ops.toArray ds a0.tmps.size = true)
  (hrel : ∀ w w', Rel w w' → Below W0.heap.size W0 w → Below W0.heap.size W0 w')
  (hstable : ∀ f ∈ Fs, ∀ v w w', f v w → Rel w w' → f v w')
  (hstep : FreeStepsG Rel P ds.length (fun i => ds.getD i 0) (fun i => Fs.getD i fun _ _ => True) a0 W0 Q 0 ops)
  (hfin : ∀ (vs : List Value) w, vs.length = ds.length → (∀ i (hi : i < vs.length), Fs.getD i (fun _ _ => True) vs[i] w) → Below W0.heap.size W0 w → Q .normal ⟨putL a0.tmps (ds.zip vs), a0.defers⟩ w) :
  (Code.region id ops.toArray true).wp P Q a0 W0 := wp_region_any hm (freeG_any_l Rel ds Fs hok hrel hstable hstep hfin)
theorem vs_lit {ds : List Nat} {Fs : List (Value → World → Prop)} {W : World} (vs : List Value) (hl : vs.length = ds.length) (hF : ∀ (i : Nat) (hi : i < vs.length), Fs.getD i (fun _ _ => True) vs[i] W) :
  ∃ g : Nat → Value, vs = (List.range ds.length).map g ∧ ∀ i, i < ds.length → Fs.getD i (fun _ _ => True) (g i) W := by
 refine ⟨fun i => vs.getD i undef, ?_, fun i hi => ?_⟩
 ·apply List.ext_getElem (by simpa using hl)
  intro i h1 h2
  simp [h1]
 ·have := hF i (by omega)
  simp only [List.getD_eq_getElem?_getD, List.getElem?_eq_getElem (show i < vs.length by omega), Option.getD_some]
  simpa using this
end Go.Proofs.Ythdjhbiigmcecaa

/- Contracts: codec.PointBytes, VoteBytes. -/
namespace Go.Proofs.Ythdjhbiigmcecaa
open Go.RowKit

/-- told's error, its bytes -/
def noErr (may : Bool) : Int := if may then 0 else 2
/-! told, of a vote -/
end Go.Proofs.Ythdjhbiigmcecaa
