/- Texts of this proof, one behind the other: Both, DoP, Do, DoW, ChnN. -/
import Derived.Test.YthdjhbiigmcecaaKG
import Derived.Test.YthdjhbiigmcecaaKC
import Derived.Test.YthdjhbiigmcecaaKB
import Derived.Test.YthdjhbiigmcecaaKA
import Derived.Test.YthdjhbiigmcecaaQA
import Derived.BigQuiet
import Derived.Deep.CutRange
set_option linter.unusedVariables false
set_option linter.unusedSimpArgs false
/- The chain and the document's chain, side by side in memory. -/
namespace Go.Proofs.Ythdjhbiigmcecaa
open Go.RowKit

section
variable {B : Nat} {T : Nat → Nat} {W W' : World} {cb : Nat} {C : List Blk}
theorem ChR.keep (h : ChR B T W cb C) (hb : Below W.heap.size W W') : ChR B T W' cb C := by
  obtain ⟨sA, mb, G, h⟩ := h
  exact ⟨sA, mb, G, h.keep hb⟩
theorem ChR.retag (h : ChR B T W cb C) {T' : Nat → Nat} (hT : ∀ k, k < W.heap.size → T' k = T k) : ChR B T' W cb C := by
  obtain ⟨sA, mb, G, h⟩ := h
  exact ⟨sA, mb, G, h.retag hT⟩
theorem ChR.lt (h : ChR B T W cb C) : cb < W.heap.size := by
  obtain ⟨sA, mb, G, h⟩ := h
  exact h.lt
theorem ChR.tB (h : ChR B T W cb C) : ∀ k, k < W.heap.size → T k ≠ 0 → B ≤ k := by
  obtain ⟨sA, mb, G, h⟩ := h
  exact h.tB
/-- blocks of great tags are changed: none of the chain's own -/
theorem ChR.offBig (h : ChR B T W cb C) (hl : C.length ≤ 100000) {M : Nat → Prop} (hb : Asd M W W') (hM : ∀ k, k < W.heap.size → M k → 1000000 ≤ T k) (hT : ∀ k, W.heap.size ≤ k → T k = 0) : ChR B T W' cb C := by
  obtain ⟨sA, mb, G, h⟩ := h
  have hn : ∀ k, k < W.heap.size → T k < 1000000 → ¬ M k := fun k hk ht hm => by
    have := hM k hk hm
    omega
  have hO : Asd (Mut T) W W' := hb.mono fun k hk hm => by
    have := hM k hk hm
    unfold Mut
    omega
  have hM' : ∀ P : World → Prop, Safe (Mut T) W P → Safe (Mut T) W' P := fun P hs => hs.step hO fun _ _ h => h
  refine ⟨sA, mb, G, hb.row (hn _ h.lt (by rw [h.tcb]; omega)) h.row, hb.there (hn _ h.lt (by rw [h.tcb]; omega)) h.lt h.thr, h.tcb, h.all.off hb fun g hg => hn g (OwnC.lt h.all g hg).2 (by rw [h.tall g hg]; omega), h.tall,
    h.map.of_block (hb.block _ h.map.lt (hn _ h.map.lt (by rw [h.tmap]; omega))), h.tmap, fun k hk ht => ?_, Nat.le_trans h.hB hb.size, h.glen, h.ulen, fun i x b hx hbk => ?_⟩
  · rcases Nat.lt_or_ge k W.heap.size with hlt | hge
    · exact h.tB k hlt ht
    · exact absurd (hT k hge) ht
  · have hk := h.blk i x b hx hbk
    have hi : i < C.length := (List.getElem?_eq_some_iff.1 hbk).1
    have n1 := hn _ hk.lt (by rw [hk.tb]; omega)
    exact ⟨hb.row n1 hk.row, hb.there n1 hk.lt hk.thr, hk.ob.imp fun _ h => h.imp fun _ h => (hb.block _ hk.lt n1).trans h, hk.tb, hM' _ hk.hdr, hM' _ hk.up, hk.ch.off hb fun g hg => hn g (OwnC.lt hk.ch g hg).2 (by rw [hk.tc g hg]; omega), hk.tc⟩
end
/-- both: the document's box has a great tag, its rows have none -/
structure Both (w0 : World) (B : Nat) (T : Nat → Nat) (W : World) (cb cr : Nat) (C D : List Blk) : Prop where
  real : ChR B T W cb C
  tag : T cr = 2000000
  doc : ∃ rb cap G, RefC w0 W cr rb cap G D ∧ T rb = 0
  le : w0.heap.size ≤ B
section
variable {w0 W W' : World} {B : Nat} {T : Nat → Nat} {cb cr : Nat} {C D : List Blk}
theorem Both.keep (h : Both w0 B T W cb cr C D) (hb : Below W.heap.size W W') : Both w0 B T W' cb cr C D := by
  obtain ⟨rb, cap, G, hR, h0⟩ := h.doc
  exact ⟨h.real.keep hb, h.tag, ⟨rb, cap, G, hR.keep hb, h0⟩, h.le⟩
/-- a block more, by the chain -/
theorem Both.addReal (h : Both w0 B T W cb cr C D) {C' : List Blk} {T' : Nat → Nat} (hC : ChR B T' W' cb C') (hT : ∀ k, k < W.heap.size → T' k = T k) (hA : Asd (MutS T) W W') : Both w0 B T' W' cb cr C' D := by
  obtain ⟨rb, cap, G, hR, h0⟩ := h.doc
  refine ⟨hC, (hT _ hR.cbW).trans h.tag, ⟨rb, cap, G, hR.off hA (fun k hk => ?_) (fun hk => ?_) (fun hk => ?_), (hT _ hR.lt).trans h0⟩, h.le⟩
  · rcases Nat.lt_or_ge k W.heap.size with hlt | hge
    · exact Nat.le_trans h.le (h.real.tB k hlt hk.1)
    · exact Nat.le_trans hR.bel.size hge
  · have := hk.2
    rw [h.tag] at this
    omega
  · exact hk.1 h0
/-- a block more, by the document (rb: where its rows lay) -/
theorem Both.addDoc (h : Both w0 B T W cb cr C D) (hl : C.length ≤ 100000) {D' : List Blk} {rb : Nat} (hrb : T rb = 0) (hD : ∃ rb' cap G, (rb' = rb ∨ W.heap.size ≤ rb') ∧ RefC w0 W' cr rb' cap G D') (hA : Asd (fun k => k = cr) W W') : ∃ T', Both w0 B T' W' cb cr C D' ∧ ∀ k, k < W.heap.size → T' k = T k := by
  obtain ⟨_, _, _, hR, -⟩ := h.doc
  obtain ⟨rb', cap', G', hn, hR'⟩ := hD
  have hT : ∀ k, k < W.heap.size → (if k < W.heap.size then T k else 0) = T k := fun k hk => if_pos hk
  refine ⟨fun k => if k < W.heap.size then T k else 0, ⟨(h.real.retag (T' := fun k => if k < W.heap.size then T k else 0) hT).offBig hl hA (fun k hk e => ?_) (fun k hk => if_neg (by omega)), ?_, ⟨rb', cap', G', hR', ?_⟩, h.le⟩, hT⟩
  · have e' : k = cr := e
    show 1000000 ≤ (if k < W.heap.size then T k else 0)
    rw [if_pos hk, e', h.tag]
    omega
  · show (if cr < W.heap.size then T cr else 0) = 2000000
    rw [if_pos hR.cbW]
    exact h.tag
  · show (if rb' < W.heap.size then T rb' else 0) = 0
    rcases hn with q | q
    · rw [q, hrb]
      simp
    · rw [if_neg (by omega)]
/-- a header more, by the document: a contract -/
theorem Both.docAdd (h : Both w0 B T W cb cr C D) (hl : C.length ≤ 100000) (hok : ChnOk D) {g : GHeader} {hd : Hdr} (hr : HdrR w0 g hd) (hops : hd.ops.length ≤ 1000000) :
    Calls Try.prog 102 #[ptrV cr, .agg (headerA g)] W fun r w' => r = .returned (.tuple #[.agg (pointA (chCheck D hd).1), .int .i64 (chCheck D hd).2]) ∧ (∃ T', Both w0 B T' w' cb cr C (chAdd D hd) ∧ ∀ k, k < W.heap.size → T' k = T k) ∧ Asd (fun k => k = cr) W w' := by
  obtain ⟨rb, cap, G, hR, h0⟩ := h.doc
  refine (radd_c hR hok hr hops).mono ?_
  rintro r w' ⟨e, hD, hA⟩
  exact ⟨e, h.addDoc hl h0 hD hA, hA⟩
/-- a header more, by the chain: a contract -/
theorem Both.realAdd (h : Both w0 B T W cb cr C D) (hok : ChnOk C) {g : GHeader} {hd : Hdr} (hr : HdrR W g hd) (hf : HdrFits hd) :
    Calls Try.prog 35 #[ptrV cb, .agg (headerA g)] W fun r w' => r = .returned (.tuple #[.agg (pointA (chCheck C hd).1), .int .i64 (chCheck C hd).2]) ∧ (∃ T', Both w0 B T' w' cb cr (chAdd C hd) D ∧ ∀ k, k < W.heap.size → T' k = T k) ∧ Asd (MutS T) W w' := by
  refine (chadd_c h.real hok hr hf).mono ?_
  rintro r w' ⟨e, ⟨T', hC, hT⟩, hA⟩
  exact ⟨e, ⟨T', h.addReal hC hT hA, hT⟩, hA⟩
end
end Go.Proofs.Ythdjhbiigmcecaa

/- Acts, plainly: what chain they make. -/
namespace Go.Proofs.Ythdjhbiigmcecaa
open Go.RowKit

/-- the place that a number names, of n places -/
def pickI (x : Int) (n : Nat) : Int := (x.tmod n + n).tmod n
theorem pickI_lt (x : Int) {n : Nat} (hn : 0 < n) : 0 ≤ pickI x n ∧ pickI x n < n := by
  have hp : (0 : Int) < n := by omega
  have h1 : -(n : Int) < x.tmod n := by
    have := Int.lt_tmod_of_pos x hp
    omega
  have h2 : x.tmod n < n := Int.tmod_lt_of_pos x hp
  unfold pickI
  have h3 : 0 ≤ x.tmod n + n := by omega
  exact ⟨Int.tmod_nonneg _ h3, Int.tmod_lt_of_pos _ hp⟩
def pickN (x : Int) (n : Nat) : Nat := (pickI x n).toNat
theorem pickN_lt (x : Int) {n : Nat} (hn : 0 < n) : pickN x n < n := by
  have := pickI_lt x hn
  unfold pickN
  omega
/-- the header that an act adds -/
def actH (C : List Blk) (a : Act) : Hdr := if a.under then { a.h with parent := ((C[pickN a.n C.length]?).map (·.p.name)).getD zeroHash } else a.h
theorem actH_ops (C : List Blk) (a : Act) : (actH C a).ops = a.h.ops := by
  unfold actH
  split <;> rfl
def doA (C : List Blk) : List Act → List Blk
  | [] => C
  | a :: l => doA (chAdd C (actH C a)) l
theorem doA_snoc (C : List Blk) (l : List Act) (a : Act) : doA C (l ++ [a]) = chAdd (doA C l) (actH (doA C l) a) := by
  induction l generalizing C with
  | nil => rfl
  | cons b l ih => exact ih _
theorem doA_ok {C : List Blk} (h : ChnOk C) (l : List Act) : ChnOk (doA C l) := by
  induction l generalizing C with
  | nil => exact h
  | cons b l ih => exact ih (chAdd_ok h _)
theorem doA_take (C : List Blk) (l : List Act) (k : Nat) (hk : k < l.length) : doA C (l.take (k + 1)) = chAdd (doA C (l.take k)) (actH (doA C (l.take k)) l[k]) := by
  rw [List.take_succ_eq_append_getElem hk, doA_snoc]
theorem chAdd_len (C : List Blk) (h : Hdr) : (chAdd C h).length ≤ C.length + 1 := by
  unfold chAdd
  split <;> simp
theorem doA_len (C : List Blk) (l : List Act) : (doA C l).length ≤ C.length + l.length := by
  induction l generalizing C with
  | nil => simp [doA]
  | cons b l ih =>
    have h1 := ih (chAdd C (actH C b))
    have h2 := chAdd_len C (actH C b)
    simp only [doA, List.length_cons]
    omega
end Go.Proofs.Ythdjhbiigmcecaa

/- landmarklaw10.do: what it calls, over both chains. -/
namespace Go.Proofs.Ythdjhbiigmcecaa
open Go.RowKit

theorem ChR.len_c {B : Nat} {T : Nat → Nat} {W : World} {cb : Nat} {C : List Blk} (h : ChR B T W cb C) (hok : ChnOk C) :
    Calls Try.prog 36 #[ptrV cb] W fun e w' => e = .returned (.int .i64 ((C.length : Int) - 1)) ∧ Below W.heap.size W w' := by
  obtain ⟨sA, mb, G, hM⟩ := h
  obtain ⟨ab, -, -, hv⟩ := hM.view hok.pos
  exact chlen_c hv hok.pos hok.len
theorem ChR.check_c {B : Nat} {T : Nat → Nat} {W : World} {cb : Nat} {C : List Blk} (h : ChR B T W cb C) (hok : ChnOk C) {g : GHeader} {hd : Hdr} (hr : HdrR W g hd) (hl : HdrFits hd) :
    Calls Try.prog 60 #[ptrV cb, .agg (headerA g)] W fun r w' => r = .returned (.tuple #[.agg (pointA (chCheck C hd).1), .int .i64 (chCheck C hd).2]) ∧ Below W.heap.size W w' := by
  obtain ⟨sA, mb, G, hM⟩ := h
  obtain ⟨ab, -, -, hv⟩ := hM.view hok.pos
  exact chcheck_c hv hok hr hl
section
variable {w0 W : World} {B : Nat} {T : Nat → Nat} {cb cr : Nat} {C D : List Blk}
theorem Both.docCheck (h : Both w0 B T W cb cr C D) (hok : ChnOk D) {g : GHeader} {hd : Hdr} (hr : HdrR W g hd) (hops : hd.ops.length ≤ 1000000) :
    Calls Try.prog 101 #[ptrV cr, .agg (headerA g)] W fun r w' => r = .returned (.tuple #[.agg (pointA (chCheck D hd).1), .int .i64 (chCheck D hd).2]) ∧ Below W.heap.size W w' := by
  obtain ⟨rb, cap, G, hR, -⟩ := h.doc
  exact rcheck_c hR hok hr hops
end
theorem splice_header_parent (o : GHeader) (n : Hash) : splice (headerA o) 0 (hashA n) = headerA { o with parent := n } := by
  have h := splice_mid #[] (hashA o.parent) (hashA n) #[.int .u64 (o.epoch.toNat : Int), o.ops.v] 0 rfl (by simp)
  rw [Array.empty_append, Array.empty_append] at h
  exact h
/-- a place's name leads to the place -/
theorem chAt_self {C : List Blk} (hok : ChnOk C) {i : Nat} (hi : i < C.length) : chAt C C[i].p.name = some i := by
  refine chAt_hit hi (fun j b hj hb e => ?_) rfl
  have hjl : j < C.length := by omega
  have hb' : C[j] = b := by
    rw [List.getElem?_eq_getElem hjl] at hb
    injection hb
  have hnd := hok.names
  have h1 := List.pairwise_iff_getElem.1 hnd j i (by simpa using hjl) (by simpa using hi) hj
  simp only [List.getElem_map] at h1
  exact h1 (by rw [hb', e])
end Go.Proofs.Ythdjhbiigmcecaa

/- The walk of landmarklaw10.do. -/
namespace Go.Proofs.Ythdjhbiigmcecaa
open Go.RowKit

theorem Both.bel {w0 W : World} {B : Nat} {T : Nat → Nat} {cb cr : Nat} {C D : List Blk} (h : Both w0 B T W cb cr C D) : Below w0.heap.size w0 W := by
  obtain ⟨rb, cap, G, hR, -⟩ := h.doc
  exact hR.bel
/-- what is not made yet has a tag of its own -/
theorem Both.fresh {w0 W : World} {B : Nat} {T : Nat → Nat} {cb cr : Nat} {C D : List Blk} (h : Both w0 B T W cb cr C D) : ∃ T', Both w0 B T' W cb cr C D ∧ (∀ k, W.heap.size ≤ k → T' k = 2500000) ∧ ∀ k, k < W.heap.size → T' k = T k := by
  obtain ⟨rb, cap, G, hR, h0⟩ := h.doc
  refine ⟨fun k => if k < W.heap.size then T k else 2500000, ⟨h.real.retag fun k hk => if_pos hk, ?_, ⟨rb, cap, G, hR, ?_⟩, h.le⟩, fun k hk => if_neg (by omega), fun k hk => if_pos hk⟩
  · show (if cr < W.heap.size then T cr else 2500000) = 2000000
    rw [if_pos hR.cbW]
    exact h.tag
  · show (if rb < W.heap.size then T rb else 2500000) = 0
    rw [if_pos hR.lt]
    exact h0
/-- a block of that tag is written -/
theorem Both.put {w0 W : World} {B : Nat} {T : Nat → Nat} {cb cr : Nat} {C D : List Blk} (h : Both w0 B T W cb cr C D) (hl : C.length ≤ 100000) {b : Nat} (hb : b < W.heap.size) (ht : T b = 2500000) (off : Nat) (xs : Array Value) :
    ∃ T', Both w0 B T' (putRow W b off xs) cb cr C D ∧ ∀ k, k < W.heap.size → T' k = T k := by
  obtain ⟨rb, cap, G, hR, h0⟩ := h.doc
  have hT : ∀ k, k < W.heap.size → (if k < W.heap.size then T k else 0) = T k := fun k hk => if_pos hk
  refine ⟨fun k => if k < W.heap.size then T k else 0, ⟨(h.real.retag (T' := fun k => if k < W.heap.size then T k else 0) hT).offBig hl (asd_put W b off xs) (fun k hk e => ?_) (fun k hk => if_neg (by omega)), (hT _ hR.cbW).trans h.tag, ⟨rb, cap, G, hR.off (asd_put W b off xs) (fun k e => ?_) (fun e => ?_) (fun e => ?_), (hT _ hR.lt).trans h0⟩, h.le⟩, hT⟩
  · have e' : k = b := e
    show 1000000 ≤ (if k < W.heap.size then T k else 0)
    rw [if_pos hk, e', ht]
    omega
  · have e' : k = b := e
    rw [e']
    exact Nat.le_trans h.le (h.real.tB b hb (by omega))
  · have e' : cr = b := e
    have := h.tag
    rw [e', ht] at this
    omega
  · have e' : rb = b := e
    rw [e', ht] at h0
    omega
theorem Both.retag {w0 W : World} {B : Nat} {T T' : Nat → Nat} {cb cr : Nat} {C D : List Blk} (h : Both w0 B T W cb cr C D) (hT : ∀ k, k < W.heap.size → T' k = T k) : Both w0 B T' W cb cr C D := by
  obtain ⟨rb, cap, G, hR, h0⟩ := h.doc
  exact ⟨h.real.retag hT, (hT _ hR.cbW).trans h.tag, ⟨rb, cap, G, hR, (hT _ hR.lt).trans h0⟩, h.le⟩
theorem t10_point_guard : Try.prog.eqGuardType Try.prog.depth 26 = false := by kernel_rfl
theorem pick_in (x : Int) (n : Nat) (hn : 0 < n) (hb : n ≤ 100000) : 0 ≤ (x.tmod n + n).tmod n ∧ (x.tmod n + n).tmod n < n ∧ -100000 < x.tmod n ∧ x.tmod n < 100000 := by
  have h1 := Int.tmod_lt_of_pos x (show (0 : Int) < n by omega)
  have h2 : -(n : Int) < x.tmod n := Int.lt_tmod_of_pos x (by omega)
  have h3 : 0 ≤ x.tmod n + n := by omega
  exact ⟨Int.tmod_nonneg _ h3, Int.tmod_lt_of_pos _ (by omega), by omega, by omega⟩
/-- what is tagged as another's, or not at all, stays -/
def Fr (T : Nat → Nat) (W : World) (T' : Nat → Nat) (W' : World) : Prop := W.heap.size ≤ W'.heap.size ∧ ∀ k, k < W.heap.size → T' k = T k ∧ (T k = 0 ∨ T k = 3000000 → W'.heap[k]? = W.heap[k]?)
theorem Fr.refl (T : Nat → Nat) (W : World) : Fr T W T W := ⟨Nat.le_refl _, fun _ _ => ⟨rfl, fun _ => rfl⟩⟩
theorem Fr.tag {T T1 T2 : Nat → Nat} {W W1 : World} (h : Fr T W T1 W1) (hT : ∀ k, k < W1.heap.size → T2 k = T1 k) : Fr T W T2 W1 :=
  ⟨h.1, fun k hk => ⟨(hT k (Nat.lt_of_lt_of_le hk h.1)).trans (h.2 k hk).1, (h.2 k hk).2⟩⟩
theorem Fr.below {T T1 : Nat → Nat} {W W1 W2 : World} (h : Fr T W T1 W1) (hb : Below W1.heap.size W1 W2) : Fr T W T1 W2 :=
  ⟨Nat.le_trans h.1 hb.size, fun k hk => ⟨(h.2 k hk).1, fun ht => (hb.block k (Nat.lt_of_lt_of_le hk h.1)).trans ((h.2 k hk).2 ht)⟩⟩
theorem Fr.asd {T T1 T2 : Nat → Nat} {W W1 W2 : World} {M : Nat → Prop} (h : Fr T W T1 W1) (hb : Asd M W1 W2) (hM : ∀ k, k < W1.heap.size → T1 k = 0 ∨ T1 k = 3000000 → ¬ M k) (hT : ∀ k, k < W1.heap.size → T2 k = T1 k) : Fr T W T2 W2 :=
  ⟨Nat.le_trans h.1 hb.size, fun k hk => by
    have hk1 := Nat.lt_of_lt_of_le hk h.1
    obtain ⟨h1, h2⟩ := h.2 k hk
    exact ⟨(hT k hk1).trans h1, fun ht => (hb.block k hk1 (hM k hk1 (by rw [h1]; exact ht))).trans (h2 ht)⟩⟩
/-- the parent is put: done, or not yet -/
def HDo7 (w : World) (b : Nat) (h : Hash) (L : List Bool) (_V : List Value) (W : World) : Prop := (L.getD 0 false = false → W = w.drew) ∧ (L.getD 0 false = true → W = putRow w.drew b 0 (hashA h))
theorem pickN_int (x : Int) {n : Nat} (hn : 0 < n) : ((pickN x n : Nat) : Int) = (x.tmod n + n).tmod n := by
  have := pickI_lt x hn
  unfold pickN
  rw [Int.toNat_of_nonneg this.1]
  rfl
theorem do_name {W : World} {b o : Nat} {p : Pt} {g : GHeader} {q : Option Nat} (h : row? W b o 68 = some (rblkA p g q)) : row? W b (o + 1) 32 = some (hashA p.name) := (rblk_cells h).2.1
set_option maxRecDepth 100000 in
set_option maxHeartbeats 1600000 in
theorem actdo_c {w0 W : World} {B : Nat} {T : Nat → Nat} {cb cr : Nat} {C : List Blk} (h : Both w0 B T W cb cr C C) (hok : ChnOk C) {s : Sl} {l : List Act} (ha : ActsR w0 s l) (hl : l.length ≤ 40) (hf : ∀ a ∈ l, HdrFits a.h ∧ a.h.ops.length ≤ 30) :
    Calls Try.prog 34 #[ptrV cb, ptrV cr, s.v] W fun e w' => e = .returned (.bool true) ∧ ∃ T', Both w0 B T' w' cb cr (doA C l) (doA C l) ∧ Fr T W T' w' := by
  obtain ⟨sa, sn, sc⟩ := s
  obtain rfl : sn = l.length := ha.1
  have hs := Lib.hid ha
  clear ha
  dsimp only [Sl.v]
  unfold ptrV
  go_enter Try.func34, Try.ntmps34
  go_wp2_with fail
  go_loopw [7] (fun i w' => ∃ (k : Nat) (T' : Nat → Nat), k ≤ l.length ∧ i = .int .i64 k ∧ Hid (Both w0 B T' w' cb cr (doA C (l.take k)) (doA C (l.take k))) ∧ Hid (Fr T W T' w')) (fun i _ => l.length - (intOf i).toNat)
  case atStart => exact ⟨0, T, Nat.zero_le _, rfl, Lib.hid (by simpa [doA] using h), Lib.hid (Fr.refl _ _)⟩
  case round =>
    obtain ⟨k, T0, hk, rfl, hb0, hfr0⟩ := hrel
    obtain ⟨T1, hb1, hT0, hT01⟩ := hb0.out.fresh
    have hfr := Lib.hid (hfr0.out.tag hT01)
    clear hfr0 hT01
    have hb := Lib.hid hb1
    replace hT0 := Lib.hid hT0
    clear hb0 hb1
    have hok1 := doA_ok hok (l.take k)
    by_cases hkx : k < l.length
    · obtain ⟨bl, off, e, hbs, hc⟩ := hs.out.at (by omega)
      have e1 := congrArg Sl.a e
      simp only at e1
      subst e1
      clear e
      obtain ⟨cs, hcx0, x, rfl, hx, hxu, hxn⟩ := hc k hkx
      clear hc
      have hbel := hb.out.bel
      have hcx := (row?_below _ _ _ hbel hbs).trans hcx0
      obtain ⟨hrw, hcu, hcn⟩ := act_cells hcx
      have htk := Lib.hid (doA_take C l k hkx)
      have hfk := hf l[k] (List.getElem_mem hkx)
      generalize l[k] = a at *
      generalize doA C (l.take k) = D at *
      have k0 : (0 : Int) ≤ (k : Int) := by omega
      have k1 : (k : Int) < (l.length : Int) := by omega
      go_upto_region 5 with fail
      obtain ⟨w3, hw3, hrow8, hth8, hB3, hz3⟩ := box_row wr (headerA ⟨zeroHash, 0, ⟨none, 0, 0⟩⟩) (headerA x.g) 49 34 (by omega) (by simp) (by simp)
      rw [← hw3]
      clear hw3
      obtain ⟨wo, hwo⟩ : ∃ W, W = wr := ⟨_, rfl⟩
      have hBo3 := Lib.hid (show Below wo.heap.size wo w3 by rw [hwo]; exact hB3)
      have hfro := Lib.hid (show Fr T W T1 wo by rw [hwo]; exact hfr.out)
      have hzo := Lib.hid (show wo.heap.size = wr.heap.size by rw [hwo])
      clear hwo hfr
      obtain ⟨b8, hb8⟩ : ∃ b, b = wr.heap.size := ⟨_, rfl⟩
      rw [← hb8] at hrow8 hth8 ⊢
      have hb3 := Lib.hid (hb.out.keep hB3)
      have hbl3 : bl < wr.heap.size := Nat.lt_of_lt_of_le hbs hbel.size
      have hcu3 := (hB3.cell (p := ⟨bl, off + k * 36 + 34, none⟩) hbl3).trans hcu
      have hcn3 := (hB3.cell (p := ⟨bl, off + k * 36 + 35, none⟩) hbl3).trans hcn
      have hb8w : b8 < w3.heap.size := by omega
      have hx3 := Lib.hid hx
      replace hb8 := Lib.hid hb8
      replace hz3 := Lib.hid hz3
      clear hB3 hcx hcx0 hrw hcu hcn hbel hx
      obtain ⟨un, hun⟩ : ∃ un, un = a.under := ⟨_, rfl⟩
      rw [hxu, ← hun] at hcu3
      clear hxu
      replace hun := Lib.hid hun
      go_upto_if 29 with fail
      go_cut [9] from 30 to 55 (fun u W' => Hid (∃ g' : GHeader, row? W' b8 0 34 = some (headerA g') ∧ there W' b8 0 34 ∧ HdrR w0 g' (actH D a) ∧ Both w0 B T1 W' cb cr D D ∧ W'.heap.size = w3.heap.size ∧ Below wo.heap.size wo W'))
      case first =>
        cases un
        · have hact := Lib.hid (show actH D a = a.h by unfold actH; rw [← hun.out]; rfl)
          clear hun
          go_wp2_with fail
          go_meet
          case rel => exact Lib.hid ⟨x.g, hrow8, hth8, by rw [hact.out]; exact hx3.out, hb3.out, rfl, hBo3.out⟩
        · obtain ⟨rb, cap, G, hR, h0⟩ := hb3.out.doc
          have c0 := hR.c0
          have hDp := hok1.pos
          obtain ⟨i, hi⟩ : ∃ i, i = pickN a.n D.length := ⟨_, rfl⟩
          have hiD : i < D.length := by rw [hi]; exact pickN_lt _ hDp
          obtain ⟨gx, -, hrwi, -⟩ := hR.at hiD
          have hnm0 := do_name hrwi
          have hact := Lib.hid (show actH D a = { a.h with parent := D[i].p.name } by
            unfold actH
            rw [← hun.out, ← hi, List.getElem?_eq_getElem hiD]
            rfl)
          have hii := pickN_int a.n hDp
          rw [← hi] at hii
          have hDl := hok1.len
          obtain ⟨j1, j2, j3, j4⟩ := pick_in a.n D.length hDp (by omega)
          obtain ⟨nm, hnmE⟩ : ∃ nm, nm = D[i].p.name := ⟨_, rfl⟩
          rw [← hnmE] at hact hnm0
          have hnm := hnm0
          clear hnm0 hrwi hnmE hi hun
          obtain ⟨xn, hxne⟩ : ∃ xn, xn = x.n := ⟨_, rfl⟩
          rw [← hxne] at hcn3 hxn
          rw [← hxn] at hii j1 j2 j3 j4
          obtain ⟨r1, hr1⟩ : ∃ r, xn.tmod (D.length : Int) = r := ⟨_, rfl⟩
          rw [hr1] at hii j1 j2 j3 j4
          obtain ⟨r2, hr2⟩ : ∃ r, r1 + (D.length : Int) = r := ⟨_, rfl⟩
          rw [hr2] at hii j1 j2
          have hr3 : r2.tmod (D.length : Int) = (i : Int) := hii.symm
          have hne0 : ¬ (D.length : Int) = 0 := by omega
          have hDn : ¬ D = [] := by intro e; rw [e] at hDp; simp at hDp
          have hw1 : IntKind.i64.wrap r1 = r1 := IntWalk.i64_in _ (by omega)
          have hw2 : IntKind.i64.wrap r2 = r2 := IntWalk.i64_in _ (by omega)
          have hw3 : IntKind.i64.wrap (i : Int) = (i : Int) := IntWalk.i64_in _ (by omega)
          have hi0 : (0 : Int) ≤ (i : Int) := by omega
          have hi1 : (i : Int) < (D.length : Int) := by omega
          clear hii hxne hxn
          go_upto_region 7 with fail
          refine wp_region_freeI_l (by kernel_rfl) [35, 36, 37, 38, 39, 40, 41, 42, 43, 44, 45, 46, 47, 48, 49, 50, 51, 52, 53, 54, 126]
            [(fun v => v = .pointer (some ⟨cr, 0, none⟩)), (fun v => v = .pointer (some ⟨cr, 0, none⟩)), (fun v => v = .pointer (some ⟨cr, 0, none⟩)), (fun v => v = .slice (some ⟨rb, 0, none⟩) D.length cap), (fun v => v = .slice (some ⟨bl, off, none⟩) l.length sc), (fun v => v = .int .i64 (k : Int)), (fun v => v = .pointer (some ⟨bl, off + k * 36, none⟩)), (fun v => v = .pointer (some ⟨bl, off + k * 36 + 35, none⟩)), (fun v => v = .int .i64 xn), (fun v => v = .int .i64 (D.length : Int)), (fun v => v = .int .i64 r1), (fun v => v = .int .i64 (D.length : Int)), (fun v => v = .int .i64 r2), (fun v => v = .int .i64 (D.length : Int)), (fun v => v = .int .i64 (i : Int)), (fun v => v = .pointer (some ⟨rb, i * 68, none⟩)), (fun v => v = .pointer (some ⟨rb, i * 68, none⟩)), (fun v => v = .pointer (some ⟨rb, i * 68 + 1, none⟩)), (fun v => v = .agg (hashA nm)), (fun v => v = .pointer (some ⟨b8, 0, none⟩)), (fun _ => True)]
            [20] (HDo7 w3 b8 nm) [[1, 2, 3, 15, 16, 17, 18, 20], [2, 3, 15, 16, 17, 18, 20], [3, 15, 16, 17, 18, 20], [15, 16, 17, 18, 20], [6, 7, 8, 10, 12, 14, 15, 16, 17, 18, 20], [6, 7, 8, 10, 12, 14, 15, 16, 17, 18, 20], [7, 8, 10, 12, 14, 15, 16, 17, 18, 20], [8, 10, 12, 14, 15, 16, 17, 18, 20], [10, 12, 14, 15, 16, 17, 18, 20], [10, 12, 14, 15, 16, 17, 18, 20], [12, 14, 15, 16, 17, 18, 20], [12, 14, 15, 16, 17, 18, 20], [14, 15, 16, 17, 18, 20], [14, 15, 16, 17, 18, 20], [15, 16, 17, 18, 20], [16, 17, 18, 20], [17, 18, 20], [18, 20], [20], [20], []] (by kernel_rfl) (by kernel_rfl) ?_ ?_ ?_
          · show HDo7 w3 b8 nm [false] [_] _
            exact ⟨fun _ => rfl, fun q => (by cases q)⟩
          · refine ⟨?_, ?_, ?_, ?_, ?_, ?_, ?_, ?_, ?_, ?_, ?_, ?_, ?_, ?_, ?_, ?_, ?_, ?_, ?_, ?_, ?_, trivial⟩
            · intro L ax W hf hLi hno hd
              try simp [Region.binds] at hd
              have e1 : ax.tmps[1]?.getD undef = .pointer (some ⟨cr, 0, none⟩) := hf.out 1 (by decide) rfl
              refine ⟨fun _ => ?_, fun h => absurd trivial h⟩
              refine freeI_run (v := .pointer (some ⟨cr, 0, none⟩)) rfl hf (by decide) ?_ rfl
              go_simp
            · intro L ax W hf hLi hno hd
              simp [Region.binds] at hd
              have e35 : ax.tmps[35]?.getD undef = .pointer (some ⟨cr, 0, none⟩) := slv (hf.got 0 (by decide) (by simp [hd]))
              refine ⟨fun _ => ?_, fun h => absurd trivial h⟩
              refine freeI_run (v := .pointer (some ⟨cr, 0, none⟩)) rfl hf (by decide) ?_ rfl
              go_simp
            · intro L ax W hf hLi hno hd
              simp [Region.binds] at hd
              have e36 : ax.tmps[36]?.getD undef = .pointer (some ⟨cr, 0, none⟩) := slv (hf.got 1 (by decide) (by simp [hd]))
              refine ⟨fun _ => ?_, fun h => absurd trivial h⟩
              refine freeI_run (v := .pointer (some ⟨cr, 0, none⟩)) rfl hf (by decide) ?_ rfl
              go_simp
            · intro L ax W hf hLi hno hd
              simp [Region.binds] at hd
              have e37 : ax.tmps[37]?.getD undef = .pointer (some ⟨cr, 0, none⟩) := slv (hf.got 2 (by decide) (by simp [hd]))
              refine ⟨fun _ => ?_, fun h => absurd trivial h⟩
              have hG : HDo7 w3 b8 nm [L 20] [sl ax 126] W := hf.glob
              have hW : W = w3.drew := hG.1 (hno 20 (by decide))
              subst hW
              have c0d : w3.drew.cell? ⟨cr, 0, none⟩ = _ := c0
              refine freeI_run (v := .slice (some ⟨rb, 0, none⟩) D.length cap) rfl hf (by decide) ?_ rfl
              go_simp
            · intro L ax W hf hLi hno hd
              try simp [Region.binds] at hd
              have e2 : ax.tmps[2]?.getD undef = .slice (some ⟨bl, off, none⟩) l.length sc := hf.out 2 (by decide) rfl
              refine ⟨fun _ => ?_, fun h => absurd trivial h⟩
              refine freeI_run (v := .slice (some ⟨bl, off, none⟩) l.length sc) rfl hf (by decide) ?_ rfl
              go_simp
            · intro L ax W hf hLi hno hd
              try simp [Region.binds] at hd
              have e7 : ax.tmps[7]?.getD undef = .int .i64 (k : Int) := hf.out 7 (by decide) rfl
              refine ⟨fun _ => ?_, fun h => absurd trivial h⟩
              refine freeI_run (v := .int .i64 (k : Int)) rfl hf (by decide) ?_ rfl
              go_simp
            · intro L ax W hf hLi hno hd
              simp [Region.binds] at hd
              have e39 : ax.tmps[39]?.getD undef = .slice (some ⟨bl, off, none⟩) l.length sc := slv (hf.got 4 (by decide) (by simp [hd]))
              have e40 : ax.tmps[40]?.getD undef = .int .i64 (k : Int) := slv (hf.got 5 (by decide) (by simp [hd]))
              refine ⟨fun _ => ?_, fun h => absurd trivial h⟩
              refine freeI_run (v := .pointer (some ⟨bl, off + k * 36, none⟩)) rfl hf (by decide) ?_ rfl
              go_simp
            · intro L ax W hf hLi hno hd
              simp [Region.binds] at hd
              have e41 : ax.tmps[41]?.getD undef = .pointer (some ⟨bl, off + k * 36, none⟩) := slv (hf.got 6 (by decide) (by simp [hd]))
              refine ⟨fun _ => ?_, fun h => absurd trivial h⟩
              refine freeI_run (v := .pointer (some ⟨bl, off + k * 36 + 35, none⟩)) rfl hf (by decide) ?_ rfl
              go_simp
            · intro L ax W hf hLi hno hd
              simp [Region.binds] at hd
              have e42 : ax.tmps[42]?.getD undef = .pointer (some ⟨bl, off + k * 36 + 35, none⟩) := slv (hf.got 7 (by decide) (by simp [hd]))
              refine ⟨fun _ => ?_, fun h => absurd trivial h⟩
              have hG : HDo7 w3 b8 nm [L 20] [sl ax 126] W := hf.glob
              have hW : W = w3.drew := hG.1 (hno 20 (by decide))
              subst hW
              have c1d : w3.drew.cell? ⟨bl, off + k * 36 + 35, none⟩ = _ := hcn3
              refine freeI_run (v := .int .i64 xn) rfl hf (by decide) ?_ rfl
              go_simp
            · intro L ax W hf hLi hno hd
              try simp [Region.binds] at hd
              have e9 : ax.tmps[9]?.getD undef = .int .i64 (D.length : Int) := hf.out 9 (by decide) rfl
              refine ⟨fun _ => ?_, fun h => absurd trivial h⟩
              refine freeI_run (v := .int .i64 (D.length : Int)) rfl hf (by decide) ?_ rfl
              go_simp
            · intro L ax W hf hLi hno hd
              simp [Region.binds] at hd
              have e43 : ax.tmps[43]?.getD undef = .int .i64 xn := slv (hf.got 8 (by decide) (by simp [hd]))
              have e44 : ax.tmps[44]?.getD undef = .int .i64 (D.length : Int) := slv (hf.got 9 (by decide) (by simp [hd]))
              refine ⟨fun _ => ?_, fun h => absurd trivial h⟩
              refine freeI_run (v := .int .i64 r1) rfl hf (by decide) ?_ rfl
              go_simp
            · intro L ax W hf hLi hno hd
              try simp [Region.binds] at hd
              have e9 : ax.tmps[9]?.getD undef = .int .i64 (D.length : Int) := hf.out 9 (by decide) rfl
              refine ⟨fun _ => ?_, fun h => absurd trivial h⟩
              refine freeI_run (v := .int .i64 (D.length : Int)) rfl hf (by decide) ?_ rfl
              go_simp
            · intro L ax W hf hLi hno hd
              simp [Region.binds] at hd
              have e45 : ax.tmps[45]?.getD undef = .int .i64 r1 := slv (hf.got 10 (by decide) (by simp [hd]))
              have e46 : ax.tmps[46]?.getD undef = .int .i64 (D.length : Int) := slv (hf.got 11 (by decide) (by simp [hd]))
              refine ⟨fun _ => ?_, fun h => absurd trivial h⟩
              refine freeI_run (v := .int .i64 r2) rfl hf (by decide) ?_ rfl
              go_simp
            · intro L ax W hf hLi hno hd
              try simp [Region.binds] at hd
              have e9 : ax.tmps[9]?.getD undef = .int .i64 (D.length : Int) := hf.out 9 (by decide) rfl
              refine ⟨fun _ => ?_, fun h => absurd trivial h⟩
              refine freeI_run (v := .int .i64 (D.length : Int)) rfl hf (by decide) ?_ rfl
              go_simp
            · intro L ax W hf hLi hno hd
              simp [Region.binds] at hd
              have e47 : ax.tmps[47]?.getD undef = .int .i64 r2 := slv (hf.got 12 (by decide) (by simp [hd]))
              have e48 : ax.tmps[48]?.getD undef = .int .i64 (D.length : Int) := slv (hf.got 13 (by decide) (by simp [hd]))
              refine ⟨fun _ => ?_, fun h => absurd trivial h⟩
              refine freeI_run (v := .int .i64 (i : Int)) rfl hf (by decide) ?_ rfl
              go_simp
            · intro L ax W hf hLi hno hd
              simp [Region.binds] at hd
              have e38 : ax.tmps[38]?.getD undef = .slice (some ⟨rb, 0, none⟩) D.length cap := slv (hf.got 3 (by decide) (by simp [hd]))
              have e49 : ax.tmps[49]?.getD undef = .int .i64 (i : Int) := slv (hf.got 14 (by decide) (by simp [hd]))
              refine ⟨fun _ => ?_, fun h => absurd trivial h⟩
              refine freeI_run (v := .pointer (some ⟨rb, i * 68, none⟩)) rfl hf (by decide) ?_ rfl
              go_simp
            · intro L ax W hf hLi hno hd
              simp [Region.binds] at hd
              have e50 : ax.tmps[50]?.getD undef = .pointer (some ⟨rb, i * 68, none⟩) := slv (hf.got 15 (by decide) (by simp [hd]))
              refine ⟨fun _ => ?_, fun h => absurd trivial h⟩
              refine freeI_run (v := .pointer (some ⟨rb, i * 68, none⟩)) rfl hf (by decide) ?_ rfl
              go_simp
            · intro L ax W hf hLi hno hd
              simp [Region.binds] at hd
              have e51 : ax.tmps[51]?.getD undef = .pointer (some ⟨rb, i * 68, none⟩) := slv (hf.got 16 (by decide) (by simp [hd]))
              refine ⟨fun _ => ?_, fun h => absurd trivial h⟩
              refine freeI_run (v := .pointer (some ⟨rb, i * 68 + 1, none⟩)) rfl hf (by decide) ?_ rfl
              go_simp
            · intro L ax W hf hLi hno hd
              simp [Region.binds] at hd
              have e52 : ax.tmps[52]?.getD undef = .pointer (some ⟨rb, i * 68 + 1, none⟩) := slv (hf.got 17 (by decide) (by simp [hd]))
              refine ⟨fun _ => ?_, fun h => absurd trivial h⟩
              have hG : HDo7 w3 b8 nm [L 20] [sl ax 126] W := hf.glob
              have hW : W = w3.drew := hG.1 (hno 20 (by decide))
              subst hW
              have c2d : row? w3.drew rb (i * 68 + 1) 32 = _ := hnm
              refine freeI_run (v := .agg (hashA nm)) rfl hf (by decide) ?_ rfl
              go_simp
            · intro L ax W hf hLi hno hd
              try simp [Region.binds] at hd
              have e8 : ax.tmps[8]?.getD undef = .pointer (some ⟨b8, 0, none⟩) := hf.out 8 (by decide) rfl
              refine ⟨fun _ => ?_, fun h => absurd trivial h⟩
              refine freeI_run (v := .pointer (some ⟨b8, 0, none⟩)) rfl hf (by decide) ?_ rfl
              go_simp
            · intro L ax W hf hLi hno hd
              simp [Region.binds] at hd
              have e54 : ax.tmps[54]?.getD undef = .pointer (some ⟨b8, 0, none⟩) := slv (hf.got 19 (by decide) (by simp [hd]))
              have e53 : ax.tmps[53]?.getD undef = .agg (hashA nm) := slv (hf.got 18 (by decide) (by simp [hd]))
              refine ⟨fun _ => ?_, fun h => absurd trivial h⟩
              have hG : HDo7 w3 b8 nm [L 20] [sl ax 126] W := hf.glob
              have hW : W = w3.drew := hG.1 hLi
              subst hW
              have hthd : there w3.drew b8 0 32 := fun j hj => hth8 j (by omega)
              refine freeI_store (W' := putRow w3.drew b8 0 (hashA nm)) rfl ?_ trivial ⟨fun q => (by cases q), fun _ => rfl⟩
              go_simp
          · intro vs w4 hl' hF hG
            obtain ⟨g', hg1, hg2⟩ := vs_litI vs hl' hF
            have hW4 : w4 = putRow w3.drew b8 0 (hashA nm) := hG.2 rfl
            have hB3d : Both w0 B T1 w3.drew cb cr D D := hb3.out.keep ((Below.refl _ _).drew)
            have hl1 : D.length ≤ 100000 := by omega
            have ht8 : T1 b8 = 2500000 := hT0.out b8 (by have := hb8.out; omega)
            obtain ⟨T3, hB4, hT4⟩ := hB3d.put hl1 (b := b8) hb8w ht8 0 (hashA nm)
            have hB5 := hB4.retag (T' := T1) fun k hk => (hT4 k (by rw [size_put] at hk; exact hk)).symm
            rw [← hW4] at hB5
            have hrw4 : row? w4 b8 0 34 = some (headerA { x.g with parent := nm }) := by
              have hd8 : row? w3.drew b8 0 34 = some (headerA x.g) := hrow8
              rw [hW4, ← splice_header_parent, row?_put_in' _ _ _ _ _ (by simp) (by omega), hd8]
              rfl
            have hth4 : there w4 b8 0 34 := by
              rw [hW4, there_put']
              exact hth8
            have hz4 : w4.heap.size = w3.heap.size := by rw [hW4]; exact size_put _ _ _ _
            have hx4 : HdrR w0 { x.g with parent := nm } (actH D a) := by
              rw [hact.out]
              exact ⟨rfl, hx3.out.2.1, hx3.out.2.2⟩
            have hfin7 := Lib.hid (show ∃ g' : GHeader, row? w4 b8 0 34 = some (headerA g') ∧ there w4 b8 0 34 ∧ HdrR w0 g' (actH D a) ∧ Both w0 B T1 w4 cb cr D D ∧ w4.heap.size = w3.heap.size ∧ Below wo.heap.size wo w4 from ⟨_, hrw4, hth4, hx4, hB5, hz4, by rw [hW4]; exact below_put hBo3.out.drew (Nat.le_of_eq (hzo.out.trans hb8.out.symm)) _ _⟩)
            rw [hg1]
            simp only [List.length_cons, List.length_nil, Nat.reduceAdd, show List.range 21 = [0, 1, 2, 3, 4, 5, 6, 7, 8, 9, 10, 11, 12, 13, 14, 15, 16, 17, 18, 19, 20] from rfl, List.map_cons, List.map_nil, slotsIn, putL, List.setIfInBounds_toArray, List.set_cons_succ, List.set_cons_zero, List.size_toArray, Nat.reduceLT, if_true, if_false]
            clear hg1 hg2 hG hF hl' hW4 hB3d hB4 hT4 hB5 hrw4 hth4 hz4 hx4
            go_wp2_with fail
            go_meet
            case rel => exact hfin7
      case rest =>
        obtain ⟨g', hrow, hth, hg, hB, hzz, hBoc⟩ := hcut.out
        have hfc := Lib.hid (hfro.out.below hBoc)
        clear hBoc
        have hops : (actH D a).ops.length ≤ 1000000 := by rw [actH_ops]; omega
        have hfits : HdrFits (actH D a) := by
          have := hfk.1
          unfold HdrFits at this ⊢
          rw [actH_ops]
          exact this
        generalize actH D a = hd at *
        have hb8c : b8 < wc.heap.size := by omega
        obtain ⟨p, k2, hpk⟩ : ∃ p k2, (p, k2) = chCheck D hd := ⟨_, _, rfl⟩
        have HC := hB.real.check_c hok1 (hg.keep' hB.bel) hfits
        rw [← hpk] at HC
        unfold ptrV at HC
        have hB1 := Lib.hid hB
        have hg1 := Lib.hid hg
        replace hpk := Lib.hid hpk
        clear hB hg hcut hfk hb3 hx3 hrow8 hth8 hcu3 hcn3
        go_wp2_with fail
        (with_reducible refine HC.mono ?_)
        clear HC
        rintro e w5 ⟨rfl, hb5⟩
        have hB5 := Lib.hid (hB1.out.keep hb5)
        have hf5 := Lib.hid (hfc.out.below hb5)
        have hrow5 := (row?_below _ _ _ hb5 hb8c).trans hrow
        have hb85 : b8 < w5.heap.size := Nat.lt_of_lt_of_le hb8c hb5.size
        clear hb5 hB1 hrow hth
        go_upto_region 9 with fail
        obtain ⟨w6, hw6, hrow10, hth10, hB56, hz6⟩ := box_row w5 (pointA zeroPt) (pointA p) 26 33 (by omega) (by simp) (by simp)
        rw [← hw6]
        clear hw6
        have hB6 := Lib.hid (hB5.out.keep hB56)
        have hf6 := Lib.hid (hf5.out.below hB56)
        have hrow6 := (row?_below _ _ _ hB56 hb85).trans hrow5
        obtain ⟨b10, hb10⟩ : ∃ b, b = w5.heap.size := ⟨_, rfl⟩
        rw [← hb10] at hrow10 hth10 ⊢
        have hb86 : b8 < w6.heap.size := by omega
        have hb106 : b10 < w6.heap.size := by omega
        have hb810 : b8 < b10 := by omega
        have HD := hB6.out.docCheck hok1 (hg1.out.keep' hB6.out.bel) hops
        rw [← hpk.out] at HD
        unfold ptrV at HD
        replace hb10 := Lib.hid hb10
        replace hz6 := Lib.hid hz6
        clear hB56 hrow5 hB5
        go_wp2_with fail
        (with_reducible refine HD.mono ?_)
        clear HD
        rintro e w7 ⟨rfl, hb7⟩
        have hB7 := Lib.hid (hB6.out.keep hb7)
        have hf7 := Lib.hid (hf6.out.below hb7)
        have hrow7 := (row?_below _ _ _ hb7 hb86).trans hrow6
        have hrow107 := (row?_below _ _ _ hb7 hb106).trans hrow10
        have hth107 := there_below hb7 hb106 hth10
        have hb87 : b8 < w7.heap.size := Nat.lt_of_lt_of_le hb86 hb7.size
        have hb107 : b10 < w7.heap.size := Nat.lt_of_lt_of_le hb106 hb7.size
        clear hb7 hB6 hrow6 hrow10 hth10
        go_upto_region 10 with fail
        obtain ⟨w8, hw8, hrow12, hth12, hB78, hz8⟩ := box_row w7 (pointA zeroPt) (pointA p) 26 33 (by omega) (by simp) (by simp)
        rw [← hw8]
        clear hw8
        have hB8 := Lib.hid (hB7.out.keep hB78)
        have hf8 := Lib.hid (hf7.out.below hB78)
        have hrow8b := (row?_below _ _ _ hB78 hb87).trans hrow7
        have hrow108 := (row?_below _ _ _ hB78 hb107).trans hrow107
        have hth108 := there_below hB78 hb107 hth107
        obtain ⟨b12, hb12⟩ : ∃ b, b = w7.heap.size := ⟨_, rfl⟩
        rw [← hb12] at hrow12 hth12 ⊢
        have hb88 : b8 < w8.heap.size := by omega
        have hb108 : b10 < w8.heap.size := by omega
        have hb128 : b12 < w8.heap.size := by omega
        have hb1012 : b10 < b12 := by omega
        replace hb12 := Lib.hid hb12
        replace hz8 := Lib.hid hz8
        clear hB78 hrow7 hB7 hrow107 hth107
        have HR := hB8.out.realAdd hok1 (hg1.out.keep' hB8.out.bel) hfits
        rw [← hpk.out] at HR
        unfold ptrV at HR
        go_wp2_with fail
        (with_reducible refine HR.mono ?_)
        clear HR
        rintro e w9 ⟨rfl, ⟨T2, hB9, hT2⟩, hA9⟩
        have t10 : Hid (T2 b10 = 2500000) := Lib.hid ((hT2 b10 hb108).trans (hT0.out b10 (by have := hb8.out; omega)))
        have t12 : Hid (T2 b12 = 2500000) := Lib.hid ((hT2 b12 hb128).trans (hT0.out b12 (by have := hb8.out; omega)))
        have hf9 := Lib.hid (hf8.out.asd hA9 (fun k _ ht hm => by have h1 := hm.1; have h2 := hm.2; omega) hT2)
        clear hT2
        have hbr8 : wr.heap.size ≤ b8 := Nat.le_of_eq hb8.out.symm
        have n8 : ¬ MutS T1 b8 := fun q => by
          have h1 := hT0.out b8 hbr8
          have h2 := q.2
          omega
        have n10 : ¬ MutS T1 b10 := fun q => by
          have h1 := hT0.out b10 (by omega)
          have h2 := q.2
          omega
        have n12 : ¬ MutS T1 b12 := fun q => by
          have h1 := hT0.out b12 (by omega)
          have h2 := q.2
          omega
        have hrow9 := hA9.row n8 hrow8b
        have hth109 := hA9.there n10 hb108 hth108
        have hth129 := hA9.there n12 hb128 hth12
        have hrow109 := hA9.row n10 hrow108
        have hrow129 := hA9.row n12 hrow12
        have hz89 := hA9.size
        have hb89 : b8 < w9.heap.size := by omega
        have hb109 : b10 < w9.heap.size := by omega
        have hb129 : b12 < w9.heap.size := by omega
        replace hB9 := Lib.hid hB9
        clear hA9 hrow8b hth108 hth12 hrow108 hrow12 hB8 n8 n10 n12
        go_upto_region 13 with fail
        have hlen2 : (chAdd D hd).length ≤ 100000 := by
          have h1 := chAdd_len D hd
          have h2 := hok1.len
          omega
        obtain ⟨T3, hB10, hT3⟩ := hB9.out.put hlen2 hb109 t10.out 0 (pointA p)
        have t12b : Hid (T3 b12 = 2500000) := Lib.hid ((hT3 b12 hb129).trans t12.out)
        have hP := asd_put w9 b10 0 (pointA p)
        have hf10 := Lib.hid (hf9.out.asd hP (fun k _ ht hm => by have h1 := t10.out; rw [show k = b10 from hm, h1] at ht; omega) hT3)
        have hrow10a := hP.row (b := b8) (by show ¬ b8 = b10; omega) hrow9
        have hrow12a := hP.row (b := b12) (by show ¬ b12 = b10; omega) hrow129
        have hth12a := hP.there (b := b12) (by show ¬ b12 = b10; omega) hb129 hth129
        have hrow10b : row? (putRow w9 b10 0 (pointA p)) b10 0 33 = some (pointA p) := row?_put_same _ _ _ _ _ (by simp) (by omega) hth109
        have hsz10 : (putRow w9 b10 0 (pointA p)).heap.size = w9.heap.size := size_put _ _ _ _
        have HD2 := hB10.docAdd hlen2 hok1 hg1.out hops
        rw [← hpk.out] at HD2
        unfold ptrV at HD2
        clear hP hrow9 hrow129 hth129 hrow109 hth109 hB9 t12
        generalize putRow w9 b10 0 (pointA p) = w10 at *
        go_wp2_with fail
        (with_reducible refine HD2.mono ?_)
        clear HD2
        rintro e w11 ⟨rfl, ⟨T4, hB11, hT4⟩, hA11⟩
        have hcr2 : T3 cr = 2000000 := hB10.tag
        have t10b : T3 b10 = 2500000 := (hT3 b10 hb109).trans t10.out
        have n10 : ¬ b10 = cr := fun e => by rw [e, hcr2] at t10b; omega
        have n12 : ¬ b12 = cr := fun e => by
          have := t12b.out
          rw [e, hcr2] at this
          omega
        have hz11 := hA11.size
        have hrow10c0 := hA11.row (b := b10) n10 hrow10b
        have hrow12c0 := hA11.row (b := b12) n12 hrow12a
        have hth12b := hA11.there (b := b12) n12 (by omega) hth12a
        have t12c : T4 b12 = 2500000 := (hT4 b12 (by omega)).trans t12b.out
        have hlenD := chAdd_len D hd
        have hf11 := Lib.hid (hf10.out.asd hA11 (fun k _ ht hm => by rw [show k = cr from hm, hcr2] at ht; omega) hT4)
        have hb1211 : b12 < w11.heap.size := by omega
        go_upto_region 14 with fail
        obtain ⟨T5, hB12, hT5⟩ := hB11.put hlen2 hb1211 t12c 0 (pointA p)
        have hP := asd_put w11 b12 0 (pointA p)
        have hf12 := Lib.hid (hf11.out.asd hP (fun k _ ht hm => by rw [show k = b12 from hm, t12c] at ht; omega) hT5)
        clear hT5
        have hrow10c := hP.row (b := b10) (by show ¬ b10 = b12; omega) hrow10c0
        have hrow12c : row? (putRow w11 b12 0 (pointA p)) b12 0 33 = some (pointA p) := row?_put_same _ _ _ _ _ (by simp) (by omega) hth12b
        have hsz12 : (putRow w11 b12 0 (pointA p)).heap.size = w11.heap.size := size_put _ _ _ _
        have hb10c : b10 < (putRow w11 b12 0 (pointA p)).heap.size := by omega
        have hb12c : b12 < (putRow w11 b12 0 (pointA p)).heap.size := by omega
        have hok2 := chAdd_ok hok1 hd
        obtain ⟨rb5, cap5, G5, hR5, -⟩ := hB12.doc
        have c05 := hR5.c0
        have hcrc := hR5.cbW
        have HL := fun W (hb : Below (putRow w11 b12 0 (pointA p)).heap.size (putRow w11 b12 0 (pointA p)) W) => (hB12.real.keep hb).len_c hok2
        have hpos2 := hok2.pos
        obtain ⟨n0, hn0⟩ : ∃ n, n = (chAdd D hd).length := ⟨_, rfl⟩
        obtain ⟨n1, hn1⟩ : ∃ n : Nat, n = n0 - 1 := ⟨_, rfl⟩
        have hn1i : ((chAdd D hd).length : Int) - 1 = (n1 : Int) := by omega
        rw [← hn0] at c05
        simp only [hn1i] at HL
        unfold ptrV at HL
        have hn01 : (n0 : Int) - 1 = (n1 : Int) := by omega
        have hwn : IntKind.i64.wrap (n1 : Int) = (n1 : Int) := IntWalk.i64_in _ (by omega)
        have hgd := t10_point_guard
        have htk2 := htk.out
        replace hn0 := Lib.hid hn0
        replace hn1 := Lib.hid hn1
        replace hB12 := Lib.hid hB12
        clear hP hrow10c0 hrow12c0 hrow10b hrow12a hth12b hth12a hA11 hB11 hB10 hR5 hn1i
        generalize putRow w11 b12 0 (pointA p) = w12 at *
        refine wp_region_freeG_l (fun W W' => Below W.heap.size W W') (by kernel_rfl) [87, 88, 89, 90, 91, 92, 93, 94, 95, 96, 97, 98, 99, 100, 101, 102, 103, 104, 105]
          [Is (.int .i64 k2), Is (.int .i64 k2), Is (.bool false), Is (.bool false), Is (.agg (pointA p)), Is (.agg (pointA p)), Is (.bool false), Is (.bool false), Is (.bool false), Is (.pointer (some ⟨cb, 0, none⟩)), Is (.int .i64 (n1 : Int)), Is (.pointer (some ⟨cr, 0, none⟩)), Is (.pointer (some ⟨cr, 0, none⟩)), Is (.pointer (some ⟨cr, 0, none⟩)), Is (.slice (some ⟨rb5, 0, none⟩) n0 cap5), Is (.int .i64 (n0 : Int)), Is (.int .i64 (n1 : Int)), Is (.bool false), Is (.bool false)]
          (by kernel_rfl) (fun W W' h hb => hb.trans (h.mono hb.size)) ?_ ?_ ?_
        · intro f hf
          simp only [List.mem_cons, List.not_mem_nil, or_false] at hf
          rcases hf with rfl | rfl | rfl | rfl | rfl | rfl | rfl | rfl | rfl | rfl | rfl | rfl | rfl | rfl | rfl | rfl | rfl | rfl | rfl <;> intro x W W' h hr <;> first | exact h
        · refine ⟨?_, ?_, ?_, ?_, ?_, ?_, ?_, ?_, ?_, ?_, ?_, ?_, ?_, ?_, ?_, ?_, ?_, ?_, ?_, trivial⟩
          · intro L ax W hf hd
            try simp [Region.binds] at hd
            have e11 : ax.tmps[11]?.getD undef = .int .i64 k2 := hf.out 11 (by decide) rfl
            refine ⟨fun _ => ?_, fun h => absurd trivial h⟩
            refine free_run (v := .int .i64 k2) (W' := W) rfl ?_ rfl (Below.refl _ _)
            go_simp
          · intro L ax W hf hd
            try simp [Region.binds] at hd
            have e13 : ax.tmps[13]?.getD undef = .int .i64 k2 := hf.out 13 (by decide) rfl
            refine ⟨fun _ => ?_, fun h => absurd trivial h⟩
            refine free_run (v := .int .i64 k2) (W' := W) rfl ?_ rfl (Below.refl _ _)
            go_simp
          · intro L ax W hf hd
            simp [Region.binds] at hd
            have e87 : ax.tmps[87]?.getD undef = .int .i64 k2 := slv (hf.got 0 (by decide) (by simp [hd]))
            have e88 : ax.tmps[88]?.getD undef = .int .i64 k2 := slv (hf.got 1 (by decide) (by simp [hd]))
            refine ⟨fun _ => ?_, fun h => absurd trivial h⟩
            refine free_run (v := .bool false) (W' := W) rfl ?_ rfl (Below.refl _ _)
            go_simp
          · intro L ax W hf hd
            simp [Region.binds] at hd
            have e89 : ax.tmps[89]?.getD undef = .bool false := slv (hf.got 2 (by decide) (by simp [hd]))
            refine ⟨fun _ => ?_, fun h => absurd trivial h⟩
            refine free_run (v := .bool false) (W' := W) rfl ?_ rfl (Below.refl _ _)
            go_simp
          · intro L ax W hf hd
            simp [Region.binds] at hd
            have e10 : ax.tmps[10]?.getD undef = .pointer (some ⟨b10, 0, none⟩) := hf.out 10 (by decide) rfl
            have g0 : sl ax 90 = .bool false := hf.got 3 (by decide) (by simp [hd])
            refine ⟨fun hh => ?_, fun hh => ?_⟩
            · first
                | (exact absurd (g0.symm.trans hh) (undef_ne _))
                | (exact absurd (g0.symm.trans hh) (bool_ne (by decide)))
                | (exfalso; revert hh; simp [Held, g0, *]; done)
                | ((have h1 := (row?_below _ _ _ hf.below hb10c).trans hrow10c); refine free_run (v := .agg (pointA p)) (W' := W) rfl ?_ rfl (Below.refl _ _); go_simp)
            · first
                | (exact absurd g0 hh)
                | (exfalso; revert hh; simp [Held, g0, *]; done)
                | (show undef = _; first | rfl | (simp [*]; done))
          · intro L ax W hf hd
            simp [Region.binds] at hd
            have e12 : ax.tmps[12]?.getD undef = .pointer (some ⟨b12, 0, none⟩) := hf.out 12 (by decide) rfl
            have g0 : sl ax 90 = .bool false := hf.got 3 (by decide) (by simp [hd])
            refine ⟨fun hh => ?_, fun hh => ?_⟩
            · first
                | (exact absurd (g0.symm.trans hh) (undef_ne _))
                | (exact absurd (g0.symm.trans hh) (bool_ne (by decide)))
                | (exfalso; revert hh; simp [Held, g0, *]; done)
                | ((have h1 := (row?_below _ _ _ hf.below hb12c).trans hrow12c); refine free_run (v := .agg (pointA p)) (W' := W) rfl ?_ rfl (Below.refl _ _); go_simp)
            · first
                | (exact absurd g0 hh)
                | (exfalso; revert hh; simp [Held, g0, *]; done)
                | (show undef = _; first | rfl | (simp [*]; done))
          · intro L ax W hf hd
            simp [Region.binds] at hd
            have e91 : ax.tmps[91]?.getD undef = .agg (pointA p) := slv (hf.got 4 (by decide) (by simp [hd]))
            have e92 : ax.tmps[92]?.getD undef = .agg (pointA p) := slv (hf.got 5 (by decide) (by simp [hd]))
            have g0 : sl ax 90 = .bool false := hf.got 3 (by decide) (by simp [hd])
            refine ⟨fun hh => ?_, fun hh => ?_⟩
            · first
                | (exact absurd (g0.symm.trans hh) (undef_ne _))
                | (exact absurd (g0.symm.trans hh) (bool_ne (by decide)))
                | (exfalso; revert hh; simp [Held, g0, *]; done)
                | (refine free_run (v := .bool false) (W' := W) rfl ?_ rfl (Below.refl _ _); go_simp)
            · first
                | (exact absurd g0 hh)
                | (exfalso; revert hh; simp [Held, g0, *]; done)
                | (show undef = _; first | rfl | (simp [*]; done))
          · intro L ax W hf hd
            simp [Region.binds] at hd
            have e90 : ax.tmps[90]?.getD undef = .bool false := slv (hf.got 3 (by decide) (by simp [hd]))
            have e93 : ax.tmps[93]?.getD undef = .bool false := slv (hf.got 6 (by decide) (by simp [hd]))
            refine ⟨fun _ => ?_, fun h => absurd trivial h⟩
            refine free_run (v := .bool false) (W' := W) rfl ?_ rfl (Below.refl _ _)
            go_simp
          · intro L ax W hf hd
            simp [Region.binds] at hd
            have e94 : ax.tmps[94]?.getD undef = .bool false := slv (hf.got 7 (by decide) (by simp [hd]))
            refine ⟨fun _ => ?_, fun h => absurd trivial h⟩
            refine free_run (v := .bool false) (W' := W) rfl ?_ rfl (Below.refl _ _)
            go_simp
          · intro L ax W hf hd
            simp [Region.binds] at hd
            have e0 : ax.tmps[0]?.getD undef = .pointer (some ⟨cb, 0, none⟩) := hf.out 0 (by decide) rfl
            have g0 : sl ax 95 = .bool false := hf.got 8 (by decide) (by simp [hd])
            refine ⟨fun hh => ?_, fun hh => ?_⟩
            · first
                | (exact absurd (g0.symm.trans hh) (undef_ne _))
                | (exact absurd (g0.symm.trans hh) (bool_ne (by decide)))
                | (exfalso; revert hh; simp [Held, g0, *]; done)
                | (refine free_run (v := .pointer (some ⟨cb, 0, none⟩)) (W' := W) rfl ?_ rfl (Below.refl _ _); go_simp)
            · first
                | (exact absurd g0 hh)
                | (exfalso; revert hh; simp [Held, g0, *]; done)
                | (show undef = _; first | rfl | (simp [*]; done))
          · intro L ax W hf hd
            simp [Region.binds] at hd
            have e96 : ax.tmps[96]?.getD undef = .pointer (some ⟨cb, 0, none⟩) := slv (hf.got 9 (by decide) (by simp [hd]))
            have g0 : sl ax 95 = .bool false := hf.got 8 (by decide) (by simp [hd])
            refine ⟨fun hh => ?_, fun hh => ?_⟩
            · first
                | (exact absurd (g0.symm.trans hh) (undef_ne _))
                | (exact absurd (g0.symm.trans hh) (bool_ne (by decide)))
                | (exfalso; revert hh; simp [Held, g0, *]; done)
                | (refine free_call (f := 36) (args := #[.pointer (some ⟨cb, 0, none⟩)]) rfl (by go_simp) ?_; refine (HL W hf.below).mono ?_; rintro e w' ⟨rfl, hb⟩; exact ⟨_, rfl, rfl, hb⟩)
            · first
                | (exact absurd g0 hh)
                | (exfalso; revert hh; simp [Held, g0, *]; done)
                | (show undef = _; first | rfl | (simp [*]; done))
          · intro L ax W hf hd
            simp [Region.binds] at hd
            have e1 : ax.tmps[1]?.getD undef = .pointer (some ⟨cr, 0, none⟩) := hf.out 1 (by decide) rfl
            have g0 : sl ax 95 = .bool false := hf.got 8 (by decide) (by simp [hd])
            refine ⟨fun hh => ?_, fun hh => ?_⟩
            · first
                | (exact absurd (g0.symm.trans hh) (undef_ne _))
                | (exact absurd (g0.symm.trans hh) (bool_ne (by decide)))
                | (exfalso; revert hh; simp [Held, g0, *]; done)
                | (refine free_run (v := .pointer (some ⟨cr, 0, none⟩)) (W' := W) rfl ?_ rfl (Below.refl _ _); go_simp)
            · first
                | (exact absurd g0 hh)
                | (exfalso; revert hh; simp [Held, g0, *]; done)
                | (show undef = _; first | rfl | (simp [*]; done))
          · intro L ax W hf hd
            simp [Region.binds] at hd
            have e98 : ax.tmps[98]?.getD undef = .pointer (some ⟨cr, 0, none⟩) := slv (hf.got 11 (by decide) (by simp [hd]))
            have g0 : sl ax 95 = .bool false := hf.got 8 (by decide) (by simp [hd])
            refine ⟨fun hh => ?_, fun hh => ?_⟩
            · first
                | (exact absurd (g0.symm.trans hh) (undef_ne _))
                | (exact absurd (g0.symm.trans hh) (bool_ne (by decide)))
                | (exfalso; revert hh; simp [Held, g0, *]; done)
                | (refine free_run (v := .pointer (some ⟨cr, 0, none⟩)) (W' := W) rfl ?_ rfl (Below.refl _ _); go_simp)
            · first
                | (exact absurd g0 hh)
                | (exfalso; revert hh; simp [Held, g0, *]; done)
                | (show undef = _; first | rfl | (simp [*]; done))
          · intro L ax W hf hd
            simp [Region.binds] at hd
            have e99 : ax.tmps[99]?.getD undef = .pointer (some ⟨cr, 0, none⟩) := slv (hf.got 12 (by decide) (by simp [hd]))
            have g0 : sl ax 95 = .bool false := hf.got 8 (by decide) (by simp [hd])
            refine ⟨fun hh => ?_, fun hh => ?_⟩
            · first
                | (exact absurd (g0.symm.trans hh) (undef_ne _))
                | (exact absurd (g0.symm.trans hh) (bool_ne (by decide)))
                | (exfalso; revert hh; simp [Held, g0, *]; done)
                | (refine free_run (v := .pointer (some ⟨cr, 0, none⟩)) (W' := W) rfl ?_ rfl (Below.refl _ _); go_simp)
            · first
                | (exact absurd g0 hh)
                | (exfalso; revert hh; simp [Held, g0, *]; done)
                | (show undef = _; first | rfl | (simp [*]; done))
          · intro L ax W hf hd
            simp [Region.binds] at hd
            have e100 : ax.tmps[100]?.getD undef = .pointer (some ⟨cr, 0, none⟩) := slv (hf.got 13 (by decide) (by simp [hd]))
            have g0 : sl ax 95 = .bool false := hf.got 8 (by decide) (by simp [hd])
            refine ⟨fun hh => ?_, fun hh => ?_⟩
            · first
                | (exact absurd (g0.symm.trans hh) (undef_ne _))
                | (exact absurd (g0.symm.trans hh) (bool_ne (by decide)))
                | (exfalso; revert hh; simp [Held, g0, *]; done)
                | ((have h1 := (hf.below.cell (p := ⟨cr, 0, none⟩) hcrc).trans c05); refine free_run (v := .slice (some ⟨rb5, 0, none⟩) n0 cap5) (W' := W) rfl ?_ rfl (Below.refl _ _); go_simp)
            · first
                | (exact absurd g0 hh)
                | (exfalso; revert hh; simp [Held, g0, *]; done)
                | (show undef = _; first | rfl | (simp [*]; done))
          · intro L ax W hf hd
            simp [Region.binds] at hd
            have e101 : ax.tmps[101]?.getD undef = .slice (some ⟨rb5, 0, none⟩) n0 cap5 := slv (hf.got 14 (by decide) (by simp [hd]))
            have g0 : sl ax 95 = .bool false := hf.got 8 (by decide) (by simp [hd])
            refine ⟨fun hh => ?_, fun hh => ?_⟩
            · first
                | (exact absurd (g0.symm.trans hh) (undef_ne _))
                | (exact absurd (g0.symm.trans hh) (bool_ne (by decide)))
                | (exfalso; revert hh; simp [Held, g0, *]; done)
                | (refine free_run (v := .int .i64 (n0 : Int)) (W' := W) rfl ?_ rfl (Below.refl _ _); go_simp)
            · first
                | (exact absurd g0 hh)
                | (exfalso; revert hh; simp [Held, g0, *]; done)
                | (show undef = _; first | rfl | (simp [*]; done))
          · intro L ax W hf hd
            simp [Region.binds] at hd
            have e102 : ax.tmps[102]?.getD undef = .int .i64 (n0 : Int) := slv (hf.got 15 (by decide) (by simp [hd]))
            have g0 : sl ax 95 = .bool false := hf.got 8 (by decide) (by simp [hd])
            refine ⟨fun hh => ?_, fun hh => ?_⟩
            · first
                | (exact absurd (g0.symm.trans hh) (undef_ne _))
                | (exact absurd (g0.symm.trans hh) (bool_ne (by decide)))
                | (exfalso; revert hh; simp [Held, g0, *]; done)
                | (refine free_run (v := .int .i64 (n1 : Int)) (W' := W) rfl ?_ rfl (Below.refl _ _); go_simp)
            · first
                | (exact absurd g0 hh)
                | (exfalso; revert hh; simp [Held, g0, *]; done)
                | (show undef = _; first | rfl | (simp [*]; done))
          · intro L ax W hf hd
            simp [Region.binds] at hd
            have e97 : ax.tmps[97]?.getD undef = .int .i64 (n1 : Int) := slv (hf.got 10 (by decide) (by simp [hd]))
            have e103 : ax.tmps[103]?.getD undef = .int .i64 (n1 : Int) := slv (hf.got 16 (by decide) (by simp [hd]))
            have g0 : sl ax 95 = .bool false := hf.got 8 (by decide) (by simp [hd])
            refine ⟨fun hh => ?_, fun hh => ?_⟩
            · first
                | (exact absurd (g0.symm.trans hh) (undef_ne _))
                | (exact absurd (g0.symm.trans hh) (bool_ne (by decide)))
                | (exfalso; revert hh; simp [Held, g0, *]; done)
                | (refine free_run (v := .bool false) (W' := W) rfl ?_ rfl (Below.refl _ _); go_simp)
            · first
                | (exact absurd g0 hh)
                | (exfalso; revert hh; simp [Held, g0, *]; done)
                | (show undef = _; first | rfl | (simp [*]; done))
          · intro L ax W hf hd
            simp [Region.binds] at hd
            have e95 : ax.tmps[95]?.getD undef = .bool false := slv (hf.got 8 (by decide) (by simp [hd]))
            have e104 : ax.tmps[104]?.getD undef = .bool false := slv (hf.got 17 (by decide) (by simp [hd]))
            refine ⟨fun _ => ?_, fun h => absurd trivial h⟩
            refine free_run (v := .bool false) (W' := W) rfl ?_ rfl (Below.refl _ _)
            go_simp
        · intro vs W' hl' hF hb
          obtain ⟨g', hg1, hg2⟩ := vs_lit vs hl' hF
          have e18 : g' 18 = .bool false := hg2 18 (by decide)
          rw [hg1]
          have hfinB := Lib.hid (hB12.out.keep hb)
          have hfinF := Lib.hid (hf12.out.below hb)
          clear hF hg1 hg2 hl' hb HL hB12 hrow10c hrow12c c05 hcrc
          simp only [List.length_cons, List.length_nil, Nat.reduceAdd, show List.range 19 = [0, 1, 2, 3, 4, 5, 6, 7, 8, 9, 10, 11, 12, 13, 14, 15, 16, 17, 18] from rfl, List.map_cons, List.map_nil, putL, List.zip_cons_cons, List.zip_nil_right, List.setIfInBounds_toArray, List.set_cons_succ, List.set_cons_zero, e18]
          go_wp2_with fail
          go_roundw
          case rel => exact ⟨k + 1, T5, by omega, by go_num, Lib.hid (by rw [htk2]; exact hfinB.out), hfinF⟩
          case measure => simp [intOf]; omega
    · have hfin := Lib.hid (show ∃ T', Both w0 B T' wr cb cr (doA C l) (doA C l) ∧ Fr T W T' wr by
        have h1 := hb.out
        rw [List.take_of_length_le (by omega)] at h1
        exact ⟨T1, h1, hfr.out⟩)
      go_wp2_with fail
      go_ret
      exact ⟨rfl, hfin.out⟩
end Go.Proofs.Ythdjhbiigmcecaa

/- A chain, asked for a name that it has not: Path, Parent, Header, Children. -/
namespace Go.Proofs.Ythdjhbiigmcecaa
open Go.RowKit

section
variable {W : World} {cb ab ac mb : Nat} {G : List GB} {C : List Blk}
theorem header_res : Try.f50.results = #[.cell 4 49, .tmp 5] := by kernel_rfl
end
section
variable {B : Nat} {T : Nat → Nat} {W : World} {cb : Nat} {C : List Blk} (h : ChR B T W cb C) (hok : ChnOk C)
include h hok
end
end Go.Proofs.Ythdjhbiigmcecaa
