/- Texts of this proof, one behind the other: OrdP, OrdM. -/
import Derived.Test.YthdjhbiigmcecaaKH
import Derived.Test.YthdjhbiigmcecaaKI
set_option linter.unusedVariables false
set_option linter.unusedSimpArgs false
/- Chains, plainly: what a chain is does not hang on the order in which its headers were added. -/
namespace Go.Proofs.Ythdjhbiigmcecaa

theorem nodup_le {α : Type} [DecidableEq α] : ∀ (l m : List α), l.Nodup → (∀ x ∈ l, x ∈ m) → l.length ≤ m.length
  | [], _, _, _ => Nat.zero_le _
  | a :: l, m, hn, hs => by
    have ham := hs a (List.mem_cons_self ..)
    have hn' := List.nodup_cons.1 hn
    have ih := nodup_le l (m.erase a) hn'.2 fun x hx => by
      have hxa : x ≠ a := fun e => hn'.1 (e ▸ hx)
      exact (List.mem_erase_of_ne hxa).2 (hs x (List.mem_cons_of_mem _ hx))
    rw [List.length_erase_of_mem ham] at ih
    have : 0 < m.length := List.length_pos_of_mem ham
    simp only [List.length_cons]
    omega
/-- the headers of a chain, behind its anchor -/
def hdrsOf (C : List Blk) : List Hdr := (C.drop 1).map (·.h)
def nmAt (C : List Blk) (i : Nat) : Hash := ((C[i]?).map (·.p.name)).getD zeroHash
theorem nmAt_of {C : List Blk} {i : Nat} {b : Blk} (h : C[i]? = some b) : nmAt C i = b.p.name := by simp [nmAt, h]
theorem nm_inj {C : List Blk} (h : ChnOk C) {i j : Nat} (hi : i < C.length) (hj : j < C.length) (e : nmAt C i = nmAt C j) : i = j := by
  rw [nmAt_of (List.getElem?_eq_getElem hi), nmAt_of (List.getElem?_eq_getElem hj)] at e
  have h1 := chAt_of h (List.getElem?_eq_getElem hi)
  have h2 := chAt_of h (List.getElem?_eq_getElem hj)
  rw [e, h2] at h1
  injection h1 with h1
  exact h1.symm
/-- a chain of headers of C alone, on the same anchor -/
structure Part (C D : List Blk) : Prop where
  ok : ChnOk D
  head : ∃ b c, D[0]? = some b ∧ C[0]? = some c ∧ b.p = c.p
  sub : ∀ b ∈ D, ∃ c ∈ C, c.p = b.p ∧ c.h = b.h
section
variable {C D : List Blk}
theorem Part.len (h : Part C D) : D.length ≤ C.length := by
  have hn : (D.map (·.p.name)).length ≤ (C.map (·.p.name)).length := nodup_le _ _ h.ok.names fun x hx => by
    obtain ⟨b, hb, rfl⟩ := List.mem_map.1 hx
    obtain ⟨c, hc, e, -⟩ := h.sub b hb
    exact List.mem_map.2 ⟨c, hc, by rw [e]⟩
  simpa using hn
/-- one name, one block -/
theorem one_block (hC : ChnOk C) {b c : Blk} (hb : b ∈ C) (hc : c ∈ C) (e : b.p.name = c.p.name) : b = c := by
  obtain ⟨i, hi, rfl⟩ := List.getElem_of_mem hb
  obtain ⟨j, hj, rfl⟩ := List.getElem_of_mem hc
  have := nm_inj hC hi hj (by rw [nmAt_of (List.getElem?_eq_getElem hi), nmAt_of (List.getElem?_eq_getElem hj), e])
  subst this
  rfl
theorem Part.same (hC : ChnOk C) (h : Part C D) {b c : Blk} (hb : b ∈ D) (hc : c ∈ C) (e : b.p.name = c.p.name) : b.p = c.p ∧ b.h = c.h := by
  obtain ⟨c', hc', e1, e2⟩ := h.sub b hb
  have := one_block hC hc' hc (by rw [e1, e])
  subst this
  exact ⟨e1.symm, e2.symm⟩
theorem hdrs_mem {x : Hdr} (hx : x ∈ hdrsOf C) : ∃ j c, 0 < j ∧ C[j]? = some c ∧ c.h = x := by
  unfold hdrsOf at hx
  obtain ⟨c, hc, rfl⟩ := List.mem_map.1 hx
  obtain ⟨i, hi, rfl⟩ := List.getElem_of_mem hc
  rw [List.length_drop] at hi
  refine ⟨i + 1, C[i + 1], by omega, List.getElem?_eq_getElem (by omega), ?_⟩
  rw [List.getElem_drop]
  congr 2
  omega
theorem Part.add (hC : ChnOk C) (h : Part C D) {x : Hdr} (hx : x ∈ hdrsOf C) : Part C (chAdd D x) := by
  obtain ⟨j, c, hj, hc, rfl⟩ := hdrs_mem hx
  refine ⟨chAdd_ok h.ok _, ?_, fun b hb => ?_⟩
  · obtain ⟨b, c0, h1, h2, h3⟩ := h.head
    refine ⟨b, c0, ?_, h2, h3⟩
    unfold chAdd
    split
    · rw [List.getElem?_append_left h.ok.pos]; exact h1
    · exact h1
  · unfold chAdd at hb
    split at hb
    · rename_i hk
      rcases List.mem_append.1 hb with hb | hb
      · exact h.sub b hb
      · obtain ⟨-, -, -, -, hp⟩ := check_ok hk
        have : b = ⟨(chCheck D c.h).1, c.h, chAt D c.h.parent⟩ := by simpa using hb
        subst this
        exact ⟨c, List.mem_of_getElem? hc, by rw [(hC.hdr j c hc hj).1]; exact hp.symm, rfl⟩
    · exact h.sub b hb
def Has (D : List Blk) (n : Hash) : Prop := ∃ b ∈ D, b.p.name = n
theorem Has.add {n : Hash} (h : Has D n) (x : Hdr) : Has (chAdd D x) n := by
  obtain ⟨b, hb, e⟩ := h
  refine ⟨b, ?_, e⟩
  unfold chAdd
  split
  · exact List.mem_append_left _ hb
  · exact hb
theorem Has.at {n : Hash} (h : Has D n) : ∃ i b, chAt D n = some i ∧ D[i]? = some b ∧ b.p.name = n := by
  cases hn : chAt D n with
  | none =>
    obtain ⟨b, hb, e⟩ := h
    exact absurd e (chAt_none hn b hb)
  | some i =>
    obtain ⟨b, hb, e⟩ := chAt_some hn
    exact ⟨i, b, rfl, hb, e⟩
theorem hdrs_in {j : Nat} {c : Blk} (hj : 0 < j) (hc : C[j]? = some c) : c.h ∈ hdrsOf C := by
  unfold hdrsOf
  refine List.mem_map.2 ⟨c, ?_, rfl⟩
  refine List.mem_of_getElem? (i := j - 1) ?_
  rw [List.getElem?_drop, show 1 + (j - 1) = j by omega]
  exact hc
/-- the first k headers are there -/
def Upto (C D : List Blk) (k : Nat) : Prop := ∀ j c, j ≤ k → C[j]? = some c → Has D c.p.name
theorem Upto.zero (h : Part C D) : Upto C D 0 := fun j c hj hc => by
  obtain rfl : j = 0 := by omega
  obtain ⟨b, c0, h1, h2, h3⟩ := h.head
  rw [hc] at h2
  injection h2 with h2
  subst h2
  exact ⟨b, List.mem_of_getElem? h1, by rw [h3]⟩
theorem Part.full (hC : ChnOk C) (h : Part C D) (hu : Upto C D C.length) : D.length = C.length := by
  refine Nat.le_antisymm h.len ?_
  have hn : (C.map (·.p.name)).length ≤ (D.map (·.p.name)).length := nodup_le _ _ hC.names fun x hx => by
    obtain ⟨c, hc, rfl⟩ := List.mem_map.1 hx
    obtain ⟨j, hj, rfl⟩ := List.getElem_of_mem hc
    obtain ⟨b, hb, e⟩ := hu j _ (by omega) (List.getElem?_eq_getElem hj)
    exact List.mem_map.2 ⟨b, hb, e⟩
  simpa using hn
/-- the paths' names are the same -/
theorem Part.path (hC : ChnOk C) (h : Part C D) : ∀ (i i' : Nat), i < C.length → i' < D.length → nmAt D i' = nmAt C i → (pth D i').map (nmAt D) = (pth C i).map (nmAt C) := by
  intro i
  induction i using Nat.strongRecOn with
  | ind i ih =>
    intro i' hi hi' e
    obtain ⟨b0, c0, g1, g2, g3⟩ := h.head
    have hbi := List.getElem?_eq_getElem hi'
    have hci := List.getElem?_eq_getElem hi
    have hsame := h.same hC (List.mem_of_getElem? hbi) (List.mem_of_getElem? hci) (by rw [← nmAt_of hbi, e, nmAt_of hci])
    cases hp : parAt C i with
    | none =>
      obtain rfl := parAt_none hC hi hp
      have h0 : i' = 0 := nm_inj h.ok hi' h.ok.pos (by rw [e, nmAt_of g2, nmAt_of g1, g3])
      subst h0
      rw [pth_root hp, pth_root h.ok.root]
      simp [e]
    | some j =>
      obtain ⟨hji, -, -⟩ := parAt_some hC hp
      have hj : j < C.length := by omega
      have hi0 : 0 < i' := by
        rcases Nat.eq_zero_or_pos i' with rfl | q
        · exfalso
          have : i = 0 := nm_inj hC hi hC.pos (by rw [← e, nmAt_of g1, nmAt_of g2, g3])
          omega
        · exact q
      obtain ⟨j', q', k1, k2, k3, -, k5⟩ := h.ok.par i' _ hbi hi0
      obtain ⟨j2, q, m1, m2, m3, -, m5⟩ := hC.par i _ hci (by omega)
      have hjj : j2 = j := by
        rw [parAt_of hci, m1] at hp
        injection hp
      subst hjj
      have hpd : parAt D i' = some j' := by rw [parAt_of hbi, k1]
      rw [pth_par hC hp, pth_par h.ok hpd, List.map_cons, List.map_cons, e]
      congr 1
      refine ih _ hji j' hj (by omega) ?_
      rw [nmAt_of k3, nmAt_of m3, ← k5, ← m5, hsame.2]
/-- who is whose ancestor is the same -/
theorem Part.under (hC : ChnOk C) (h : Part C D) (hu : Upto C D C.length) {i k : Nat} (hi : i < C.length) (hk : k < C.length) : chUnder D C[i].p.name C[k].p.name = rUnder C (some i) (some k) := by
  rw [← under_same hC hi hk]
  have hci := List.getElem?_eq_getElem hi
  have hck := List.getElem?_eq_getElem hk
  obtain ⟨i', bi, a1, a2, a3⟩ := (hu i _ (by omega) hci).at
  obtain ⟨k', bk, b1, b2, b3⟩ := (hu k _ (by omega) hck).at
  have hi' := (List.getElem?_eq_some_iff.1 a2).1
  have hk' := (List.getElem?_eq_some_iff.1 b2).1
  unfold chUnder
  rw [a1, b1, chAt_self hC hi, chAt_self hC hk]
  simp only
  have hpath := h.path hC i i' hi hi' (by rw [nmAt_of a2, nmAt_of hci, a3])
  have hmem : k' ∈ pth D i' ↔ k ∈ pth C i := by
    constructor
    · intro hm
      have h1 : nmAt D k' ∈ (pth D i').map (nmAt D) := List.mem_map.2 ⟨k', hm, rfl⟩
      rw [hpath] at h1
      obtain ⟨x, hx, e⟩ := List.mem_map.1 h1
      have : x = k := nm_inj hC (pth_lt hi hx) hk (by rw [e, nmAt_of b2, nmAt_of hck, b3])
      rw [← this]
      exact hx
    · intro hm
      have h1 : nmAt C k ∈ (pth C i).map (nmAt C) := List.mem_map.2 ⟨k, hm, rfl⟩
      rw [← hpath] at h1
      obtain ⟨x, hx, e⟩ := List.mem_map.1 h1
      have : x = k' := nm_inj h.ok (pth_lt hi' hx) hk' (by rw [e, nmAt_of b2, nmAt_of hck, b3])
      rw [← this]
      exact hx
  exact decide_eq_decide.2 hmem
end
end Go.Proofs.Ythdjhbiigmcecaa

/- Three chains in memory: a chain, the document's, and another one of the same base; slices of headers. -/
namespace Go.Proofs.Ythdjhbiigmcecaa
open Go.RowKit

theorem fits_of_may {h : Hdr} (hm : hdrMay h = true) : HdrFits h ∧ h.ops.length ≤ 16 := by
  simp only [hdrMay, Bool.and_eq_true, decide_eq_true_eq, List.all_eq_true] at hm
  refine ⟨⟨by omega, fun o ho => ?_⟩, hm.1.2⟩
  have h1 := hm.2 o ho
  simp only [opMay, Bool.and_eq_true, decide_eq_true_eq] at h1
  obtain ⟨hb, hk⟩ := h1
  by_cases k1 : o.kind = 1
  · have he : o.evidence = [] := by
      rw [hb]
      simp [bareO, k1]
    rw [OpFits, he]
    exact ⟨Nat.zero_le _, fun v hv => by cases hv⟩
  · by_cases k2 : o.kind = 2
    · have he : o.evidence = [] := by
        rw [hb]
        simp [bareO, k2]
      rw [OpFits, he]
      exact ⟨Nat.zero_le _, fun v hv => by cases hv⟩
    · by_cases k3 : o.kind = 3
      · rw [if_neg k1, if_neg k2, if_pos k3] at hk
        simp only [Bool.and_eq_true, decide_eq_true_eq, List.all_eq_true] at hk
        refine ⟨by omega, fun v hv => ?_⟩
        have hv1 := hk.2 v hv
        simp only [voteMay, Bool.and_eq_true, decide_eq_true_eq] at hv1
        omega
      · rw [if_neg k1, if_neg k2, if_neg k3] at hk
        cases hk
section
variable {B : Nat} {T : Nat → Nat} {W W' : World} {cb : Nat} {C : List Blk}
/-- blocks of great tags are changed: none of the chain's own -/
theorem ChR.offM (h : ChR B T W cb C) (hl : C.length ≤ 100000) {M : Nat → Prop} (hb : Asd M W W') (hM : ∀ k, k < W.heap.size → M k → 1000000 ≤ T k) : ChR B T W' cb C := by
  obtain ⟨sA, mb, G, h⟩ := h
  have hn : ∀ k, k < W.heap.size → T k < 1000000 → ¬ M k := fun k hk ht hm => by
    have := hM k hk hm
    omega
  have hO : Asd (Mut T) W W' := hb.mono fun k hk hm => by
    have := hM k hk hm
    unfold Mut
    omega
  have hM' : ∀ P : World → Prop, Safe (Mut T) W P → Safe (Mut T) W' P := fun P hs => hs.step hO fun _ _ h => h
  refine ⟨sA, mb, G, hb.row (hn _ h.lt (by rw [h.tcb]; omega)) h.row, hb.there (hn _ h.lt (by rw [h.tcb]; omega)) h.lt h.thr, h.tcb, h.all.off hb fun g hg => hn g (OwnC.lt h.all g hg).2 (by rw [h.tall g hg]; omega), h.tall,
    h.map.of_block (hb.block _ h.map.lt (hn _ h.map.lt (by rw [h.tmap]; omega))), h.tmap, fun k hk ht => ?_, Nat.le_trans h.hB hb.size, h.glen, h.ulen, fun i x b hx hbk => ?_⟩
  · rcases Nat.lt_or_ge k W.heap.size with hlt | hge
    · exact h.tB k hlt ht
    · exact Nat.le_trans h.hB hge
  · have hk := h.blk i x b hx hbk
    have hi : i < C.length := (List.getElem?_eq_some_iff.1 hbk).1
    have n1 := hn _ hk.lt (by rw [hk.tb]; omega)
    exact ⟨hb.row n1 hk.row, hb.there n1 hk.lt hk.thr, hk.ob.imp fun _ h => h.imp fun _ h => (hb.block _ hk.lt n1).trans h, hk.tb, hM' _ hk.hdr, hM' _ hk.up, hk.ch.off hb fun g hg => hn g (OwnC.lt hk.ch g hg).2 (by rw [hk.tc g hg]; omega), hk.tc⟩
end
/-- blocks of another's tag are changed -/
theorem Both.offM {w0 W W' : World} {B : Nat} {T T' : Nat → Nat} {cb cr : Nat} {C : List Blk} (h : Both w0 B T W cb cr C C) (hl : C.length ≤ 100000) {M : Nat → Prop} (hb : Asd M W W') (hM : ∀ k, M k → k < W.heap.size ∧ T k = 3000000) (hT : ∀ k, k < W.heap.size → T' k = T k) : Both w0 B T' W' cb cr C C := by
  obtain ⟨rb, cap, G, hR, h0⟩ := h.doc
  refine ⟨(h.real.retag hT).offM hl hb (fun k hk hm => by rw [hT k hk, (hM k hm).2]; omega), (hT _ hR.cbW).trans h.tag, ⟨rb, cap, G, hR.off hb (fun k hk => ?_) (fun hk => ?_) (fun hk => ?_), (hT _ hR.lt).trans h0⟩, h.le⟩
  · obtain ⟨h1, h2⟩ := hM k hk
    exact Nat.le_trans h.le (h.real.tB k h1 (by omega))
  · have h1 := (hM _ hk).2
    rw [h.tag] at h1
    omega
  · have h1 := (hM _ hk).2
    rw [h0] at h1
    omega
/-- a chain, the document's, and another chain -/
structure Tri (w0 : World) (B : Nat) (T To : Nat → Nat) (W : World) (cb cr ob : Nat) (C D : List Blk) : Prop where
  both : Both w0 B T W cb cr C C
  oth : ChR B To W ob D
  sep : ∀ k, MutS To k → k < W.heap.size ∧ T k = 3000000
section
variable {w0 W W' : World} {B : Nat} {T To : Nat → Nat} {cb cr ob : Nat} {C D : List Blk}
theorem Tri.keep (h : Tri w0 B T To W cb cr ob C D) (hb : Below W.heap.size W W') : Tri w0 B T To W' cb cr ob C D :=
  ⟨h.both.keep hb, h.oth.keep hb, fun k hk => ⟨Nat.lt_of_lt_of_le (h.sep k hk).1 hb.size, (h.sep k hk).2⟩⟩
theorem Tri.add (h : Tri w0 B T To W cb cr ob C D) (hC : C.length ≤ 100000) (hok : ChnOk D) {g : GHeader} {hd : Hdr} (hr : HdrR W g hd) (hf : HdrFits hd) :
    Calls Try.prog 35 #[ptrV ob, .agg (headerA g)] W fun r w' => (∃ v, r = .returned v) ∧ (∃ T' To', Tri w0 B T' To' w' cb cr ob C (chAdd D hd) ∧ ∀ k, k < W.heap.size → To' k = To k) ∧ Asd (MutS To) W w' := by
  refine (chadd_c h.oth hok hr hf).mono ?_
  rintro r w' ⟨e, ⟨T1, hC1, hT1⟩, hA⟩
  refine ⟨⟨_, e⟩, ⟨fun k => if k < W.heap.size then T k else if k < w'.heap.size then 3000000 else 0, fun k => if k < w'.heap.size then T1 k else 0, ⟨?_, hC1.retag fun k hk => if_pos hk, fun k hk => ?_⟩, fun k hk => ?_⟩, hA⟩
  · exact h.both.offM hC hA (fun k hm => h.sep k hm) fun k hk => if_pos hk
  · have h1 : (if k < w'.heap.size then T1 k else 0) ≠ 0 := hk.1
    have hlt : k < w'.heap.size := by
      rcases Nat.lt_or_ge k w'.heap.size with q | q
      · exact q
      · rw [if_neg (by omega)] at h1
        exact absurd rfl h1
    refine ⟨hlt, ?_⟩
    rcases Nat.lt_or_ge k W.heap.size with q | q
    · show (if k < W.heap.size then T k else _) = _
      rw [if_pos q]
      refine (h.sep k ?_).2
      have h2 := hk.2
      simp only [if_pos hlt] at h1 h2
      rw [hT1 k q] at h1 h2
      exact ⟨h1, h2⟩
    · show (if k < W.heap.size then T k else if k < w'.heap.size then 3000000 else 0) = _
      rw [if_neg (by omega), if_pos hlt]
  · show (if k < w'.heap.size then T1 k else 0) = To k
    rw [if_pos (Nat.lt_of_lt_of_le hk hA.size)]
    exact hT1 k hk
end
/-! slices of headers -/
abbrev HsR (w : World) (s : Sl) (l : List GHeader) : Prop := SlR 34 (fun cs g => cs = headerA g) w s l
theorem SlR.off {α : Type} {k : Nat} {R : Array Value → α → Prop} {w w' : World} {s : Sl} {l : List α} (h : SlR k R w s l) {M : Nat → Prop} (hA : Asd M w w') (hm : ∀ b off, s.a = some ⟨b, off, none⟩ → ¬ M b) : SlR k R w' s l :=
  ⟨h.1, h.2.1, fun hl => by
    obtain ⟨b, off, ha, hc⟩ := h.2.2 hl
    refine ⟨b, off, ha, fun i hi => ?_⟩
    obtain ⟨cs, h1, h2⟩ := hc i hi
    exact ⟨cs, hA.row (hm b off ha) h1, h2⟩⟩
theorem hdA_size (x : GHeader) : (headerA x).size = 34 := by simp
abbrev OwnHd (w : World) (E : Nat) (v : Value) (l : List GHeader) : Prop := OwnC w E 34 v l.length (flatC headerA l)
theorem OwnHd.reads {w : World} {E : Nat} {s : Sl} {l : List GHeader} (h : OwnHd w E s.v l) : HsR w s l := rows_of_own headerA hdA_size (by omega) h
theorem OwnHd.blk {w : World} {E : Nat} {s : Sl} {l : List GHeader} (h : OwnHd w E s.v l) {b off : Nat} (hs : s.a = some ⟨b, off, none⟩) : E ≤ b ∧ b < w.heap.size := by
  obtain ⟨sa, sn, sc⟩ := s
  simp only at hs
  subst hs
  rcases h.2 with ⟨hv, _⟩ | ⟨g, cap, hv, h1, h2, _⟩
  · cases hv
  · cases hv
    exact ⟨h1, h2⟩
/-- the three chains, and the headers of the first one in a slice -/
structure OSt (w1 : World) (B cb cr ob : Nat) (C : List Blk) (GL : List GHeader) (s : Sl) (D : List Blk) (W : World) : Prop where
  tri : ∃ T To, Tri w1 B T To W cb cr ob C D ∧ ∀ b off, s.a = some ⟨b, off, none⟩ → b < W.heap.size ∧ ¬ MutS To b
  part : Part C D
  rows : HsR W s GL
section
variable {w1 W W' : World} {B cb cr ob : Nat} {C : List Blk} {GL : List GHeader} {s : Sl} {D : List Blk}
theorem OSt.keep (h : OSt w1 B cb cr ob C GL s D W) (hb : Below W.heap.size W W') : OSt w1 B cb cr ob C GL s D W' := by
  obtain ⟨T, To, ht, hs⟩ := h.tri
  exact ⟨⟨T, To, ht.keep hb, fun b off e => ⟨Nat.lt_of_lt_of_le (hs b off e).1 hb.size, (hs b off e).2⟩⟩, h.part, SlR.keep h.rows hb fun _ _ h => h⟩
theorem OSt.bel (h : OSt w1 B cb cr ob C GL s D W) : Below w1.heap.size w1 W := by
  obtain ⟨T, To, ht, -⟩ := h.tri
  exact ht.both.bel
/-- one of the headers is added to the other chain -/
theorem OSt.add_c (h : OSt w1 B cb cr ob C GL s D W) (hC : ChnOk C) (hl : C.length ≤ 4096) {g : GHeader} {j : Nat} {c : Blk} (hj : 0 < j) (hc : C[j]? = some c) (hg : HdrR w1 g c.h) :
    Calls Try.prog 35 #[ptrV ob, .agg (headerA g)] W fun r w' => (∃ v, r = .returned v) ∧ OSt w1 B cb cr ob C GL s (chAdd D c.h) w' := by
  obtain ⟨T, To, ht, hs⟩ := h.tri
  refine (ht.add (by omega) h.part.ok (hg.keep' ht.both.bel) (fits_of_may (hC.hdr j c hc hj).2).1).mono ?_
  rintro r w' ⟨hv, ⟨T', To', ht', hT'⟩, hA⟩
  refine ⟨hv, ⟨T', To', ht', fun b off e => ?_⟩, h.part.add hC (hdrs_in hj hc), SlR.off h.rows hA fun b off e => (hs b off e).2⟩
  obtain ⟨h1, h2⟩ := hs b off e
  refine ⟨Nat.lt_of_lt_of_le h1 hA.size, fun hm => h2 ?_⟩
  unfold MutS at hm ⊢
  rwa [hT' b h1] at hm
end
end Go.Proofs.Ythdjhbiigmcecaa
