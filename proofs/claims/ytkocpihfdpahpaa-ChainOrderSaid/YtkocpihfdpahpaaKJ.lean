/- Texts of this proof, one behind the other: OrdP, OrdM, OrdW. -/
import Derived.Test.YtkocpihfdpahpaaKH
import Derived.Test.YtkocpihfdpahpaaKI
import Derived.Deep.CutBlock
set_option linter.unusedVariables false
set_option linter.unusedSimpArgs false
/- Chains, plainly: what a chain is does not hang on the order in which its headers were added. -/
namespace Go.Proofs.Ytkocpihfdpahpaa

theorem nodup_le {α : Type} [DecidableEq α] : ∀ (l m : List α), l.Nodup → (∀ x ∈ l, x ∈ m) → l.length ≤ m.length
  | [], _, _, _ => Nat.zero_le _
  | a :: l, m, hn, hs => by
    have ham := hs a (List.mem_cons_self ..)
    have hn' := List.nodup_cons.1 hn
    have ih := nodup_le l (m.erase a) hn'.2 fun x hx => by
      have hxa : x ≠ a := fun e => hn'.1 (e ▸ hx)
      exact (List.mem_erase_of_ne hxa).2 (hs x (List.mem_cons_of_mem _ hx))
    rw [List.length_erase_of_mem ham] at ih
    have : 0 < m.length := List.length_pos_of_mem ham
    simp only [List.length_cons]
    omega
/-- the headers of a chain, behind its anchor -/
def hdrsOf (C : List Blk) : List Hdr := (C.drop 1).map (·.h)
def nmAt (C : List Blk) (i : Nat) : Hash := ((C[i]?).map (·.p.name)).getD zeroHash
theorem nmAt_of {C : List Blk} {i : Nat} {b : Blk} (h : C[i]? = some b) : nmAt C i = b.p.name := by simp [nmAt, h]
theorem nm_inj {C : List Blk} (h : ChnOk C) {i j : Nat} (hi : i < C.length) (hj : j < C.length) (e : nmAt C i = nmAt C j) : i = j := by
  rw [nmAt_of (List.getElem?_eq_getElem hi), nmAt_of (List.getElem?_eq_getElem hj)] at e
  have h1 := chAt_of h (List.getElem?_eq_getElem hi)
  have h2 := chAt_of h (List.getElem?_eq_getElem hj)
  rw [e, h2] at h1
  injection h1 with h1
  exact h1.symm
/-- a chain of headers of C alone, on the same anchor -/
structure Part (C D : List Blk) : Prop where
  ok : ChnOk D
  head : ∃ b c, D[0]? = some b ∧ C[0]? = some c ∧ b.p = c.p
  sub : ∀ b ∈ D, ∃ c ∈ C, c.p = b.p ∧ c.h = b.h
section
variable {C D : List Blk}
theorem Part.start {p : Pt} (hC : C[0]? = some ⟨p, zeroHdr, none⟩) : Part C (chNew p) := by
  refine ⟨chNew_ok p, ⟨_, _, rfl, hC, rfl⟩, fun b hb => ?_⟩
  have : b = ⟨p, zeroHdr, none⟩ := by simpa [chNew] using hb
  subst this
  exact ⟨_, List.mem_of_getElem? hC, rfl, rfl⟩
theorem Part.len (h : Part C D) : D.length ≤ C.length := by
  have hn : (D.map (·.p.name)).length ≤ (C.map (·.p.name)).length := nodup_le _ _ h.ok.names fun x hx => by
    obtain ⟨b, hb, rfl⟩ := List.mem_map.1 hx
    obtain ⟨c, hc, e, -⟩ := h.sub b hb
    exact List.mem_map.2 ⟨c, hc, by rw [e]⟩
  simpa using hn
/-- one name, one block -/
theorem one_block (hC : ChnOk C) {b c : Blk} (hb : b ∈ C) (hc : c ∈ C) (e : b.p.name = c.p.name) : b = c := by
  obtain ⟨i, hi, rfl⟩ := List.getElem_of_mem hb
  obtain ⟨j, hj, rfl⟩ := List.getElem_of_mem hc
  have := nm_inj hC hi hj (by rw [nmAt_of (List.getElem?_eq_getElem hi), nmAt_of (List.getElem?_eq_getElem hj), e])
  subst this
  rfl
theorem Part.same (hC : ChnOk C) (h : Part C D) {b c : Blk} (hb : b ∈ D) (hc : c ∈ C) (e : b.p.name = c.p.name) : b.p = c.p ∧ b.h = c.h := by
  obtain ⟨c', hc', e1, e2⟩ := h.sub b hb
  have := one_block hC hc' hc (by rw [e1, e])
  subst this
  exact ⟨e1.symm, e2.symm⟩
theorem hdrs_mem {x : Hdr} (hx : x ∈ hdrsOf C) : ∃ j c, 0 < j ∧ C[j]? = some c ∧ c.h = x := by
  unfold hdrsOf at hx
  obtain ⟨c, hc, rfl⟩ := List.mem_map.1 hx
  obtain ⟨i, hi, rfl⟩ := List.getElem_of_mem hc
  rw [List.length_drop] at hi
  refine ⟨i + 1, C[i + 1], by omega, List.getElem?_eq_getElem (by omega), ?_⟩
  rw [List.getElem_drop]
  congr 2
  omega
theorem Part.add (hC : ChnOk C) (h : Part C D) {x : Hdr} (hx : x ∈ hdrsOf C) : Part C (chAdd D x) := by
  obtain ⟨j, c, hj, hc, rfl⟩ := hdrs_mem hx
  refine ⟨chAdd_ok h.ok _, ?_, fun b hb => ?_⟩
  · obtain ⟨b, c0, h1, h2, h3⟩ := h.head
    refine ⟨b, c0, ?_, h2, h3⟩
    unfold chAdd
    split
    · rw [List.getElem?_append_left h.ok.pos]; exact h1
    · exact h1
  · unfold chAdd at hb
    split at hb
    · rename_i hk
      rcases List.mem_append.1 hb with hb | hb
      · exact h.sub b hb
      · obtain ⟨-, -, -, -, hp⟩ := check_ok hk
        have : b = ⟨(chCheck D c.h).1, c.h, chAt D c.h.parent⟩ := by simpa using hb
        subst this
        exact ⟨c, List.mem_of_getElem? hc, by rw [(hC.hdr j c hc hj).1]; exact hp.symm, rfl⟩
    · exact h.sub b hb
def Has (D : List Blk) (n : Hash) : Prop := ∃ b ∈ D, b.p.name = n
theorem Has.add {n : Hash} (h : Has D n) (x : Hdr) : Has (chAdd D x) n := by
  obtain ⟨b, hb, e⟩ := h
  refine ⟨b, ?_, e⟩
  unfold chAdd
  split
  · exact List.mem_append_left _ hb
  · exact hb
theorem Has.at {n : Hash} (h : Has D n) : ∃ i b, chAt D n = some i ∧ D[i]? = some b ∧ b.p.name = n := by
  cases hn : chAt D n with
  | none =>
    obtain ⟨b, hb, e⟩ := h
    exact absurd e (chAt_none hn b hb)
  | some i =>
    obtain ⟨b, hb, e⟩ := chAt_some hn
    exact ⟨i, b, rfl, hb, e⟩
/-- a header whose parent is there is there behind -/
theorem Part.get (hC : ChnOk C) (hl : C.length ≤ 4096) (h : Part C D) {j : Nat} {c : Blk} (hj : 0 < j) (hc : C[j]? = some c) (hp : Has D c.h.parent) : Has (chAdd D c.h) c.p.name := by
  obtain ⟨hcp, hm⟩ := hC.hdr j c hc hj
  have hcn : c.p.name = hdName c.h := by rw [hcp]
  cases hn : chAt D (hdName c.h) with
  | some i =>
    obtain ⟨b, hb, e⟩ := chAt_some hn
    exact Has.add ⟨b, List.mem_of_getElem? hb, by rw [e, hcn]⟩ _
  | none =>
    obtain ⟨i, b, hi, hb, e⟩ := hp.at
    obtain ⟨k, q, hk, hkj, hq, hlt, hpar⟩ := hC.par j c hc hj
    have hbq := (h.same hC (List.mem_of_getElem? hb) (List.mem_of_getElem? hq) (by rw [e, hpar])).1
    have hep : ¬ c.h.epoch.toNat ≤ epAt D i := by
      rw [epAt_of hb, hbq]
      rw [hcp] at hlt
      simp only at hlt
      omega
    have hlen : ¬ 4096 < D.length := by have := h.len; omega
    have hk0 : chCheck D c.h = (⟨c.h.epoch, hdName c.h⟩, 0) := by
      unfold chCheck
      rw [if_pos hm, hn, hi]
      simp only [if_neg hep, if_neg hlen]
    unfold chAdd
    rw [hk0, if_pos rfl]
    exact ⟨_, List.mem_append_right _ (List.mem_singleton.2 rfl), hcn.symm⟩
def addAllH (D : List Blk) (l : List Hdr) : List Blk := l.foldl chAdd D
theorem addAllH_has {n : Hash} : ∀ (l : List Hdr) (D : List Blk), Has D n → Has (addAllH D l) n
  | [], _, h => h
  | x :: l, D, h => addAllH_has l _ (h.add x)
theorem addAllH_get (hC : ChnOk C) (hL : C.length ≤ 4096) {j : Nat} {c : Blk} (hj : 0 < j) (hc : C[j]? = some c) : ∀ (l : List Hdr) (D : List Blk), (∀ x ∈ l, x ∈ hdrsOf C) → c.h ∈ l → Part C D → Has D c.h.parent → Has (addAllH D l) c.p.name
  | [], _, _, hm, _, _ => by cases hm
  | x :: l, D, hl, hm, h, hp => by
    by_cases e : c.h = x
    · subst e
      exact addAllH_has l _ (h.get hC hL hj hc hp)
    · have hm' : c.h ∈ l := by
        rcases List.mem_cons.1 hm with q | q
        · exact absurd q e
        · exact q
      exact addAllH_get hC hL hj hc l _ (fun y hy => hl y (List.mem_cons_of_mem _ hy)) hm' (h.add hC (hl x (List.mem_cons_self ..))) (hp.add x)
theorem hdrs_in {j : Nat} {c : Blk} (hj : 0 < j) (hc : C[j]? = some c) : c.h ∈ hdrsOf C := by
  unfold hdrsOf
  refine List.mem_map.2 ⟨c, ?_, rfl⟩
  refine List.mem_of_getElem? (i := j - 1) ?_
  rw [List.getElem?_drop, show 1 + (j - 1) = j by omega]
  exact hc
/-- the first k headers are there -/
def Upto (C D : List Blk) (k : Nat) : Prop := ∀ j c, j ≤ k → C[j]? = some c → Has D c.p.name
theorem Upto.zero (h : Part C D) : Upto C D 0 := fun j c hj hc => by
  obtain rfl : j = 0 := by omega
  obtain ⟨b, c0, h1, h2, h3⟩ := h.head
  rw [hc] at h2
  injection h2 with h2
  subst h2
  exact ⟨b, List.mem_of_getElem? h1, by rw [h3]⟩
theorem Upto.round (hC : ChnOk C) (hL : C.length ≤ 4096) {k : Nat} (h : Part C D) (hu : Upto C D k) : Upto C (addAllH D (hdrsOf C).reverse) (k + 1) := fun j c hj hc => by
  by_cases hjk : j ≤ k
  · exact addAllH_has _ _ (hu j c hjk hc)
  · have hj0 : 0 < j := by omega
    obtain ⟨i, q, -, hij, hq, -, hpar⟩ := hC.par j c hc hj0
    refine addAllH_get hC hL hj0 hc _ D (fun x hx => List.mem_reverse.1 hx) (List.mem_reverse.2 (hdrs_in hj0 hc)) h ?_
    rw [hpar]
    exact hu i q (by omega) hq
theorem Part.full (hC : ChnOk C) (h : Part C D) (hu : Upto C D C.length) : D.length = C.length := by
  refine Nat.le_antisymm h.len ?_
  have hn : (C.map (·.p.name)).length ≤ (D.map (·.p.name)).length := nodup_le _ _ hC.names fun x hx => by
    obtain ⟨c, hc, rfl⟩ := List.mem_map.1 hx
    obtain ⟨j, hj, rfl⟩ := List.getElem_of_mem hc
    obtain ⟨b, hb, e⟩ := hu j _ (by omega) (List.getElem?_eq_getElem hj)
    exact List.mem_map.2 ⟨b, hb, e⟩
  simpa using hn
/-- the paths' names are the same -/
theorem Part.path (hC : ChnOk C) (h : Part C D) : ∀ (i i' : Nat), i < C.length → i' < D.length → nmAt D i' = nmAt C i → (pth D i').map (nmAt D) = (pth C i).map (nmAt C) := by
  intro i
  induction i using Nat.strongRecOn with
  | ind i ih =>
    intro i' hi hi' e
    obtain ⟨b0, c0, g1, g2, g3⟩ := h.head
    have hbi := List.getElem?_eq_getElem hi'
    have hci := List.getElem?_eq_getElem hi
    have hsame := h.same hC (List.mem_of_getElem? hbi) (List.mem_of_getElem? hci) (by rw [← nmAt_of hbi, e, nmAt_of hci])
    cases hp : parAt C i with
    | none =>
      obtain rfl := parAt_none hC hi hp
      have h0 : i' = 0 := nm_inj h.ok hi' h.ok.pos (by rw [e, nmAt_of g2, nmAt_of g1, g3])
      subst h0
      rw [pth_root hp, pth_root h.ok.root]
      simp [e]
    | some j =>
      obtain ⟨hji, -, -⟩ := parAt_some hC hp
      have hj : j < C.length := by omega
      have hi0 : 0 < i' := by
        rcases Nat.eq_zero_or_pos i' with rfl | q
        · exfalso
          have : i = 0 := nm_inj hC hi hC.pos (by rw [← e, nmAt_of g1, nmAt_of g2, g3])
          omega
        · exact q
      obtain ⟨j', q', k1, k2, k3, -, k5⟩ := h.ok.par i' _ hbi hi0
      obtain ⟨j2, q, m1, m2, m3, -, m5⟩ := hC.par i _ hci (by omega)
      have hjj : j2 = j := by
        rw [parAt_of hci, m1] at hp
        injection hp
      subst hjj
      have hpd : parAt D i' = some j' := by rw [parAt_of hbi, k1]
      rw [pth_par hC hp, pth_par h.ok hpd, List.map_cons, List.map_cons, e]
      congr 1
      refine ih _ hji j' hj (by omega) ?_
      rw [nmAt_of k3, nmAt_of m3, ← k5, ← m5, hsame.2]
/-- who is whose ancestor is the same -/
theorem Part.under (hC : ChnOk C) (h : Part C D) (hu : Upto C D C.length) {i k : Nat} (hi : i < C.length) (hk : k < C.length) : chUnder D C[i].p.name C[k].p.name = rUnder C (some i) (some k) := by
  rw [← under_same hC hi hk]
  have hci := List.getElem?_eq_getElem hi
  have hck := List.getElem?_eq_getElem hk
  obtain ⟨i', bi, a1, a2, a3⟩ := (hu i _ (by omega) hci).at
  obtain ⟨k', bk, b1, b2, b3⟩ := (hu k _ (by omega) hck).at
  have hi' := (List.getElem?_eq_some_iff.1 a2).1
  have hk' := (List.getElem?_eq_some_iff.1 b2).1
  unfold chUnder
  rw [a1, b1, chAt_self hC hi, chAt_self hC hk]
  simp only
  have hpath := h.path hC i i' hi hi' (by rw [nmAt_of a2, nmAt_of hci, a3])
  have hmem : k' ∈ pth D i' ↔ k ∈ pth C i := by
    constructor
    · intro hm
      have h1 : nmAt D k' ∈ (pth D i').map (nmAt D) := List.mem_map.2 ⟨k', hm, rfl⟩
      rw [hpath] at h1
      obtain ⟨x, hx, e⟩ := List.mem_map.1 h1
      have : x = k := nm_inj hC (pth_lt hi hx) hk (by rw [e, nmAt_of b2, nmAt_of hck, b3])
      rw [← this]
      exact hx
    · intro hm
      have h1 : nmAt C k ∈ (pth C i).map (nmAt C) := List.mem_map.2 ⟨k, hm, rfl⟩
      rw [← hpath] at h1
      obtain ⟨x, hx, e⟩ := List.mem_map.1 h1
      have : x = k' := nm_inj h.ok (pth_lt hi' hx) hk' (by rw [e, nmAt_of b2, nmAt_of hck, b3])
      rw [← this]
      exact hx
  exact decide_eq_decide.2 hmem
end
end Go.Proofs.Ytkocpihfdpahpaa

/- Three chains in memory: a chain, the document's, and another one of the same base; slices of headers. -/
namespace Go.Proofs.Ytkocpihfdpahpaa
open Go.RowKit

theorem fits_of_may {h : Hdr} (hm : hdrMay h = true) : HdrFits h ∧ h.ops.length ≤ 16 := by
  simp only [hdrMay, Bool.and_eq_true, decide_eq_true_eq, List.all_eq_true] at hm
  refine ⟨⟨by omega, fun o ho => ?_⟩, hm.1.2⟩
  have h1 := hm.2 o ho
  simp only [opMay, Bool.and_eq_true, decide_eq_true_eq] at h1
  obtain ⟨hb, hk⟩ := h1
  by_cases k1 : o.kind = 1
  · have he : o.evidence = [] := by
      rw [hb]
      simp [bareO, k1]
    rw [OpFits, he]
    exact ⟨Nat.zero_le _, fun v hv => by cases hv⟩
  · by_cases k2 : o.kind = 2
    · have he : o.evidence = [] := by
        rw [hb]
        simp [bareO, k2]
      rw [OpFits, he]
      exact ⟨Nat.zero_le _, fun v hv => by cases hv⟩
    · by_cases k3 : o.kind = 3
      · rw [if_neg k1, if_neg k2, if_pos k3] at hk
        simp only [Bool.and_eq_true, decide_eq_true_eq, List.all_eq_true] at hk
        refine ⟨by omega, fun v hv => ?_⟩
        have hv1 := hk.2 v hv
        simp only [voteMay, Bool.and_eq_true, decide_eq_true_eq] at hv1
        omega
      · rw [if_neg k1, if_neg k2, if_neg k3] at hk
        cases hk
section
variable {B : Nat} {T : Nat → Nat} {W W' : World} {cb : Nat} {C : List Blk}
theorem ChR.lower (h : ChR B T W cb C) {B' : Nat} (hB : B' ≤ B) : ChR B' T W cb C := by
  obtain ⟨sA, mb, G, h⟩ := h
  exact ⟨sA, mb, G, h.row, h.thr, h.tcb, h.all.more hB, h.tall, h.map, h.tmap, fun k hk ht => Nat.le_trans hB (h.tB k hk ht), Nat.le_trans hB h.hB, h.glen, h.ulen, fun i x b hx hb => by
    have hk := h.blk i x b hx hb
    exact ⟨hk.row, hk.thr, hk.ob, hk.tb, hk.hdr, hk.up, hk.ch.more hB, hk.tc⟩⟩
/-- blocks of great tags are changed: none of the chain's own -/
theorem ChR.offM (h : ChR B T W cb C) (hl : C.length ≤ 100000) {M : Nat → Prop} (hb : Asd M W W') (hM : ∀ k, k < W.heap.size → M k → 1000000 ≤ T k) : ChR B T W' cb C := by
  obtain ⟨sA, mb, G, h⟩ := h
  have hn : ∀ k, k < W.heap.size → T k < 1000000 → ¬ M k := fun k hk ht hm => by
    have := hM k hk hm
    omega
  have hO : Asd (Mut T) W W' := hb.mono fun k hk hm => by
    have := hM k hk hm
    unfold Mut
    omega
  have hM' : ∀ P : World → Prop, Safe (Mut T) W P → Safe (Mut T) W' P := fun P hs => hs.step hO fun _ _ h => h
  refine ⟨sA, mb, G, hb.row (hn _ h.lt (by rw [h.tcb]; omega)) h.row, hb.there (hn _ h.lt (by rw [h.tcb]; omega)) h.lt h.thr, h.tcb, h.all.off hb fun g hg => hn g (OwnC.lt h.all g hg).2 (by rw [h.tall g hg]; omega), h.tall,
    h.map.of_block (hb.block _ h.map.lt (hn _ h.map.lt (by rw [h.tmap]; omega))), h.tmap, fun k hk ht => ?_, Nat.le_trans h.hB hb.size, h.glen, h.ulen, fun i x b hx hbk => ?_⟩
  · rcases Nat.lt_or_ge k W.heap.size with hlt | hge
    · exact h.tB k hlt ht
    · exact Nat.le_trans h.hB hge
  · have hk := h.blk i x b hx hbk
    have hi : i < C.length := (List.getElem?_eq_some_iff.1 hbk).1
    have n1 := hn _ hk.lt (by rw [hk.tb]; omega)
    exact ⟨hb.row n1 hk.row, hb.there n1 hk.lt hk.thr, hk.ob.imp fun _ h => h.imp fun _ h => (hb.block _ hk.lt n1).trans h, hk.tb, hM' _ hk.hdr, hM' _ hk.up, hk.ch.off hb fun g hg => hn g (OwnC.lt hk.ch g hg).2 (by rw [hk.tc g hg]; omega), hk.tc⟩
theorem nil_any {α : Type} {k : Nat} {R : Array Value → α → Prop} {R' : Array Value → α → Prop} {w w' : World} {s : Sl} (h : SlR k R w s []) : SlR k R' w' s [] := ⟨h.1, h.2.1, fun e => absurd rfl e⟩
/-- a chain of an anchor alone, told by other tags -/
theorem ChR.new_tag {p : Pt} (h : ChR B T W cb (chNew p)) {T' : Nat → Nat} (hT : ∀ k, k < W.heap.size → T k ≠ 0 → T' k = T k) (hB : ∀ k, k < W.heap.size → T' k ≠ 0 → B ≤ k) : ChR B T' W cb (chNew p) := by
  obtain ⟨sA, mb, G, h⟩ := h
  have ht : ∀ k v, k < W.heap.size → T k = v → v ≠ 0 → T' k = v := fun k v hk hv h0 => (hT k hk (by rw [hv]; exact h0)).trans hv
  refine ⟨sA, mb, G, h.row, h.thr, ht _ _ h.lt h.tcb (by omega), h.all, fun g hg => ht _ _ (OwnC.lt h.all g hg).2 (h.tall g hg) (by omega), h.map, ht _ _ h.map.lt h.tmap (by omega), hB, h.hB, h.glen, h.ulen, fun i x b hx hb => ?_⟩
  have hk := h.blk i x b hx hb
  have hi : i < 1 := (List.getElem?_eq_some_iff.1 hb).1
  obtain rfl : i = 0 := by omega
  have hbe : b = ⟨p, zeroHdr, none⟩ := by simpa [chNew] using hb.symm
  subst hbe
  refine ⟨hk.row, hk.thr, hk.ob, ht _ _ hk.lt hk.tb (by omega), fun W2 _ => ?_, fun W2 _ => ?_, hk.ch, fun g hg => ht _ _ (OwnC.lt hk.ch g hg).2 (hk.tc g hg) (by omega)⟩
  · obtain ⟨h1, h2, h3⟩ := hk.hdr.now
    exact ⟨h1, h2, nil_any h3⟩
  · have h1 := hk.up.now
    have e : (ups (chNew p)).getD 0 [] = [] := rfl
    rw [e] at h1 ⊢
    exact nil_any h1
end
/-- blocks of another's tag are changed -/
theorem Both.offM {w0 W W' : World} {B : Nat} {T T' : Nat → Nat} {cb cr : Nat} {C : List Blk} (h : Both w0 B T W cb cr C C) (hl : C.length ≤ 100000) {M : Nat → Prop} (hb : Asd M W W') (hM : ∀ k, M k → k < W.heap.size ∧ T k = 3000000) (hT : ∀ k, k < W.heap.size → T' k = T k) : Both w0 B T' W' cb cr C C := by
  obtain ⟨rb, cap, G, hR, h0⟩ := h.doc
  refine ⟨(h.real.retag hT).offM hl hb (fun k hk hm => by rw [hT k hk, (hM k hm).2]; omega), (hT _ hR.cbW).trans h.tag, ⟨rb, cap, G, hR.off hb (fun k hk => ?_) (fun hk => ?_) (fun hk => ?_), (hT _ hR.lt).trans h0⟩, h.le⟩
  · obtain ⟨h1, h2⟩ := hM k hk
    exact Nat.le_trans h.le (h.real.tB k h1 (by omega))
  · have h1 := (hM _ hk).2
    rw [h.tag] at h1
    omega
  · have h1 := (hM _ hk).2
    rw [h0] at h1
    omega
/-- a chain, the document's, and another chain -/
structure Tri (w0 : World) (B : Nat) (T To : Nat → Nat) (W : World) (cb cr ob : Nat) (C D : List Blk) : Prop where
  both : Both w0 B T W cb cr C C
  oth : ChR B To W ob D
  sep : ∀ k, MutS To k → k < W.heap.size ∧ T k = 3000000
section
variable {w0 W W' : World} {B : Nat} {T To : Nat → Nat} {cb cr ob : Nat} {C D : List Blk}
theorem Tri.keep (h : Tri w0 B T To W cb cr ob C D) (hb : Below W.heap.size W W') : Tri w0 B T To W' cb cr ob C D :=
  ⟨h.both.keep hb, h.oth.keep hb, fun k hk => ⟨Nat.lt_of_lt_of_le (h.sep k hk).1 hb.size, (h.sep k hk).2⟩⟩
theorem Tri.add (h : Tri w0 B T To W cb cr ob C D) (hC : C.length ≤ 100000) (hok : ChnOk D) {g : GHeader} {hd : Hdr} (hr : HdrR W g hd) (hf : HdrFits hd) :
    Calls Try.prog 38 #[ptrV ob, .agg (headerA g)] W fun r w' => (∃ v, r = .returned v) ∧ (∃ T' To', Tri w0 B T' To' w' cb cr ob C (chAdd D hd) ∧ ∀ k, k < W.heap.size → To' k = To k) ∧ Asd (MutS To) W w' := by
  refine (chadd_c h.oth hok hr hf).mono ?_
  rintro r w' ⟨e, ⟨T1, hC1, hT1⟩, hA⟩
  refine ⟨⟨_, e⟩, ⟨fun k => if k < W.heap.size then T k else if k < w'.heap.size then 3000000 else 0, fun k => if k < w'.heap.size then T1 k else 0, ⟨?_, hC1.retag fun k hk => if_pos hk, fun k hk => ?_⟩, fun k hk => ?_⟩, hA⟩
  · exact h.both.offM hC hA (fun k hm => h.sep k hm) fun k hk => if_pos hk
  · have h1 : (if k < w'.heap.size then T1 k else 0) ≠ 0 := hk.1
    have hlt : k < w'.heap.size := by
      rcases Nat.lt_or_ge k w'.heap.size with q | q
      · exact q
      · rw [if_neg (by omega)] at h1
        exact absurd rfl h1
    refine ⟨hlt, ?_⟩
    rcases Nat.lt_or_ge k W.heap.size with q | q
    · show (if k < W.heap.size then T k else _) = _
      rw [if_pos q]
      refine (h.sep k ?_).2
      have h2 := hk.2
      simp only [if_pos hlt] at h1 h2
      rw [hT1 k q] at h1 h2
      exact ⟨h1, h2⟩
    · show (if k < W.heap.size then T k else if k < w'.heap.size then 3000000 else 0) = _
      rw [if_neg (by omega), if_pos hlt]
  · show (if k < w'.heap.size then T1 k else 0) = To k
    rw [if_pos (Nat.lt_of_lt_of_le hk hA.size)]
    exact hT1 k hk
end
/-- two new chains, and a new one of the document's -/
theorem Tri.start {w0 w3 w4 w5 : World} {B : Nat} {T0 To0 : Nat → Nat} {cb cr ob rb cap : Nat} {G : List GHeader} {p : Pt} (hC : ChR B T0 w3 cb (chNew p)) (hO : ChR w3.heap.size To0 w4 ob (chNew p)) (h34 : Below w3.heap.size w3 w4) (h45 : Below w4.heap.size w4 w5)
    (hR : RefC w0 w5 cr rb cap G (chNew p)) (hcr : w4.heap.size ≤ cr) (hrb : w4.heap.size ≤ rb) (hle : w0.heap.size ≤ B) (hB3 : B ≤ w3.heap.size) :
    ∃ T To, Tri w0 B T To w5 cb cr ob (chNew p) (chNew p) ∧ ∀ k, k < w5.heap.size → T k ≠ 0 → T k ≠ 3000000 → To k = 3000000 := by
  have z34 := h34.size
  have z45 := h45.size
  obtain ⟨T, hTd⟩ : ∃ T : Nat → Nat, T = fun k => if k < w3.heap.size then T0 k else if k < w4.heap.size then 3000000 else if k = cr then 2000000 else 0 := ⟨_, rfl⟩
  obtain ⟨To1, hTo1⟩ : ∃ T : Nat → Nat, T = fun k => if k < w4.heap.size then To0 k else 0 := ⟨_, rfl⟩
  obtain ⟨To, hTod⟩ : ∃ T : Nat → Nat, T = fun k => if k < w3.heap.size then (if T0 k = 0 then 0 else 3000000) else if k < w4.heap.size then To0 k else if k = cr then 3000000 else 0 := ⟨_, rfl⟩
  have t1 : ∀ k, k < w3.heap.size → T k = T0 k := fun k hk => by rw [hTd]; exact if_pos hk
  have t2 : ∀ k, w3.heap.size ≤ k → k < w4.heap.size → T k = 3000000 := fun k h1 h2 => by rw [hTd]; simp only [if_neg (show ¬ k < w3.heap.size by omega), if_pos h2]
  have t3 : T cr = 2000000 := by rw [hTd]; simp only [if_neg (show ¬ cr < w3.heap.size by omega), if_neg (show ¬ cr < w4.heap.size by omega), if_true]
  have t4 : ∀ k, w4.heap.size ≤ k → k ≠ cr → T k = 0 := fun k h1 h2 => by rw [hTd]; simp only [if_neg (show ¬ k < w3.heap.size by omega), if_neg (show ¬ k < w4.heap.size by omega), if_neg h2]
  have o1 : ∀ k, k < w3.heap.size → T0 k = 0 → To k = 0 := fun k hk h0 => by rw [hTod]; simp only [if_pos hk, if_pos h0]
  have o1' : ∀ k, k < w3.heap.size → T0 k ≠ 0 → To k = 3000000 := fun k hk h0 => by rw [hTod]; simp only [if_pos hk, if_neg h0]
  have o2 : ∀ k, w3.heap.size ≤ k → k < w4.heap.size → To k = To0 k := fun k h1 h2 => by rw [hTod]; simp only [if_neg (show ¬ k < w3.heap.size by omega), if_pos h2]
  have o3 : To cr = 3000000 := by rw [hTod]; simp only [if_neg (show ¬ cr < w3.heap.size by omega), if_neg (show ¬ cr < w4.heap.size by omega), if_true]
  have o4 : ∀ k, w4.heap.size ≤ k → k ≠ cr → To k = 0 := fun k h1 h2 => by rw [hTod]; simp only [if_neg (show ¬ k < w3.heap.size by omega), if_neg (show ¬ k < w4.heap.size by omega), if_neg h2]
  refine ⟨T, To, ⟨⟨((hC.retag t1).keep h34).keep (h45.mono (by omega)), t3, ⟨rb, cap, G, hR, t4 rb hrb fun e => hR.ne e.symm⟩, hle⟩, ?_, fun k hk => ?_⟩, fun k hk h0 h3 => ?_⟩
  · have hO1 : ChR w3.heap.size To1 w4 ob (chNew p) := hO.retag fun k hk => by rw [hTo1]; exact if_pos hk
    have hO5 := (hO1.lower hB3).keep h45
    refine hO5.new_tag (fun k hk h0 => ?_) fun k hk h0 => ?_
    · have h4 : k < w4.heap.size := by
        rcases Nat.lt_or_ge k w4.heap.size with q | q
        · exact q
        · rw [hTo1] at h0
          simp only [if_neg (show ¬ k < w4.heap.size by omega)] at h0
          exact absurd rfl h0
      have h3 : w3.heap.size ≤ k := hO1.tB k h4 h0
      rw [o2 k h3 h4, hTo1]
      simp only [if_pos h4]
    · rcases Nat.lt_or_ge k w3.heap.size with q | q
      · by_cases e : T0 k = 0
        · exact absurd (o1 k q e) h0
        · exact hC.tB k q e
      · omega
  · rcases Nat.lt_or_ge k w3.heap.size with q | q
    · by_cases e : T0 k = 0
      · exact absurd (o1 k q e) hk.1
      · have h1 := o1' k q e
        have h2 := hk.2
        omega
    · rcases Nat.lt_or_ge k w4.heap.size with q2 | q2
      · exact ⟨by omega, t2 k q q2⟩
      · by_cases e : k = cr
        · have h2 := hk.2
          rw [e, o3] at h2
          omega
        · exact absurd (o4 k q2 e) hk.1
  · rcases Nat.lt_or_ge k w3.heap.size with q | q
    · rw [t1 k q] at h0
      exact o1' k q h0
    · rcases Nat.lt_or_ge k w4.heap.size with q2 | q2
      · exact absurd (t2 k q q2) h3
      · by_cases e : k = cr
        · rw [e]; exact o3
        · exact absurd (t4 k q2 e) h0
/-- behind acts on the first two -/
theorem Tri.did {w0 w5 w6 : World} {B : Nat} {T T' To : Nat → Nat} {cb cr ob : Nat} {C C' D : List Blk} (h : Tri w0 B T To w5 cb cr ob C D) (hx : ∀ k, k < w5.heap.size → T k ≠ 0 → T k ≠ 3000000 → To k = 3000000) (hb : Both w0 B T' w6 cb cr C' C') (hf : Fr T w5 T' w6) (hl : D.length ≤ 100000) :
    Tri w0 B T' To w6 cb cr ob C' D := by
  have hb5 := h.both.bel
  have hb6 := hb.bel
  have hA : Asd (fun k => k < w5.heap.size ∧ T k ≠ 0 ∧ T k ≠ 3000000) w5 w6 :=
    ⟨hb6.os.trans hb5.os.symm, hb6.tape.trans hb5.tape.symm, hb6.output.trans hb5.output.symm, hf.1, fun k hk hm => (hf.2 k hk).2 (by
      by_cases h0 : T k = 0
      · exact .inl h0
      · by_cases h3 : T k = 3000000
        · exact .inr h3
        · exact absurd ⟨hk, h0, h3⟩ hm)⟩
  refine ⟨hb, h.oth.offM hl hA (fun k hk hm => by rw [hx k hk hm.2.1 hm.2.2]; omega), fun k hk => ?_⟩
  obtain ⟨h1, h2⟩ := h.sep k hk
  exact ⟨Nat.lt_of_lt_of_le h1 hf.1, (hf.2 k h1).1.trans h2⟩
/-! slices of headers -/
abbrev HsR (w : World) (s : Sl) (l : List GHeader) : Prop := SlR 34 (fun cs g => cs = headerA g) w s l
theorem SlR.off {α : Type} {k : Nat} {R : Array Value → α → Prop} {w w' : World} {s : Sl} {l : List α} (h : SlR k R w s l) {M : Nat → Prop} (hA : Asd M w w') (hm : ∀ b off, s.a = some ⟨b, off, none⟩ → ¬ M b) : SlR k R w' s l :=
  ⟨h.1, h.2.1, fun hl => by
    obtain ⟨b, off, ha, hc⟩ := h.2.2 hl
    refine ⟨b, off, ha, fun i hi => ?_⟩
    obtain ⟨cs, h1, h2⟩ := hc i hi
    exact ⟨cs, hA.row (hm b off ha) h1, h2⟩⟩
theorem hdA_one (x : GHeader) : ∀ u ∈ (headerA x).toList, u.oneCell' = true := by
  have h := oneHeader x
  intro u hu
  rw [Array.all_eq_true_iff_forall_mem] at h
  exact h u (Array.mem_toList_iff.1 hu)
theorem hdA_size (x : GHeader) : (headerA x).size = 34 := by simp
theorem info_hdl : (Try.prog.info? 49).map (fun i => (i.zero, i.size, i.bytes)) = some (some (.agg (headerA ⟨zeroHash, 0, ⟨none, 0, 0⟩⟩)), 34, 64) := by kernel_rfl
def bsHd (parts : Array (Nat × Value)) : Sem Value := Instr.buildSlice 66 1 parts
theorem fold_bsHd (parts : Array (Nat × Value)) : Instr.buildSlice 66 1 parts = bsHd parts := rfl
theorem bsHd_one (p : GHeader) (w : World) : (bsHd #[(0, .agg (headerA p))]).run Try.prog w = .ok (.slice (some ⟨w.heap.size, 0, none⟩) 1 1) (w.alloc (.cells (headerA p) 49)) := by
  obtain ⟨i0, hi, hy0, hy1, hy2⟩ := info_parts info_hdl
  exact run_buildSlice_one (P := Try.prog) w (t := 66) (e := 49) (xs := headerA p) Try.underlying66 hi hy0 hy1 (by simp [Value.cells]) (by omega) (by omega) (by simp)
def appHd (args : Array Value) : Sem Value := Builtin.append_ #[66, 66] 66 args
theorem fold_appHd (args : Array Value) : Builtin.append_ #[66, 66] 66 args = appHd args := rfl
abbrev OwnHd (w : World) (E : Nat) (v : Value) (l : List GHeader) : Prop := OwnC w E 34 v l.length (flatC headerA l)
theorem run_appHd {W : World} {B : Nat} {s : Sl} {l : List GHeader} (h : OwnHd W B s.v l) (hB : B ≤ W.heap.size) (hl : l.length ≤ 1000000) (x : GHeader) : ∃ (s' : Sl) (W' : World), (appHd #[s.v, .slice (some ⟨W.heap.size, 0, none⟩) 1 1]).run Try.prog (W.alloc (.cells (headerA x) 49)) = .ok s'.v W' ∧ OwnHd W' B s'.v (l ++ [x]) ∧
    Below B W W' := by
  obtain ⟨i0, hi, hy0, hy1, hy2⟩ := info_parts info_hdl
  obtain ⟨s', W', h1, h2, h3, -⟩ := run_append_one headerA hdA_size (P := Try.prog) (W.alloc (.cells (headerA x) 49)) 66 hdA_one B 49 i0 _ 64 Try.underlying66 hi hy0 hy1 hy2 (by simp [Value.cells]) s.v l (h.keep (bel_a _ _)) W.heap.size 1 x (heap_alloc_new W _) hl (by omega) (by simp; omega)
  exact ⟨s', W', h1, h2, bel_grown h3 ((bel_a W _).mono hB) (by simp; omega) fun k hk => (OwnC.lt h k hk).1⟩
theorem OwnHd.reads {w : World} {E : Nat} {s : Sl} {l : List GHeader} (h : OwnHd w E s.v l) : HsR w s l := rows_of_own headerA hdA_size (by omega) h
theorem OwnHd.blk {w : World} {E : Nat} {s : Sl} {l : List GHeader} (h : OwnHd w E s.v l) {b off : Nat} (hs : s.a = some ⟨b, off, none⟩) : E ≤ b ∧ b < w.heap.size := by
  obtain ⟨sa, sn, sc⟩ := s
  simp only at hs
  subst hs
  rcases h.2 with ⟨hv, _⟩ | ⟨g, cap, hv, h1, h2, _⟩
  · cases hv
  · cases hv
    exact ⟨h1, h2⟩
theorem rblk_header {W : World} {b o : Nat} {p : Pt} {g : GHeader} {q : Option Nat} (h : row? W b o 68 = some (rblkA p g q)) : row? W b (o + 33) 34 = some (headerA g) := by
  have h1 := row_part h 33 34 (by omega)
  rw [h1]
  congr 1
  unfold rblkA
  rw [Array.append_assoc, Array.extract_append]
  simp [Array.extract_append, ext_self, ext_none]
theorem DocV.nm {W : World} {cr rb cap : Nat} {C : List Blk} (h : DocV W cr rb cap C) {i : Nat} (hi : i < C.length) : row? W rb (i * 68 + 1) 32 = some (hashA (nmAt C i)) := by
  rw [nmAt_of (List.getElem?_eq_getElem hi)]
  exact (h.at hi).2.1
theorem Part.under' {C D : List Blk} (hC : ChnOk C) (h : Part C D) (hu : Upto C D C.length) {i k : Nat} (hi : i < C.length) (hk : k < C.length) : chUnder D (nmAt C i) (nmAt C k) = rUnder C (some i) (some k) := by
  rw [nmAt_of (List.getElem?_eq_getElem hi), nmAt_of (List.getElem?_eq_getElem hk)]
  exact h.under hC hu hi hk
/-- the three chains, and the headers of the first one in a slice -/
structure OSt (w1 : World) (B cb cr ob : Nat) (C : List Blk) (GL : List GHeader) (s : Sl) (D : List Blk) (W : World) : Prop where
  tri : ∃ T To, Tri w1 B T To W cb cr ob C D ∧ ∀ b off, s.a = some ⟨b, off, none⟩ → b < W.heap.size ∧ ¬ MutS To b
  part : Part C D
  rows : HsR W s GL
section
variable {w1 W W' : World} {B cb cr ob : Nat} {C : List Blk} {GL : List GHeader} {s : Sl} {D : List Blk}
theorem OSt.keep (h : OSt w1 B cb cr ob C GL s D W) (hb : Below W.heap.size W W') : OSt w1 B cb cr ob C GL s D W' := by
  obtain ⟨T, To, ht, hs⟩ := h.tri
  exact ⟨⟨T, To, ht.keep hb, fun b off e => ⟨Nat.lt_of_lt_of_le (hs b off e).1 hb.size, (hs b off e).2⟩⟩, h.part, SlR.keep h.rows hb fun _ _ h => h⟩
theorem OSt.bel (h : OSt w1 B cb cr ob C GL s D W) : Below w1.heap.size w1 W := by
  obtain ⟨T, To, ht, -⟩ := h.tri
  exact ht.both.bel
/-- one of the headers is added to the other chain -/
theorem OSt.add_c (h : OSt w1 B cb cr ob C GL s D W) (hC : ChnOk C) (hl : C.length ≤ 4096) {g : GHeader} {j : Nat} {c : Blk} (hj : 0 < j) (hc : C[j]? = some c) (hg : HdrR w1 g c.h) :
    Calls Try.prog 38 #[ptrV ob, .agg (headerA g)] W fun r w' => (∃ v, r = .returned v) ∧ OSt w1 B cb cr ob C GL s (chAdd D c.h) w' := by
  obtain ⟨T, To, ht, hs⟩ := h.tri
  refine (ht.add (by omega) h.part.ok (hg.keep' ht.both.bel) (fits_of_may (hC.hdr j c hc hj).2).1).mono ?_
  rintro r w' ⟨hv, ⟨T', To', ht', hT'⟩, hA⟩
  refine ⟨hv, ⟨T', To', ht', fun b off e => ?_⟩, h.part.add hC (hdrs_in hj hc), SlR.off h.rows hA fun b off e => (hs b off e).2⟩
  obtain ⟨h1, h2⟩ := hs b off e
  refine ⟨Nat.lt_of_lt_of_le h1 hA.size, fun hm => h2 ?_⟩
  unfold MutS at hm ⊢
  rwa [hT' b h1] at hm
end
end Go.Proofs.Ytkocpihfdpahpaa

/- The walk of ChainOrder. -/
namespace Go.Proofs.Ytkocpihfdpahpaa
open Go.RowKit

abbrev IsR (w : World) (s : Sl) (l : List Int) : Prop := SlR 1 (fun cs n => cs = #[.int .i64 n]) w s l
attribute [local go_sem ↓] fold_bsHd fold_appHd
set_option maxRecDepth 100000 in
set_option maxHeartbeats 3200000 in
theorem order_walk (p : Pt) (s : Sl) (l : List Act) (so : Sl) (os : List Int) (w : World) (ha : ActsR w s l) (hl : l.length ≤ 9223372036854775807) (hos : IsR w so os) :
    Calls Try.prog 5 #[.agg (pointA p), s.v, so.v] w fun e w' => e = .returned (.bool true) ∧ Below w.heap.size w w' := by
  obtain ⟨w1, hw1⟩ : ∃ W, W = w.alloc (.cells (pointA p) 26) := ⟨_, rfl⟩
  have hB1 : Below w.heap.size w w1 := by rw [hw1]; exact bel_a _ _
  have hz1 : w1.heap.size = w.heap.size + 1 := by rw [hw1]; simp
  have hr4 : row? w1 w.heap.size 0 33 = some (pointA p) := by rw [hw1, row?_new]; simp
  have ha1 := Lib.hid (ha.keep' hB1)
  have ho1 := Lib.hid (show IsR w1 so os from SlR.keep hos hB1 fun _ _ h => h)
  have hF := fewA_c ha1.out hl 30
  obtain ⟨m, hm⟩ : ∃ m, m = fewA l 30 := ⟨_, rfl⟩
  rw [← hm] at hF
  obtain ⟨sa, sn, sc⟩ := s
  obtain rfl : sn = l.length := ha.1
  obtain ⟨oa, on, oc⟩ := so
  obtain rfl : on = os.length := hos.1
  obtain ⟨b3, hb3⟩ : ∃ b, b = w.heap.size := ⟨_, rfl⟩
  rw [← hb3] at hr4
  have hc3 := cell_of_row? hr4 0 (by omega)
  have hc3' : w1.cell? ⟨b3, 0, none⟩ = some (.int .u64 (p.epoch.toNat : Int)) := by simpa using hc3
  clear hc3 ha hos
  dsimp only [Sl.v] at hF ⊢
  replace hb3 := Lib.hid hb3
  replace hm := Lib.hid hm
  replace hz1 := Lib.hid hz1
  have HK := fun W => known10_c W
  go_enter Try.func5, Try.ntmps5
  go_upto_region 1 with fail
  rw [← hw1, ← hb3.out]
  clear hw1
  go_wp2_with fail
  (with_reducible refine hF.mono ?_)
  clear hF
  rintro e w2 ⟨rfl, hb2⟩
  have hr42 := (row?_below _ _ _ hb2 (show b3 < w1.heap.size by have := hb3.out; have := hz1.out; omega)).trans hr4
  have hc42 := (hb2.cell (p := ⟨b3, 0, none⟩) (show b3 < w1.heap.size by have := hb3.out; have := hz1.out; omega)).trans hc3'
  have hB2 := Lib.hid (hB1.trans (hb2.mono (by have := hz1.out; omega)))
  have hend := Lib.hid (show ∀ W, Below w.heap.size w W → Calls Try.prog 34 #[] W fun e w' => e = .returned (.bool true) ∧ Below w.heap.size w w' from fun W hW => (HK W).mono fun e w' ⟨h1, h2⟩ => ⟨h1, hW.trans (h2.mono hW.size)⟩)
  clear HK
  cases m
  · have HE := hend.out w2 hB2.out
    go_wp2_with fail
    (with_reducible refine HE.mono ?_)
    rintro e w3 ⟨rfl, hb3⟩
    go_wp2_with fail
    go_ret
    exact ⟨rfl, hb3⟩
  by_cases hol : 60 < os.length
  · have holi : (60 : Int) < (os.length : Int) := by omega
    have HE := hend.out w2 hB2.out
    go_wp2_with fail
    (with_reducible refine HE.mono ?_)
    rintro e w3 ⟨rfl, hb3⟩
    go_wp2_with fail
    go_ret
    exact ⟨rfl, hb3⟩
  have holi : ¬ (60 : Int) < (os.length : Int) := by omega
  by_cases hep : 4611686018427387904 < p.epoch.toNat
  · have hei : (4611686018427387904 : Int) < (p.epoch.toNat : Int) := by omega
    have HE := hend.out w2 hB2.out
    go_wp2_with fail
    (with_reducible refine HE.mono ?_)
    rintro e w3 ⟨rfl, hb3⟩
    go_wp2_with fail
    go_ret
    exact ⟨rfl, hb3⟩
  have hei : ¬ (4611686018427387904 : Int) < (p.epoch.toNat : Int) := by omega
  have HN := chnew_c p w2 (by omega)
  unfold ptrV at HN
  go_wp2_with fail
  (with_reducible refine HN.mono ?_)
  clear HN
  rintro e w3 ⟨cb, rfl, hcb, ⟨T0, hC0⟩, hb3'⟩
  have hr43 := (row?_below _ _ _ hb3' (show b3 < w2.heap.size by have := hb3.out; have := hz1.out; have := hb2.size; omega)).trans hr42
  have HN := chnew_c p w3 (by omega)
  unfold ptrV at HN
  clear hr42 hc42
  go_wp2_with fail
  (with_reducible refine HN.mono ?_)
  clear HN
  rintro e w4 ⟨ob, rfl, hob, ⟨To0, hO0⟩, hb4'⟩
  have hr44 := (row?_below _ _ _ hb4' (show b3 < w3.heap.size by have := hb3.out; have := hz1.out; have := hb2.size; have := hb3'.size; omega)).trans hr43
  have hB14 : Below w1.heap.size w1 w4 := hb2.trans ((hb3'.trans (hb4'.mono hb3'.size)).mono hb2.size)
  have HR := rnew_c w1 w4 hB14 p
  unfold ptrV at HR
  clear hr43
  go_wp2_with fail
  (with_reducible refine HR.mono ?_)
  clear HR
  rintro e w5 ⟨cr, rb0, rfl, hcr, hrb, hR0, hb5'⟩
  obtain ⟨T1, To, hTri, hx⟩ := Tri.start hC0 hO0 hb4' hb5' hR0 hcr hrb hb2.size hb3'.size
  obtain ⟨hfa, hl30⟩ := fewA_out hm.out.symm
  have HD := actdo_c hTri.both (chNew_ok p) ha1.out (by omega) hfa
  have hok := Lib.hid (doA_ok (chNew_ok p) l)
  have hlen : (doA (chNew p) l).length ≤ 31 := by
    have := doA_len (chNew p) l
    have h1 : (chNew p).length = 1 := rfl
    omega
  have hC0e := Lib.hid (doA_head (chNew_ok p) l)
  generalize doA (chNew p) l = C at *
  unfold ptrV at HD
  dsimp only [Sl.v] at HD
  have hxx := Lib.hid hx
  replace hTri := Lib.hid hTri
  clear hC0 hO0 hb5' hb4' hb3' hR0 hx hr44 hB14 hfa hb2 hcr hrb hcb hob
  go_wp2_with fail
  (with_reducible refine HD.mono ?_)
  clear HD
  rintro e w6 ⟨rfl, T2, hB6, hF6⟩
  have h6 := Lib.hid (hTri.out.did hxx.out hB6 hF6 (by show (1 : Nat) ≤ 100000; omega))
  clear hB6 hF6 hTri hxx
  obtain ⟨rb, cap, G, hR, -⟩ := h6.out.both.doc
  have hGl := hR.len
  have hpos := hok.out.pos
  have hRo := Lib.hid hR
  have hgl : (G.drop 1).length = C.length - 1 := by rw [List.length_drop, hGl]
  have hG := Lib.hid (show ∀ (i : Nat) (hi : i < (G.drop 1).length), ∃ c, C[i + 1]? = some c ∧ HdrR w1 (G.drop 1)[i] c.h from fun i hi => by
    have hi' : i + 1 < C.length := by omega
    have e : (G.drop 1)[i] = G[i + 1]'(by omega) := by
      rw [List.getElem_drop]
      congr 1
      omega
    rw [e]
    exact ⟨_, List.getElem?_eq_getElem hi', (hR.row (i + 1) _ _ (List.getElem?_eq_getElem (by omega)) (List.getElem?_eq_getElem hi')).2⟩)
  have hGat := Lib.hid (show ∀ (i : Nat) (hi : i < (G.drop 1).length), G[i + 1]? = some (G.drop 1)[i] from fun i hi => by
    rw [List.getElem_drop, ← List.getElem?_eq_getElem]
    congr 1
    omega)
  clear hR hGl
  generalize hGL : G.drop 1 = GL at *
  clear hGL
  go_wp2_with fail
  go_loopw [12, 13] (fun u x W' => ∃ (k : Nat) (s : Sl), 1 ≤ k ∧ k ≤ C.length ∧ x = .int .i64 k ∧ u = s.v ∧ Hid (OwnHd W' w6.heap.size s.v (GL.take (k - 1))) ∧ Hid (Below w6.heap.size w6 W')) (fun _ x _ => C.length - (intOf x).toNat)
  case atStart => exact ⟨1, ⟨none, 0, 0⟩, Nat.le_refl _, hpos, rfl, rfl, Lib.hid (by rw [show GL.take (1 - 1) = [] from rfl]; exact OwnC.nil _ _ _), Lib.hid (Below.refl _ _)⟩
  case round =>
    obtain ⟨k, s, hk1, hk, rfl, rfl, hs, hB⟩ := hrel
    have hRk := hRo.out.keep hB.out
    have c0 := hRk.c0
    by_cases hkx : k < C.length
    · have hkg : k - 1 < GL.length := by omega
      have hGk := hGat.out (k - 1) hkg
      rw [show k - 1 + 1 = k by omega] at hGk
      have hrw := rblk_header (hRk.row k _ _ hGk (List.getElem?_eq_getElem hkx)).1
      have htake := Lib.hid (show GL.take (k + 1 - 1) = GL.take (k - 1) ++ [GL[k - 1]] from by
        rw [show k + 1 - 1 = (k - 1) + 1 by omega, List.take_succ_eq_append_getElem hkg])
      generalize GL[k - 1] = gk at *
      have hbs := bsHd_one gk wr
      obtain ⟨s2, w7, hap, ho7, hB7⟩ := run_appHd (s := s) hs.out hB.out.size (by rw [List.length_take]; omega) gk
      have hB7' := Lib.hid (hB.out.trans hB7)
      have ho7' := Lib.hid (show OwnHd w7 w6.heap.size s2.v (GL.take (k + 1 - 1)) by rw [htake.out]; exact ho7)
      have k0 : (0 : Int) ≤ (k : Int) := by omega
      have k1 : (k : Int) < (C.length : Int) := by omega
      have hkx2 := Lib.hid hkx
      clear hs hRk hGk ho7 hB7 htake
      go_wp2_with fail
      go_roundw
      case rel => exact ⟨k + 1, s2, by omega, by have := hkx2.out; omega, by go_num, rfl, ho7', hB7'⟩
      case measure => have := hkx2.out; simp [intOf]; omega
    · have hfin : GL.take (k - 1) = GL := List.take_of_length_le (by omega)
      have hs2 := hs.out
      rw [hfin] at hs2
      have hS7 := Lib.hid (show OSt w1 w2.heap.size cb cr ob C GL s (chNew p) wr from by
        refine ⟨⟨T2, To, h6.out.keep hB.out, fun b off e => ?_⟩, Part.start (by rw [hC0e.out]; rfl), hs2.reads⟩
        obtain ⟨q1, q2⟩ := hs2.blk e
        exact ⟨q2, fun hm => by
          have := (h6.out.sep b hm).1
          omega⟩)
      have hsn := (hs2.reads).1
      obtain ⟨ta, tn, tc⟩ := s
      obtain rfl : tn = GL.length := hsn
      dsimp only [Sl.v]
      clear hs hs2 hfin hRk hRo hB
      go_upto_block 2 with fail
      generalize wr = w7 at *
      clear c0
      have hml : GL.length ≤ 30 := by omega
      replace hgl := Lib.hid hgl
      have hGk := hG
      clear hGat h6
      go_cut [14] from 78 to 106 (fun _ W' => ∃ D, Hid (OSt w1 w2.heap.size cb cr ob C GL ⟨ta, GL.length, tc⟩ D W'))
      case first =>
        go_wp2_with fail
        go_loopw [14] (fun x W' => ∃ (k : Nat) (D : List Blk), k ≤ os.length ∧ x = .int .i64 k ∧ Hid (OSt w1 w2.heap.size cb cr ob C GL ⟨ta, GL.length, tc⟩ D W')) (fun x _ => os.length - (intOf x).toNat)
        case atStart => exact ⟨0, _, Nat.zero_le _, rfl, hS7⟩
        case round =>
          clear hS7
          obtain ⟨k, D, hk, rfl, hS⟩ := hrel
          by_cases hgo : k < os.length ∧ 0 < GL.length
          · obtain ⟨hkx, hm0⟩ := hgo
            have hbk := hS.out.bel
            obtain ⟨g2, og2, e, hg2, hc2⟩ := (show IsR wr ⟨oa, os.length, oc⟩ os from SlR.keep ho1.out hbk fun _ _ h => h).at (by omega)
            have e1 := congrArg Sl.a e
            simp only at e1
            subst e1
            clear e
            obtain ⟨cs, hcx, rfl⟩ := hc2 k hkx
            clear hc2
            generalize os[k] = x at *
            have hce := cell_of_row? hcx 0 (by omega)
            have hce' : wr.cell? ⟨g2, og2 + k, none⟩ = some (.int .i64 x) := by simpa using hce
            clear hce hcx hbk
            obtain ⟨gb, go, e, hgb, hcg⟩ := (hS.out.rows).at hm0
            have e1 := congrArg Sl.a e
            simp only at e1
            subst e1
            clear e
            obtain ⟨j1, j2, j3, j4⟩ := pick_in x GL.length hm0 (by omega)
            obtain ⟨r1, hr1⟩ : ∃ r, x.tmod (GL.length : Int) = r := ⟨_, rfl⟩
            rw [hr1] at j1 j2 j3 j4
            obtain ⟨r2, hr2⟩ : ∃ r, r1 + (GL.length : Int) = r := ⟨_, rfl⟩
            rw [hr2] at j1 j2
            obtain ⟨i, hi⟩ : ∃ i : Nat, r2.tmod (GL.length : Int) = (i : Int) := ⟨_, (Int.toNat_of_nonneg j1).symm⟩
            rw [hi] at j1 j2
            have hil : i < GL.length := by omega
            obtain ⟨cs, hrw, rfl⟩ := hcg i hil
            clear hcg
            obtain ⟨c, hc, hgr⟩ := hG.out i hil
            have HA := hS.out.add_c hok.out (by omega) (Nat.succ_pos i) hc hgr
            generalize GL[i] = gi at *
            have hne0 : ¬ (GL.length : Int) = 0 := by omega
            have hDn : ¬ GL = [] := by intro e; rw [e] at hm0; simp at hm0
            have hw1' : IntKind.i64.wrap r1 = r1 := IntWalk.i64_in _ (by omega)
            have hw2' : IntKind.i64.wrap r2 = r2 := IntWalk.i64_in _ (by omega)
            have hw3' : IntKind.i64.wrap (i : Int) = (i : Int) := IntWalk.i64_in _ (by omega)
            have k0 : (0 : Int) ≤ (k : Int) := by omega
            have k1 : (k : Int) < (os.length : Int) := by omega
            have m1 : (0 : Int) < (GL.length : Int) := by omega
            unfold ptrV at HA
            replace hG := Lib.hid hG
            go_wp2_with fail
            (with_reducible refine HA.mono ?_)
            clear HA
            rintro e w8 ⟨⟨v, rfl⟩, hS8⟩
            replace hS8 := Lib.hid hS8
            go_wp2_with fail
            go_roundw
            case rel => exact ⟨k + 1, _, by omega, by go_num, hS8⟩
            case measure => simp [intOf]; omega
          · have hgo' : ¬ ((k : Int) < (os.length : Int) ∧ (0 : Int) < (GL.length : Int)) := by omega
            have hS2 := Lib.hid hS.out
            clear hS
            by_cases hkx : k < os.length
            · have hm0 : ¬ (0 : Int) < (GL.length : Int) := by omega
              have k1 : (k : Int) < (os.length : Int) := by omega
              go_wp2_with fail
              go_meet
              case rel => exact ⟨_, hS2⟩
            · have k1 : ¬ (k : Int) < (os.length : Int) := by omega
              go_wp2_with fail
              go_meet
              case rel => exact ⟨_, hS2⟩
      case rest =>
        clear hS7 hGk
        obtain ⟨D0, hS0⟩ := hcut
        have hrlen : (hdrsOf C).reverse.length = GL.length := by
          have := hgl.out
          simp [hdrsOf]
          omega
        have hup0 := Lib.hid (Upto.zero hS0.out.part)
        go_wp2_with fail
        go_loopw [15] (fun x W' => ∃ (n : Nat) (D : List Blk), n ≤ GL.length + 1 ∧ x = .int .i64 n ∧ Hid (OSt w1 w2.heap.size cb cr ob C GL ⟨ta, GL.length, tc⟩ D W') ∧ Hid (Upto C D n)) (fun x _ => GL.length + 1 - (intOf x).toNat)
        case atStart => exact ⟨0, _, Nat.zero_le _, rfl, hS0, hup0⟩
        case round =>
          clear hS0 hup0
          obtain ⟨n, D, hn, rfl, hS, hup⟩ := hrel
          by_cases hnx : n ≤ GL.length
          · have n1 : (n : Int) ≤ (GL.length : Int) := by omega
            have hn' := Lib.hid hnx
            clear hnx
            go_upto_region 21 with fail
            go_loopw [16] (fun y W' => ∃ k : Nat, k ≤ GL.length ∧ y = .int .i64 ((GL.length : Int) - 1 - k) ∧ Hid (OSt w1 w2.heap.size cb cr ob C GL ⟨ta, GL.length, tc⟩ (addAllH D ((hdrsOf C).reverse.take k)) W')) (fun y _ => (intOf y + 1).toNat)
            case atStart => exact ⟨0, Nat.zero_le _, by go_num, hS⟩
            case round =>
              obtain ⟨k, hk, rfl, hSk⟩ := hrel
              by_cases hkx : k < GL.length
              · have hi : (GL.length : Int) - 1 - k = ((GL.length - 1 - k : Nat) : Int) := by omega
                rw [hi]
                have hil : GL.length - 1 - k < GL.length := by omega
                obtain ⟨c, hc, hgr⟩ := hG.out _ hil
                have htk := Lib.hid (show addAllH D ((hdrsOf C).reverse.take (k + 1)) = chAdd (addAllH D ((hdrsOf C).reverse.take k)) c.h from by
                  have hk2 : k < (hdrsOf C).reverse.length := by rw [hrlen]; exact hkx
                  have hx : (hdrsOf C).reverse[k] = c.h := by
                    rw [List.getElem_reverse]
                    unfold hdrsOf
                    rw [List.getElem_map, List.getElem_drop]
                    congr 1
                    have h1 : ((C.drop 1).map (·.h)).length = GL.length := by
                      have := hrlen
                      rw [List.length_reverse] at this
                      exact this
                    have h2 := (List.getElem?_eq_some_iff.1 hc).2
                    rw [← h2]
                    congr 1
                    omega
                  rw [List.take_succ_eq_append_getElem hk2, hx]
                  unfold addAllH
                  rw [List.foldl_append]
                  rfl)
                have hnext := Lib.hid (show (GL.length : Int) - 1 - ((k + 1 : Nat) : Int) = ((GL.length - 1 - k : Nat) : Int) - 1 by omega)
                obtain ⟨gb, go, e, hgb, hcg⟩ := (hSk.out.rows).at (show 0 < GL.length by omega)
                have e1 := congrArg Sl.a e
                simp only at e1
                subst e1
                clear e
                obtain ⟨cs, hrw, rfl⟩ := hcg _ hil
                clear hcg hi
                generalize GL.length - 1 - k = i at *
                have HA := hSk.out.add_c hok.out (by omega) (Nat.succ_pos i) hc hgr
                generalize GL[i] = gi at *
                unfold ptrV at HA
                have i0 : (0 : Int) ≤ (i : Int) := by omega
                have i1 : (i : Int) < (GL.length : Int) := by omega
                have hkx' := Lib.hid hkx
                have hil' := Lib.hid (show i < 1000 by omega)
                go_wp2_with fail
                (with_reducible refine HA.mono ?_)
                clear HA
                rintro e w8 ⟨⟨v, rfl⟩, hS8⟩
                rw [← htk.out] at hS8
                replace hS8 := Lib.hid hS8
                go_wp2_with fail
                go_roundw
                case rel =>
                  have := hil'.out
                  exact ⟨k + 1, by have := hkx'.out; omega, by rw [hnext.out], hS8⟩
                case measure => simp [intOf]
              · obtain rfl : k = GL.length := by omega
                have hneg : (GL.length : Int) - 1 - (GL.length : Int) = -1 := by omega
                rw [hneg]
                have hS9 := Lib.hid (show OSt w1 w2.heap.size cb cr ob C GL ⟨ta, GL.length, tc⟩ (addAllH D (hdrsOf C).reverse) wr from by
                  have := hSk.out
                  rwa [List.take_of_length_le (by rw [hrlen]; exact Nat.le_refl _)] at this)
                have hup9 := Lib.hid (Upto.round hok.out (by omega) hS.out.part hup.out)
                clear hneg hSk
                go_wp2_with fail
                go_roundw
                case rel => exact ⟨n + 1, _, by have := hn'.out; omega, by go_num, hS9, hup9⟩
                case measure => have := hn'.out; simp [intOf]; omega
          · have n1 : ¬ (n : Int) ≤ (GL.length : Int) := by omega
            have hfull := Lib.hid (show Upto C D C.length from by
              have h1 := hgl.out
              rw [show C.length = n by omega]
              exact hup.out)
            obtain ⟨T7, To7, ht7, -⟩ := hS.out.tri
            have hDl := Part.full hok.out hS.out.part hfull.out
            have hpD := Lib.hid hS.out.part
            have HLo := fun W (hb : Below wr.heap.size wr W) => (ht7.keep hb).oth.len_c hpD.out.ok
            have HLc := fun W (hb : Below wr.heap.size wr W) => (ht7.keep hb).both.real.len_c hok.out
            rw [hDl] at HLo
            unfold ptrV at HLo HLc
            have h7 := Lib.hid ht7
            clear hDl ht7 hS hup
            go_wp2_with fail
            (with_reducible refine (HLo _ (Below.refl _ _)).mono ?_)
            clear HLo
            rintro e w8 ⟨rfl, hb8⟩
            have HL2 := HLc _ hb8
            clear HLc
            go_wp2_with fail
            (with_reducible refine HL2.mono ?_)
            clear HL2
            rintro e w9 ⟨rfl, hb9⟩
            have h9 := Lib.hid (h7.out.keep (hb8.trans (hb9.mono hb8.size)))
            obtain ⟨rb9, cap9, hDv⟩ := h9.out.both.view
            have hDo := Lib.hid hDv
            have hBB := Lib.hid (hB1.trans (h9.out.both.bel.mono (by have := hz1.out; omega)))
            clear hb8 hb9 hDv h7
            go_wp2_with fail
            go_loopw [17] (fun x W' => ∃ i : Nat, i ≤ C.length ∧ x = .int .i64 i ∧ Hid (Below w9.heap.size w9 W')) (fun x _ => C.length - (intOf x).toNat)
            case atStart => exact ⟨0, Nat.zero_le _, rfl, Lib.hid (Below.refl _ _)⟩
            case round =>
              obtain ⟨i, hi, rfl, hBi⟩ := hrel
              have c0i := (hDo.out.keep hBi.out).c0
              by_cases hix : i < C.length
              · have i0 : (0 : Int) ≤ (i : Int) := by omega
                have i1 : (i : Int) < (C.length : Int) := by omega
                have hix' := Lib.hid hix
                generalize wr = wo at *
                go_upto_region 30 with fail
                go_loopw [18] (fun x W' => ∃ j : Nat, j ≤ C.length ∧ x = .int .i64 j ∧ Hid (Below w9.heap.size w9 W')) (fun x _ => C.length - (intOf x).toNat)
                case atStart => exact ⟨0, Nat.zero_le _, rfl, hBi⟩
                case round =>
                  clear hBi c0i
                  obtain ⟨j, hj, rfl, hBj⟩ := hrel
                  have hDj := hDo.out.keep hBj.out
                  have c0q := hDj.c0
                  by_cases hjx : j < C.length
                  · have j0 : (0 : Int) ≤ (j : Int) := by omega
                    have j1 : (j : Int) < (C.length : Int) := by omega
                    have hni := hDj.nm hix
                    have hnj := hDj.nm hjx
                    have hcq := hDj.clt
                    have hrq := hDj.lt
                    have HU := fun W (hb : Below wr.heap.size wr W) => (h9.out.keep (hBj.out.trans (hb.mono hBj.out.size))).oth.under_c hpD.out.ok (nmAt C i) (nmAt C j)
                    have HV := fun W (hb : Below wr.heap.size wr W) => (h9.out.keep (hBj.out.trans (hb.mono hBj.out.size))).both.docUnder hok.out (some i) (some j) (fun k hk => by cases hk; exact hix)
                    have hUe := Part.under' hok.out hpD.out hfull.out hix hjx
                    replace HU := fun W hb => hUe ▸ HU W hb
                    clear hUe
                    obtain ⟨u, hu⟩ : ∃ u, u = rUnder C (some i) (some j) := ⟨_, rfl⟩
                    rw [← hu] at HU HV
                    obtain ⟨ni, hnie⟩ : ∃ n, n = nmAt C i := ⟨_, rfl⟩
                    obtain ⟨nj, hnje⟩ : ∃ n, n = nmAt C j := ⟨_, rfl⟩
                    rw [← hnie] at hni HU
                    rw [← hnje] at hnj HU
                    have hjx2 := Lib.hid hjx
                    obtain ⟨rb, hrbe⟩ : ∃ r, r = rb9 := ⟨_, rfl⟩
                    obtain ⟨cap, hcape⟩ : ∃ r, r = cap9 := ⟨_, rfl⟩
                    rw [← hrbe] at hni hnj c0q hrq
                    rw [← hcape] at c0q
                    clear hu hnie hnje hDj hrbe hcape
                    unfold ptrV at HU HV
                    simp only [parI] at HV
                    go_upto_region 32 with fail
                    refine wp_region_freeG_l (fun W W' => Below W.heap.size W W') (by kernel_rfl) [149, 150, 151, 152, 153, 154, 155, 156, 157, 158, 159, 160, 161, 162, 163, 164, 165, 166, 167, 168, 169, 170, 171, 172, 173]
                      [Is (.pointer (some ⟨ob, 0, none⟩)), Is (.pointer (some ⟨cr, 0, none⟩)), Is (.pointer (some ⟨cr, 0, none⟩)), Is (.pointer (some ⟨cr, 0, none⟩)), Is (.slice (some ⟨rb, 0, none⟩) C.length cap), Is (.int .i64 (i : Int)), Is (.pointer (some ⟨rb, i * 68, none⟩)), Is (.pointer (some ⟨rb, i * 68, none⟩)), Is (.pointer (some ⟨rb, i * 68 + 1, none⟩)), Is (.agg (hashA ni)), Is (.pointer (some ⟨cr, 0, none⟩)), Is (.pointer (some ⟨cr, 0, none⟩)), Is (.pointer (some ⟨cr, 0, none⟩)), Is (.slice (some ⟨rb, 0, none⟩) C.length cap), Is (.int .i64 (j : Int)), Is (.pointer (some ⟨rb, j * 68, none⟩)), Is (.pointer (some ⟨rb, j * 68, none⟩)), Is (.pointer (some ⟨rb, j * 68 + 1, none⟩)), Is (.agg (hashA nj)), Is (.bool u), Is (.pointer (some ⟨cr, 0, none⟩)), Is (.int .i64 (i : Int)), Is (.int .i64 (j : Int)), Is (.bool u), Is (.bool false)]
                      (by kernel_rfl) (fun W W' h hb => hb.trans (h.mono hb.size)) ?_ ?_ ?_
                    · intro f hf
                      simp only [List.mem_cons, List.not_mem_nil, or_false] at hf
                      rcases hf with rfl | rfl | rfl | rfl | rfl | rfl | rfl | rfl | rfl | rfl | rfl | rfl | rfl | rfl | rfl | rfl | rfl | rfl | rfl | rfl | rfl | rfl | rfl | rfl | rfl <;> intro x W W' h hr <;> first | exact h
                    · refine ⟨?_, ?_, ?_, ?_, ?_, ?_, ?_, ?_, ?_, ?_, ?_, ?_, ?_, ?_, ?_, ?_, ?_, ?_, ?_, ?_, ?_, ?_, ?_, ?_, ?_, trivial⟩
                      · intro L ax W hf hd
                        try simp [Region.binds] at hd
                        have e9 : ax.tmps[9]?.getD undef = .pointer (some ⟨ob, 0, none⟩) := hf.out 9 (by decide) rfl
                        refine ⟨fun _ => ?_, fun h => absurd trivial h⟩
                        refine free_run (v := .pointer (some ⟨ob, 0, none⟩)) (W' := W) rfl ?_ rfl (Below.refl _ _)
                        go_simp
                      · intro L ax W hf hd
                        try simp [Region.binds] at hd
                        have e11 : ax.tmps[11]?.getD undef = .pointer (some ⟨cr, 0, none⟩) := hf.out 11 (by decide) rfl
                        refine ⟨fun _ => ?_, fun h => absurd trivial h⟩
                        refine free_run (v := .pointer (some ⟨cr, 0, none⟩)) (W' := W) rfl ?_ rfl (Below.refl _ _)
                        go_simp
                      · intro L ax W hf hd
                        simp [Region.binds] at hd
                        have e150 : ax.tmps[150]?.getD undef = .pointer (some ⟨cr, 0, none⟩) := slv (hf.got 1 (by decide) (by simp [hd]))
                        refine ⟨fun _ => ?_, fun h => absurd trivial h⟩
                        refine free_run (v := .pointer (some ⟨cr, 0, none⟩)) (W' := W) rfl ?_ rfl (Below.refl _ _)
                        go_simp
                      · intro L ax W hf hd
                        simp [Region.binds] at hd
                        have e151 : ax.tmps[151]?.getD undef = .pointer (some ⟨cr, 0, none⟩) := slv (hf.got 2 (by decide) (by simp [hd]))
                        refine ⟨fun _ => ?_, fun h => absurd trivial h⟩
                        refine free_run (v := .pointer (some ⟨cr, 0, none⟩)) (W' := W) rfl ?_ rfl (Below.refl _ _)
                        go_simp
                      · intro L ax W hf hd
                        simp [Region.binds] at hd
                        have e152 : ax.tmps[152]?.getD undef = .pointer (some ⟨cr, 0, none⟩) := slv (hf.got 3 (by decide) (by simp [hd]))
                        refine ⟨fun _ => ?_, fun h => absurd trivial h⟩
                        have h1 := (hf.below.cell (p := ⟨cr, 0, none⟩) hcq).trans c0q
                        refine free_run (v := .slice (some ⟨rb, 0, none⟩) C.length cap) (W' := W) rfl ?_ rfl (Below.refl _ _)
                        go_simp
                      · intro L ax W hf hd
                        try simp [Region.binds] at hd
                        have e17 : ax.tmps[17]?.getD undef = .int .i64 (i : Int) := hf.out 17 (by decide) rfl
                        refine ⟨fun _ => ?_, fun h => absurd trivial h⟩
                        refine free_run (v := .int .i64 (i : Int)) (W' := W) rfl ?_ rfl (Below.refl _ _)
                        go_simp
                      · intro L ax W hf hd
                        simp [Region.binds] at hd
                        have e153 : ax.tmps[153]?.getD undef = .slice (some ⟨rb, 0, none⟩) C.length cap := slv (hf.got 4 (by decide) (by simp [hd]))
                        have e154 : ax.tmps[154]?.getD undef = .int .i64 (i : Int) := slv (hf.got 5 (by decide) (by simp [hd]))
                        refine ⟨fun _ => ?_, fun h => absurd trivial h⟩
                        refine free_run (v := .pointer (some ⟨rb, i * 68, none⟩)) (W' := W) rfl ?_ rfl (Below.refl _ _)
                        go_simp
                      · intro L ax W hf hd
                        simp [Region.binds] at hd
                        have e155 : ax.tmps[155]?.getD undef = .pointer (some ⟨rb, i * 68, none⟩) := slv (hf.got 6 (by decide) (by simp [hd]))
                        refine ⟨fun _ => ?_, fun h => absurd trivial h⟩
                        refine free_run (v := .pointer (some ⟨rb, i * 68, none⟩)) (W' := W) rfl ?_ rfl (Below.refl _ _)
                        go_simp
                      · intro L ax W hf hd
                        simp [Region.binds] at hd
                        have e156 : ax.tmps[156]?.getD undef = .pointer (some ⟨rb, i * 68, none⟩) := slv (hf.got 7 (by decide) (by simp [hd]))
                        refine ⟨fun _ => ?_, fun h => absurd trivial h⟩
                        refine free_run (v := .pointer (some ⟨rb, i * 68 + 1, none⟩)) (W' := W) rfl ?_ rfl (Below.refl _ _)
                        go_simp
                      · intro L ax W hf hd
                        simp [Region.binds] at hd
                        have e157 : ax.tmps[157]?.getD undef = .pointer (some ⟨rb, i * 68 + 1, none⟩) := slv (hf.got 8 (by decide) (by simp [hd]))
                        refine ⟨fun _ => ?_, fun h => absurd trivial h⟩
                        have h1 := (row?_below _ _ _ hf.below hrq).trans hni
                        refine free_run (v := .agg (hashA ni)) (W' := W) rfl ?_ rfl (Below.refl _ _)
                        go_simp
                      · intro L ax W hf hd
                        try simp [Region.binds] at hd
                        have e11 : ax.tmps[11]?.getD undef = .pointer (some ⟨cr, 0, none⟩) := hf.out 11 (by decide) rfl
                        refine ⟨fun _ => ?_, fun h => absurd trivial h⟩
                        refine free_run (v := .pointer (some ⟨cr, 0, none⟩)) (W' := W) rfl ?_ rfl (Below.refl _ _)
                        go_simp
                      · intro L ax W hf hd
                        simp [Region.binds] at hd
                        have e159 : ax.tmps[159]?.getD undef = .pointer (some ⟨cr, 0, none⟩) := slv (hf.got 10 (by decide) (by simp [hd]))
                        refine ⟨fun _ => ?_, fun h => absurd trivial h⟩
                        refine free_run (v := .pointer (some ⟨cr, 0, none⟩)) (W' := W) rfl ?_ rfl (Below.refl _ _)
                        go_simp
                      · intro L ax W hf hd
                        simp [Region.binds] at hd
                        have e160 : ax.tmps[160]?.getD undef = .pointer (some ⟨cr, 0, none⟩) := slv (hf.got 11 (by decide) (by simp [hd]))
                        refine ⟨fun _ => ?_, fun h => absurd trivial h⟩
                        refine free_run (v := .pointer (some ⟨cr, 0, none⟩)) (W' := W) rfl ?_ rfl (Below.refl _ _)
                        go_simp
                      · intro L ax W hf hd
                        simp [Region.binds] at hd
                        have e161 : ax.tmps[161]?.getD undef = .pointer (some ⟨cr, 0, none⟩) := slv (hf.got 12 (by decide) (by simp [hd]))
                        refine ⟨fun _ => ?_, fun h => absurd trivial h⟩
                        have h1 := (hf.below.cell (p := ⟨cr, 0, none⟩) hcq).trans c0q
                        refine free_run (v := .slice (some ⟨rb, 0, none⟩) C.length cap) (W' := W) rfl ?_ rfl (Below.refl _ _)
                        go_simp
                      · intro L ax W hf hd
                        try simp [Region.binds] at hd
                        have e18 : ax.tmps[18]?.getD undef = .int .i64 (j : Int) := hf.out 18 (by decide) rfl
                        refine ⟨fun _ => ?_, fun h => absurd trivial h⟩
                        refine free_run (v := .int .i64 (j : Int)) (W' := W) rfl ?_ rfl (Below.refl _ _)
                        go_simp
                      · intro L ax W hf hd
                        simp [Region.binds] at hd
                        have e162 : ax.tmps[162]?.getD undef = .slice (some ⟨rb, 0, none⟩) C.length cap := slv (hf.got 13 (by decide) (by simp [hd]))
                        have e163 : ax.tmps[163]?.getD undef = .int .i64 (j : Int) := slv (hf.got 14 (by decide) (by simp [hd]))
                        refine ⟨fun _ => ?_, fun h => absurd trivial h⟩
                        refine free_run (v := .pointer (some ⟨rb, j * 68, none⟩)) (W' := W) rfl ?_ rfl (Below.refl _ _)
                        go_simp
                      · intro L ax W hf hd
                        simp [Region.binds] at hd
                        have e164 : ax.tmps[164]?.getD undef = .pointer (some ⟨rb, j * 68, none⟩) := slv (hf.got 15 (by decide) (by simp [hd]))
                        refine ⟨fun _ => ?_, fun h => absurd trivial h⟩
                        refine free_run (v := .pointer (some ⟨rb, j * 68, none⟩)) (W' := W) rfl ?_ rfl (Below.refl _ _)
                        go_simp
                      · intro L ax W hf hd
                        simp [Region.binds] at hd
                        have e165 : ax.tmps[165]?.getD undef = .pointer (some ⟨rb, j * 68, none⟩) := slv (hf.got 16 (by decide) (by simp [hd]))
                        refine ⟨fun _ => ?_, fun h => absurd trivial h⟩
                        refine free_run (v := .pointer (some ⟨rb, j * 68 + 1, none⟩)) (W' := W) rfl ?_ rfl (Below.refl _ _)
                        go_simp
                      · intro L ax W hf hd
                        simp [Region.binds] at hd
                        have e166 : ax.tmps[166]?.getD undef = .pointer (some ⟨rb, j * 68 + 1, none⟩) := slv (hf.got 17 (by decide) (by simp [hd]))
                        refine ⟨fun _ => ?_, fun h => absurd trivial h⟩
                        have h1 := (row?_below _ _ _ hf.below hrq).trans hnj
                        refine free_run (v := .agg (hashA nj)) (W' := W) rfl ?_ rfl (Below.refl _ _)
                        go_simp
                      · intro L ax W hf hd
                        simp [Region.binds] at hd
                        have e149 : ax.tmps[149]?.getD undef = .pointer (some ⟨ob, 0, none⟩) := slv (hf.got 0 (by decide) (by simp [hd]))
                        have e158 : ax.tmps[158]?.getD undef = .agg (hashA ni) := slv (hf.got 9 (by decide) (by simp [hd]))
                        have e167 : ax.tmps[167]?.getD undef = .agg (hashA nj) := slv (hf.got 18 (by decide) (by simp [hd]))
                        refine ⟨fun _ => ?_, fun h => absurd trivial h⟩
                        refine free_call (f := 40) (args := #[.pointer (some ⟨ob, 0, none⟩), .agg (hashA ni), .agg (hashA nj)]) rfl (by go_simp) ?_
                        refine (HU W hf.below).mono ?_
                        rintro e w' ⟨rfl, hb⟩
                        exact ⟨_, rfl, rfl, hb⟩
                      · intro L ax W hf hd
                        try simp [Region.binds] at hd
                        have e11 : ax.tmps[11]?.getD undef = .pointer (some ⟨cr, 0, none⟩) := hf.out 11 (by decide) rfl
                        refine ⟨fun _ => ?_, fun h => absurd trivial h⟩
                        refine free_run (v := .pointer (some ⟨cr, 0, none⟩)) (W' := W) rfl ?_ rfl (Below.refl _ _)
                        go_simp
                      · intro L ax W hf hd
                        try simp [Region.binds] at hd
                        have e17 : ax.tmps[17]?.getD undef = .int .i64 (i : Int) := hf.out 17 (by decide) rfl
                        refine ⟨fun _ => ?_, fun h => absurd trivial h⟩
                        refine free_run (v := .int .i64 (i : Int)) (W' := W) rfl ?_ rfl (Below.refl _ _)
                        go_simp
                      · intro L ax W hf hd
                        try simp [Region.binds] at hd
                        have e18 : ax.tmps[18]?.getD undef = .int .i64 (j : Int) := hf.out 18 (by decide) rfl
                        refine ⟨fun _ => ?_, fun h => absurd trivial h⟩
                        refine free_run (v := .int .i64 (j : Int)) (W' := W) rfl ?_ rfl (Below.refl _ _)
                        go_simp
                      · intro L ax W hf hd
                        simp [Region.binds] at hd
                        have e169 : ax.tmps[169]?.getD undef = .pointer (some ⟨cr, 0, none⟩) := slv (hf.got 20 (by decide) (by simp [hd]))
                        have e170 : ax.tmps[170]?.getD undef = .int .i64 (i : Int) := slv (hf.got 21 (by decide) (by simp [hd]))
                        have e171 : ax.tmps[171]?.getD undef = .int .i64 (j : Int) := slv (hf.got 22 (by decide) (by simp [hd]))
                        refine ⟨fun _ => ?_, fun h => absurd trivial h⟩
                        refine free_call (f := 41) (args := #[.pointer (some ⟨cr, 0, none⟩), .int .i64 (i : Int), .int .i64 (j : Int)]) rfl (by go_simp) ?_
                        refine (HV W hf.below).mono ?_
                        rintro e w' ⟨rfl, hb⟩
                        exact ⟨_, rfl, rfl, hb⟩
                      · intro L ax W hf hd
                        simp [Region.binds] at hd
                        have e168 : ax.tmps[168]?.getD undef = .bool u := slv (hf.got 19 (by decide) (by simp [hd]))
                        have e172 : ax.tmps[172]?.getD undef = .bool u := slv (hf.got 23 (by decide) (by simp [hd]))
                        refine ⟨fun _ => ?_, fun h => absurd trivial h⟩
                        refine free_run (v := .bool false) (W' := W) rfl ?_ rfl (Below.refl _ _)
                        go_simp
                    · intro vs W' hl' hF hb
                      obtain ⟨g', hg1, hg2⟩ := vs_lit vs hl' hF
                      have e24 : g' 24 = .bool false := hg2 24 (by decide)
                      rw [hg1]
                      have hBn := Lib.hid (hBj.out.trans (hb.mono hBj.out.size))
                      clear hF hg1 hg2 hl' hb HU HV hni hnj c0q hcq hrq
                      simp only [List.length_cons, List.length_nil, Nat.reduceAdd, show List.range 25 = [0, 1, 2, 3, 4, 5, 6, 7, 8, 9, 10, 11, 12, 13, 14, 15, 16, 17, 18, 19, 20, 21, 22, 23, 24] from rfl, List.map_cons, List.map_nil, putL, List.zip_cons_cons, List.zip_nil_right, List.setIfInBounds_toArray, List.set_cons_succ, List.set_cons_zero, e24]
                      go_wp2_with fail
                      go_roundw
                      case rel => exact ⟨j + 1, by have := hjx2.out; omega, by go_num, hBn⟩
                      case measure => have := hjx2.out; simp [intOf]; omega
                  · have hBj' := Lib.hid hBj.out
                    clear hDj
                    go_wp2_with fail
                    go_roundw
                    case rel => exact ⟨i + 1, by have := hix'.out; omega, by go_num, hBj'⟩
                    case measure => have := hix'.out; simp [intOf]; omega
              · have HE := hend.out wr (hBB.out.trans (hBi.out.mono hBB.out.size))
                go_wp2_with fail
                (with_reducible refine HE.mono ?_)
                clear HE
                rintro e w10 ⟨rfl, hb10⟩
                go_wp2_with fail
                go_ret
                exact ⟨rfl, hb10⟩
end Go.Proofs.Ytkocpihfdpahpaa
