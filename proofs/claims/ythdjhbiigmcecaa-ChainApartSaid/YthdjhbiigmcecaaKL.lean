/- Texts of this proof, one behind the other: ChnO, ChnQ, ChnS, ApaP. -/
import Derived.Test.YthdjhbiigmcecaaKB
import Derived.Test.YthdjhbiigmcecaaRB
import Derived.Shelf.SlMaps.Clone
import Derived.Deep.QuietTactic
import Derived.Test.YthdjhbiigmcecaaKA
import Derived.Test.YthdjhbiigmcecaaKH
import Derived.Test.YthdjhbiigmcecaaKI
set_option linter.unusedVariables false
set_option linter.unusedSimpArgs false
/- Towards chain.Copy: clones of a map of places and of lists of places; a block more of which the map knows already. -/
namespace Go.Proofs.Ythdjhbiigmcecaa
open Go.RowKit

set_option maxRecDepth 100000 in
theorem hmclone_c {w : World} {b : Nat} {ks : List (Hash × Value)} (h : MapHv w b ks) :
    Calls Try.prog 123 #[.map (some b)] w fun e w' => e = .returned (.map (some w.heap.size)) ∧ MapHv w' w.heap.size ks ∧ w.heap.size < w'.heap.size ∧ Below w.heap.size w w' := by
  obtain ⟨es, clock, hb, r1, r2, r3, r4⟩ := h
  have hq := fun w => run_eql_map_nil_sl (P := Try.prog) w 116 _ _ (some b) Try.underlying116
  have hnew : MapHv (w.alloc (.map es clock)) w.heap.size ks := ⟨es, clock, (MapKept.heap_alloc w _).1, r1, r2, r3, r4⟩
  go_enter Try.func123, Try.ntmps123
  go_wp2_with fail
  rw [run_callFunc_extern Try.func186 (by kernel_rfl) (by kernel_rfl) (by kernel_rfl) (e := Extern.MapsClone.clone) (by kernel_rfl), run_maps_clone_sl w _ hb]
  simp only [Result.andThen]
  rw [Oper.upon_value]
  go_wp2_with fail
  rw [run_typeAssert_map_sl _ _ _ _ _ _ Try.underlying116]
  simp only [Result.andThen]
  rw [Oper.upon_value]
  go_wp2_with fail
  go_ret
  exact ⟨rfl, hnew, by simp, bel_a w _⟩
theorem nat_cells (l : List Nat) : (l.map (fun n : Nat => (n : Int))).map i64V = flatC natA l := by
  unfold flatC
  induction l with
  | nil => rfl
  | cons a l ih => simp only [List.map_cons, List.flatten_cons, ih]; rfl
theorem nclone_c {w : World} {B : Nat} {s : Sl} {l : List Nat} (h : OwnC w B 1 s.v l.length (flatC natA l)) (hl : l.length ≤ 1000000) :
    Calls Try.prog 115 #[s.v] w fun e w' => ∃ s' : Sl, e = .returned s'.v ∧ OwnC w' w.heap.size 1 s'.v l.length (flatC natA l) ∧ Below w.heap.size w w' := by
  obtain ⟨sa, sn, sc⟩ := s
  rcases h.2 with ⟨hv, hn⟩ | ⟨g, cap, hv, -, -, -, -, -, -, hx⟩
  · obtain rfl := List.eq_nil_of_length_eq_zero hn
    rw [hv]
    refine (Try.slices_Clone_int_nil 0 0 w).mono ?_
    rintro e w' ⟨rfl, rfl⟩
    exact ⟨⟨none, 0, 0⟩, rfl, OwnC.nil _ _ _, Below.refl _ _⟩
  · rw [hv]
    by_cases h0 : 0 < l.length
    · refine (Try.slices_Clone_int g 0 l.length cap (l.map (fun n : Nat => (n : Int))) w (by simp) (by omega) (fun j hj => ?_)).mono ?_
      · rw [List.length_map] at hj
        rw [Nat.zero_add]
        refine hx j _ ?_
        rw [← nat_cells, List.getElem?_map, List.getElem?_eq_getElem (by simpa using hj), Option.map_some, getD_of (List.getElem?_eq_getElem (by simpa using hj))]
        rfl
      · rintro e w' ⟨v', rfl, ho, _, hb⟩
        rw [List.take_of_length_le (by simp)] at ho
        have ho' := OwnC.of_row ho
        rw [show (l.map (fun n : Nat => (n : Int))).map (Value.int .i64) = flatC natA l from nat_cells l] at ho'
        obtain ⟨s', rfl⟩ := ho'.slice
        exact ⟨s', rfl, ho', hb⟩
    · obtain rfl := List.eq_nil_of_length_eq_zero (by omega : l.length = 0)
      refine (Try.slices_Clone_int_zero ⟨g, 0, none⟩ cap w).mono ?_
      rintro e w' ⟨v', rfl, ho, _, hb⟩
      have ho' := OwnC.of_row ho
      obtain ⟨s', rfl⟩ := ho'.slice
      exact ⟨s', rfl, ho', hb⟩
theorem ChM.grow2 {B : Nat} {T : Nat → Nat} {W Wf : World} {cb : Nat} {sA s' : Sl} {mb : Nat} {G : List GB} {C : List Blk} {U : List (List Nat)} {ch : Nat → List Nat} {N : List Hash} (h : ChM B T W cb sA mb G C U ch N) {x : GB} {b : Blk} {u : List Nat}
    (hx : BlkM B T W C.length x b u (ch C.length)) (hA : Asd (fun k => k = cb ∨ k = mb ∨ sA.v.ownBlock = some k) W Wf) (hr : row? Wf cb 0 2 = some #[s'.v, .map (some mb)]) (ht : there Wf cb 0 2)
    (ho : OwnC Wf B 1 s'.v (G ++ [x]).length (flatC ptrA (G ++ [x]))) (he : s'.v.ownBlock = sA.v.ownBlock ∨ ∃ k, s'.v.ownBlock = some k ∧ W.heap.size ≤ k) (hm : MapHv Wf mb (idxs N)) {T' : Nat → Nat} (hT : ∀ k, k < W.heap.size → T' k = T k) (hT2 : ∀ k, W.heap.size ≤ k → s'.v.ownBlock = some k → T' k = 2) (hT3 : ∀ k, W.heap.size ≤ k → T' k ≠ 0 → B ≤ k) :
    ChM B T' Wf cb s' mb (G ++ [x]) (C ++ [b]) (U ++ [u]) ch N ∧ Asd (Mut T) W Wf := by
  have hmm : ∀ k, k < W.heap.size → (k = cb ∨ k = mb ∨ sA.v.ownBlock = some k) → T k = 1 ∨ T k = 2 ∨ T k = 3 := by
    intro k _ hm
    rcases hm with rfl | rfl | hm
    · exact .inl h.tcb
    · exact .inr (.inr h.tmap)
    · exact .inr (.inl (h.tall k hm))
  have hO : Asd (Mut T) W Wf := hA.mono fun k hk hm => by
    unfold Mut
    rcases hmm k hk hm with e | e | e <;> omega
  have hn : ∀ k, k < W.heap.size → T k ≠ 1 → T k ≠ 2 → T k ≠ 3 → ¬ (k = cb ∨ k = mb ∨ sA.v.ownBlock = some k) := fun k hk h1 h2 h3 hm => by
    rcases hmm k hk hm with e | e | e
    · exact h1 e
    · exact h2 e
    · exact h3 e
  have hM' : ∀ P : World → Prop, Safe (Mut T) W P → Safe (Mut T') Wf P := fun P hs => hs.step hO fun k hk hm => by unfold Mut at *; rwa [hT k hk] at hm
  have hblk : ∀ (i : Nat) (y : GB) (bk : Blk) (v w : List Nat), BlkM B T W i y bk v w → BlkM B T' Wf i y bk v w := fun i y bk v w hk => by
    have n1 := hn _ hk.lt (by rw [hk.tb]; omega) (by rw [hk.tb]; omega) (by rw [hk.tb]; omega)
    exact ⟨hA.row n1 hk.row, hA.there n1 hk.lt hk.thr, hk.ob.imp fun _ h => h.imp fun _ h => (hA.block _ hk.lt n1).trans h, (hT _ hk.lt).trans hk.tb, hM' _ hk.hdr, hM' _ hk.up,
      hk.ch.off hA fun g hg => hn g (OwnC.lt hk.ch g hg).2 (by rw [hk.tc g hg]; omega) (by rw [hk.tc g hg]; omega) (by rw [hk.tc g hg]; omega), fun g hg => (hT g (OwnC.lt hk.ch g hg).2).trans (hk.tc g hg)⟩
  refine ⟨⟨hr, ht, (hT _ h.lt).trans h.tcb, ho, fun g hg => ?_, hm, (hT _ h.map.lt).trans h.tmap, fun k hk hk0 => ?_, Nat.le_trans h.hB hO.size, by simp [h.glen], by simp [h.ulen], fun i y bk hy hb => ?_⟩, hO⟩
  · rcases he with he | ⟨k, he, hk2⟩
    · rw [he] at hg
      rw [hT g (OwnC.lt h.all g hg).2]
      exact h.tall g hg
    · have : k = g := by rw [he] at hg; injection hg
      subst this
      exact hT2 k hk2 hg
  · rcases Nat.lt_or_ge k W.heap.size with hlt | hge
    · rw [hT k hlt] at hk0
      exact h.tB k hlt hk0
    · exact hT3 k hge hk0
  · by_cases hi : i < C.length
    · rw [List.getElem?_append_left (by rw [h.glen]; exact hi)] at hy
      rw [List.getElem?_append_left hi] at hb
      have e : (U ++ [u]).getD i [] = U.getD i [] := by
        simp only [List.getD_eq_getElem?_getD]
        rw [List.getElem?_append_left (by rw [h.ulen]; exact hi)]
      rw [e]
      exact hblk _ _ _ _ _ (h.blk i y bk hy hb)
    · have hil : i = C.length := by
        have := (List.getElem?_eq_some_iff.1 hb).1
        simp at this
        omega
      subst hil
      rw [List.getElem?_append_right (by rw [h.glen]; exact Nat.le_refl _), h.glen, Nat.sub_self] at hy
      rw [List.getElem?_append_right (Nat.le_refl _), Nat.sub_self] at hb
      simp only [List.getElem?_cons_zero, Option.some.injEq] at hy hb
      subst hy hb
      have e : (U ++ [u]).getD C.length [] = u := by
        simp only [List.getD_eq_getElem?_getD]
        rw [List.getElem?_append_right (by rw [h.ulen]; exact Nat.le_refl _), h.ulen, Nat.sub_self]
        rfl
      rw [e]
      exact hblk _ _ _ _ _ hx

end Go.Proofs.Ythdjhbiigmcecaa

/- chain.Copy. -/
namespace Go.Proofs.Ythdjhbiigmcecaa
open Go.RowKit

/-- k blocks are copied -/
structure CpS (B : Nat) (T : Nat → Nat) (W0 : World) (C : List Blk) (k ob mb : Nat) (s : Sl) (W : World) : Prop where
  m : ∃ T2 G2, ChM B T2 W ob s mb G2 (C.take k) ((ups C).take k) (chs C) (C.map (·.p.name)) ∧ (∀ j, j < W0.heap.size → T2 j = if T j = 0 then 0 else 3000000) ∧ ∀ j, W.heap.size ≤ j → T2 j = 0
  b : Below W0.heap.size W0 W
  obg : W0.heap.size ≤ ob
theorem cpy_new {B : Nat} {T : Nat → Nat} {W0 W1 : World} {cb : Nat} {sA : Sl} {mb : Nat} {G : List GB} {C : List Blk} (h : ChM B T W0 cb sA mb G C (ups C) (chs C) (C.map (·.p.name))) (hb : Below W0.heap.size W0 W1) {m2 : Nat} (hm : MapHv W1 m2 (idxs (C.map (·.p.name)))) (hge : W0.heap.size ≤ m2) (t : TypeId) :
    CpS B T W0 C 0 W1.heap.size m2 ⟨none, 0, 0⟩ (W1.alloc (.cells #[.slice none 0 0, .map (some m2)] t)) := by
  have hml := hm.lt
  have hs := hb.size
  have hbe := hb.trans ((bel_a W1 (.cells #[.slice none 0 0, .map (some m2)] t)).mono hb.size)
  refine ⟨⟨fun j => if j < W0.heap.size then (if T j = 0 then 0 else 3000000) else if j = W1.heap.size then 1 else if j = m2 then 3 else 0, [], ⟨?_, there_new _ _ _ _ _ (by simp), ?_, OwnC.nil _ _ _, (fun g hg => by cases hg), hm.keep (bel_a _ _) hml, ?_, fun j hj h0 => ?_, Nat.le_trans h.hB hbe.size, by simp, by simp, fun i x b hx _ => by simp at hx⟩, fun j hj => if_pos hj, fun j hj => ?_⟩, hbe, hs⟩
  · rw [row?_new]; simp
  · show (if W1.heap.size < W0.heap.size then _ else if W1.heap.size = W1.heap.size then 1 else _) = 1
    rw [if_neg (by omega), if_pos rfl]
  · show (if m2 < W0.heap.size then _ else if m2 = W1.heap.size then 1 else if m2 = m2 then 3 else 0) = 3
    rw [if_neg (by omega), if_neg (by omega), if_pos rfl]
  · rcases Nat.lt_or_ge j W0.heap.size with hlt | hge'
    · refine h.tB j hlt fun e => h0 ?_
      show (if j < W0.heap.size then (if T j = 0 then 0 else 3000000) else _) = 0
      rw [if_pos hlt, if_pos e]
    · exact Nat.le_trans h.hB hge'
  · have hj' : W1.heap.size + 1 ≤ j := by simpa using hj
    show (if j < W0.heap.size then _ else if j = W1.heap.size then 1 else if j = m2 then 3 else 0) = 0
    rw [if_neg (by omega), if_neg (by omega), if_neg (by omega)]
theorem CpS.keep {B : Nat} {T : Nat → Nat} {W0 W W' : World} {C : List Blk} {k ob mb : Nat} {s : Sl} (h : CpS B T W0 C k ob mb s W) (hb : Below W.heap.size W W') : CpS B T W0 C k ob mb s W' := by
  obtain ⟨⟨T2, G2, h1, h2, h3⟩, h4, h5⟩ := h
  exact ⟨⟨T2, G2, h1.keep hb, h2, fun j hj => h3 j (Nat.le_trans hb.size hj)⟩, h4.trans (hb.mono h4.size), h5⟩
theorem sets_ob {b : Nat} {fr : Nat × Nat} : ∀ (vs : List Value) (o : Nat) (w : World), (∃ cs t, w.heap[b]? = some (.cells cs t fr)) → ∃ cs t, (w.setCells b o vs).heap[b]? = some (.cells cs t fr)
  | [], _, _, h => h
  | v :: vs, o, w, ⟨_, _, h⟩ => by
    rw [World.setCells]
    exact sets_ob vs _ _ (set_ob h o v)
/-- the block's own copy, made and filled -/
theorem cpy_blk (W : World) (zs cs : Array Value) (t : TypeId) (hz : zs.size = 69) (hc : cs.size = 69) : row? (putRow (W.alloc (.cells zs t)) W.heap.size 0 cs) W.heap.size 0 69 = some cs ∧ there (putRow (W.alloc (.cells zs t)) W.heap.size 0 cs) W.heap.size 0 69 ∧
    (putRow (W.alloc (.cells zs t)) W.heap.size 0 cs).heap.size = W.heap.size + 1 ∧ Below W.heap.size W (putRow (W.alloc (.cells zs t)) W.heap.size 0 cs) ∧ ∃ cs' t', (putRow (W.alloc (.cells zs t)) W.heap.size 0 cs).heap[W.heap.size]? = some (.cells cs' t' (0, 0)) := by
  have ht := there_new W zs t 0 69 (by omega)
  exact ⟨row?_put_same _ _ _ _ _ hc (by omega) ht, there_put _ _ _ _ _ _ _ ht, by rw [size_put]; simp, below_put (bel_a _ _) (Nat.le_refl _) _ _, sets_ob _ _ _ ⟨_, _, heap_alloc_new W _⟩⟩
theorem take_snoc {α : Type} {l : List α} {k : Nat} {x : α} (h : l[k]? = some x) : l.take (k + 1) = l.take k ++ [x] := by
  rw [List.take_add_one, h]
  rfl
set_option maxHeartbeats 1600000 in
/-- a block more is copied -/
theorem cpy_round {B : Nat} {T : Nat → Nat} {W0 : World} {cb : Nat} {sA : Sl} {mb : Nat} {G : List GB} {C : List Blk} (h : ChM B T W0 cb sA mb G C (ups C) (chs C) (C.map (·.p.name))) (hC : C.length ≤ 100000) {W WA W2 : World} {k o m2 : Nat} {s c' : Sl} (hS : CpS B T W0 C k o m2 s W) {x : GB} {b : Blk} (hx : G[k]? = some x) (hb : C[k]? = some b) {y : Nat} (hy : y = W.heap.size)
    (hA : Below W.heap.size W WA) (hAz : WA.heap.size = W.heap.size + 1) (hAr : row? WA y 0 69 = some (blkA b.p x)) (hAt : there WA y 0 69) (hAo : ∃ cs t, WA.heap[y]? = some (.cells cs t (0, 0))) (h2 : Below WA.heap.size WA W2) (hc : OwnC W2 WA.heap.size 1 c'.v (chs C k).length (flatC natA (chs C k))) (tt : TypeId) :
    ∃ (s' : Sl) (W5 : World), (appP #[s.v, .slice (some ⟨W2.heap.size, 0, none⟩) 1 1]).run Try.prog ((W2.setCell ⟨y, 68, none⟩ c'.v).alloc (.cells #[ptrV y] tt)) = .ok s'.v W5 ∧ CpS B T W0 C (k + 1) o m2 s' (W5.setCell ⟨o, 0, none⟩ s'.v) := by
  obtain ⟨⟨T2, G2, hM, hT, hT0⟩, hbW, hog⟩ := hS
  have hkl : k < C.length := (List.getElem?_eq_some_iff.1 hb).1
  have hbk := h.blk k x b hx hb
  have hz2 := h2.size
  have hzW := hbW.size
  have hck : (C.take k).length = k := by rw [List.length_take]; omega
  obtain ⟨Wl, hWl⟩ : ∃ Wl, Wl = (W2.setCell ⟨y, 68, none⟩ c'.v).alloc (.cells #[ptrV y] tt) := ⟨_, rfl⟩
  have hlz : Wl.heap.size = W2.heap.size + 1 := by rw [hWl]; simp
  have hbl : Below W.heap.size W Wl := by
    rw [hWl]
    exact ((hA.trans (h2.mono (by omega))).setCell (p := ⟨y, 68, none⟩) (by show W.heap.size ≤ y; omega) _).trans ((bel_a _ _).mono (by simp; omega))
  have hcl := OwnC.lt hc
  obtain ⟨T3, hT3⟩ : ∃ T3 : Nat → Nat, T3 = fun j => if j < W.heap.size then T2 j else if j = y then 4 + 2 * k else if c'.v.ownBlock = some j then 5 + 2 * k else 0 := ⟨_, rfl⟩
  have t1 : ∀ j, j < W.heap.size → T3 j = T2 j := fun j hj => by rw [hT3]; exact if_pos hj
  have t2 : T3 y = 4 + 2 * k := by
    rw [hT3]
    show (if y < W.heap.size then _ else if y = y then 4 + 2 * k else _) = 4 + 2 * k
    rw [if_neg (by omega), if_pos rfl]
  have t3 : ∀ g, c'.v.ownBlock = some g → T3 g = 5 + 2 * k := fun g hg => by
    have := hcl g hg
    rw [hT3]
    show (if g < W.heap.size then _ else if g = y then _ else if c'.v.ownBlock = some g then 5 + 2 * k else 0) = 5 + 2 * k
    rw [if_neg (by omega), if_neg (by omega), if_pos hg]
  have t4 : ∀ j, Wl.heap.size ≤ j → T3 j = 0 := fun j hj => by
    rw [hT3]
    show (if j < W.heap.size then _ else if j = y then _ else if c'.v.ownBlock = some j then 5 + 2 * k else 0) = 0
    rw [if_neg (by omega), if_neg (by omega), if_neg (fun e => by have := hcl j e; omega)]
  have hM1 : ChM B T3 Wl o s m2 G2 (C.take k) ((ups C).take k) (chs C) (C.map (·.p.name)) := (hM.retag t1).keep hbl
  have hset : Asd (fun j => j = y) W2 (W2.setCell ⟨y, 68, none⟩ c'.v) := asd_set W2 ⟨y, 68, none⟩ c'.v
  have hal : Below W2.heap.size (W2.setCell ⟨y, 68, none⟩ c'.v) Wl := by
    rw [hWl]
    exact (bel_a _ _).mono (by simp)
  have hy2 : y < W2.heap.size := by omega
  have r2 : row? W2 y 0 69 = some (blkA b.p x) := (row?_below _ _ _ h2 (show y < WA.heap.size by omega)).trans hAr
  obtain ⟨u, hu⟩ : ∃ u, u = (ups C).getD k [] := ⟨_, rfl⟩
  have hX : BlkM B T3 Wl (C.take k).length { b := y, g := x.g, u := x.u, c := c' } b u (chs C (C.take k).length) := by
    have hd : ∀ j, j < W0.heap.size → Mut T3 j → Mut T j := fun j hj hm e => hm (by rw [t1 j (by omega), hT j hj, if_pos e])
    have h0l : Asd (Mut T) W0 Wl := below_fresh (hbW.trans (hbl.mono (by omega))) _
    rw [hck]
    refine ⟨?_, ?_, ?_, t2, hbk.hdr.step h0l hd, ?_, ?_, t3⟩
    · refine (row?_below _ _ _ hal (show y < W2.heap.size by omega)).trans ?_
      rw [row?_set_in _ _ _ _ _ (by omega) (by rw [r2]; rfl), r2, Option.map_some]
      refine congrArg some ?_
      simp only [splice, blkA]
      apply Array.ext'
      simp
    · exact there_below hal (show y < W2.heap.size by omega) (there_set _ _ _ _ _ _ (there_below h2 (show y < WA.heap.size by omega) hAt))
    · obtain ⟨cs, t, ho⟩ := hAo
      have h1 : W2.heap[y]? = some (.cells cs t (0, 0)) := (h2.block _ (show y < WA.heap.size by omega)).trans ho
      obtain ⟨cs', t', h3⟩ := set_ob h1 68 c'.v
      exact ⟨cs', t', (hal.block _ hy2).trans h3⟩
    · rw [hu]
      exact hbk.up.step h0l hd
    · exact (((hc.more (Nat.le_trans h.hB (by omega))).off hset fun g hg e => by have := hcl g hg; omega).keep (hal.mono (by simp)))
  have hGl : G2.length = k := by rw [hM.glen, hck]
  obtain ⟨s', W5, e1, e2, e3, e4⟩ := app_box hM1.all hM1.hB (by omega) { b := y, g := x.g, u := x.u, c := c' } W2.heap.size (W := Wl) (t := tt) (by rw [hWl]; have := heap_alloc_new (W2.setCell ⟨y, 68, none⟩ c'.v) (.cells #[ptrV y] tt); simpa using this)
  have hsT := hM1.tall
  have hol := hM1.lt
  have hml := hM1.map.lt
  have no : s.v.ownBlock ≠ some o := fun e => by have := hsT o e; rw [hM1.tcb] at this; omega
  have nm : s.v.ownBlock ≠ some m2 := fun e => by have := hsT m2 e; rw [hM1.tmap] at this; omega
  have nom : m2 ≠ o := fun e => by have := hM1.tmap; rw [e, hM1.tcb] at this; omega
  have hst5 : Asd (fun j => j = o) W5 (W5.setCell ⟨o, 0, none⟩ s'.v) := asd_set W5 ⟨o, 0, none⟩ s'.v
  have hgr := asd_grown e3
  have hz5 := hgr.size
  have hAll : Asd (fun j => j = o ∨ j = m2 ∨ s.v.ownBlock = some j) Wl (W5.setCell ⟨o, 0, none⟩ s'.v) := (hgr.mono fun j _ hm => .inr (.inr hm)).trans (hst5.mono fun j _ hm => .inl hm)
  have hno : ∀ g, s'.v.ownBlock = some g → g ≠ o := fun g hg e => by
    subst e
    rcases e4 with e | e
    · exact no (e ▸ hg)
    · have := Option.some.inj (e.symm.trans hg)
      omega
  obtain ⟨T4, hT4⟩ : ∃ T4 : Nat → Nat, T4 = fun j => if j < Wl.heap.size then T3 j else if s'.v.ownBlock = some j then 2 else 0 := ⟨_, rfl⟩
  have q1 : ∀ j, j < Wl.heap.size → T4 j = T3 j := fun j hj => by rw [hT4]; exact if_pos hj
  have ro : row? W5 o 0 2 = some #[s.v, .map (some m2)] := hgr.row no hM1.row
  obtain ⟨hF, -⟩ := hM1.grow2 (Wf := W5.setCell ⟨o, 0, none⟩ s'.v) (s' := s') hX hAll (by
      rw [row?_set_in _ _ _ _ _ (by omega) (by rw [ro]; rfl), ro, Option.map_some]
      refine congrArg some ?_
      simp only [splice]
      apply Array.ext'
      simp) (there_set _ _ _ _ _ _ (hgr.there no hol hM1.thr)) (e2.off hst5 hno) (e4.imp_right fun e => ⟨_, e, Nat.le_refl _⟩) (hM1.map.of_block ((hst5.block _ (Nat.lt_of_lt_of_le hml hz5) nom).trans (hgr.block _ hml nm))) (T' := T4) q1
    (fun j hj hs => by rw [hT4]; show (if j < Wl.heap.size then _ else if s'.v.ownBlock = some j then 2 else 0) = 2; rw [if_neg (by omega), if_pos hs]) (fun j hj _ => Nat.le_trans hM1.hB hj)
  refine ⟨s', W5, by rw [← hWl]; exact e1, ⟨T4, G2 ++ [{ b := y, g := x.g, u := x.u, c := c' }], ?_, fun j hj => ?_, fun j hj => ?_⟩, ?_, hog⟩
  · have hul : (ups C)[k]? = some u := by
      have hlt : k < (ups C).length := by rw [h.ulen]; exact hkl
      rw [hu, List.getElem?_eq_getElem hlt, List.getD_eq_getElem?_getD, List.getElem?_eq_getElem hlt]
      rfl
    rw [take_snoc hb, take_snoc hul]
    exact hF
  · rw [q1 j (by omega), t1 j (by omega)]
    exact hT j hj
  · have hj' : W5.heap.size ≤ j := by simpa using hj
    rw [hT4]
    show (if j < Wl.heap.size then _ else if s'.v.ownBlock = some j then 2 else 0) = 0
    rw [if_neg (by omega), if_neg (fun e => by have := (OwnC.lt e2 j e).2; omega)]
  · have hbl0 := hbW.trans (hbl.mono (by omega))
    exact hbl0.trans (hAll.below (by omega) fun j hj hm => by
      rcases hm with rfl | rfl | hm
      · exact hog
      · refine Nat.le_of_not_lt fun hlt => ?_
        have e5 := hT _ hlt
        have e6 := hM.tmap
        rw [e6] at e5
        split at e5 <;> omega
      · refine Nat.le_of_not_lt fun hlt => ?_
        have e5 := hT _ hlt
        have e6 := hM.tall _ hm
        rw [e6] at e5
        split at e5 <;> omega)
theorem load_blk_s (x : Value) : Instr.loadAt 168 x = loadAgg 168 x := rfl
theorem load_blk (w : World) (b off : Nat) (h : (row? w b off 69).isSome = true) : (loadAgg 168 (.pointer (some ⟨b, off, none⟩))).run Try.prog w = .ok (.agg ((row? w b off 69).getD #[])) w := run_loadAgg Try.isAgg168 Try.sizeOf168 w b off h
theorem store_blk_s (x v : Value) : Instr.storeAt 168 x v = storeAgg 168 x v := rfl
theorem info_blk : (Try.prog.info? 168).map (·.size) = some 69 := by kernel_rfl
theorem store_blk (w : World) (b off : Nat) (xs : Array Value) (hn : xs.size = 69) (h1 : oneCells xs) (ht : there w b off 69) : (storeAgg 168 (.pointer (some ⟨b, off, none⟩)) (.agg xs)).run Try.prog w = .ok () (putRow w b off xs) := run_storeAgg info_blk w b off xs hn h1 ht
theorem ones_blk (p : Pt) (x : GB) : oneCells (blkA p x) := by
  unfold oneCells
  rw [← Array.all_toList, List.all_eq_true]
  exact blkA_one p x
theorem blkA_68 (p : Pt) (x : GB) (h : 68 < (blkA p x).size) : (blkA p x)[68]'h = x.c.v := by
  have := blkA_tail p x 1
  rw [Array.getElem?_eq_getElem (by omega)] at this
  simpa using this
theorem bsP_two (y : Nat) (w : World) : (bsP #[(0, .pointer (some ⟨y, 0, none⟩))]).run Try.prog w = .ok (.slice (some ⟨w.heap.size, 0, none⟩) 1 1) (w.alloc (.cells #[.pointer (some ⟨y, 0, none⟩)] 166)) := bsP_one y w
attribute [local go_sem ↓] fold_bsP fold_appP load_blk_s store_blk_s
attribute [local go_sem] load_blk store_blk ones_blk blkA_68
theorem chs_le (C : List Blk) (k : Nat) : (chs C k).length ≤ C.length := by
  unfold chs
  refine Nat.le_trans (List.length_filter_le _ _) ?_
  simp
set_option maxRecDepth 100000 in
set_option maxHeartbeats 6400000 in
theorem chcopy_c {B : Nat} {T : Nat → Nat} {W : World} {cb : Nat} {sA : Sl} {mb : Nat} {G : List GB} {C : List Blk} (h : ChM B T W cb sA mb G C (ups C) (chs C) (C.map (·.p.name))) (hp : 0 < C.length) (hC : C.length ≤ 100000) :
    Calls Try.prog 49 #[ptrV cb] W fun e w' => ∃ (ob mb2 : Nat) (s : Sl), e = .returned (ptrV ob) ∧ CpS B T W C C.length ob mb2 s w' := by
  obtain ⟨ab, -, -, hV⟩ := h.view hp
  have HT := cthere_c hV hp
  have hV0 := Lib.hid hV
  have h0 := Lib.hid h
  clear hV h
  obtain ⟨ac, hac⟩ : ∃ ac, ac = sA.c := ⟨_, rfl⟩
  rw [← hac] at hV0
  clear hac
  unfold ptrV at HT ⊢
  go_enter Try.func49, Try.ntmps49
  go_wp2_with fail
  refine HT.mono ?_
  clear HT
  rintro e w1 ⟨rfl, hb1⟩
  have hV1 := Lib.hid (hV0.out.keep hb1)
  have c1 := hV1.out.c1
  have HM := hmclone_c hV1.out.map
  replace hb1 := Lib.hid hb1
  go_wp2_with fail
  refine HM.mono ?_
  clear HM c1
  rintro e w2 ⟨rfl, hm2, hz2, hb2⟩
  have hbb := hb1.out.trans (hb2.mono hb1.out.size)
  have hN := fun t => Lib.hid (cpy_new h0.out hbb hm2 hb1.out.size t)
  have hV2 := Lib.hid (hV1.out.keep hb2)
  have c0 := (hV2.out.keep (bel_a w2 (.cells #[.slice none 0 0, .map (some w1.heap.size)] 118))).c0
  have hN := hN 118
  clear hm2 hz2 hb2 hb1 hbb hV1 hV2
  go_wp2_with fail
  generalize w2.alloc (.cells #[.slice none 0 0, .map (some w1.heap.size)] 118) = w3 at *
  clear c0
  generalize w1.heap.size = m2 at *
  generalize w2.heap.size = o at *
  go_loopw [22] (fun t W' => ∃ (k : Nat) (s : Sl), k ≤ C.length ∧ t = .int .i64 k ∧ Hid (CpS B T W C k o m2 s W')) (fun t _ => C.length - (intOf t).toNat)
  case atStart => exact ⟨0, ⟨none, 0, 0⟩, Nat.zero_le _, rfl, hN⟩
  case round =>
    obtain ⟨k, s, hk, rfl, hS⟩ := hrel
    by_cases hlt : k < C.length
    · obtain ⟨b, hb⟩ : ∃ b, C[k]? = some b := ⟨_, List.getElem?_eq_getElem hlt⟩
      have hV := hV0.out.keep hS.out.b
      obtain ⟨x, hx⟩ := hV.box hb
      have ca := hV.arr k x hx
      have hrw := hV.row k x b hx hb
      unfold ptrV at ca
      have k1 : (k : Int) < (C.length : Int) := by omega
      have k0 : (0 : Int) ≤ (k : Int) := by omega
      clear hV
      go_wp2_with fail
      have hK := cpy_blk wr Try.zeroCells168 (blkA b.p x) 168 (by kernel_rfl) (by simp)
      generalize putRow (wr.alloc (.cells Try.zeroCells168 168)) wr.heap.size 0 (blkA b.p x) = wA at *
      obtain ⟨k1', k2', k3', k4', k5'⟩ := hK
      have hch := OwnC.keep (h0.out.blk k x b hx hb).ch (hS.out.b.trans (k4'.mono hS.out.b.size))
      have hcl : (chs C k).length ≤ 1000000 := by
        have := chs_le C k
        omega
      refine (nclone_c hch hcl).mono ?_
      rintro e wB ⟨c', rfl, hc', hb'⟩
      obtain ⟨s', w5, hrun, hS5⟩ := cpy_round h0.out hC hS.out hx hb rfl k4' k3' k1' k2' k5' hb' hc' 166
      obtain ⟨T2, G2, hM, -⟩ := hS.out.m
      have hol := hM.lt
      have hne : o ≠ wr.heap.size := by omega
      have hz' := hb'.size
      have hco : wB.cell? ⟨o, 0, none⟩ = some s.v := by
        have := cell_of_row? hM.row 0 (by omega)
        rw [Nat.zero_add] at this
        rw [hb'.cell (p := ⟨o, 0, none⟩) (show o < wA.heap.size by omega), k4'.cell (p := ⟨o, 0, none⟩) hol]
        exact this
      have hty := there_below hb' (show wr.heap.size < wA.heap.size by omega) k2'
      obtain ⟨y1, y2⟩ := hty 68 (by omega)
      rw [Nat.zero_add] at y1 y2
      obtain ⟨v68, y1⟩ := Option.isSome_iff_exists.1 y1
      unfold ptrV at hrun
      obtain ⟨ca', cn', cc'⟩ := c'
      obtain ⟨sa, sn, sc⟩ := s
      have hbs := bsP_two wr.heap.size (wB.setCell ⟨wr.heap.size, 68, none⟩ (Sl.v ⟨ca', cn', cc'⟩))
      obtain ⟨T5, G5, hM5, -⟩ := hS5.m
      obtain ⟨z1, z2⟩ := (there_set' _ _ _ _ _ _).1 hM5.thr 0 (by omega)
      obtain ⟨v0, z1⟩ := Option.isSome_iff_exists.1 z1
      obtain ⟨sa', sn', sc'⟩ := s'
      dsimp only [Sl.v, Nat.zero_add] at hrun hbs hco z1 z2
      have hS6 := Lib.hid hS5
      clear hS5 hM hM5 k1' k2' k3' k4' k5' hch hb' hc' hty hcl
      go_wp2_with fail
      go_roundw
      case rel => exact ⟨k + 1, ⟨sa', sn', sc'⟩, hlt, by simp, hS6⟩
      case measure => simp only [intOf]; omega
    · have hkl : k = C.length := by omega
      have k1 : ¬ (k : Int) < (C.length : Int) := by omega
      go_wp2_with fail
      go_ret
      subst hkl
      exact ⟨o, rfl, m2, s, hS.out⟩
theorem ChR.copy_c {B : Nat} {T : Nat → Nat} {W : World} {cb : Nat} {C : List Blk} (h : ChR B T W cb C) (hp : 0 < C.length) (hC : C.length ≤ 100000) :
    Calls Try.prog 49 #[ptrV cb] W fun e w' => ∃ (ob : Nat) (T' : Nat → Nat), e = .returned (ptrV ob) ∧ W.heap.size ≤ ob ∧ ChR B T' w' ob C ∧ (∀ j, j < W.heap.size → T' j = if T j = 0 then 0 else 3000000) ∧ (∀ j, w'.heap.size ≤ j → T' j = 0) ∧ Below W.heap.size W w' := by
  obtain ⟨sA, mb, G, h⟩ := h
  refine (chcopy_c h hp hC).mono ?_
  rintro e w' ⟨ob, m2, s, rfl, hS⟩
  obtain ⟨⟨T2, G2, h1, h2, h3⟩, h4, h5⟩ := hS
  refine ⟨ob, T2, rfl, h5, ⟨s, m2, G2, ?_⟩, h2, h3, h4⟩
  have e : (ups C).take C.length = ups C := List.take_of_length_le (by rw [h.ulen]; exact Nat.le_refl _)
  rw [e, List.take_of_length_le (Nat.le_refl _)] at h1
  exact h1
end Go.Proofs.Ythdjhbiigmcecaa

/- The chain's answer Header, at a name that is there. -/
namespace Go.Proofs.Ythdjhbiigmcecaa
open Go.RowKit

set_option maxRecDepth 100000 in
set_option maxHeartbeats 1600000 in
theorem chheader_some {W : World} {cb ab ac mb : Nat} {G : List GB} {C : List Blk} (h : ChV W cb ab ac mb G C) (hok : ChnOk C) {n : Hash} {i : Nat} {b : Blk} (hi : chAt C n = some i) (hb : C[i]? = some b) (h0i : 0 < i) :
    Calls Try.prog 50 #[ptrV cb, .agg (hashA n)] W fun e w' => ∃ g', e = .returned (.tuple #[.agg (headerA g'), .int .i64 0]) ∧ HdrAt W.heap.size w' g' b.h ∧ Below W.heap.size W w' ∧ OpsT W.heap.size w' g'.ops := by
  have hil := chAt_lt hi
  have hB0 : Below W.heap.size W ((W.alloc (.cells (hashA n) 24)).alloc (.cells (headerA ⟨zeroHash, 0, ⟨none, 0, 0⟩⟩) 49)) := by (repeat' (first | (with_reducible exact Below.refl _ _) | (with_reducible assumption) | (with_reducible refine bel_trans (by assumption) ?_ ?_) | (with_reducible refine bel_grown (by assumption) ?_ ?_ ?_) | (with_reducible refine Below.alloc ?_ ?_ _) | (with_reducible refine Below.drew ?_) | (with_reducible refine below_drewN ?_ _) | (with_reducible refine Below.setCell ?_ ?_ _) | (with_reducible refine below_put ?_ ?_ _ _) | (with_reducible exact Nat.le_refl _) | omega | (with_reducible refine Nat.le_trans ?_ (Below.size (by assumption))) | (with_reducible refine Nat.le_trans ?_ (World.grownBy.size (by assumption))) | (simp only [World.size_alloc, World.size_setCell, World.size_drew, size_drewN]; omega) | (simp only [World.size_alloc, World.size_setCell, World.size_drew, size_drewN, size_put]; omega) | (intro k hk; simp [Value.ownBlock] at hk; done) | (intro k hk; simp [Value.ownBlock] at hk; omega) | (simp [size_drewN] at *; omega)))
  have hz0 : ((W.alloc (.cells (hashA n) 24)).alloc (.cells (headerA ⟨zeroHash, 0, ⟨none, 0, 0⟩⟩) 49)).heap.size = W.heap.size + 2 := by simp
  have hrow0 : row? ((W.alloc (.cells (hashA n) 24)).alloc (.cells (headerA ⟨zeroHash, 0, ⟨none, 0, 0⟩⟩) 49)) W.heap.size 0 32 = some (hashA n) := by rw [row?_old _ _ _ _ _ (by simp), row?_new]; simp
  have hrow1 : row? ((W.alloc (.cells (hashA n) 24)).alloc (.cells (headerA ⟨zeroHash, 0, ⟨none, 0, 0⟩⟩) 49)) (W.heap.size + 1) 0 34 = some (headerA ⟨zeroHash, 0, ⟨none, 0, 0⟩⟩) := by rw [row?_new_at _ _ _ _ _ _ (by simp)]; simp
  have hth : there ((W.alloc (.cells (hashA n) 24)).alloc (.cells (headerA ⟨zeroHash, 0, ⟨none, 0, 0⟩⟩) 49)) (W.heap.size + 1) 0 34 := there_new_at _ _ _ _ _ _ (by simp) (by simp)
  have h0 := h.keep hB0
  obtain ⟨x, hx⟩ := h.box hb
  have HT := chfind_some h0 hi hx
  have hfit := Lib.hid (clnFits_may (hok.hdr i b hb h0i).2)
  have hun := ups_nil hok hil
  obtain ⟨j, c, hj, -⟩ := hok.par i b hb h0i
  rw [parAt_of hb, hj] at hun
  have hune : ((ups C).getD i []).length ≠ 0 := fun e => by cases hun.1 e
  clear h
  unfold ptrV at HT ⊢
  go_enter Try.func50, Try.ntmps50
  go_upto_region 1 with fail
  generalize (W.alloc (.cells (hashA n) 24)).alloc (.cells (headerA ⟨zeroHash, 0, ⟨none, 0, 0⟩⟩) 49) = w0 at *
  go_wp2_with fail
  refine HT.mono ?_
  clear HT
  rintro e w1 ⟨rfl, hb1⟩
  have hz1 := hb1.size
  have h1 := h0.keep hb1
  have hB1 := Lib.hid (hB0.trans (hb1.mono (by omega)))
  have hrow11 := (row?_below _ _ _ hb1 (by omega)).trans hrow1
  have hth1 := there_below hb1 (show W.heap.size + 1 < w0.heap.size by omega) hth
  have hH := h1.hdr i x b hx hb
  have hU := h1.up i x b hx hb
  obtain ⟨-, c67', -, -, -, hrh⟩ := h1.cells hx hb
  have hun1 := hU.1
  obtain ⟨u, hu⟩ : ∃ u, u = (ups C).getD i [] := ⟨_, rfl⟩
  rw [← hu] at hun1 hune
  have HC := hclone2_c hH hfit.out
  obtain ⟨xb, xg, ⟨ua, un, uc⟩, xc⟩ := x
  dsimp only [Sl.v] at c67' hun1 hrh HC
  subst hun1
  have hu0 : ¬ (u.length : Int) = 0 := by omega
  clear h0 hb1 hB0 hrow0 hrow1 hth h1 hH hU hun hu hj hok
  go_wp2_with fail
  refine HC.mono ?_
  clear HC
  rintro e w2 ⟨g', rfl, hg', hb2, hty⟩
  have hz2 := hb2.size
  have hrow12 := (row?_below _ _ _ hb2 (show W.heap.size + 1 < w1.heap.size by omega)).trans hrow11
  have hth2 := there_below hb2 (show W.heap.size + 1 < w1.heap.size by omega) hth1
  have hB2 : Below W.heap.size W w2 := hB1.out.trans (hb2.mono (by omega))
  have hfin : Hid (HdrAt W.heap.size (putRow w2 (W.heap.size + 1) 0 (headerA g')) g' b.h) := Lib.hid (hg'.step ((asd_put w2 (W.heap.size + 1) 0 (headerA g')).mono fun k _ e => by have e' : k = W.heap.size + 1 := e; omega) fun k _ e => by omega)
  have hty3 : Hid (OpsT W.heap.size (putRow w2 (W.heap.size + 1) 0 (headerA g')) g'.ops) := Lib.hid ((hty.kd (kd_off ((asd_put w2 (W.heap.size + 1) 0 (headerA g')).mono fun k _ e => by have e' : k = W.heap.size + 1 := e; omega))).more (by omega))
  replace hty := Lib.hid hty
  replace hg' := Lib.hid hg'
  clear hrow11 hth1 hrh c67' hb2 hz1
  go_wp2_with (with_reducible refine ret_row2 Try.isAgg49 Try.sizeOf49 header_res (x := .pointer (some ⟨W.heap.size + 1, 0, none⟩)) (y := .int .i64 0) (W.heap.size + 1) 0 ?rrhx (Eq.refl _) ?rrhy ?rrh ?rrhd ?rrhR; (case rrhx => simp only [Array.getD_eq_getD_getElem?, List.getElem?_toArray, List.getElem?_cons_succ, List.getElem?_cons_zero, Option.getD_some]); (case rrhy => simp only [Array.getD_eq_getD_getElem?, List.getElem?_toArray, List.getElem?_cons_succ, List.getElem?_cons_zero, Option.getD_some]); (case rrhd => exact rfl); (case rrh => go_simp); (case rrhR => ((rw [row?_put_same _ _ _ _ _ (headerA_size g') (by omega) hth2]; exact ⟨g', rfl, hfin.out, below_put hB2 (by omega) _ _, hty3.out⟩))))
end Go.Proofs.Ythdjhbiigmcecaa

/- A chain and its copy, each with its document: the second one's box has the rows of the first one's. -/
namespace Go.Proofs.Ythdjhbiigmcecaa
open Go.RowKit

/-- the copy, and a document of its own that begins with the first one's rows -/
theorem Both.second {w0 W W1 W2 : World} {B : Nat} {T T' : Nat → Nat} {cb cr ob cv rbv capv : Nat} {C D0 : List Blk} {G0 : List GHeader} (h : Both w0 B T W cb cr C C) (hl : C.length ≤ 100000) (hO : ChR B T' W1 ob C) (hT : ∀ j, j < W.heap.size → T' j = if T j = 0 then 0 else 3000000) (hb : Below W.heap.size W W1)
    (hV : RefC w0 W2 cv rbv capv G0 D0) (hb2 : Below W1.heap.size W1 W2) (hcv : W1.heap.size ≤ cv) :
    ∃ rb cap, cr < W.heap.size ∧ W.cell? ⟨cr, 0, none⟩ = some (.slice (some ⟨rb, 0, none⟩) C.length cap) ∧ W2.cell? ⟨cr, 0, none⟩ = some (.slice (some ⟨rb, 0, none⟩) C.length cap) ∧ cr ≠ cv ∧ (∃ v, W2.cell? ⟨cv, 0, none⟩ = some v) ∧ W2.frozen? ⟨cv, 0, none⟩ = false ∧ Below W.heap.size W (W2.setCell ⟨cv, 0, none⟩ (.slice (some ⟨rb, 0, none⟩) C.length cap)) ∧
      ∃ T3, Both w0 B T3 (W2.setCell ⟨cv, 0, none⟩ (.slice (some ⟨rb, 0, none⟩) C.length cap)) ob cv C C ∧ ∀ j, j < W.heap.size → T3 j = 0 ∨ T3 j = 3000000 := by
  obtain ⟨rb, cap, G, hR, h0⟩ := h.doc
  have hz := hb.size
  have hz2 := hb2.size
  have hcr := hR.cbW
  have hrl := hR.lt
  have hcvl := hV.cbW
  have hb02 : Below W.heap.size W W2 := hb.trans (hb2.mono hz)
  have hR2 := hR.keep hb02
  have hset : Asd (fun k => k = cv) W2 (W2.setCell ⟨cv, 0, none⟩ (.slice (some ⟨rb, 0, none⟩) C.length cap)) := asd_set W2 ⟨cv, 0, none⟩ _
  have hb3 : Below W.heap.size W (W2.setCell ⟨cv, 0, none⟩ (.slice (some ⟨rb, 0, none⟩) C.length cap)) := hb02.setCell (p := ⟨cv, 0, none⟩) (by show W.heap.size ≤ cv; omega) _
  have hob := hV.ob
  refine ⟨rb, cap, hcr, hR.c0, hR2.c0, by omega, ⟨_, hV.c0⟩, frozen_of_row _ _ _ _ _ hob, hb3, fun j => if j < W1.heap.size then T' j else if j = cv then 2000000 else 0, ⟨?_, ?_, ⟨rb, cap, G, ⟨hR.bel.trans (hb3.mono hR.bel.size), hV.cbl, hR.rbl, by omega, ?_, ?_, hR.cap, hR.len, fun i x b q1 q2 => ⟨?_, (hR.row i x b q1 q2).2⟩⟩, ?_⟩, h.le⟩, fun j hj => ?_⟩
  · refine ((hO.retag (T' := fun j => if j < W1.heap.size then T' j else if j = cv then 2000000 else 0) fun k hk => if_pos hk).keep hb2).offBig hl hset (fun k hk e => ?_) (fun k hk => ?_)
    · have e' : k = cv := e
      show 1000000 ≤ (if k < W1.heap.size then T' k else if k = cv then 2000000 else 0)
      rw [if_neg (by omega), if_pos e']
      omega
    · show (if k < W1.heap.size then T' k else if k = cv then 2000000 else 0) = 0
      rw [if_neg (by omega), if_neg (by omega)]
  · show (if cv < W1.heap.size then T' cv else if cv = cv then 2000000 else 0) = 2000000
    rw [if_neg (by omega), if_pos rfl]
  · simp only [World.setCell, Array.getElem?_modify, if_true, hob, Option.map_some, Option.isSome_none, Bool.false_eq_true, if_false]
    simp
  · simp only [World.setCell, Array.size_modify]
    omega
  · have h1 := (hR2.row i x b q1 q2).1
    exact hset.row (show ¬ rb = cv by omega) h1
  · show (if rb < W1.heap.size then T' rb else if rb = cv then 2000000 else 0) = 0
    rw [if_pos (by omega), hT rb hrl, if_pos h0]
  · show (if j < W1.heap.size then T' j else if j = cv then 2000000 else 0) = 0 ∨ (if j < W1.heap.size then T' j else if j = cv then 2000000 else 0) = 3000000
    rw [if_pos (by omega), hT j hj]
    split <;> simp
/-- the first one is not touched -/
theorem Both.apart {w0 W W3 W4 : World} {B : Nat} {T3 T4 : Nat → Nat} {ob cv : Nat} {C D : List Blk} (h3 : Both w0 B T3 W3 ob cv C C) (hb : Below W.heap.size W W3) (hT : ∀ j, j < W.heap.size → T3 j = 0 ∨ T3 j = 3000000) (h4 : Both w0 B T4 W4 ob cv D D) (hF : Fr T3 W3 T4 W4) : Below W.heap.size W W4 := by
  have b3 := h3.bel
  have b4 := h4.bel
  refine ⟨b4.os.trans (b3.os.symm.trans hb.os), b4.tape.trans (b3.tape.symm.trans hb.tape), b4.output.trans (b3.output.symm.trans hb.output), Nat.le_trans hb.size hF.1, fun k hk => ?_⟩
  exact ((hF.2 k (Nat.lt_of_lt_of_le hk hb.size)).2 (hT k hk)).trans (hb.block k hk)
end Go.Proofs.Ythdjhbiigmcecaa
