/- Texts of this proof, one behind the other: RegO, RegR, RegT, ChnM, ChnA, ChnB, RefMay. -/
import Derived.Test.YthdjhbiigmcecaaPAJ
import Derived.Test.YthdjhbiigmcecaaPAG
import Derived.Test.YthdjhbiigmcecaaPAF
import Derived.Deep.QuietTactic
import Derived.BigQuiet
import Derived.Test.YthdjhbiigmcecaaPAI
import Derived.Test.YthdjhbiigmcecaaPAA
import Derived.Test.YthdjhbiigmcecaaPAE
import Derived.Deep.CutRange
set_option linter.unusedVariables false
set_option linter.unusedSimpArgs false
/- Contracts: registry's leave. -/
namespace Go.Proofs.Ythdjhbiigmcecaa
open Go.RowKit
attribute [local go_sem ↓] fold_bsI fold_appI

end Go.Proofs.Ythdjhbiigmcecaa

/- Contracts: registry's do: an operation. -/
namespace Go.Proofs.Ythdjhbiigmcecaa
open Go.RowKit

def bsM (n : Nat) (parts : Array (Nat × Value)) : Sem Value := Instr.buildSlice 78 n parts
theorem fold_bsM (n : Nat) (parts : Array (Nat × Value)) : Instr.buildSlice 78 n parts = bsM n parts := rfl
def appM (args : Array Value) : Sem Value := Builtin.append_ #[78, 78] 78 args
theorem fold_appM (args : Array Value) : Builtin.append_ #[78, 78] 78 args = appM args := rfl
def bldM (parts : Array (Nat × Value)) : Sem Value := Instr.build 183 parts
theorem fold_bldM (parts : Array (Nat × Value)) : Instr.build 183 parts = bldM parts := rfl
theorem fold0_splice (A B : Array Value) (n : Nat) (hn : B.size = n) (h : n ≤ A.size) : Array.foldl (fun cs (x : Value × Nat) => cs.setIfInBounds x.2 x.1) A B.zipIdx 0 n = splice A 0 B := by
 have := fold_splice A B 0 n hn (by omega)
 simpa using this
theorem splice_zero_head (A B : Array Value) (n : Nat) (hn : B.size = n) (h : n ≤ A.size) : splice A 0 B = B ++ A.extract n A.size := by
 simp [splice, hn]
section
variable {W : World} {B X gm : Nat} {s0 s1 s2 : Sl} {g1 g2 : Option Nat} {r : Reg}
end
end Go.Proofs.Ythdjhbiigmcecaa

/- Contract: registry's do: an operation. -/
namespace Go.Proofs.Ythdjhbiigmcecaa
open Go.RowKit
attribute [local go_sem ↓] fold_bsI fold_appI fold_bsM fold_appM fold_bldM

/-- a row's part -/
theorem row_part {w : World} {b off n : Nat} {l : Array Value} (h : row? w b off n = some l) (o k : Nat) (hk : o + k ≤ n) : row? w b (off + o) k = some (l.extract o (o + k)) := by
 obtain ⟨cs, t, fr, hg, hle, rfl⟩ := row?_some h
 unfold row?
 rw [hg]
 simp only [show off + o + k ≤ cs.size by omega, if_true, Option.some.injEq]
 rw [Array.extract_extract]
 congr 1
 omega
end Go.Proofs.Ythdjhbiigmcecaa

/- A chain in memory: its box, the list of its blocks' boxes, its map of names, each block's header, ancestors and children. -/
namespace Go.Proofs.Ythdjhbiigmcecaa
open Go.RowKit

def natA (n : Nat) : Array Value := #[.int .i64 (n : Int)]
theorem natA_size (n : Nat) : (natA n).size = 1 := rfl
theorem natA_one (n : Nat) : ∀ u ∈ (natA n).toList, u.oneCell' = true := by simp [natA, Value.oneCell']
abbrev IntsR (w : World) (s : Sl) (l : List Nat) : Prop := SlR 1 (fun cs n => cs = natA n) w s l
/-- what a block keeps in memory: its box, its header, its lists -/
structure GB where
 b : Nat
 g : GHeader
 u : Sl
 c : Sl
def ptrV (b : Nat) : Value := .pointer (some ⟨b, 0, none⟩)
def ptrA (x : GB) : Array Value := #[ptrV x.b]
theorem ptrA_size (x : GB) : (ptrA x).size = 1 := rfl
theorem ptrA_one (x : GB) : ∀ u ∈ (ptrA x).toList, u.oneCell' = true := by simp [ptrA, ptrV, Value.oneCell']
def blkA (p : Pt) (x : GB) : Array Value := pointA p ++ headerA x.g ++ #[x.u.v, x.c.v]
@[simp] theorem blkA_size (p : Pt) (x : GB) : (blkA p x).size = 69 := by simp [blkA]
theorem blkA_pt (p : Pt) (x : GB) : (blkA p x).extract 0 33 = pointA p := by
 simp [blkA, Array.extract_append, ext_self, ext_none]
theorem blkA_name (p : Pt) (x : GB) : (blkA p x).extract 1 33 = hashA p.name := by
 simp [blkA, Array.extract_append, ext_self, ext_none]
theorem blkA_hdr (p : Pt) (x : GB) : (blkA p x).extract 33 67 = headerA x.g := by
 simp [blkA, Array.extract_append, ext_self, ext_none]
theorem blkA_epoch (p : Pt) (x : GB) : (blkA p x)[0]? = some (.int .u64 (p.epoch.toNat : Int)) := by
 simp [blkA, Array.getElem?_append]
theorem blkA_tail (p : Pt) (x : GB) (i : Nat) : (blkA p x)[67 + i]? = #[x.u.v, x.c.v][i]? := by
 rw [blkA, Array.getElem?_append_right (by simp)]
 simp
/-- the map's entries: a name's place -/
def idxs (N : List Hash) : List (Hash × Value) := N.zipIdx.map fun p => (p.1, .int .i64 (p.2 : Int))
theorem idxs_keys (N : List Hash) : (idxs N).map (·.1) = N := by
 simp [idxs, List.map_map, Function.comp_def]
theorem idxs_snoc (N : List Hash) (n : Hash) : idxs (N ++ [n]) = idxs N ++ [(n, .int .i64 (N.length : Int))] := by
 simp [idxs, List.zipIdx_append]
theorem valOf_from (n : Hash) : ∀ (N : List Hash) (k : Nat), valOf ((N.zipIdx k).map fun p => (p.1, Value.int .i64 (p.2 : Int))) n = (N.findIdx? fun m => decide (m = n)).map fun i => .int .i64 ((k + i : Nat) : Int)
 | [], k => rfl
 | m :: N, k => by
  have ih := valOf_from n N (k + 1)
  unfold valOf at ih ⊢
  rw [List.zipIdx_cons, List.map_cons, List.find?_cons, List.findIdx?_cons]
  by_cases h : m = n
  ·simp [h]
  ·simp only [h, decide_false, Bool.false_eq_true, if_false]
   rw [ih, Option.map_map]
   congr 1
   funext i
   simp only [Function.comp_apply]
   congr 2
   omega
theorem valOf_idxs (C : List Blk) (n : Hash) : valOf (idxs (C.map (·.p.name))) n = (chAt C n).map fun i => .int .i64 (i : Int) := by
 unfold idxs
 rw [valOf_from, chAt, List.findIdx?_map]
 congr 1
 funext i
 rw [Nat.zero_add]

theorem set_ob {W : World} {b : Nat} {cs : Array Value} {t : TypeId} {fr : Nat × Nat} (h : W.heap[b]? = some (.cells cs t fr)) (o : Nat) (u : Value) : ∃ cs' t', (W.setCell ⟨b, o, none⟩ u).heap[b]? = some (.cells cs' t' fr) := by
 simp only [World.setCell, Array.getElem?_modify, if_true, h, Option.map_some]
 exact ⟨_, _, rfl⟩
/-- which blocks may be changed: T tells whose they are (0: nobody's) -/
def Mut (T : Nat → Nat) : Nat → Prop := fun k => T k ≠ 0
structure BlkM (B : Nat) (T : Nat → Nat) (W : World) (i : Nat) (x : GB) (b : Blk) (u c : List Nat) : Prop where
 row : row? W x.b 0 69 = some (blkA b.p x)
 thr : there W x.b 0 69
 ob : ∃ cs t, W.heap[x.b]? = some (.cells cs t (0, 0))
 tb : T x.b = 4 + 2 * i
 hdr : Safe (Mut T) W fun W => HdrR W x.g b.h
 up : Safe (Mut T) W fun W => IntsR W x.u u
 ch : OwnC W B 1 x.c.v c.length (flatC natA c)
 tc : ∀ g, x.c.v.ownBlock = some g → T g = 5 + 2 * i
structure ChM (B : Nat) (T : Nat → Nat) (W : World) (cb : Nat) (sA : Sl) (mb : Nat) (G : List GB) (C : List Blk) (U : List (List Nat)) (ch : Nat → List Nat) (N : List Hash) : Prop where
 row : row? W cb 0 2 = some #[sA.v, .map (some mb)]
 thr : there W cb 0 2
 tcb : T cb = 1
 all : OwnC W B 1 sA.v G.length (flatC ptrA G)
 tall : ∀ g, sA.v.ownBlock = some g → T g = 2
 map : MapHv W mb (idxs N)
 tmap : T mb = 3
 tB : ∀ k, k < W.heap.size → T k ≠ 0 → B ≤ k
 hB : B ≤ W.heap.size
 glen : G.length = C.length
 ulen : U.length = C.length
 blk : ∀ i x b, G[i]? = some x → C[i]? = some b → BlkM B T W i x b (U.getD i []) (ch i)
/-- a chain in memory, of which blocks from B on alone are changed -/
def ChR (B : Nat) (T : Nat → Nat) (W : World) (cb : Nat) (C : List Blk) : Prop := ∃ sA mb G, ChM B T W cb sA mb G C (ups C) (chs C) (C.map (·.p.name))

section
variable {B : Nat} {T : Nat → Nat} {W W' : World} {i : Nat} {x : GB} {b : Blk} {u c : List Nat}
theorem BlkM.lt (h : BlkM B T W i x b u c) : x.b < W.heap.size := lt_of_row h.row
/-- blocks of others are changed -/
theorem BlkM.off (h : BlkM B T W i x b u c) {M : Nat → Prop} (hb : Asd M W W') (h1 : ¬ M x.b) (h2 : ∀ g, x.c.v.ownBlock = some g → ¬ M g) (h3 : ∀ k, k < W.heap.size → M k → T k ≠ 0) : BlkM B T W' i x b u c :=
 have hm : Asd (Mut T) W W' := hb.mono h3
 ⟨hb.row h1 h.row, hb.there h1 h.lt h.thr, h.ob.imp fun _ h => h.imp fun _ h => (hb.block _ (lt_of_row ‹BlkM B T W i x b u c›.row) h1).trans h, h.tb, h.hdr.step hm fun _ _ h => h, h.up.step hm fun _ _ h => h, h.ch.off hb h2, h.tc⟩
theorem BlkM.retag (h : BlkM B T W i x b u c) {T' : Nat → Nat} (hT : ∀ k, k < W.heap.size → T' k = T k) : BlkM B T' W i x b u c :=
 have hm : ∀ k, k < W.heap.size → Mut T' k → Mut T k := fun k hk hh => by unfold Mut at *; rwa [hT k hk] at hh
 ⟨h.row, h.thr, h.ob, (hT _ h.lt).trans h.tb, h.hdr.step (Asd.refl _ _) hm, h.up.step (Asd.refl _ _) hm, h.ch, fun g hg => (hT g (OwnC.lt h.ch g hg).2).trans (h.tc g hg)⟩
end
section
variable {B : Nat} {T : Nat → Nat} {W W' : World} {cb : Nat} {sA : Sl} {mb : Nat} {G : List GB} {C : List Blk} {U : List (List Nat)} {ch : Nat → List Nat} {N : List Hash}
theorem ChM.lt (h : ChM B T W cb sA mb G C U ch N) : cb < W.heap.size := lt_of_row h.row
/-- nothing of the chain's is changed -/
theorem ChM.off (h : ChM B T W cb sA mb G C U ch N) {M : Nat → Prop} (hb : Asd M W W') (hM : ∀ k, k < W.heap.size → M k → T k = 0) (hM' : ∀ P : World → Prop, Safe (Mut T) W P → Safe (Mut T) W' P) (hT : ∀ k, W.heap.size ≤ k → k < W'.heap.size → T k ≠ 0 → B ≤ k) : ChM B T W' cb sA mb G C U ch N := by
 have hn : ∀ k, k < W.heap.size → T k ≠ 0 → ¬ M k := fun k hk ht hm => ht (hM k hk hm)
 refine ⟨hb.row (hn _ h.lt (by rw [h.tcb]; omega)) h.row, hb.there (hn _ h.lt (by rw [h.tcb]; omega)) h.lt h.thr, h.tcb, h.all.off hb fun g hg => hn g (OwnC.lt h.all g hg).2 (by rw [h.tall g hg]; omega), h.tall,
  h.map.of_block (hb.block _ h.map.lt (hn _ h.map.lt (by rw [h.tmap]; omega))), h.tmap, fun k hk ht => ?_, Nat.le_trans h.hB hb.size, h.glen, h.ulen, fun i x b hx hbk => ?_⟩
 ·rcases Nat.lt_or_ge k W.heap.size with hlt | hge
  ·exact h.tB k hlt ht
  ·exact hT k hge hk ht
 ·have hk := h.blk i x b hx hbk
  have n1 := hn _ hk.lt (by rw [hk.tb]; omega)
  exact ⟨hb.row n1 hk.row, hb.there n1 hk.lt hk.thr, hk.ob.imp fun _ h => h.imp fun _ h => (hb.block _ hk.lt n1).trans h, hk.tb, hM' _ hk.hdr, hM' _ hk.up, hk.ch.off hb fun g hg => hn g (OwnC.lt hk.ch g hg).2 (by rw [hk.tc g hg]; omega), hk.tc⟩
theorem ChM.keep (h : ChM B T W cb sA mb G C U ch N) (hb : Below W.heap.size W W') : ChM B T W' cb sA mb G C U ch N :=
 h.off (below_fresh hb fun _ => False) (fun _ _ h => h.elim) (fun _ hs => hs.keep hb) fun k hk _ _ => Nat.le_trans h.hB hk
theorem ChM.retag (h : ChM B T W cb sA mb G C U ch N) {T' : Nat → Nat} (hT : ∀ k, k < W.heap.size → T' k = T k) : ChM B T' W cb sA mb G C U ch N :=
 ⟨h.row, h.thr, (hT _ h.lt).trans h.tcb, h.all, fun g hg => (hT g (OwnC.lt h.all g hg).2).trans (h.tall g hg), h.map, (hT _ h.map.lt).trans h.tmap, fun k hk ht => h.tB k hk (by rwa [hT k hk] at ht), h.hB, h.glen, h.ulen, fun i x b hx hb => (h.blk i x b hx hb).retag hT⟩
/-- boxes of unlike blocks are unlike -/
theorem ChM.inj (h : ChM B T W cb sA mb G C U ch N) {i j : Nat} {x y : GB} (hx : G[i]? = some x) (hy : G[j]? = some y) (e : x.b = y.b) : i = j := by
 have hi : i < C.length := by rw [← h.glen]; exact (List.getElem?_eq_some_iff.1 hx).1
 have hj : j < C.length := by rw [← h.glen]; exact (List.getElem?_eq_some_iff.1 hy).1
 have h1 := (h.blk i x _ hx (List.getElem?_eq_getElem hi)).tb
 have h2 := (h.blk j y _ hy (List.getElem?_eq_getElem hj)).tb
 rw [e] at h1
 omega
/-- a child more of block i -/
theorem ChM.child (h : ChM B T W cb sA mb G C U ch N) {i : Nat} {x : GB} (hx : G[i]? = some x) {c' : Sl} {cs : List Nat} {W1 : World} (hg : W.grownBy W1 x.c.v.ownBlock) (ho : OwnC W1 B 1 c'.v cs.length (flatC natA cs))
  (he : c'.v.ownBlock = x.c.v.ownBlock ∨ ∃ k, c'.v.ownBlock = some k ∧ W.heap.size ≤ k) (hW : W' = W1.setCell ⟨x.b, 68, none⟩ c'.v) {T' : Nat → Nat} (hT : ∀ k, k < W.heap.size → T' k = T k) (hT2 : ∀ k, W.heap.size ≤ k → c'.v.ownBlock = some k → T' k = 5 + 2 * i) (hT3 : ∀ k, W.heap.size ≤ k → T' k ≠ 0 → B ≤ k) :
  ChM B T' W' cb sA mb (G.set i { x with c := c' }) C U (fun j => if j = i then cs else ch j) N ∧ Asd (Mut T) W W' := by
 subst hW
 have hi : i < C.length := by rw [← h.glen]; exact (List.getElem?_eq_some_iff.1 hx).1
 have hk := h.blk i x _ hx (List.getElem?_eq_getElem hi)
 have hxl := hk.lt
 have o1 : Asd (fun k => k = x.b ∨ x.c.v.ownBlock = some k) W (W1.setCell ⟨x.b, 68, none⟩ c'.v) :=
  ((asd_grown hg).mono fun k _ hm => .inr hm).trans ((asd_set W1 ⟨x.b, 68, none⟩ c'.v).mono fun k _ hm => .inl hm)
 have hmm : ∀ k, k < W.heap.size → (k = x.b ∨ x.c.v.ownBlock = some k) → T k ≠ 0 ∧ (T k = 4 + 2 * i ∨ T k = 5 + 2 * i) := by
  intro k _ hm
  rcases hm with rfl | hm
  ·rw [hk.tb]; omega
  ·rw [hk.tc k hm]; omega
 have hO : Asd (Mut T) W (W1.setCell ⟨x.b, 68, none⟩ c'.v) := o1.mono fun k hk hm => (hmm k hk hm).1
 have hsz : W1.heap.size ≤ (W1.setCell ⟨x.b, 68, none⟩ c'.v).heap.size := by simp [World.setCell]
 have hn : ∀ k, k < W.heap.size → T k ≠ 4 + 2 * i → T k ≠ 5 + 2 * i → ¬ (k = x.b ∨ x.c.v.ownBlock = some k) := fun k hkl h1 h2 hm => by
  rcases (hmm k hkl hm).2 with e | e
  ·exact h1 e
  ·exact h2 e
 have hM' : ∀ P : World → Prop, Safe (Mut T) W P → Safe (Mut T') (W1.setCell ⟨x.b, 68, none⟩ c'.v) P := fun P hs => hs.step hO fun k hk hm => by unfold Mut at *; rwa [hT k hk] at hm
 have hmap := h.map.lt
 refine ⟨⟨o1.row (hn _ h.lt (by rw [h.tcb]; omega) (by rw [h.tcb]; omega)) h.row, o1.there (hn _ h.lt (by rw [h.tcb]; omega) (by rw [h.tcb]; omega)) h.lt h.thr, (hT _ h.lt).trans h.tcb, ?_, fun g hg' => (hT g (OwnC.lt h.all g hg').2).trans (h.tall g hg'),
  h.map.of_block (o1.block _ hmap (hn _ hmap (by rw [h.tmap]; omega) (by rw [h.tmap]; omega))), (hT _ hmap).trans h.tmap, fun k hkl ht => ?_, Nat.le_trans h.hB hO.size, by rw [List.length_set]; exact h.glen, h.ulen, fun j y b hy hb => ?_⟩, hO⟩
 ·have ha := h.all.off o1 fun g hg' => hn g (OwnC.lt h.all g hg').2 (by rw [h.tall g hg']; omega) (by rw [h.tall g hg']; omega)
  have e : flatC ptrA (G.set i { x with c := c' }) = flatC ptrA G := by
   unfold flatC
   congr 1
   apply List.ext_getElem?
   intro j
   rw [List.getElem?_map, List.getElem?_map, List.getElem?_set]
   split
   ·rename_i hij
    subst hij
    rw [if_pos (List.getElem?_eq_some_iff.1 hx).1, hx]
    rfl
   ·rfl
  rw [e, List.length_set]
  exact ha
 ·rcases Nat.lt_or_ge k W.heap.size with hlt | hge
  ·rw [hT k hlt] at ht
   exact h.tB k hlt ht
  ·exact hT3 k hge ht
 ·rw [List.getElem?_set] at hy
  by_cases hij : i = j
  ·subst hij
   rw [if_pos rfl, if_pos (List.getElem?_eq_some_iff.1 hx).1] at hy
   cases hy
   have hk := h.blk i x b hx hb
   rw [if_pos rfl]
   have hne : ∀ g, c'.v.ownBlock = some g → g ≠ x.b := by
    intro g hg' e
    subst e
    rcases he with he | ⟨k, he, hk2⟩
    ·have := hk.tc x.b (he ▸ hg')
     rw [hk.tb] at this
     omega
    ·rw [hg'] at he
     injection he with he
     omega
   refine ⟨?_, ?_, ?_, (hT _ hxl).trans hk.tb, hM' _ hk.hdr, hM' _ hk.up, ?_, fun g hg' => ?_⟩
   ·have hxr : x.c.v.ownBlock ≠ some x.b := fun e => by
     have := hk.tc x.b e
     rw [hk.tb] at this
     omega
    have r1 : row? W1 x.b 0 69 = some (blkA b.p x) := (asd_grown hg).row hxr hk.row
    rw [row?_set_in _ _ _ _ _ (by omega) (by rw [r1]; rfl), r1, Option.map_some]
    refine congrArg some ?_
    simp only [splice, blkA]
    apply Array.ext'
    simp
   ·exact there_set _ _ _ _ _ _ ((asd_grown hg).there (fun e => by
     have := hk.tc x.b e
     rw [hk.tb] at this
     omega) hxl hk.thr)
   ·obtain ⟨cs, t, ho⟩ := hk.ob
    have h1 : W1.heap[x.b]? = some (.cells cs t (0, 0)) := ((asd_grown hg).block _ hxl (fun e => by
     have := hk.tc x.b e
     rw [hk.tb] at this
     omega)).trans ho
    exact set_ob h1 _ _
   ·exact ho.off (asd_set W1 ⟨x.b, 68, none⟩ c'.v) fun g hg' => hne g hg'
   ·rcases he with he | ⟨k, he, hk2⟩
    ·have h5 := hk.tc g (he ▸ hg')
     rw [hT g (OwnC.lt hk.ch g (he ▸ hg')).2]
     exact h5
    ·have : k = g := by rw [he] at hg'; injection hg'
     subst this
     exact hT2 k hk2 hg'
  ·rw [if_neg hij] at hy
   have hk2 := h.blk j y b hy hb
   rw [if_neg (fun e => hij e.symm)]
   have hkt : ∀ k, k < W.heap.size → T k ≠ 0 → T' k = T k := fun k hk _ => hT k hk
   have n1 := hn _ hk2.lt (by rw [hk2.tb]; omega) (by rw [hk2.tb]; omega)
   exact ⟨o1.row n1 hk2.row, o1.there n1 hk2.lt hk2.thr, hk2.ob.imp fun _ h => h.imp fun _ h => (o1.block _ hk2.lt n1).trans h, (hT _ hk2.lt).trans hk2.tb, hM' _ hk2.hdr, hM' _ hk2.up, hk2.ch.off o1 fun g hg' => hn g (OwnC.lt hk2.ch g hg').2 (by rw [hk2.tc g hg']; omega) (by rw [hk2.tc g hg']; omega), fun g hg' => (hT g (OwnC.lt hk2.ch g hg').2).trans (hk2.tc g hg')⟩
end
end Go.Proofs.Ythdjhbiigmcecaa

/- A chain, read: there, find. -/
namespace Go.Proofs.Ythdjhbiigmcecaa
open Go.RowKit

theorem int_zero (w : World) : (zeroValue 3).run Try.prog w = .ok (.int .i64 0) w := by
 obtain ⟨i, hi, hz, _⟩ := info_parts (show (Try.prog.info? 3).map (fun i => (i.zero, i.size, i.bytes)) = some (some (.int .i64 0), 1, 8) by kernel_rfl)
 simp [zeroValue, typeInfo, hi, hz]
/-- a chain, as it is read -/
structure ChV (W : World) (cb ab ac mb : Nat) (G : List GB) (C : List Blk) : Prop where
 c0 : W.cell? ⟨cb, 0, none⟩ = some (.slice (some ⟨ab, 0, none⟩) C.length ac)
 c1 : W.cell? ⟨cb, 1, none⟩ = some (.map (some mb))
 le : C.length ≤ ac
 arr : ∀ (i : Nat) (x : GB), G[i]? = some x → W.cell? ⟨ab, i, none⟩ = some (ptrV x.b)
 abl : ab < W.heap.size
 map : MapHv W mb (idxs (C.map (·.p.name)))
 glen : G.length = C.length
 row : ∀ (i : Nat) (x : GB) (b : Blk), G[i]? = some x → C[i]? = some b → row? W x.b 0 69 = some (blkA b.p x)
 ob : ∀ (i : Nat) (x : GB) (b : Blk), G[i]? = some x → C[i]? = some b → ∃ cs t, W.heap[x.b]? = some (.cells cs t (0, 0))
 hdr : ∀ (i : Nat) (x : GB) (b : Blk), G[i]? = some x → C[i]? = some b → HdrR W x.g b.h
 up : ∀ (i : Nat) (x : GB) (b : Blk), G[i]? = some x → C[i]? = some b → IntsR W x.u ((ups C).getD i [])
 ch : ∀ (i : Nat) (x : GB) (b : Blk), G[i]? = some x → C[i]? = some b → IntsR W x.c (chs C i)
 inj : ∀ (i j : Nat) (x y : GB), G[i]? = some x → G[j]? = some y → x.b = y.b → i = j
section
variable {W W' : World} {cb ab ac mb : Nat} {G : List GB} {C : List Blk}
theorem ChV.lt (h : ChV W cb ab ac mb G C) : cb < W.heap.size := lt_of_cell h.c0
theorem ChV.keep (h : ChV W cb ab ac mb G C) (hb : Below W.heap.size W W') : ChV W' cb ab ac mb G C :=
 ⟨(hb.cell (p := ⟨cb, 0, none⟩) h.lt).trans h.c0, (hb.cell (p := ⟨cb, 1, none⟩) h.lt).trans h.c1, h.le, fun i x hx => (hb.cell (p := ⟨ab, i, none⟩) h.abl).trans (h.arr i x hx), Nat.lt_of_lt_of_le h.abl hb.size, h.map.keep hb h.map.lt, h.glen,
  fun i x b hx hb' => (row?_below _ _ _ hb (lt_of_row (h.row i x b hx hb'))).trans (h.row i x b hx hb'), fun i x b hx hb' => (h.ob i x b hx hb').imp fun _ q => q.imp fun _ q => (hb.block _ (lt_of_row (h.row i x b hx hb'))).trans q, fun i x b hx hb' => (h.hdr i x b hx hb').keep' hb, fun i x b hx hb' => SlR.keep (h.up i x b hx hb') hb fun _ _ h => h, fun i x b hx hb' => SlR.keep (h.ch i x b hx hb') hb fun _ _ h => h, h.inj⟩
/-- the box of block i -/
theorem ChV.box (h : ChV W cb ab ac mb G C) {i : Nat} {b : Blk} (hb : C[i]? = some b) : ∃ x, G[i]? = some x := by
 have hi : i < G.length := by rw [h.glen]; exact (List.getElem?_eq_some_iff.1 hb).1
 exact ⟨_, List.getElem?_eq_getElem hi⟩
theorem ChV.cells (h : ChV W cb ab ac mb G C) {i : Nat} {x : GB} {b : Blk} (hx : G[i]? = some x) (hb : C[i]? = some b) :
  W.cell? ⟨x.b, 0, none⟩ = some (.int .u64 (b.p.epoch.toNat : Int)) ∧ W.cell? ⟨x.b, 67, none⟩ = some x.u.v ∧ W.cell? ⟨x.b, 68, none⟩ = some x.c.v ∧ row? W x.b 0 33 = some (pointA b.p) ∧ row? W x.b 1 32 = some (hashA b.p.name) ∧ row? W x.b 33 34 = some (headerA x.g) := by
 have hr := h.row i x b hx hb
 have h0 := cell_of_row? hr 0 (by omega)
 have h1 := cell_of_row? hr 67 (by omega)
 have h2 := cell_of_row? hr 68 (by omega)
 have h3 := row_part hr 0 33 (by omega)
 have h4 := row_part hr 1 32 (by omega)
 have h5 := row_part hr 33 34 (by omega)
 rw [blkA_epoch, Nat.zero_add] at h0
 rw [blkA_tail _ _ 0, Nat.zero_add] at h1
 rw [blkA_tail _ _ 1, Nat.zero_add] at h2
 rw [blkA_pt] at h3
 rw [blkA_name] at h4
 rw [blkA_hdr] at h5
 exact ⟨h0, h1, h2, h3, h4, h5⟩
theorem ChV.look (h : ChV W cb ab ac mb G C) (n : Hash) : (Instr.lookup 116 (.map (some mb)) (.agg (hashA n)) true).run Try.prog W = .ok (.tuple #[.int .i64 (((chAt C n).getD 0 : Nat) : Int), .bool (chAt C n).isSome]) W := by
 have hl := look_hv_ok Try.underlying116 int_zero h.map n
 rw [valOf_idxs] at hl
 refine hl.trans ?_
 cases chAt C n <;> rfl
theorem ChV.look1 (h : ChV W cb ab ac mb G C) (n : Hash) : (Instr.lookup 116 (.map (some mb)) (.agg (hashA n)) false).run Try.prog W = .ok (.int .i64 (((chAt C n).getD 0 : Nat) : Int)) W := by
 have hl := look_hv Try.underlying116 int_zero h.map n
 rw [valOf_idxs] at hl
 refine hl.trans ?_
 cases chAt C n <;> rfl
end
theorem ChM.view {B : Nat} {T : Nat → Nat} {W : World} {cb : Nat} {sA : Sl} {mb : Nat} {G : List GB} {C : List Blk} (h : ChM B T W cb sA mb G C (ups C) (chs C) (C.map (·.p.name))) (hp : 0 < C.length) : ∃ ab, sA.a = some ⟨ab, 0, none⟩ ∧ sA.n = C.length ∧ ChV W cb ab sA.c mb G C := by
 have h0 := cell_of_row? h.row 0 (by omega)
 have h1 := cell_of_row? h.row 1 (by omega)
 simp only [Nat.zero_add] at h0 h1
 obtain ⟨sa, sn, sc⟩ := sA
 have hgl : 0 < G.length := by rw [h.glen]; exact hp
 rcases h.all.2 with ⟨_, hn⟩ | ⟨g, cap, hv, _, hlt, hn, _, hc, _, hx⟩
 ·omega
 ·injection hv with e1 e2 e3
  subst e1 e2 e3
  refine ⟨g, rfl, h.glen, ?_, h1, by rw [← h.glen]; exact hn, fun i x hxi => ?_, hlt, h.map, h.glen, fun i x b a1 a2 => (h.blk i x b a1 a2).row, fun i x b a1 a2 => (h.blk i x b a1 a2).ob, fun i x b a1 a2 => (h.blk i x b a1 a2).hdr.now, fun i x b a1 a2 => (h.blk i x b a1 a2).up.now,
   fun i x b a1 a2 => rows_of_own natA natA_size (by omega) (h.blk i x b a1 a2).ch, fun i j x y a1 a2 e => h.inj a1 a2 e⟩
  ·rw [h.glen] at h0
   exact h0
  ·have hi := (List.getElem?_eq_some_iff.1 hxi).1
   have hf := flatC_get ptrA ptrA_size G i 0 hi (by omega)
   rw [(List.getElem?_eq_some_iff.1 hxi).2] at hf
   have := hx (i * 1 + 0) (ptrV x.b) hf
   rw [Nat.mul_one, Nat.add_zero] at this
   exact this
set_option maxRecDepth 100000 in
theorem cthere_c {W : World} {cb ab ac mb : Nat} {G : List GB} {C : List Blk} (h : ChV W cb ab ac mb G C) (hp : 0 < C.length) :
  Calls Try.prog 104 #[ptrV cb] W fun e w' => e = .returned (.bool true) ∧ Below W.heap.size W w' := by
 have c0 := h.c0
 have p0 : (0 : Int) < (C.length : Int) := by omega
 clear h
 unfold ptrV
 go_enter Try.func104, Try.ntmps104
 go_wp2_with fail
 go_ret
 exact ⟨rfl, by (repeat' (first | (with_reducible first | exact Below.refl _ _ | assumption | refine bel_trans (by assumption) ?_ ?_ | refine bel_grown (by assumption) ?_ ?_ ?_ | refine Below.alloc ?_ ?_ _ | refine Below.drew ?_ | refine below_drewN ?_ _ | refine Below.setCell ?_ ?_ _ | refine below_put ?_ ?_ _ _ | exact Nat.le_refl _) | omega | (with_reducible first | refine Nat.le_trans ?_ (Below.size (by assumption)) | refine Nat.le_trans ?_ (World.grownBy.size (by assumption))) | (simp only [World.size_alloc, World.size_setCell, World.size_drew, size_drewN]; omega) | (simp only [World.size_alloc, World.size_setCell, World.size_drew, size_drewN, size_put]; omega) | (intro k hk; simp [Value.ownBlock] at hk; first | done | omega) | (simp [size_drewN] at *; omega)))⟩
set_option maxRecDepth 100000 in
theorem chfind_some {W : World} {cb ab ac mb : Nat} {G : List GB} {C : List Blk} (h : ChV W cb ab ac mb G C) {n : Hash} {i : Nat} {x : GB} (hi : chAt C n = some i) (hx : G[i]? = some x) :
  Calls Try.prog 105 #[ptrV cb, .agg (hashA n)] W fun e w' => e = .returned (.tuple #[ptrV x.b, .int .i64 0]) ∧ Below W.heap.size W w' := by
 have hlt := chAt_lt hi
 have hp : 0 < C.length := by omega
 have hB0 : Below W.heap.size W (W.alloc (.cells (hashA n) 24)) := bel_a _ _
 have hz0 : (W.alloc (.cells (hashA n) 24)).heap.size = W.heap.size + 1 := by simp
 have hrow0 : row? (W.alloc (.cells (hashA n) 24)) W.heap.size 0 32 = some (hashA n) := by rw [row?_new]; simp
 have h0 := h.keep hB0
 have HT := cthere_c h0 hp
 clear h
 unfold ptrV at HT ⊢
 go_enter Try.func105, Try.ntmps105
 go_upto_region 1 with fail
 generalize W.alloc (.cells (hashA n) 24) = w0 at *
 go_wp2_with fail
 refine HT.mono ?_
 clear HT
 rintro e w1 ⟨rfl, hb1⟩
 have hB1 := hB0.trans (hb1.mono (by omega))
 have h1 := h0.keep hb1
 have hrow1 := (row?_below _ _ _ hb1 (by omega)).trans hrow0
 have hz1 := hb1.size
 have l1 := fun k => show (Instr.lookup 116 (.map (some mb)) (.agg (hashA n)) true).run Try.prog (w1.drewN k) = _ from (h1.keep (below_drewN (Below.refl _ _) k)).look n
 rw [hi] at l1
 simp only [Option.getD_some, Option.isSome_some] at l1
 have c0 := h1.c0
 have c1 := h1.c1
 have ca := h1.arr i x hx
 unfold ptrV at ca
 have i1 : (i : Int) < (C.length : Int) := by omega
 have i0 : (0 : Int) ≤ (i : Int) := by omega
 clear h0 h1 hb1 hB0 hrow0
 go_upto_region 3 with fail
 go_quiet (fail)
 go_wp2_with fail
 go_ret2
 exact ⟨rfl, below_drewN hB1 _⟩
set_option maxRecDepth 100000 in
theorem chfind_none {W : World} {cb ab ac mb : Nat} {G : List GB} {C : List Blk} (h : ChV W cb ab ac mb G C) {n : Hash} (hi : chAt C n = none) (hp : 0 < C.length) :
  Calls Try.prog 105 #[ptrV cb, .agg (hashA n)] W fun e w' => e = .returned (.tuple #[.pointer none, .int .i64 6]) ∧ Below W.heap.size W w' := by
 have hB0 : Below W.heap.size W (W.alloc (.cells (hashA n) 24)) := bel_a _ _
 have hz0 : (W.alloc (.cells (hashA n) 24)).heap.size = W.heap.size + 1 := by simp
 have hrow0 : row? (W.alloc (.cells (hashA n) 24)) W.heap.size 0 32 = some (hashA n) := by rw [row?_new]; simp
 have h0 := h.keep hB0
 have HT := cthere_c h0 hp
 clear h
 unfold ptrV at HT ⊢
 go_enter Try.func105, Try.ntmps105
 go_upto_region 1 with fail
 generalize W.alloc (.cells (hashA n) 24) = w0 at *
 go_wp2_with fail
 refine HT.mono ?_
 clear HT
 rintro e w1 ⟨rfl, hb1⟩
 have hB1 := hB0.trans (hb1.mono (by omega))
 have h1 := h0.keep hb1
 have hrow1 := (row?_below _ _ _ hb1 (by omega)).trans hrow0
 have hz1 := hb1.size
 have l1 := fun k => show (Instr.lookup 116 (.map (some mb)) (.agg (hashA n)) true).run Try.prog (w1.drewN k) = _ from (h1.keep (below_drewN (Below.refl _ _) k)).look n
 rw [hi] at l1
 simp only [Option.getD_none, Option.isSome_none] at l1
 have c0 := h1.c0
 have c1 := h1.c1
 clear h0 h1 hb1 hB0 hrow0
 go_upto_region 3 with fail
 go_quiet (fail)
 go_wp2_with fail
 go_ret2
 exact ⟨rfl, below_drewN hB1 _⟩
end Go.Proofs.Ythdjhbiigmcecaa

/- A chain, read: Len, Anchor, Epoch, Knows, Parent. -/
namespace Go.Proofs.Ythdjhbiigmcecaa
open Go.RowKit

def chKnows (C : List Blk) (p : Pt) : Bool := match chAt C p.name with | none => false | some i => decide ((C[i]?).map (·.p) = some p)
theorem ChV.blt {W : World} {cb ab ac mb : Nat} {G : List GB} {C : List Blk} (h : ChV W cb ab ac mb G C) {i : Nat} {x : GB} {b : Blk} (hx : G[i]? = some x) (hb : C[i]? = some b) : x.b < W.heap.size := lt_of_row (h.row i x b hx hb)
set_option maxRecDepth 100000 in
theorem chlen_c {W : World} {cb ab ac mb : Nat} {G : List GB} {C : List Blk} (h : ChV W cb ab ac mb G C) (hp : 0 < C.length) (hl : C.length ≤ 4097) :
  Calls Try.prog 36 #[ptrV cb] W fun e w' => e = .returned (.int .i64 ((C.length : Int) - 1)) ∧ Below W.heap.size W w' := by
 have HT := cthere_c h hp
 have hI := Lib.hid h
 clear h
 unfold ptrV at HT ⊢
 go_enter Try.func36, Try.ntmps36
 go_upto_region 1 with fail
 go_wp2_with fail
 refine HT.mono ?_
 clear HT
 rintro e w1 ⟨rfl, hb1⟩
 have c0 := (hI.out.keep hb1).c0
 go_wp2_with fail
 go_ret
 exact ⟨ret_int (by go_num), hb1⟩
theorem anchor_res : Try.f47.results = #[.cell 2 26] := by kernel_rfl
set_option maxRecDepth 100000 in
theorem chanchor_c {W : World} {cb ab ac mb : Nat} {G : List GB} {C : List Blk} (h : ChV W cb ab ac mb G C) {b : Blk} (hb0 : C[0]? = some b) :
  Calls Try.prog 47 #[ptrV cb] W fun e w' => e = .returned (.agg (pointA b.p)) ∧ Below W.heap.size W w' := by
 have hp : 0 < C.length := (List.getElem?_eq_some_iff.1 hb0).1
 have hB0 : Below W.heap.size W (W.alloc (.cells (pointA zeroPt) 26)) := bel_a _ _
 have hz0 : (W.alloc (.cells (pointA zeroPt) 26)).heap.size = W.heap.size + 1 := by simp
 have hrow0 : row? (W.alloc (.cells (pointA zeroPt) 26)) W.heap.size 0 33 = some (pointA zeroPt) := by rw [row?_new]; simp
 have hth : there (W.alloc (.cells (pointA zeroPt) 26)) W.heap.size 0 33 := there_new _ _ _ _ _ (by simp)
 have HT := cthere_c (h.keep hB0) hp
 have hI := Lib.hid (h.keep hB0)
 obtain ⟨x, hx⟩ := h.box hb0
 have hbl := h.blt hx hb0
 clear h
 unfold ptrV at HT ⊢
 go_enter Try.func47, Try.ntmps47
 go_upto_region 1 with fail
 generalize W.alloc (.cells (pointA zeroPt) 26) = w0 at *
 go_wp2_with fail
 refine HT.mono ?_
 clear HT
 rintro e w1 ⟨rfl, hb1⟩
 have hz1 := hb1.size
 have h1 := hI.out.keep hb1
 have hrow1 := (row?_below _ _ _ hb1 (show W.heap.size < w0.heap.size by omega)).trans hrow0
 have hth1 := there_below hb1 (show W.heap.size < w0.heap.size by omega) hth
 have hB1 := hB0.trans (hb1.mono (by omega))
 have c0 := h1.c0
 have ca := h1.arr 0 x hx
 unfold ptrV at ca
 obtain ⟨-, -, -, rp, -, -⟩ := h1.cells hx hb0
 have hbp : x.b ≠ W.heap.size := by omega
 have p0 : (0 : Int) < (C.length : Int) := by omega
 clear hI h1 hb1 hB0 hrow0
 go_wp2_with (with_reducible refine ret_row Try.isAgg26 Try.sizeOf26 anchor_res (x := .pointer (some ⟨W.heap.size, 0, none⟩)) (W.heap.size) 0 ?rrhx (Eq.refl _) ?rrh ?rrhd ?rrhR; (case rrhx => simp only [Array.getD_eq_getD_getElem?, List.getElem?_toArray, List.getElem?_cons_succ, List.getElem?_cons_zero, Option.getD_some]); (case rrhd => exact rfl); (case rrh => go_simp); (case rrhR => ((refine ⟨?_, ?_⟩; (case refine_1 => (go_simp; done)); (case refine_2 => ((repeat' (first | (with_reducible first | exact Below.refl _ _ | assumption | refine bel_trans (by assumption) ?_ ?_ | refine bel_grown (by assumption) ?_ ?_ ?_ | refine Below.alloc ?_ ?_ _ | refine Below.drew ?_ | refine below_drewN ?_ _ | refine Below.setCell ?_ ?_ _ | refine below_put ?_ ?_ _ _ | exact Nat.le_refl _) | omega | (with_reducible first | refine Nat.le_trans ?_ (Below.size (by assumption)) | refine Nat.le_trans ?_ (World.grownBy.size (by assumption))) | (simp only [World.size_alloc, World.size_setCell, World.size_drew, size_drewN]; omega) | (simp only [World.size_alloc, World.size_setCell, World.size_drew, size_drewN, size_put]; omega) | (intro k hk; simp [Value.ownBlock] at hk; first | done | omega) | (simp [size_drewN] at *; omega)))))))))
set_option maxRecDepth 100000 in
theorem chepoch_some {W : World} {cb ab ac mb : Nat} {G : List GB} {C : List Blk} (h : ChV W cb ab ac mb G C) {n : Hash} {i : Nat} {b : Blk} (hi : chAt C n = some i) (hb : C[i]? = some b) :
  Calls Try.prog 52 #[ptrV cb, .agg (hashA n)] W fun e w' => e = .returned (.tuple #[.int .u64 (b.p.epoch.toNat : Int), .int .i64 0]) ∧ Below W.heap.size W w' := by
 have hB0 : Below W.heap.size W (W.alloc (.cells (hashA n) 24)) := bel_a _ _
 have hz0 : (W.alloc (.cells (hashA n) 24)).heap.size = W.heap.size + 1 := by simp
 have hrow0 : row? (W.alloc (.cells (hashA n) 24)) W.heap.size 0 32 = some (hashA n) := by rw [row?_new]; simp
 have h0 := h.keep hB0
 obtain ⟨x, hx⟩ := h.box hb
 have HT := chfind_some h0 hi hx
 clear h
 unfold ptrV at HT ⊢
 go_enter Try.func52, Try.ntmps52
 go_upto_region 1 with fail
 generalize W.alloc (.cells (hashA n) 24) = w0 at *
 go_wp2_with fail
 refine HT.mono ?_
 clear HT
 rintro e w1 ⟨rfl, hb1⟩
 have hB1 := hB0.trans (hb1.mono (by omega))
 obtain ⟨x0, -, -, -, -, -⟩ := (h0.keep hb1).cells hx hb
 clear h0 hb1 hB0
 go_wp2_with fail
 go_ret2
 exact ⟨rfl, hB1⟩
set_option maxRecDepth 100000 in
theorem chknows_c {W : World} {cb ab ac mb : Nat} {G : List GB} {C : List Blk} (h : ChV W cb ab ac mb G C) (hp : 0 < C.length) (p : Pt) :
  Calls Try.prog 57 #[ptrV cb, .agg (pointA p)] W fun e w' => e = .returned (.bool (chKnows C p)) ∧ Below W.heap.size W w' := by
 have hB0 : Below W.heap.size W (W.alloc (.cells (pointA p) 26)) := bel_a _ _
 have hz0 : (W.alloc (.cells (pointA p) 26)).heap.size = W.heap.size + 1 := by simp
 have hrow0 : row? (W.alloc (.cells (pointA p) 26)) W.heap.size 0 33 = some (pointA p) := by rw [row?_new]; simp
 have hrown : row? (W.alloc (.cells (pointA p) 26)) W.heap.size 1 32 = some (hashA p.name) := by rw [row?_new]; simp
 have h0 := h.keep hB0
 clear h
 cases hi : chAt C p.name with
 | none =>
  have HT := chfind_none h0 hi hp
  have hK : chKnows C p = false := by unfold chKnows; rw [hi]
  rw [hK]
  clear hK h0
  unfold ptrV at HT ⊢
  go_enter Try.func57, Try.ntmps57
  go_upto_region 1 with fail
  generalize W.alloc (.cells (pointA p) 26) = w0 at *
  go_wp2_with fail
  refine HT.mono ?_
  clear HT
  rintro e w1 ⟨rfl, hb1⟩
  have hB1 := hB0.trans (hb1.mono (by omega))
  clear hb1 hB0
  go_upto_region 2 with fail
  go_quiet (fail)
  go_wp2_with fail
  go_ret
  exact ⟨rfl, below_drewN hB1 _⟩
 | some i =>
  have hil := chAt_lt hi
  obtain ⟨b, hb⟩ : ∃ b, C[i]? = some b := ⟨_, List.getElem?_eq_getElem hil⟩
  obtain ⟨x, hx⟩ := h0.box hb
  have HT := chfind_some h0 hi hx
  have hK : chKnows C p = decide (b.p = p) := by unfold chKnows; rw [hi]; simp [hb]
  rw [hK]
  clear hK
  unfold ptrV at HT ⊢
  go_enter Try.func57, Try.ntmps57
  go_upto_region 1 with fail
  generalize W.alloc (.cells (pointA p) 26) = w0 at *
  go_wp2_with fail
  refine HT.mono ?_
  clear HT
  rintro e w1 ⟨rfl, hb1⟩
  have hB1 := hB0.trans (hb1.mono (by omega))
  have f1 := fun k => show row? (w1.drewN k) W.heap.size 0 33 = _ from (row?_below _ _ _ hb1 (show W.heap.size < w0.heap.size by omega)).trans hrow0
  obtain ⟨-, -, -, rp, -, -⟩ := (h0.keep hb1).cells hx hb
  have f2 := fun k => show row? (w1.drewN k) x.b 0 33 = _ from rp
  clear hb1 hB0 h0 rp hrow0 hrown
  go_upto_region 2 with fail
  go_quiet (fail)
  go_wp2_with fail
  go_ret
  exact ⟨rfl, below_drewN hB1 _⟩
end Go.Proofs.Ythdjhbiigmcecaa

/- Contracts: ref09.MayOp, MayHeader, Much. -/
namespace Go.Proofs.Ythdjhbiigmcecaa
open Go.RowKit

/-- a row's part -/
theorem row?_sub {w : World} {b off n : Nat} {l : Array Value} (h : row? w b off n = some l) (o k : Nat) (hk : o + k ≤ n) : row? w b (off + o) k = some (l.extract o (o + k)) := by
 obtain ⟨cs, t, fr, hg, hle, rfl⟩ := row?_some h
 unfold row?
 rw [hg]
 simp only [show off + o + k ≤ cs.size by omega, if_true, Option.some.injEq]
 rw [Array.extract_extract]
 congr 1
 omega
theorem stake_zero (a : UInt64) : ((a.toNat : Int) == 0) = decide (a = 0) := by
 have := stake_eq a 0
 simpa using this
theorem nil_len {α : Type} (l : List α) : ((l.length : Int) == 0) = decide (l = []) := by
 rw [Bool.eq_iff_iff]
 simp
/-- what the document says of operations -/
theorem opMay_doc (o : Op) : opMay o = (if o.kind = 1 then decide (o.validator = 0) && decide (o.evidence = []) && decide (1 ≤ o.stake.toNat) && decide (o.stake.toNat ≤ 4294967296)
  else if o.kind = 2 then (decide (o.key = zeroHash) && decide (o.stake = 0)) && decide (o.evidence = []) && mayMem o.validator
  else if o.kind = 3 then (decide (o.key = zeroHash) && decide (o.stake = 0)) && mayMem o.validator && decide (o.evidence.length = 2) && o.evidence.all voteMay else false) := by
 obtain ⟨k, key, st, v, ev⟩ := o
 unfold opMay bareO
 simp only
 by_cases e1 : k = 1
 ·subst e1
  simp only [if_pos, Op.mk.injEq, true_and]
  rw [Bool.eq_iff_iff]
  simp [and_assoc]
 ·simp only [if_neg e1]
  by_cases e2 : k = 2
  ·subst e2
   simp only [show ¬ (2 : Int) = 3 by decide, if_false, if_true, Op.mk.injEq, true_and]
   rw [Bool.eq_iff_iff]
   simp [and_assoc]
  ·simp only [if_neg e2]
   by_cases e3 : k = 3
   ·subst e3
    simp only [if_true, Op.mk.injEq, true_and]
    rw [Bool.eq_iff_iff]
    simp [and_assoc]
   ·simp only [if_neg e3, Bool.and_false]
end Go.Proofs.Ythdjhbiigmcecaa
