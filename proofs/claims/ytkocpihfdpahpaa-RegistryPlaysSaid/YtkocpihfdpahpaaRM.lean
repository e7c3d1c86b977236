/- Texts of this proof, one behind the other: RfL, RfN. -/
import Derived.Test.YtkocpihfdpahpaaRL
import Derived.Test.YtkocpihfdpahpaaRB
import Derived.Deep.CutRange
import Derived.Deep.CutBlock
import Derived.Deep.RegionHeld3
set_option linter.unusedVariables false
set_option linter.unusedSimpArgs false
/- For the document's Next: the register that is being made. -/
namespace Go.Proofs.Ytkocpihfdpahpaa
open Go.RowKit

set_option maxRecDepth 100000 in
theorem nm_com {W w' : World} {B X gm : Nat} {s0 s1 s2 s' : Sl} {g1 g2 gb' : Option Nat} {r : Reg} {l : List Int} (h : NM W B X gm s0 s1 s2 g1 g2 r) (e2 : OwnO w' B s'.v l gb') (e3 : Below B W w') (e5 : ∀ k, k < W.heap.size → some k ≠ g1 → w'.heap[k]? = W.heap[k]?) (e6 : gb' = g1 ∨ ∃ k, gb' = some k ∧ W.heap.size ≤ k) :
    w'.cell? ⟨X, 1, none⟩ = some s1.v ∧ w'.frozen? ⟨X, 1, none⟩ = false ∧ NM (w'.setCell ⟨X, 1, none⟩ s'.v) B X gm s0 s' s2 gb' g2 ⟨r.members, l, r.going, r.churn⟩ ∧ Below B W (w'.setCell ⟨X, 1, none⟩ s'.v) := by
  have hX := h.hX
  have hgl := h.lt.2
  have hz4 := e3.size
  have bX := e5 X hX (fun e => h.dX.2.1 e.symm)
  have cX := fun o => World.cell?_of_block (a := ⟨X, o, none⟩) bX
  have fX := fun o => World.frozen?_of_block (a := ⟨X, o, none⟩) bX
  have hc2 := (cX 1).trans h.c1
  have hset : ∀ k, k ≠ X → (w'.setCell ⟨X, 1, none⟩ s'.v).heap[k]? = w'.heap[k]? := fun k hk => Below.heap_setCell w' ⟨X, 1, none⟩ s'.v k hk
  have hsz := size_setCell w' ⟨X, 1, none⟩ s'.v
  have hoth : ∀ o, o ≠ 1 → (w'.setCell ⟨X, 1, none⟩ s'.v).cell? ⟨X, o, none⟩ = W.cell? ⟨X, o, none⟩ := fun o ho => by
    rw [World.cell?_setCell_other w' _ _ _ (by intro e; injection e; omega), cX]
  have hgm : ∀ g, gb' = some g → g ≠ X ∧ g ≠ gm ∧ g2 ≠ some g := fun g hg => by
    rcases e6 with e6 | ⟨k, e6, e7⟩
    · rw [e6] at hg
      exact ⟨fun e => h.dX.2.1 (by rw [hg, e]), fun e => h.dm.1 (by rw [hg, e]), h.d12 g hg⟩
    · rw [e6] at hg
      injection hg with hg
      refine ⟨by omega, by omega, fun e => ?_⟩
      have := (h.goi.lt g e).2
      omega
  refine ⟨hc2, (fX 1).trans (h.fz 1 (by omega)), ⟨(hoth 0 (by omega)).trans h.c0, cell_set_same (by rw [hc2]; rfl), (hoth 2 (by omega)).trans h.c2, (hoth 3 (by omega)).trans h.c3, fun j hj => by rw [World.frozen?_setCell, fX]; exact h.fz j hj, h.hB, by rw [hsz]; omega,
    ?_, h.gmb, ?_, ?_, ⟨h.dX.1, fun e => (hgm X e).1 rfl, h.dX.2.2⟩, ⟨fun e => (hgm gm e).2.1 rfl, h.dm.2⟩, fun g hg hg' => (hgm g hg).2.2 hg'⟩, e3.setCell h.hB _⟩
  · exact h.mem.keepB (by rw [hsz]; omega) fun g hg hlt => by
      rw [h.gmb] at hg
      injection hg with hg
      subst hg
      rw [hset _ h.dX.1]
      exact e5 _ hlt (fun e => h.dm.1 e.symm)
  · exact e2.keepB (by rw [hsz]; omega) fun g hg _ => hset g (hgm g hg).1
  · exact h.goi.keepB (by rw [hsz]; omega) fun g hg hlt => by
      rw [hset g (fun e => h.dX.2.2 (by rw [hg, e]))]
      exact e5 g hlt (fun e => h.d12 g e.symm hg)
set_option maxRecDepth 100000 in
theorem nm_goi {W w' : World} {B X gm : Nat} {s0 s1 s2 s' : Sl} {g1 g2 gb' : Option Nat} {r : Reg} {l : List Int} (h : NM W B X gm s0 s1 s2 g1 g2 r) (e2 : OwnO w' B s'.v l gb') (e3 : Below B W w') (e5 : ∀ k, k < W.heap.size → some k ≠ g2 → w'.heap[k]? = W.heap[k]?) (e6 : gb' = g2 ∨ ∃ k, gb' = some k ∧ W.heap.size ≤ k) :
    w'.cell? ⟨X, 2, none⟩ = some s2.v ∧ w'.frozen? ⟨X, 2, none⟩ = false ∧ NM (w'.setCell ⟨X, 2, none⟩ s'.v) B X gm s0 s1 s' g1 gb' ⟨r.members, r.coming, l, r.churn⟩ ∧ Below B W (w'.setCell ⟨X, 2, none⟩ s'.v) := by
  have hX := h.hX
  have hgl := h.lt.2
  have hz4 := e3.size
  have bX := e5 X hX (fun e => h.dX.2.2 e.symm)
  have cX := fun o => World.cell?_of_block (a := ⟨X, o, none⟩) bX
  have fX := fun o => World.frozen?_of_block (a := ⟨X, o, none⟩) bX
  have hc2 := (cX 2).trans h.c2
  have hset : ∀ k, k ≠ X → (w'.setCell ⟨X, 2, none⟩ s'.v).heap[k]? = w'.heap[k]? := fun k hk => Below.heap_setCell w' ⟨X, 2, none⟩ s'.v k hk
  have hsz := size_setCell w' ⟨X, 2, none⟩ s'.v
  have hoth : ∀ o, o ≠ 2 → (w'.setCell ⟨X, 2, none⟩ s'.v).cell? ⟨X, o, none⟩ = W.cell? ⟨X, o, none⟩ := fun o ho => by
    rw [World.cell?_setCell_other w' _ _ _ (by intro e; injection e; omega), cX]
  have hgm : ∀ g, gb' = some g → g ≠ X ∧ g ≠ gm ∧ g1 ≠ some g := fun g hg => by
    rcases e6 with e6 | ⟨k, e6, e7⟩
    · rw [e6] at hg
      exact ⟨fun e => h.dX.2.2 (by rw [hg, e]), fun e => h.dm.2 (by rw [hg, e]), fun e => h.d12 g e hg⟩
    · rw [e6] at hg
      injection hg with hg
      refine ⟨by omega, by omega, fun e => ?_⟩
      have := (h.com.lt g e).2
      omega
  refine ⟨hc2, (fX 2).trans (h.fz 2 (by omega)), ⟨(hoth 0 (by omega)).trans h.c0, (hoth 1 (by omega)).trans h.c1, cell_set_same (by rw [hc2]; rfl), (hoth 3 (by omega)).trans h.c3, fun j hj => by rw [World.frozen?_setCell, fX]; exact h.fz j hj, h.hB, by rw [hsz]; omega,
    ?_, h.gmb, ?_, ?_, ⟨h.dX.1, h.dX.2.1, fun e => (hgm X e).1 rfl⟩, ⟨h.dm.1, fun e => (hgm gm e).2.1 rfl⟩, fun g hg hg' => (hgm g hg').2.2 hg⟩, e3.setCell h.hB _⟩
  · exact h.mem.keepB (by rw [hsz]; omega) fun g hg hlt => by
      rw [h.gmb] at hg
      injection hg with hg
      subst hg
      rw [hset _ h.dX.1]
      exact e5 _ hlt (fun e => h.dm.2 e.symm)
  · exact h.com.keepB (by rw [hsz]; omega) fun g hg hlt => by
      rw [hset g (fun e => h.dX.2.1 (by rw [hg, e]))]
      exact e5 g hlt (fun e => h.d12 g hg e.symm)
  · exact e2.keepB (by rw [hsz]; omega) fun g hg _ => hset g (hgm g hg).1
theorem nm_copy {W : World} {B X gm : Nat} {s' : Sl} {ms : List Mbr} {ch : UInt64} (hrow : row? W X 0 4 = some (regA ⟨s', ⟨none, 0, 0⟩, ⟨none, 0, 0⟩, ch⟩)) (ht : there W X 0 4) (hB : B ≤ X) (ho : OwnC W B 35 s'.v ms.length (flatC mbrA ms)) (hgm : s'.v.ownBlock = some gm) (hne : gm ≠ X) :
    NM W B X gm s' ⟨none, 0, 0⟩ ⟨none, 0, 0⟩ none none ⟨ms, [], [], ch⟩ := by
  obtain ⟨⟨x0, x1, x2, x3⟩, y0, y1, y2, y3⟩ := slot_facts hrow ht (Below.refl _ _) (lt_of_row hrow)
  refine ⟨x0, x1, x2, x3, fun j hj => ?_, hB, lt_of_row hrow, ho, hgm, OwnO.nil _ _ _, OwnO.nil _ _ _, ⟨hne, by simp, by simp⟩, ⟨by simp, by simp⟩, fun g e => by simp at e⟩
  match j, hj with
  | 0, _ => exact y0
  | 1, _ => exact y1
  | 2, _ => exact y2
  | 3, _ => exact y3
def LitI (n : Int) (x : Value) (W : World) : Prop := ∃ b, x = .slice (some ⟨b, 0, none⟩) 1 1 ∧ ∃ (t : TypeId) (fr : Nat × Nat), W.heap[b]? = some (.cells #[i64V n] t fr)
theorem LitI.keep {n : Int} {x : Value} {W W' : World} (h : LitI n x W) (hb : Below W.heap.size W W') : LitI n x W' := by
  obtain ⟨b, h1, t, fr, h2⟩ := h
  refine ⟨b, h1, t, fr, ?_⟩
  have hlt : b < W.heap.size := by
    rcases Nat.lt_or_ge b W.heap.size with hlt | hge
    · exact hlt
    · rw [Array.getElem?_eq_none hge] at h2; cases h2
  rw [hb.block b hlt]
  exact h2
/-- what an append to a line of one's own has brought -/
def AppI (W0 : World) (B : Nat) (g : Option Nat) (l : List Int) (x : Value) (W : World) : Prop :=
  W0.heap.size ≤ W.heap.size ∧ ∃ (s' : Sl) (gb' : Option Nat), x = s'.v ∧ OwnO W B s'.v l gb' ∧ (gb' = g ∨ ∃ k, gb' = some k ∧ W0.heap.size ≤ k) ∧ ∀ k, k < W0.heap.size → some k ≠ g → W.heap[k]? = W0.heap[k]?
theorem AppI.keep {W0 : World} {B : Nat} {g : Option Nat} {l : List Int} {x : Value} {W W' : World} (h : AppI W0 B g l x W) (hb : Below W.heap.size W W') : AppI W0 B g l x W' := by
  obtain ⟨hs, s', gb', h1, h2, h3, h4⟩ := h
  exact ⟨Nat.le_trans hs hb.size, s', gb', h1, h2.keep hb, h3, fun k hk hg => (hb.block k (by omega)).trans (h4 k hk hg)⟩
theorem app_line {W0 W : World} {B : Nat} {s1 : Sl} {l : List Int} {gb : Option Nat} (hfu : Below W0.heap.size W0 W) (hown : OwnO W0 B s1.v l gb) (hB : B ≤ W0.heap.size) (hl : l.length ≤ 1000000) (b c : Nat) (n : Int) {e' : TypeId} {fr : Nat × Nat} (hb : W.heap[b]? = some (.cells #[i64V n] e' fr)) :
    ∃ (s' : Sl) (w' : World), (appI #[s1.v, .slice (some ⟨b, 0, none⟩) 1 c]).run Try.prog W = .ok s'.v w' ∧ AppI W0 B gb (l ++ [n]) s'.v w' ∧ Below B W w' := by
  obtain ⟨i0, hi, hy0, hy1, hy2⟩ := info_parts info_int
  have hs := hfu.size
  have ho := hown.keep hfu
  obtain ⟨s', w', gb', z1, z2, z3, z4⟩ := run_append_O (P := Try.prog) W 58 3 i0 _ Try.underlying58 hi hy0 hy1 hy2 (by simp [Value.cells]) B s1.v l gb ho b c n hb hl (by omega)
  have hs2 := z3.size
  refine ⟨s', w', z1, ⟨by omega, s', gb', rfl, z2, ?_, fun k hk hg => ?_⟩, (Below.refl _ _).grown z3 (by omega) fun k hk => (ho.lt k hk).1⟩
  · rcases z4 with z4 | z4
    · exact .inl z4
    · exact .inr ⟨_, z4, hs⟩
  · exact (z3.block k (by omega) hg).trans (hfu.block k hk)
theorem drop_take_in {α : Type} (l : List α) (i k : Nat) (h : i ≤ k) : (l.take i).drop k = [] := by
  rw [List.drop_eq_nil_iff, List.length_take]
  omega
theorem drop_take_out {α : Type} (l : List α) (i k : Nat) (h : k ≤ i) (hi : i < l.length) : (l.take (i + 1)).drop k = (l.take i).drop k ++ [l[i]] := by
  rw [List.take_succ_eq_append_getElem hi, List.drop_append_of_le_length (by rw [List.length_take]; omega)]
end Go.Proofs.Ytkocpihfdpahpaa

/- Contract of the document's layer 11: Next. -/
namespace Go.Proofs.Ytkocpihfdpahpaa
open Go.RowKit

theorem run_bldRc (s : Sl) (c : UInt64) (W : World) : (bldR #[(3, .int .u64 (c.toNat : Int)), (0, s.v)]).run Try.prog W = .ok (.agg (regA ⟨s, ⟨none, 0, 0⟩, ⟨none, 0, 0⟩, c⟩)) W := by
  unfold bldR
  dsimp only [Sl.v]
  go_simp
  rfl
/-- elements of a slice as a source of append -/
theorem rows_src {α : Type} (A : α → Array Value) {k : Nat} (hk : ∀ x, (A x).size = k) (h0 : 0 < k) (h1 : ∀ x, ∀ u ∈ (A x).toList, u.oneCell' = true) {P : Program} {w : World} {s : Sl} {l : List α} (h : SlR k (fun cs x => cs = A x) w s l) {t e : TypeId} (ht : P.underlying t = some (.slice e)) :
    Src P k t s.v l.length (flatC A l) w := by
  by_cases hl : l = []
  · subst hl
    obtain ⟨a, n, c⟩ := s
    obtain rfl : n = 0 := h.1
    refine ⟨.inl ⟨_, ht⟩, fun _ => rfl, ?_, ?_, by simp [flatC], by simp [flatC]⟩ <;> cases a <;> simp [Builtin.firstCells, loadCells, loadCellsFrom, flatC]
  · obtain ⟨b, off, ha, hc⟩ := h.2.2 hl
    obtain ⟨a, n, c⟩ := s
    simp only at ha
    subst ha
    obtain rfl : n = l.length := h.1
    exact Src.ofSlice w ht ⟨b, off, none⟩ l.length c (flatC A l) (by rw [flatC_length A hk]) (fun j u hu => by
        have hj : j < l.length * k := by
          rw [← flatC_length A hk]
          exact lt_of_get hu
        have hadd : (⟨b, off, none⟩ : Addr).add j = ⟨b, off + j, none⟩ := by unfold Addr.add; split <;> simp_all
        have hq : j / k < l.length := (Nat.div_lt_iff_lt_mul h0).2 hj
        have hm : j % k < k := Nat.mod_lt _ h0
        have hjj : j = j / k * k + j % k := by rw [Nat.mul_comm]; exact (Nat.div_add_mod j k).symm
        obtain ⟨cs, hr, rfl⟩ := hc (j / k) hq
        rw [hadd]
        rw [hjj] at hu ⊢
        rw [flatC_get A hk l _ _ hq hm] at hu
        rw [← Nat.add_assoc, cell_of_row? hr (j % k) hm]
        exact hu) (flatC_onecell A h1 l)
/-- a copy of members -/
theorem app_copy {W : World} {s : Sl} {ms : List Mbr} (h : MbrsR W s ms) (h0 : 0 < ms.length) (hl : ms.length ≤ 1000000) :
    ∃ (s' : Sl) (w' : World) (gm : Nat), (appM #[.slice none 0 0, s.v]).run Try.prog W = .ok s'.v w' ∧ OwnC w' W.heap.size 35 s'.v ms.length (flatC mbrA ms) ∧ s'.v.ownBlock = some gm ∧ Below W.heap.size W w' := by
  obtain ⟨i0, hi, hy0, hy1, hy2⟩ := info_parts info_mbrs
  obtain ⟨v', w', e1, e2, e3, e4⟩ := run_append_ownC (P := Try.prog) W W.heap.size 101 101 101 123 i0 _ 35 56 Try.underlying101 hi hy0 hy1 hy2 (by simp [Value.cells]) (.slice none 0 0) 0 [] (OwnC.nil _ _ _) s.v ms.length (flatC mbrA ms) (rows_src mbrA mbrA_size (by omega) mbrA_one h Try.underlying101) (by simp only [maxLen]; omega) (by omega) (Nat.le_refl _)
  rw [Nat.zero_add, List.nil_append] at e2
  obtain ⟨s', rfl⟩ := e2.slice
  have hb : Below W.heap.size W w' := (Below.refl _ _).grown e3 (Nat.le_refl _) (fun k hk => by simp [Value.ownBlock] at hk)
  rcases e2.2 with ⟨hv, hn⟩ | ⟨g, cap, hv, _⟩
  · omega
  · exact ⟨s', w', g, e1, e2, by rw [hv]; rfl, hb⟩
theorem mark_status (ms : List Mbr) (i k : Nat) : ((markAt ms i).getD k zeroMbr).status = (ms.getD k zeroMbr).status := by
  unfold markAt
  rw [List.getD_eq_getElem?_getD, List.getD_eq_getElem?_getD, modify_get]
  cases ms[k]? with
  | none => rfl
  | some m =>
    simp only [Option.map_some, Option.getD_some]
    split <;> rfl
theorem oth_mark (ms : List Mbr) (i : Nat) (j : Int) : ∀ k, oth (markAt ms i) j k = oth ms j k
  | 0 => rfl
  | k + 1 => by simp only [oth, mark_status, oth_mark ms i j k]
theorem mark_length (ms : List Mbr) (i : Nat) : (markAt ms i).length = ms.length := List.length_modify ..
theorem leavesB_mark (r : Reg) (i : Nat) (v : Int) : leavesB ⟨markAt r.members i, r.coming, r.going, r.churn⟩ v = leavesB r v := by
  simp only [leavesB, mark_status, oth_mark, mark_length]
theorem flat_same (ms : List Mbr) (i : Nat) (hi : i < ms.length) : flatC mbrA ms = (flatC mbrA ms).set (i * 35 + 34) (.bool ms[i].marked) := by
  have h := flatC_get mbrA mbrA_size ms i 34 hi (by omega)
  rw [mbrA_mark] at h
  refine List.ext_getElem? fun j => ?_
  rw [List.getElem?_set]
  split
  · rename_i e
    subst e
    rw [h, if_pos (lt_of_get h)]
  · rfl
/-- a pointer, and nothing written among what stood -/
def PtW (W0 : World) (v x : Value) (W : World) : Prop := x = v ∧ Below W0.heap.size W0 W
theorem PtW.keep {W0 : World} {v x : Value} {W W' : World} (h : PtW W0 v x W) (hb : Below W.heap.size W W') : PtW W0 v x W' := ⟨h.1, h.2.trans (hb.mono h.2.size)⟩
theorem rnext_res : Try.f59.results = #[.cell 6 103, .tmp 7] := by kernel_rfl
attribute [local go_sem ↓] fold_bsM fold_appM fold_bldM fold_bldR fold_bsI fold_appI
attribute [local go_sem] regA_size
set_option maxRecDepth 100000 in
set_option maxHeartbeats 12800000 in
theorem rnext_c {w : World} {gr : GReg} {r : Reg} {gh : GHeader} {h : Hdr} (parent : UInt64) (hr : RegR w gr r) (hh : HdrR w gh h) (hm : r.members.length ≤ 1000000) (hc : r.coming.length ≤ 1000000) (hg : r.going.length ≤ 1000000) (hf : h.ops.length ≤ 1000000) :
    Calls Try.prog 59 #[.agg (regA gr), .agg (headerA gh), .int .u64 (parent.toNat : Int)] w (NextPost w (regNext r h parent)) := by
  have hB0 : Below w.heap.size w (((w.alloc (.cells (regA gr) 103)).alloc (.cells (headerA gh) 49)).alloc (.cells (regA zeroG4) 103)) := by (repeat' (first | (with_reducible exact Below.refl _ _) | (with_reducible assumption) | (with_reducible refine bel_trans (by assumption) ?_ ?_) | (with_reducible refine bel_grown (by assumption) ?_ ?_ ?_) | (with_reducible refine Below.alloc ?_ ?_ _) | (with_reducible refine Below.drew ?_) | (with_reducible refine below_drewN ?_ _) | (with_reducible refine Below.setCell ?_ ?_ _) | (with_reducible refine below_put ?_ ?_ _ _) | (with_reducible exact Nat.le_refl _) | omega | (with_reducible refine Nat.le_trans ?_ (Below.size (by assumption))) | (with_reducible refine Nat.le_trans ?_ (World.grownBy.size (by assumption))) | (simp only [World.size_alloc, World.size_setCell, World.size_drew, size_drewN]; omega) | (simp only [World.size_alloc, World.size_setCell, World.size_drew, size_drewN, size_put]; omega) | (intro k hk; simp [Value.ownBlock] at hk; done) | (intro k hk; simp [Value.ownBlock] at hk; omega) | (simp [size_drewN] at *; omega)))
  have hz0 : (((w.alloc (.cells (regA gr) 103)).alloc (.cells (headerA gh) 49)).alloc (.cells (regA zeroG4) 103)).heap.size = w.heap.size + 3 := by simp
  have hrow1 : row? (((w.alloc (.cells (regA gr) 103)).alloc (.cells (headerA gh) 49)).alloc (.cells (regA zeroG4) 103)) w.heap.size 0 4 = some (regA gr) := by
    rw [row?_old _ _ _ _ _ (by simp; omega), row?_old _ _ _ _ _ (by simp), row?_new]; exact if_pos (by simp [regA])
  have hrow2 : row? (((w.alloc (.cells (regA gr) 103)).alloc (.cells (headerA gh) 49)).alloc (.cells (regA zeroG4) 103)) (w.heap.size + 1) 0 34 = some (headerA gh) := by
    rw [row?_old _ _ _ _ _ (by simp), row?_new_at _ _ _ _ _ _ (by simp)]; simp
  have hth3 : there (((w.alloc (.cells (regA gr) 103)).alloc (.cells (headerA gh) 49)).alloc (.cells (regA zeroG4) 103)) (w.heap.size + 1 + 1) 0 4 :=
    there_new_at _ _ _ _ _ _ (by simp) (by simp [regA])
  have hRB := (RBox.keep ⟨hrow1, hr.keep hB0⟩ (Below.refl _ _) : RBox _ w.heap.size gr r)
  have hzr := zero_regA
  have HD := Lib.hid (show nextIn r h parent = ((regMay r && hdrMay h) && decide (parent.toNat < h.epoch.toNat)) from rfl)
  have HNX := Lib.hid (show regNext r h parent = if nextIn r h parent then regOps (turned r ((h.epoch.toNat - parent.toNat) * r.churn.toNat)) h.ops else (zeroReg, 2) from rfl)
  have hep : gh.epoch = h.epoch := hh.2.1
  have hrI := Lib.hid hr
  have hhI := Lib.hid hh
  clear hr hh hrow1
  go_enter Try.func59, Try.ntmps59
  go_upto_region 1 with fail
  generalize ((w.alloc (.cells (regA gr) 103)).alloc (.cells (headerA gh) 49)).alloc (.cells (regA zeroG4) 103) = w1 at *
  have hk0 : w.heap.size < w1.heap.size := by omega
  obtain ⟨b2, hb2⟩ : ∃ b2, b2 = w.heap.size + 1 + 1 := ⟨_, rfl⟩
  obtain ⟨b1, hb1⟩ : ∃ b1, b1 = w.heap.size + 1 := ⟨_, rfl⟩
  rw [← hb2] at hth3 ⊢
  rw [← hb1] at hrow2 ⊢
  have hk1 : b1 < w1.heap.size := by omega
  have hk2 : b2 < w1.heap.size := by omega
  have hn1 : w.heap.size < b1 := by omega
  have hn12 : b1 < b2 := by omega
  clear hb1 hb2 hz0
  have HM := rMay_c hRB.reg hm hc hg
  rw [refMay_eq] at HM
  have hrowA := hRB.row
  obtain ⟨c32, _⟩ := hdr_parts hrow2
  rw [hep] at c32
  have HZ := Lib.hid (show nextIn r h parent = false → regNext r h parent = (zeroReg, 2) from fun e => by rw [HNX.out, e]; rfl)
  have hb00 := fun W => run_bldR0 W
  obtain ⟨rm, hrm⟩ : ∃ x, x = regMay r := ⟨_, rfl⟩
  rw [← hrm] at HM
  go_wp2_with fail
  refine HM.mono ?_
  clear HM
  rintro e w2 ⟨rfl, hb⟩
  have hz2 := hb.size
  have hB2 := Lib.hid (hB0.trans (hb.mono (Nat.le_of_lt hk0)))
  have hRB2 := Lib.hid (hRB.keep hb)
  have hrow22 := (row?_below _ _ _ hb hk1).trans hrow2
  have hth2 := there_below hb hk2 hth3
  have c322 := (hb.cell (p := ⟨b1, 32, none⟩) hk1).trans c32
  have hk02 : w.heap.size < w2.heap.size := by omega
  have hk12 : b1 < w2.heap.size := by omega
  have hk22 : b2 < w2.heap.size := by omega
  clear hb hRB hrow2 hth3 hB0 hk0 hk1 hk2 c32 hrowA hz2
  cases rm
  · have Hr := Lib.hid (HZ.out (by rw [HD.out, ← hrm]; rfl))
    have hst := store_reg w2 b2 0 (regA zeroG4) rfl (onesReg _) hth2
    have hput : row? (putRow w2 b2 0 (regA zeroG4)) b2 0 4 = some (regA zeroG4) := row?_put_same _ _ _ _ _ (by rfl) (by omega) hth2
    have hpb : Below w.heap.size w (putRow w2 b2 0 (regA zeroG4)) := below_put hB2.out (by omega) _ _
    clear hrm HD HNX HZ hep
    go_wp2_with (with_reducible refine ret_row2 Try.isAgg103 Try.sizeOf103 rnext_res (x := .pointer (some ⟨b2, 0, none⟩)) (y := .int .i64 2) (b2) 0 ?rrhx (Eq.refl _) ?rrhy ?rrh ?rrhd ?rrhR; (case rrhx => simp only [Array.getD_eq_getD_getElem?, List.getElem?_toArray, List.getElem?_cons_succ, List.getElem?_cons_zero, Option.getD_some]); (case rrhy => simp only [Array.getD_eq_getD_getElem?, List.getElem?_toArray, List.getElem?_cons_succ, List.getElem?_cons_zero, Option.getD_some]); (case rrhd => exact rfl); (case rrh => go_simp); (case rrhR => ((exact next_done (g' := zeroG4) (by rw [Hr.out]) hput (by rw [Hr.out]; exact RegAt.zero _ _) hpb))))
  have hP := (regMay_iff r).1 hrm.symm
  have HH := tmayHeader_c gh h w2 (hhI.out.keep' hB2.out) hf
  obtain ⟨hmh, hhm⟩ : ∃ x, x = hdrMay h := ⟨_, rfl⟩
  rw [← hhm] at HH
  replace hrm := Lib.hid hrm
  replace hP := Lib.hid hP
  go_wp2_with fail
  refine HH.mono ?_
  clear HH
  rintro e w3 ⟨rfl, hb⟩
  have hz3 := hb.size
  have hB3 := Lib.hid (hB2.out.trans (hb.mono (Nat.le_of_lt hk02)))
  have hRB3 := Lib.hid (hRB2.out.keep hb)
  have hrow23 := (row?_below _ _ _ hb hk12).trans hrow22
  have hth3 := there_below hb hk22 hth2
  have c323 := (hb.cell (p := ⟨b1, 32, none⟩) hk12).trans c322
  have hk03 : w.heap.size < w3.heap.size := by omega
  have hk13 : b1 < w3.heap.size := by omega
  have hk23 : b2 < w3.heap.size := by omega
  clear hb hRB2 hrow22 hth2 hB2 hk02 hk12 hk22 c322 hz3
  have hst := store_reg w3 b2 0 (regA zeroG4) rfl (onesReg _) hth3
  have hput : row? (putRow w3 b2 0 (regA zeroG4)) b2 0 4 = some (regA zeroG4) := row?_put_same _ _ _ _ _ (by rfl) (by omega) hth3
  have hpb : Below w.heap.size w (putRow w3 b2 0 (regA zeroG4)) := below_put hB3.out (by omega) _ _
  cases hmh
  · have Hr := Lib.hid (HZ.out (by rw [HD.out, ← hhm, Bool.and_false]; rfl))
    clear hhm HD HNX HZ hep
    go_wp2_with (with_reducible refine ret_row2 Try.isAgg103 Try.sizeOf103 rnext_res (x := .pointer (some ⟨b2, 0, none⟩)) (y := .int .i64 2) (b2) 0 ?rrhx (Eq.refl _) ?rrhy ?rrh ?rrhd ?rrhR; (case rrhx => simp only [Array.getD_eq_getD_getElem?, List.getElem?_toArray, List.getElem?_cons_succ, List.getElem?_cons_zero, Option.getD_some]); (case rrhy => simp only [Array.getD_eq_getD_getElem?, List.getElem?_toArray, List.getElem?_cons_succ, List.getElem?_cons_zero, Option.getD_some]); (case rrhd => exact rfl); (case rrh => go_simp); (case rrhR => ((exact next_done (g' := zeroG4) (by rw [Hr.out]) hput (by rw [Hr.out]; exact RegAt.zero _ _) hpb))))
  have hpe := Lib.hid (show (decide (parent.toNat < h.epoch.toNat) = true → nextIn r h parent = true) ∧ (decide (parent.toNat < h.epoch.toNat) = false → nextIn r h parent = false) from ⟨fun e => by rw [HD.out, ← hrm.out, ← hhm, e]; rfl, fun e => by rw [HD.out, ← hrm.out, ← hhm, e]; rfl⟩)
  obtain ⟨pn, hpn⟩ : ∃ pn, pn = parent.toNat := ⟨_, rfl⟩
  obtain ⟨en, hen⟩ : ∃ en, en = h.epoch.toNat := ⟨_, rfl⟩
  have hen62 : en ≤ 4611686018427387904 := by
    rw [hen]
    have := hhm.symm
    simp only [hdrMay, Bool.and_eq_true, decide_eq_true_eq] at this
    exact this.1.1.2
  rw [← hpn]
  rw [← hen] at c323
  have Hops := Lib.hid (hdrMay_ops hhm.symm)
  rw [← hpn, ← hen] at hpe HNX
  replace hpn := Lib.hid hpn
  replace hen := Lib.hid hen
  replace hen62 := Lib.hid hen62
  clear hhm HD hep
  by_cases hlt : pn < en
  rotate_left
  · have Hr := Lib.hid (HZ.out (hpe.out.2 (by simpa using hlt)))
    have hge : (en : Int) ≤ (pn : Int) := by omega
    clear hlt HNX HZ hpe
    go_wp2_with (with_reducible refine ret_row2 Try.isAgg103 Try.sizeOf103 rnext_res (x := .pointer (some ⟨b2, 0, none⟩)) (y := .int .i64 2) (b2) 0 ?rrhx (Eq.refl _) ?rrhy ?rrh ?rrhd ?rrhR; (case rrhx => simp only [Array.getD_eq_getD_getElem?, List.getElem?_toArray, List.getElem?_cons_succ, List.getElem?_cons_zero, Option.getD_some]); (case rrhy => simp only [Array.getD_eq_getD_getElem?, List.getElem?_toArray, List.getElem?_cons_succ, List.getElem?_cons_zero, Option.getD_some]); (case rrhd => exact rfl); (case rrh => go_simp); (case rrhR => ((exact next_done (g' := zeroG4) (by rw [Hr.out]) hput (by rw [Hr.out]; exact RegAt.zero _ _) hpb))))
  have HR := Lib.hid (show regNext r h parent = regOps (turned r ((en - pn) * r.churn.toNat)) h.ops by rw [HNX.out, hpe.out.1 (by simpa using hlt)]; rfl)
  have hge : ¬ (en : Int) ≤ (pn : Int) := by omega
  clear HNX HZ hpe hput hpb hst
  have hP1 := hP.out
  obtain ⟨c0, c1, c2, c3, _⟩ := hRB3.out.cells
  rw [hRB3.out.reg.2.2.2] at c3
  obtain ⟨sA, wA, gA, eA, oA, mA, bA⟩ := app_copy (W := w3.drew) (RegR.keep hRB3.out.reg ((Below.refl _ w3).drew)).1 (by have := hP1.len; omega) hm
  obtain ⟨wB, hwB⟩ : ∃ x, x = (w3.alloc (.cells (regA zeroG4) 103)).drew := ⟨_, rfl⟩
  have hbB : Below w3.heap.size w3 wB := by rw [hwB]; exact (bel_a w3 _).drew
  have hzB : wB.heap.size = w3.heap.size + 1 := by rw [hwB]; simp
  have htB : there wB w3.heap.size 0 4 := by rw [hwB]; exact there_new w3 _ _ 0 4 (by simp [regA])
  obtain ⟨sC, wC, gC, eC, oC, mC, bC⟩ := app_copy (W := wB) (RegR.keep hRB3.out.reg hbB).1 (by have := hP1.len; omega) hm
  obtain ⟨a1, a2, a3⟩ := sA
  obtain ⟨d1, d2, d3⟩ := sC
  have hbrA := fun W => run_bldRc ⟨a1, a2, a3⟩ r.churn W
  have hbrC := fun W => run_bldRc ⟨d1, d2, d3⟩ r.churn W
  dsimp only [Sl.v] at eA eC hbrA hbrC
  have hln := hRB3.out.reg.1.1
  have S0 : w3.drew.cell? ⟨w.heap.size, 3, none⟩ = some (.int .u64 (r.churn.toNat : Int)) ∧ w3.drew.cell? ⟨w.heap.size, 0, none⟩ = some gr.members.v := ⟨c3, c0⟩
  have c2b := fun {W W' : World} (hb : Below w3.heap.size W W') (h : W.cell? ⟨w.heap.size, 3, none⟩ = some (.int .u64 (r.churn.toNat : Int)) ∧ W.cell? ⟨w.heap.size, 0, none⟩ = some gr.members.v) => (show W'.cell? ⟨w.heap.size, 3, none⟩ = some (.int .u64 (r.churn.toNat : Int)) ∧ W'.cell? ⟨w.heap.size, 0, none⟩ = some gr.members.v from ⟨(hb.cell (p := ⟨w.heap.size, 3, none⟩) hk03).trans h.1, (hb.cell (p := ⟨w.heap.size, 0, none⟩) hk03).trans h.2⟩)
  have SB := c2b (show Below w3.heap.size w3.drew wB from ⟨hbB.os, hbB.tape, hbB.output, hbB.size, hbB.block⟩) S0
  have SA := c2b bA S0
  have SC := c2b (bC.mono (by omega)) SB
  have hA3 : w3.heap.size ≤ wA.heap.size := bA.size
  have SA1 := c2b ((bel_a wA (.cells (regA zeroG4) 103)).mono hA3) SA
  have tA1 := there_new wA (regA zeroG4) 103 0 4 (by simp [regA])
  have hstA := store_reg (wA.alloc (.cells (regA zeroG4) 103)) wA.heap.size 0 (regA ⟨⟨a1, a2, a3⟩, ⟨none, 0, 0⟩, ⟨none, 0, 0⟩, r.churn⟩) rfl (onesReg _) tA1
  have htC := there_below bC (show w3.heap.size < wB.heap.size by omega) htB
  have hstC := store_reg wC w3.heap.size 0 (regA ⟨⟨d1, d2, d3⟩, ⟨none, 0, 0⟩, ⟨none, 0, 0⟩, r.churn⟩) rfl (onesReg _) htC
  have SA2 := c2b (below_put ((bel_a wA (.cells (regA zeroG4) 103)).mono hA3) hA3 0 (regA ⟨⟨a1, a2, a3⟩, ⟨none, 0, 0⟩, ⟨none, 0, 0⟩, r.churn⟩)) SA
  have SC2 := c2b (below_put ((Below.refl wC.heap.size wC).mono (show w3.heap.size ≤ wC.heap.size by have := bC.size; omega)) (Nat.le_refl _) 0 (regA ⟨⟨d1, d2, d3⟩, ⟨none, 0, 0⟩, ⟨none, 0, 0⟩, r.churn⟩)) SC
  have hwB' := hwB.symm
  clear hwB c2b
  replace hzB := Lib.hid hzB
  replace hln := Lib.hid hln
  go_upto_region 3 with fail
  go_cut [8] from 9 (fun u W => ∃ (X gm : Nat) (s' : Sl), u = .pointer (some ⟨X, 0, none⟩) ∧ Hid (NM W w3.heap.size X gm s' ⟨none, 0, 0⟩ ⟨none, 0, 0⟩ none none ⟨r.members, [], [], r.churn⟩) ∧ Hid (Below w3.heap.size w3 W))
  case first =>
    as_aux_lemma =>
      go_region_held3 (fun W => W.cell? ⟨w.heap.size, 3, none⟩ = some (.int .u64 (r.churn.toNat : Int)) ∧ W.cell? ⟨w.heap.size, 0, none⟩ = some gr.members.v)
        (first | go_keep | (with_reducible exact S0) | (with_reducible exact SA) | (with_reducible exact SB) | (rw [hwB']; with_reducible exact SB) | (with_reducible exact SC) | (with_reducible exact SA1) | (with_reducible exact SA2) | (with_reducible exact SC2)) (fail)
      · obtain ⟨w9, hw9⟩ : ∃ x, x = putRow (wA.alloc (.cells (regA zeroG4) 103)) wA.heap.size 0 (regA ⟨⟨a1, a2, a3⟩, ⟨none, 0, 0⟩, ⟨none, 0, 0⟩, r.churn⟩) := ⟨_, rfl⟩
        have hgA := (oA.lt gA mA).2
        have hz9 : w9.heap.size = wA.heap.size + 1 := by rw [hw9, size_put]; simp
        have hNM : NM w9 w3.heap.size wA.heap.size gA ⟨a1, a2, a3⟩ ⟨none, 0, 0⟩ ⟨none, 0, 0⟩ none none ⟨r.members, [], [], r.churn⟩ := by
          refine nm_copy ?_ ?_ hA3 ?_ mA (by omega)
          · rw [hw9]
            exact row?_put_same _ _ _ _ _ (by rfl) (by omega) tA1
          · rw [hw9]
            exact there_put _ _ _ _ _ _ _ tA1
          · refine OwnC.keepB (oA.keep (bel_a wA (.cells (regA zeroG4) 103))) (by rw [hz9]; simp) fun g hg _ => ?_
            rw [hw9]
            have := (oA.lt g hg).2
            exact put_far _ _ _ _ g (by omega)
        have hb9 : Below w3.heap.size w3 w9 := by
          rw [hw9]
          exact below_put ((undrew bA).trans ((bel_a wA _).mono hA3)) hA3 _ _
        rw [← hw9]
        clear hw9 hz9 hstA tA1 SA SA1 SA2 SB SC SC2 hstC htC
        obtain ⟨X, hX⟩ : ∃ x, x = wA.heap.size := ⟨_, rfl⟩
        rw [← hX] at hNM ⊢
        clear hX
        replace hNM := Lib.hid hNM
        replace hb9 := Lib.hid hb9
        go_wp2_with fail
        go_meet
        exact ⟨X, gA, ⟨a1, a2, a3⟩, rfl, hNM, hb9⟩
      · obtain ⟨w9, hw9⟩ : ∃ x, x = putRow wC w3.heap.size 0 (regA ⟨⟨d1, d2, d3⟩, ⟨none, 0, 0⟩, ⟨none, 0, 0⟩, r.churn⟩) := ⟨_, rfl⟩
        have hzB' := hzB.out
        have hgC := oC.lt gC mC
        have hNM : NM w9 w3.heap.size w3.heap.size gC ⟨d1, d2, d3⟩ ⟨none, 0, 0⟩ ⟨none, 0, 0⟩ none none ⟨r.members, [], [], r.churn⟩ := by
          refine nm_copy ?_ ?_ (Nat.le_refl _) ?_ mC (by omega)
          · rw [hw9]
            exact row?_put_same _ _ _ _ _ (by rfl) (by omega) htC
          · rw [hw9]
            exact there_put _ _ _ _ _ _ _ htC
          · refine OwnC.keepB (oC.more (by omega)) (by rw [hw9, size_put]; exact Nat.le_refl _) fun g hg _ => ?_
            rw [hw9]
            have := (oC.lt g hg).1
            exact put_far _ _ _ _ g (by omega)
        have hb9 : Below w3.heap.size w3 w9 := by
          rw [hw9]
          exact below_put (hbB.trans (bC.mono (by omega))) (Nat.le_refl _) _ _
        rw [← hw9]
        clear hw9 hstA tA1 SA SA1 SA2 SB SC SC2 hstC htC hzB'
        obtain ⟨X, hX⟩ : ∃ x, x = w3.heap.size := ⟨_, rfl⟩
        have hNM' : NM w9 w3.heap.size X gC ⟨d1, d2, d3⟩ ⟨none, 0, 0⟩ ⟨none, 0, 0⟩ none none ⟨r.members, [], [], r.churn⟩ := by rw [hX]; exact hNM
        rw [← hX]
        clear hX hNM
        replace hNM' := Lib.hid hNM'
        replace hb9 := Lib.hid hb9
        go_wp2_with fail
        go_meet
        exact ⟨X, gC, ⟨d1, d2, d3⟩, rfl, hNM', hb9⟩
  case rest =>
    obtain ⟨X, gm, ⟨ta, tn, tc⟩, rfl, hNM, hb35⟩ := hcut
    rename World => w5
    have hB5 := Lib.hid (hB3.out.trans (hb35.out.mono (Nat.le_of_lt hk03)))
    have hRB5 := Lib.hid (hRB3.out.keep hb35.out)
    have hrow5 := hRB5.out.row
    have hth5 := Lib.hid (there_below hb35.out hk23 hth3)
    have c335 := Lib.hid ((hb35.out.cell (p := ⟨b1, 33, none⟩) hk13).trans (hdr_parts hrow23).2)
    have c325 := (hb35.out.cell (p := ⟨b1, 32, none⟩) hk13).trans c323
    have hX3 := hNM.out.hB
    have hbase := Lib.hid (show w3.heap.size ≤ w5.heap.size from hb35.out.size)
    have hk05 : w.heap.size < w5.heap.size := by have := hb35.out.size; omega
    have hk15 : b1 < w5.heap.size := by have := hb35.out.size; omega
    obtain ⟨c05, c15, c25, -, -⟩ := hRB5.out.cells
    obtain ⟨B3, hB3e⟩ : ∃ x, x = w3.heap.size := ⟨_, rfl⟩
    rw [← hB3e] at hNM hX3 hk03 hk13 hk23
    clear S0 SA SB SC SA1 SA2 SC2 hstA hstC tA1 htC eA eC oA oC mA mC bA bC hbrA hbrC hwB' htB hbB hb35 hRB3 hrow23 hth3 c323 hB3 c0 c1 c2 c3 hA3 hzB hbase
    replace hB3e := Lib.hid hB3e
    obtain ⟨nn, hnn⟩ : ∃ nn : Nat, nn = en - pn := ⟨_, rfl⟩
    have hn0 : 1 ≤ nn := by omega
    have xsub : IntKind.u64.wrap ((en : Int) - (pn : Int)) = (nn : Int) := by
      have := hen62.out
      rw [IntWalk.u64_in _ (by omega)]
      omega
    obtain ⟨l1, l2, l3, l4, l5⟩ := LineP.le hP1
    obtain ⟨k1, hk1⟩ : ∃ k1, k1 = turnN r.members (nn * r.churn.toNat) r.coming 0 := ⟨_, rfl⟩
    obtain ⟨k2, hk2⟩ : ∃ k2, k2 = turnN r.members (nn * r.churn.toNat) r.going 0 := ⟨_, rfl⟩
    have HT1 : ∀ W, Below w5.heap.size w5 W → Calls Try.prog 133 #[.agg (regA gr), gr.coming.v, .int .u64 (nn : Int)] W fun e w' => e = .returned (.int .i64 (k1 : Int)) ∧ Below W.heap.size W w' := fun W hW => by
      have hR := RegR.keep hRB5.out.reg hW
      have := rturn_c hR hm hR.2.1 l3 l1 hP1.stakes hP1.churn.1 nn hn0
      rw [← hk1] at this
      exact this
    have HT2 : ∀ W, Below w5.heap.size w5 W → Calls Try.prog 133 #[.agg (regA gr), gr.going.v, .int .u64 (nn : Int)] W fun e w' => e = .returned (.int .i64 (k2 : Int)) ∧ Below W.heap.size W w' := fun W hW => by
      have hR := RegR.keep hRB5.out.reg hW
      have := rturn_c hR hm hR.2.2.1 l4 l2 hP1.stakes hP1.churn.1 nn hn0
      rw [← hk2] at this
      exact this
    have hk1l : k1 ≤ r.coming.length := by rw [hk1]; exact turnN_le _ _ _ _
    have hk2l : k2 ≤ r.going.length := by rw [hk2]; exact turnN_le _ _ _ _
    rw [hnn] at hk1 hk2
    replace hnn := Lib.hid hnn
    replace hk1 := Lib.hid hk1
    replace hk2 := Lib.hid hk2
    replace l1 := Lib.hid l1
    replace l2 := Lib.hid l2
    replace l5 := Lib.hid l5
    go_upto_region 4 with fail
    refine wp_region_freeG_l (fun W W' => Below W.heap.size W W') (by kernel_rfl) [38, 39, 40, 41, 42, 43, 44, 45, 46, 47, 48, 49, 50, 51, 52, 53, 9, 10]
      [Is (.agg (regA gr)), Is (.pointer (some ⟨w.heap.size, 1, none⟩)), Is (gr.coming.v), Is (.pointer (some ⟨b1, 32, none⟩)), Is (.int .u64 (en : Int)), Is (.int .u64 (pn : Int)), Is (.int .u64 (nn : Int)), Is (.int .i64 (k1 : Int)), Is (.agg (regA gr)), Is (.pointer (some ⟨w.heap.size, 2, none⟩)), Is (gr.going.v), Is (.pointer (some ⟨b1, 32, none⟩)), Is (.int .u64 (en : Int)), Is (.int .u64 (pn : Int)), Is (.int .u64 (nn : Int)), Is (.int .i64 (k2 : Int)), Is (.int .i64 (k1 : Int)), Is (.int .i64 (k2 : Int))]
      (by kernel_rfl) (fun W W' h hb => hb.trans (h.mono hb.size)) ?_ ?_ ?_
    · intro f hf
      simp only [List.mem_cons, List.not_mem_nil, or_false] at hf
      rcases hf with rfl | rfl | rfl | rfl | rfl | rfl | rfl | rfl | rfl | rfl | rfl | rfl | rfl | rfl | rfl | rfl | rfl | rfl <;> intro x W W' h hr <;> first | exact h
    · refine ⟨?_, ?_, ?_, ?_, ?_, ?_, ?_, ?_, ?_, ?_, ?_, ?_, ?_, ?_, ?_, ?_, ?_, ?_, trivial⟩
      · intro L ax W hf hd
        try simp [Region.binds] at hd
        have e3 : ax.tmps[3]?.getD undef = .pointer (some ⟨w.heap.size, 0, none⟩) := hf.out 3 (by decide) rfl
        refine ⟨fun _ => ?_, fun h => absurd trivial h⟩
        have h1 := (row?_below _ _ _ hf.below hk05).trans hrow5
        refine free_run (v := .agg (regA gr)) (W' := W) rfl ?_ rfl (Below.refl _ _)
        go_simp
      · intro L ax W hf hd
        try simp [Region.binds] at hd
        have e3 : ax.tmps[3]?.getD undef = .pointer (some ⟨w.heap.size, 0, none⟩) := hf.out 3 (by decide) rfl
        refine ⟨fun _ => ?_, fun h => absurd trivial h⟩
        refine free_run (v := .pointer (some ⟨w.heap.size, 1, none⟩)) (W' := W) rfl ?_ rfl (Below.refl _ _)
        go_simp
      · intro L ax W hf hd
        simp [Region.binds] at hd
        have e39 : ax.tmps[39]?.getD undef = .pointer (some ⟨w.heap.size, 1, none⟩) := slv (hf.got 1 (by decide) (by simp [hd]))
        refine ⟨fun _ => ?_, fun h => absurd trivial h⟩
        have h1 := (hf.below.cell (p := ⟨w.heap.size, 1, none⟩) hk05).trans c15
        refine free_run (v := gr.coming.v) (W' := W) rfl ?_ rfl (Below.refl _ _)
        go_simp
      · intro L ax W hf hd
        try simp [Region.binds] at hd
        have e4 : ax.tmps[4]?.getD undef = .pointer (some ⟨b1, 0, none⟩) := hf.out 4 (by decide) rfl
        refine ⟨fun _ => ?_, fun h => absurd trivial h⟩
        refine free_run (v := .pointer (some ⟨b1, 32, none⟩)) (W' := W) rfl ?_ rfl (Below.refl _ _)
        go_simp
      · intro L ax W hf hd
        simp [Region.binds] at hd
        have e41 : ax.tmps[41]?.getD undef = .pointer (some ⟨b1, 32, none⟩) := slv (hf.got 3 (by decide) (by simp [hd]))
        refine ⟨fun _ => ?_, fun h => absurd trivial h⟩
        have h1 := (hf.below.cell (p := ⟨b1, 32, none⟩) hk15).trans c325
        refine free_run (v := .int .u64 (en : Int)) (W' := W) rfl ?_ rfl (Below.refl _ _)
        go_simp
      · intro L ax W hf hd
        try simp [Region.binds] at hd
        have e2 : ax.tmps[2]?.getD undef = .int .u64 (pn : Int) := hf.out 2 (by decide) rfl
        refine ⟨fun _ => ?_, fun h => absurd trivial h⟩
        refine free_run (v := .int .u64 (pn : Int)) (W' := W) rfl ?_ rfl (Below.refl _ _)
        go_simp
      · intro L ax W hf hd
        simp [Region.binds] at hd
        have e42 : ax.tmps[42]?.getD undef = .int .u64 (en : Int) := slv (hf.got 4 (by decide) (by simp [hd]))
        have e43 : ax.tmps[43]?.getD undef = .int .u64 (pn : Int) := slv (hf.got 5 (by decide) (by simp [hd]))
        refine ⟨fun _ => ?_, fun h => absurd trivial h⟩
        refine free_run (v := .int .u64 (nn : Int)) (W' := W) rfl ?_ rfl (Below.refl _ _)
        go_simp
      · intro L ax W hf hd
        simp [Region.binds] at hd
        have e38 : ax.tmps[38]?.getD undef = .agg (regA gr) := slv (hf.got 0 (by decide) (by simp [hd]))
        have e40 : ax.tmps[40]?.getD undef = gr.coming.v := slv (hf.got 2 (by decide) (by simp [hd]))
        have e44 : ax.tmps[44]?.getD undef = .int .u64 (nn : Int) := slv (hf.got 6 (by decide) (by simp [hd]))
        refine ⟨fun _ => ?_, fun h => absurd trivial h⟩
        refine free_call (f := 133) (args := #[.agg (regA gr), gr.coming.v, .int .u64 (nn : Int)]) rfl (by go_simp) ?_
        refine (HT1 W hf.below).mono ?_
        rintro e w' ⟨rfl, hb⟩
        exact ⟨_, rfl, rfl, hb⟩
      · intro L ax W hf hd
        try simp [Region.binds] at hd
        have e3 : ax.tmps[3]?.getD undef = .pointer (some ⟨w.heap.size, 0, none⟩) := hf.out 3 (by decide) rfl
        refine ⟨fun _ => ?_, fun h => absurd trivial h⟩
        have h1 := (row?_below _ _ _ hf.below hk05).trans hrow5
        refine free_run (v := .agg (regA gr)) (W' := W) rfl ?_ rfl (Below.refl _ _)
        go_simp
      · intro L ax W hf hd
        try simp [Region.binds] at hd
        have e3 : ax.tmps[3]?.getD undef = .pointer (some ⟨w.heap.size, 0, none⟩) := hf.out 3 (by decide) rfl
        refine ⟨fun _ => ?_, fun h => absurd trivial h⟩
        refine free_run (v := .pointer (some ⟨w.heap.size, 2, none⟩)) (W' := W) rfl ?_ rfl (Below.refl _ _)
        go_simp
      · intro L ax W hf hd
        simp [Region.binds] at hd
        have e47 : ax.tmps[47]?.getD undef = .pointer (some ⟨w.heap.size, 2, none⟩) := slv (hf.got 9 (by decide) (by simp [hd]))
        refine ⟨fun _ => ?_, fun h => absurd trivial h⟩
        have h1 := (hf.below.cell (p := ⟨w.heap.size, 2, none⟩) hk05).trans c25
        refine free_run (v := gr.going.v) (W' := W) rfl ?_ rfl (Below.refl _ _)
        go_simp
      · intro L ax W hf hd
        try simp [Region.binds] at hd
        have e4 : ax.tmps[4]?.getD undef = .pointer (some ⟨b1, 0, none⟩) := hf.out 4 (by decide) rfl
        refine ⟨fun _ => ?_, fun h => absurd trivial h⟩
        refine free_run (v := .pointer (some ⟨b1, 32, none⟩)) (W' := W) rfl ?_ rfl (Below.refl _ _)
        go_simp
      · intro L ax W hf hd
        simp [Region.binds] at hd
        have e49 : ax.tmps[49]?.getD undef = .pointer (some ⟨b1, 32, none⟩) := slv (hf.got 11 (by decide) (by simp [hd]))
        refine ⟨fun _ => ?_, fun h => absurd trivial h⟩
        have h1 := (hf.below.cell (p := ⟨b1, 32, none⟩) hk15).trans c325
        refine free_run (v := .int .u64 (en : Int)) (W' := W) rfl ?_ rfl (Below.refl _ _)
        go_simp
      · intro L ax W hf hd
        try simp [Region.binds] at hd
        have e2 : ax.tmps[2]?.getD undef = .int .u64 (pn : Int) := hf.out 2 (by decide) rfl
        refine ⟨fun _ => ?_, fun h => absurd trivial h⟩
        refine free_run (v := .int .u64 (pn : Int)) (W' := W) rfl ?_ rfl (Below.refl _ _)
        go_simp
      · intro L ax W hf hd
        simp [Region.binds] at hd
        have e50 : ax.tmps[50]?.getD undef = .int .u64 (en : Int) := slv (hf.got 12 (by decide) (by simp [hd]))
        have e51 : ax.tmps[51]?.getD undef = .int .u64 (pn : Int) := slv (hf.got 13 (by decide) (by simp [hd]))
        refine ⟨fun _ => ?_, fun h => absurd trivial h⟩
        refine free_run (v := .int .u64 (nn : Int)) (W' := W) rfl ?_ rfl (Below.refl _ _)
        go_simp
      · intro L ax W hf hd
        simp [Region.binds] at hd
        have e46 : ax.tmps[46]?.getD undef = .agg (regA gr) := slv (hf.got 8 (by decide) (by simp [hd]))
        have e48 : ax.tmps[48]?.getD undef = gr.going.v := slv (hf.got 10 (by decide) (by simp [hd]))
        have e52 : ax.tmps[52]?.getD undef = .int .u64 (nn : Int) := slv (hf.got 14 (by decide) (by simp [hd]))
        refine ⟨fun _ => ?_, fun h => absurd trivial h⟩
        refine free_call (f := 133) (args := #[.agg (regA gr), gr.going.v, .int .u64 (nn : Int)]) rfl (by go_simp) ?_
        refine (HT2 W hf.below).mono ?_
        rintro e w' ⟨rfl, hb⟩
        exact ⟨_, rfl, rfl, hb⟩
      · intro L ax W hf hd
        simp [Region.binds] at hd
        have e45 : ax.tmps[45]?.getD undef = .int .i64 (k1 : Int) := slv (hf.got 7 (by decide) (by simp [hd]))
        refine ⟨fun _ => ?_, fun h => absurd trivial h⟩
        refine free_run (v := .int .i64 (k1 : Int)) (W' := W) rfl ?_ rfl (Below.refl _ _)
        go_simp
      · intro L ax W hf hd
        simp [Region.binds] at hd
        have e53 : ax.tmps[53]?.getD undef = .int .i64 (k2 : Int) := slv (hf.got 15 (by decide) (by simp [hd]))
        refine ⟨fun _ => ?_, fun h => absurd trivial h⟩
        refine free_run (v := .int .i64 (k2 : Int)) (W' := W) rfl ?_ rfl (Below.refl _ _)
        go_simp
    · intro vs W' hl' hF hb
      obtain ⟨g', hg1, hg2⟩ := vs_lit vs hl' hF
      have e9 : g' 16 = .int .i64 (k1 : Int) := hg2 16 (by decide)
      have e10 : g' 17 = .int .i64 (k2 : Int) := hg2 17 (by decide)
      rw [hg1]
      have hB6 := Lib.hid (hB5.out.trans (hb.mono (Nat.le_of_lt hk05)))
      have hRB6 := Lib.hid (hRB5.out.keep hb)
      have hNM6 := Lib.hid (hNM.out.keep hb)
      have hbl := hb.size
      have hth6 := Lib.hid (there_below (hb.mono (show b2 + 1 ≤ w5.heap.size by have := hNM.out.hX; omega)) (Nat.lt_succ_self _) hth5.out)
      have hX5 := hNM.out.hX
      have c336 := Lib.hid ((hb.cell (p := ⟨b1, 33, none⟩) hk15).trans c335.out)
      clear c335
      clear hF hg1 hg2 hl' hb HT1 HT2 hrow5 c05 c15 c25 c325 hRB5 hth5 hB5 hNM
      simp only [List.length_cons, List.length_nil, Nat.reduceAdd, show List.range 18 = [0, 1, 2, 3, 4, 5, 6, 7, 8, 9, 10, 11, 12, 13, 14, 15, 16, 17] from rfl, List.map_cons, List.map_nil, putL, List.zip_cons_cons, List.zip_nil_right, List.setIfInBounds_toArray, List.set_cons_succ, List.set_cons_zero, e9, e10]
      rename World => w6
      have hb66 := Lib.hid (Below.refl B3 w6)
      have hN60 := Lib.hid (show NextM w6 B3 X ⟨setAll r.members (r.coming.take (min 0 k1)) 2, (r.coming.take 0).drop k1, [], r.churn⟩ from ⟨_, _, _, _, _, _, by simpa [setAll] using hNM6.out⟩)
      obtain ⟨⟨ma, mn, mc⟩, ⟨ca, cn, cc⟩, ⟨ga, gn, gcc⟩, gch⟩ := gr
      have hnl1 := hrI.out.2.1.1
      have hnl2 := hrI.out.2.2.1.1
      simp only at hnl1 hnl2
      subst hnl1 hnl2
      have hbl1 : 0 < r.coming.length → ∀ b o, ca = some ⟨b, o, none⟩ → b < B3 := fun h0 b o e => by
        obtain ⟨b', o', e', hlt, -⟩ := nums_at hrI.out.2.1 h0
        have e2 := congrArg Sl.a e'
        simp only at e2
        rw [e] at e2
        injection e2 with e2
        have e3 := congrArg Addr.block e2
        simp only at e3
        omega
      have hbl2 : 0 < r.going.length → ∀ b o, ga = some ⟨b, o, none⟩ → b < B3 := fun h0 b o e => by
        obtain ⟨b', o', e', hlt, -⟩ := nums_at hrI.out.2.2.1 h0
        have e2 := congrArg Sl.a e'
        simp only at e2
        rw [e] at e2
        injection e2 with e2
        have e3 := congrArg Addr.block e2
        simp only at e3
        omega
      replace hbl1 := Lib.hid hbl1
      replace hbl2 := Lib.hid hbl2
      clear hNM6 hbl
      go_upto_region 6 with fail
      go_loopw [11] (fun t W' => ∃ i : Nat, i ≤ r.coming.length ∧ t = .int .i64 i ∧ Hid (NextM W' B3 X ⟨setAll r.members (r.coming.take (min i k1)) 2, (r.coming.take i).drop k1, [], r.churn⟩) ∧ Hid (Below B3 w6 W')) (fun t _ => r.coming.length - (intOf t).toNat)
      case atStart => exact ⟨0, Nat.zero_le _, rfl, hN60, hb66⟩
      case round =>
        obtain ⟨i, hi, rfl, hNk, hBk⟩ := hrel
        obtain ⟨gm, s0, s1, s2, g1, g2, hN⟩ := hNk.out
        have hRBk := Lib.hid (show RBox wr w.heap.size _ r from ⟨(row?_below _ _ _ hBk.out hk03).trans hRB6.out.row, hrI.out.keep (hB6.out.trans (hBk.out.mono (Nat.le_of_lt hk03)))⟩)
        obtain ⟨-, q1, q2, -, hrw⟩ := hRBk.out.cells
        have hXw := hN.hX
        have hBw := Nat.le_trans hN.hB (Nat.le_of_lt hN.hX)
        dsimp only [Sl.v] at q1 q2
        by_cases hix : i < r.coming.length
        · have hRk := hRBk.out.reg
          obtain ⟨bc, oc, e, hbcw, hcc⟩ := nums_at hRk.2.1 (by omega)
          have e1 := congrArg Sl.a e
          simp only at e1
          subst e1
          clear e
          have hcx := hcc i hix
          clear hcc hRk
          have hgetx := List.getElem?_eq_getElem hix
          obtain ⟨v1, v2⟩ := l1.out _ (List.getElem_mem hix)
          have Hdo := Lib.hid (fun h : k1 ≤ i => drop_take_out r.coming i k1 h hix)
          generalize r.coming[i] = x at *
          have t1 : (i : Int) < (r.coming.length : Int) := by omega
          have t0 : (0 : Int) ≤ (i : Int) := by omega
          have x6 : IntKind.i64.wrap ((i : Int) + 1) = i + 1 := IntWalk.i64_in _ (by omega)
          have his := Lib.hid (show i + 1 ≤ r.coming.length from hix)
          -- DEV<
          as_aux_lemma =>
            by_cases hik : i < k1
            · have u1 : (i : Int) < (k1 : Int) := by omega
              have hmin : min i k1 = i := by omega
              have hmin2 : min (i + 1) k1 = i + 1 := by omega
              have hd1 : (r.coming.take i).drop k1 = [] := drop_take_in _ _ _ (by omega)
              have hd2 : (r.coming.take (i + 1)).drop k1 = [] := drop_take_in _ _ _ (by omega)
              obtain ⟨j, rfl⟩ : ∃ j : Nat, x = (j : Int) + 1 := ⟨(x - 1).toNat, by omega⟩
              have hjl : j < r.members.length := by omega
              have Hsn := Lib.hid (setAll_snoc r.members r.coming 2 i j hgetx)
              rw [hmin, hd1] at hN
              have c0 := hN.c0
              have hs0 := hN.s0eq
              simp only [setAll_length] at hs0
              obtain ⟨sa0, sn0, sc0⟩ := s0
              injection hs0 with w1' w2' w3'
              subst w1' w2'
              clear w3'
              dsimp only [Sl.v] at c0
              have hgm0 := hN.lt
              have hgX := hN.dX.1
              have x1 : IntKind.i64.wrap ((j : Int) + 1 - 1) = (j : Int) := by rw [show (j : Int) + 1 - 1 = j by omega]; exact IntWalk.i64_in _ (by omega)
              have x1' : IntKind.i64.wrap (j : Int) = (j : Int) := IntWalk.i64_in _ (by omega)
              have j0 : (0 : Int) ≤ (j : Int) := by omega
              have j1 : (j : Int) < (r.members.length : Int) := by omega
              have hNm := Lib.hid hN
              clear hN hix hi hik hmin hd1 hgetx v1 v2 hbl1 hbl2
              replace hmin2 := Lib.hid hmin2
              replace hd2 := Lib.hid hd2
              go_upto_region 9 with fail
              refine wp_region_freeB_l 9 (B3) [0, 1, 2, 3, 4, 5, 6, 7, 8, 9] (fun _ _ => true) (fun i W W' => if i = 9 then Below (B3) W W' else Below W.heap.size W W') (by kernel_rfl) [64, 65, 66, 67, 68, 69, 70, 71, 72, 73]
                [Is (.pointer (some ⟨X, 0, none⟩)), Is (.slice (some ⟨gm, 0, none⟩) r.members.length sc0), Is (.pointer (some ⟨w.heap.size, 1, none⟩)), Is (.slice (some ⟨bc, oc, none⟩) r.coming.length cc), Is (.int .i64 (i : Int)), Is (.pointer (some ⟨bc, oc + i, none⟩)), Is (.int .i64 ((j : Int) + 1)), Is (.int .i64 (j : Int)), Is (.pointer (some ⟨gm, j * 35, none⟩)), PtW wr (.pointer (some ⟨gm, j * 35 + 33, none⟩))]
                (by kernel_rfl) (by kernel_rfl) (fun i W W' h hb => by (split at h <;> first | exact hb.trans h | exact hb.trans (h.mono (Nat.le_trans (by assumption) hb.size)))) (fun i W W' hi h hb => by (rw [if_neg hi] at h; exact hb.trans (h.mono hb.size))) ?_ ?_
              · intro i j hi hij hlv x W W' h hr
                have hi : i < 10 := hi
                try dsimp only at hlv hr
                have hi : i = 0 ∨ i = 1 ∨ i = 2 ∨ i = 3 ∨ i = 4 ∨ i = 5 ∨ i = 6 ∨ i = 7 ∨ i = 8 ∨ i = 9 := by omega
                rcases hi with rfl | rfl | rfl | rfl | rfl | rfl | rfl | rfl | rfl | rfl <;> first | exact h | (have hj : j ≠ 9 := by first | (intro e; subst e; simp at hlv; done) | (exact fun e => hij e.symm)) <;> (rw [if_neg hj] at hr; exact PtW.keep h hr)
              · refine ⟨?_, ?_, ?_, ?_, ?_, ?_, ?_, ?_, ?_, ?_, ?_⟩
                · intro L ax W hf hL hq hd
                  have hfu := hf.full (hq (by decide))
                  try simp [Region.binds] at hd
                  have e8 : ax.tmps[8]?.getD undef = .pointer (some ⟨X, 0, none⟩) := hf.out 8 (by decide) rfl
                  refine ⟨fun _ => ?_, fun h => absurd trivial h⟩
                  refine free_run (v := .pointer (some ⟨X, 0, none⟩)) (W' := W) rfl ?_ rfl (Below.refl _ _)
                  go_simp
                · intro L ax W hf hL hq hd
                  have hfu := hf.full (hq (by decide))
                  simp [Region.binds] at hd
                  have e64 : ax.tmps[64]?.getD undef = .pointer (some ⟨X, 0, none⟩) := slv (hf.got 0 (by decide) (by simp [hd]) (fun j _ => by simp))
                  refine ⟨fun _ => ?_, fun h => absurd trivial h⟩
                  have h1 := (hfu.cell (p := ⟨X, 0, none⟩) hXw).trans c0
                  refine free_run (v := .slice (some ⟨gm, 0, none⟩) r.members.length sc0) (W' := W) rfl ?_ rfl (Below.refl _ _)
                  go_simp
                · intro L ax W hf hL hq hd
                  have hfu := hf.full (hq (by decide))
                  try simp [Region.binds] at hd
                  have e3 : ax.tmps[3]?.getD undef = .pointer (some ⟨w.heap.size, 0, none⟩) := hf.out 3 (by decide) rfl
                  refine ⟨fun _ => ?_, fun h => absurd trivial h⟩
                  refine free_run (v := .pointer (some ⟨w.heap.size, 1, none⟩)) (W' := W) rfl ?_ rfl (Below.refl _ _)
                  go_simp
                · intro L ax W hf hL hq hd
                  have hfu := hf.full (hq (by decide))
                  simp [Region.binds] at hd
                  have e66 : ax.tmps[66]?.getD undef = .pointer (some ⟨w.heap.size, 1, none⟩) := slv (hf.got 2 (by decide) (by simp [hd]) (fun j _ => by simp))
                  refine ⟨fun _ => ?_, fun h => absurd trivial h⟩
                  have h1 := (hfu.cell (p := ⟨w.heap.size, 1, none⟩) hrw).trans q1
                  refine free_run (v := .slice (some ⟨bc, oc, none⟩) r.coming.length cc) (W' := W) rfl ?_ rfl (Below.refl _ _)
                  go_simp
                · intro L ax W hf hL hq hd
                  have hfu := hf.full (hq (by decide))
                  try simp [Region.binds] at hd
                  have e11 : ax.tmps[11]?.getD undef = .int .i64 (i : Int) := hf.out 11 (by decide) rfl
                  refine ⟨fun _ => ?_, fun h => absurd trivial h⟩
                  refine free_run (v := .int .i64 (i : Int)) (W' := W) rfl ?_ rfl (Below.refl _ _)
                  go_simp
                · intro L ax W hf hL hq hd
                  have hfu := hf.full (hq (by decide))
                  simp [Region.binds] at hd
                  have e67 : ax.tmps[67]?.getD undef = .slice (some ⟨bc, oc, none⟩) r.coming.length cc := slv (hf.got 3 (by decide) (by simp [hd]) (fun j _ => by simp))
                  have e68 : ax.tmps[68]?.getD undef = .int .i64 (i : Int) := slv (hf.got 4 (by decide) (by simp [hd]) (fun j _ => by simp))
                  refine ⟨fun _ => ?_, fun h => absurd trivial h⟩
                  refine free_run (v := .pointer (some ⟨bc, oc + i, none⟩)) (W' := W) rfl ?_ rfl (Below.refl _ _)
                  go_simp
                · intro L ax W hf hL hq hd
                  have hfu := hf.full (hq (by decide))
                  simp [Region.binds] at hd
                  have e69 : ax.tmps[69]?.getD undef = .pointer (some ⟨bc, oc + i, none⟩) := slv (hf.got 5 (by decide) (by simp [hd]) (fun j _ => by simp))
                  refine ⟨fun _ => ?_, fun h => absurd trivial h⟩
                  have h1 := (hfu.cell (p := ⟨bc, oc + i, none⟩) hbcw).trans hcx
                  refine free_run (v := .int .i64 ((j : Int) + 1)) (W' := W) rfl ?_ rfl (Below.refl _ _)
                  go_simp
                · intro L ax W hf hL hq hd
                  have hfu := hf.full (hq (by decide))
                  simp [Region.binds] at hd
                  have e70 : ax.tmps[70]?.getD undef = .int .i64 ((j : Int) + 1) := slv (hf.got 6 (by decide) (by simp [hd]) (fun j _ => by simp))
                  refine ⟨fun _ => ?_, fun h => absurd trivial h⟩
                  refine free_run (v := .int .i64 (j : Int)) (W' := W) rfl ?_ rfl (Below.refl _ _)
                  go_simp
                · intro L ax W hf hL hq hd
                  have hfu := hf.full (hq (by decide))
                  simp [Region.binds] at hd
                  have e65 : ax.tmps[65]?.getD undef = .slice (some ⟨gm, 0, none⟩) r.members.length sc0 := slv (hf.got 1 (by decide) (by simp [hd]) (fun j _ => by simp))
                  have e71 : ax.tmps[71]?.getD undef = .int .i64 (j : Int) := slv (hf.got 7 (by decide) (by simp [hd]) (fun j _ => by simp))
                  refine ⟨fun _ => ?_, fun h => absurd trivial h⟩
                  refine free_run (v := .pointer (some ⟨gm, j * 35, none⟩)) (W' := W) rfl ?_ rfl (Below.refl _ _)
                  go_simp
                · intro L ax W hf hL hq hd
                  have hfu := hf.full (hq (by decide))
                  simp [Region.binds] at hd
                  have e72 : ax.tmps[72]?.getD undef = .pointer (some ⟨gm, j * 35, none⟩) := slv (hf.got 8 (by decide) (by simp [hd]) (fun j _ => by simp))
                  refine ⟨fun _ => ?_, fun h => absurd trivial h⟩
                  refine free_run (v := .pointer (some ⟨gm, j * 35 + 33, none⟩)) (W' := W) rfl ?_ ⟨rfl, hfu⟩ (Below.refl _ _)
                  go_simp
                · intro vs W hl' hF hb
                  obtain ⟨g', hg1, hg2⟩ := vs_litE vs hl' hF
                  have ho9 : PtW wr (.pointer (some ⟨gm, j * 35 + 33, none⟩)) (g' 9) W := hg2 9 (by decide) (fun j => by simp)
                  obtain ⟨e9, hbW⟩ := ho9
                  rw [hg1]
                  simp only [List.length_cons, List.length_nil, Nat.reduceAdd, show List.range 10 = [0, 1, 2, 3, 4, 5, 6, 7, 8, 9] from rfl, List.map_cons, List.map_nil, putL, List.zip_cons_cons, List.zip_nil_right, List.setIfInBounds_toArray, List.set_cons_succ, List.set_cons_zero, e9]
                  obtain ⟨y1, y2, hNn, hBn⟩ := (hNm.out.keep hbW).setSt j (by simp only [setAll_length]; exact hjl) 2
                  obtain ⟨sv, sq⟩ : ∃ sv : Int, W.cell? ⟨gm, j * 35 + 33, none⟩ = some (.int .i64 sv) := ⟨_, (mbr_cells ((hNm.out.keep hbW).mrow j (by simp only [setAll_length]; exact hjl))).2.2.1⟩
                  have hBW := Lib.hid (hBk.out.trans ((hbW.mono hBw).trans hBn))
                  replace hNn := Lib.hid hNn
                  clear hg1 hg2 e9 hb hbW hl' hF c0 q1 hcx hNm hBn
                  go_wp2_with fail
                  go_roundw
                  case rel => exact ⟨i + 1, his.out, by go_num, Lib.hid ⟨_, _, _, _, _, _, by rw [hmin2.out, hd2.out, Hsn.out]; exact hNn.out⟩, hBW⟩
                  case measure =>
                    have := his.out
                    simp [intOf]
                    omega
            · have u1 : ¬ (i : Int) < (k1 : Int) := by omega
              have hmin : min i k1 = k1 := by omega
              have hmin2 := Lib.hid (show min (i + 1) k1 = min i k1 by omega)
              have Hd := Lib.hid (Hdo.out (by omega))
              have hl2 := l2.out
              obtain ⟨lw, hlwe⟩ : ∃ l, l = (r.coming.take i).drop k1 := ⟨_, rfl⟩
              rw [← hlwe] at hN Hd
              have hlw : lw.length ≤ 1000000 := by
                rw [hlwe, List.length_drop, List.length_take]
                omega
              obtain ⟨va, vn, vc⟩ := s1
              have cX : wr.cell? ⟨X, 1, none⟩ = some (.slice va vn vc) := hN.c1
              have hown := hN.com
              dsimp only [Sl.v] at hown
              have hNMf := Lib.hid hN
              obtain ⟨lc, hlc⟩ : ∃ x, x = cc := ⟨_, rfl⟩
              rw [← hlc] at q1
              have cR := q1
              obtain ⟨gb, hgb⟩ : ∃ x, x = g1 := ⟨_, rfl⟩
              rw [← hgb] at hown hNMf
              clear q1 hlc hgb hN hix hi hik hmin hgetx v1 v2 Hdo hl2 hlwe hbl1 hbl2
              go_upto_region 10 with fail
              refine wp_region_freeB_l 8 (B3) [0, 1, 2, 3, 4, 5, 6, 7, 8] (fun i j => !(j == 8 && i == 7)) (fun i W W' => if i = 8 then Below (B3) W W' else Below W.heap.size W W') (by kernel_rfl) [74, 75, 76, 77, 78, 79, 80, 81, 82, 83]
                [Is (.pointer (some ⟨X, 1, none⟩)), Is (.slice va vn vc), Is (.pointer (some ⟨w.heap.size, 1, none⟩)), Is (.slice (some ⟨bc, oc, none⟩) r.coming.length lc), Is (.int .i64 (i : Int)), Is (.pointer (some ⟨bc, oc + i, none⟩)), Is (.int .i64 x), LitI x, AppI wr B3 gb (lw ++ [x]), Is (.pointer (some ⟨X, 1, none⟩))]
                (by kernel_rfl) (by kernel_rfl) (fun i W W' h hb => by (split at h <;> first | exact hb.trans h | exact hb.trans (h.mono (Nat.le_trans (by assumption) hb.size)))) (fun i W W' hi h hb => by (rw [if_neg hi] at h; exact hb.trans (h.mono hb.size))) ?_ ?_
              · intro i j hi hij hlv x W W' h hr
                have hi : i < 10 := hi
                try dsimp only at hlv hr
                have hi : i = 0 ∨ i = 1 ∨ i = 2 ∨ i = 3 ∨ i = 4 ∨ i = 5 ∨ i = 6 ∨ i = 7 ∨ i = 8 ∨ i = 9 := by omega
                rcases hi with rfl | rfl | rfl | rfl | rfl | rfl | rfl | rfl | rfl | rfl <;> first | exact h | (have hj : j ≠ 8 := by first | (intro e; subst e; simp at hlv; done) | (exact fun e => hij e.symm)) <;> (rw [if_neg hj] at hr; first | exact AppI.keep h hr | exact LitI.keep h hr)
              · refine ⟨?_, ?_, ?_, ?_, ?_, ?_, ?_, ?_, ?_, ?_, ?_⟩
                · intro L ax W hf hL hq hd
                  have hfu := hf.full (hq (by decide))
                  try simp [Region.binds] at hd
                  have e8 : ax.tmps[8]?.getD undef = .pointer (some ⟨X, 0, none⟩) := hf.out 8 (by decide) rfl
                  refine ⟨fun _ => ?_, fun h => absurd trivial h⟩
                  refine free_run (v := .pointer (some ⟨X, 1, none⟩)) (W' := W) rfl ?_ rfl (Below.refl _ _)
                  go_simp
                · intro L ax W hf hL hq hd
                  have hfu := hf.full (hq (by decide))
                  simp [Region.binds] at hd
                  have e74 : ax.tmps[74]?.getD undef = .pointer (some ⟨X, 1, none⟩) := slv (hf.got 0 (by decide) (by simp [hd]) (fun j _ => by simp))
                  refine ⟨fun _ => ?_, fun h => absurd trivial h⟩
                  have h1 := (hfu.cell (p := ⟨X, 1, none⟩) hXw).trans cX
                  refine free_run (v := .slice va vn vc) (W' := W) rfl ?_ rfl (Below.refl _ _)
                  go_simp
                · intro L ax W hf hL hq hd
                  have hfu := hf.full (hq (by decide))
                  try simp [Region.binds] at hd
                  have e3 : ax.tmps[3]?.getD undef = .pointer (some ⟨w.heap.size, 0, none⟩) := hf.out 3 (by decide) rfl
                  refine ⟨fun _ => ?_, fun h => absurd trivial h⟩
                  refine free_run (v := .pointer (some ⟨w.heap.size, 1, none⟩)) (W' := W) rfl ?_ rfl (Below.refl _ _)
                  go_simp
                · intro L ax W hf hL hq hd
                  have hfu := hf.full (hq (by decide))
                  simp [Region.binds] at hd
                  have e76 : ax.tmps[76]?.getD undef = .pointer (some ⟨w.heap.size, 1, none⟩) := slv (hf.got 2 (by decide) (by simp [hd]) (fun j _ => by simp))
                  refine ⟨fun _ => ?_, fun h => absurd trivial h⟩
                  have h1 := (hfu.cell (p := ⟨w.heap.size, 1, none⟩) hrw).trans cR
                  refine free_run (v := .slice (some ⟨bc, oc, none⟩) r.coming.length lc) (W' := W) rfl ?_ rfl (Below.refl _ _)
                  go_simp
                · intro L ax W hf hL hq hd
                  have hfu := hf.full (hq (by decide))
                  try simp [Region.binds] at hd
                  have e11 : ax.tmps[11]?.getD undef = .int .i64 (i : Int) := hf.out 11 (by decide) rfl
                  refine ⟨fun _ => ?_, fun h => absurd trivial h⟩
                  refine free_run (v := .int .i64 (i : Int)) (W' := W) rfl ?_ rfl (Below.refl _ _)
                  go_simp
                · intro L ax W hf hL hq hd
                  have hfu := hf.full (hq (by decide))
                  simp [Region.binds] at hd
                  have e77 : ax.tmps[77]?.getD undef = .slice (some ⟨bc, oc, none⟩) r.coming.length lc := slv (hf.got 3 (by decide) (by simp [hd]) (fun j _ => by simp))
                  have e78 : ax.tmps[78]?.getD undef = .int .i64 (i : Int) := slv (hf.got 4 (by decide) (by simp [hd]) (fun j _ => by simp))
                  refine ⟨fun _ => ?_, fun h => absurd trivial h⟩
                  refine free_run (v := .pointer (some ⟨bc, oc + i, none⟩)) (W' := W) rfl ?_ rfl (Below.refl _ _)
                  go_simp
                · intro L ax W hf hL hq hd
                  have hfu := hf.full (hq (by decide))
                  simp [Region.binds] at hd
                  have e79 : ax.tmps[79]?.getD undef = .pointer (some ⟨bc, oc + i, none⟩) := slv (hf.got 5 (by decide) (by simp [hd]) (fun j _ => by simp))
                  refine ⟨fun _ => ?_, fun h => absurd trivial h⟩
                  have h1 := (hfu.cell (p := ⟨bc, oc + i, none⟩) hbcw).trans hcx
                  refine free_run (v := .int .i64 x) (W' := W) rfl ?_ rfl (Below.refl _ _)
                  go_simp
                · intro L ax W hf hL hq hd
                  have hfu := hf.full (hq (by decide))
                  simp [Region.binds] at hd
                  have e80 : ax.tmps[80]?.getD undef = .int .i64 x := slv (hf.got 6 (by decide) (by simp [hd]) (fun j _ => by simp))
                  refine ⟨fun _ => ?_, fun h => absurd trivial h⟩
                  have hbI := bsI_one x W
                  refine free_run (v := .slice (some ⟨W.heap.size, 0, none⟩) 1 1) (W' := W.alloc (.cells #[i64V x] 3)) rfl ?_ ⟨W.heap.size, rfl, _, _, heap_alloc_new W _⟩ (bel_a _ _)
                  go_simp
                · intro L ax W hf hL hq hd
                  have hfu := hf.full (hq (by decide))
                  simp [Region.binds] at hd
                  have e75 : ax.tmps[75]?.getD undef = .slice va vn vc := slv (hf.got 1 (by decide) (by simp [hd]) (fun j _ => by simp))
                  have f81 : LitI x (sl ax 81) W := hf.got 7 (by decide) (by simp [hd]) (fun j hj => by by_cases e : j = 8 <;> first | (subst e; rw [hL] at hj; cases hj; done) | (simp [e]; done))
                  refine ⟨fun _ => ?_, fun h => absurd trivial h⟩
                  obtain ⟨bl, e81, ty, fr, hrl⟩ := f81
                  have e81 := slv e81
                  obtain ⟨⟨sa', sn', sc'⟩, w', z1, z2, z3⟩ := app_line (s1 := ⟨va, vn, vc⟩) hfu hown hBw hlw bl 1 x hrl
                  dsimp only [Sl.v] at z1 z2
                  refine free_run (v := .slice sa' sn' sc') (W' := w') rfl ?_ z2 z3
                  go_simp
                · intro L ax W hf hL hq hd
                  try simp [Region.binds] at hd
                  have e8 : ax.tmps[8]?.getD undef = .pointer (some ⟨X, 0, none⟩) := hf.out 8 (by decide) rfl
                  refine ⟨fun _ => ?_, fun h => absurd trivial h⟩
                  refine free_run (v := .pointer (some ⟨X, 1, none⟩)) (W' := W) rfl ?_ rfl (Below.refl _ _)
                  go_simp
                · intro vs W hl' hF hb
                  obtain ⟨g', hg1, hg2⟩ := vs_litE vs hl' hF
                  have ho8 : AppI wr B3 gb (lw ++ [x]) (g' 8) W := hg2 8 (by decide) (fun j => by simp)
                  have e9 : g' 9 = .pointer (some ⟨X, 1, none⟩) := hg2 9 (by decide) (fun j => by simp)
                  obtain ⟨hsz9, ⟨sa', sn', sc'⟩, gb', hs8, hw8, hg8, hf8⟩ := ho8
                  dsimp only [Sl.v] at hs8
                  rw [hg1]
                  simp only [List.length_cons, List.length_nil, Nat.reduceAdd, show List.range 10 = [0, 1, 2, 3, 4, 5, 6, 7, 8, 9] from rfl, List.map_cons, List.map_nil, putL, List.zip_cons_cons, List.zip_nil_right, List.setIfInBounds_toArray, List.set_cons_succ, List.set_cons_zero, hs8, e9]
                  obtain ⟨hcell, hfz, hNM9, hbW⟩ := nm_com hNMf.out hw8 hb hf8 hg8
                  dsimp only [Sl.v] at hcell hNM9 hbW
                  have hB9 := Lib.hid (hBk.out.trans hbW)
                  replace hNM9 := Lib.hid hNM9
                  clear hg1 hg2 hs8 e9 hw8 hg8 hf8 hb hbW hl' hF cX cR hcx hNMf hown hsz9
                  go_wp2_with fail
                  go_roundw
                  case rel => exact ⟨i + 1, his.out, by go_num, Lib.hid ⟨_, _, _, _, _, _, by rw [hmin2.out, Hd.out]; exact hNM9.out⟩, hB9⟩
                  case measure =>
                    have := his.out
                    simp [intOf]
                    omega
          -- DEV>
        · obtain rfl : i = r.coming.length := by omega
          have t1 : ¬ ((r.coming.length : Nat) : Int) < (r.coming.length : Int) := by omega
          obtain ⟨ms1, hms1⟩ : ∃ x, x = setAll r.members (r.coming.take k1) 2 := ⟨_, rfl⟩
          obtain ⟨cl, hcl⟩ : ∃ x, x = r.coming.drop k1 := ⟨_, rfl⟩
          have hml : ms1.length = r.members.length := by rw [hms1, setAll_length]
          have hcll : cl.length ≤ 64 := by rw [hcl, List.length_drop]; omega
          have hN70 := Lib.hid (show NextM wr B3 X ⟨setAll ms1 (r.going.take (min 0 k2)) 4, cl, (r.going.take 0).drop k2, r.churn⟩ from by
            have := hNk.out
            rw [Nat.min_eq_right hk1l, List.take_length, ← hms1, ← hcl] at this
            simpa [setAll] using this)
          have hB7 := Lib.hid (hB6.out.trans (hBk.out.mono (Nat.le_of_lt hk03)))
          have hth7 := Lib.hid (there_below hBk.out hk23 hth6.out)
          have hRB7 := hRBk
          have c337 := Lib.hid ((hBk.out.cell (p := ⟨b1, 33, none⟩) hk13).trans c336.out)
          clear c336
          replace hms1 := Lib.hid hms1
          replace hcl := Lib.hid hcl
          clear hN hNk hB6 hRB6 hth6 hBk hRBk hi hix hXw hBw hN60
          go_upto_region 12 with fail
          clear q1 q2 hrw t1
          rename World => w7
          have hb77 := Lib.hid (Below.refl B3 w7)
          replace hml := Lib.hid hml
          go_loopw [12] (fun t W' => ∃ i : Nat, i ≤ r.going.length ∧ t = .int .i64 i ∧ Hid (NextM W' B3 X ⟨setAll ms1 (r.going.take (min i k2)) 4, cl, (r.going.take i).drop k2, r.churn⟩) ∧ Hid (Below B3 w7 W')) (fun t _ => r.going.length - (intOf t).toNat)
          case atStart => exact ⟨0, Nat.zero_le _, rfl, hN70, hb77⟩
          case round =>
            obtain ⟨i, hi, rfl, hNk, hBk⟩ := hrel
            obtain ⟨gm, s0, s1, s2, g1, g2, hN⟩ := hNk.out
            have hRBk := Lib.hid (show RBox wr w.heap.size _ r from ⟨(row?_below _ _ _ hBk.out hk03).trans hRB7.out.row, hrI.out.keep (hB7.out.trans (hBk.out.mono (Nat.le_of_lt hk03)))⟩)
            obtain ⟨-, q1, q2, -, hrw⟩ := hRBk.out.cells
            have hXw := hN.hX
            have hBw := Nat.le_trans hN.hB (Nat.le_of_lt hN.hX)
            dsimp only [Sl.v] at q1 q2
            by_cases hix : i < r.going.length
            · have hRk := hRBk.out.reg
              obtain ⟨bc, oc, e, hbcw, hcc⟩ := nums_at hRk.2.2.1 (by omega)
              have e1 := congrArg Sl.a e
              simp only at e1
              subst e1
              clear e
              have hcx := hcc i hix
              clear hcc hRk
              have hgetx := List.getElem?_eq_getElem hix
              obtain ⟨v1, v2⟩ := l2.out _ (List.getElem_mem hix)
              have Hdo := Lib.hid (fun h : k2 ≤ i => drop_take_out r.going i k2 h hix)
              generalize r.going[i] = x at *
              have t1 : (i : Int) < (r.going.length : Int) := by omega
              have t0 : (0 : Int) ≤ (i : Int) := by omega
              have x6 : IntKind.i64.wrap ((i : Int) + 1) = i + 1 := IntWalk.i64_in _ (by omega)
              have his := Lib.hid (show i + 1 ≤ r.going.length from hix)
              -- DEV<
              as_aux_lemma =>
                by_cases hik : i < k2
                · have u1 : (i : Int) < (k2 : Int) := by omega
                  have hmin : min i k2 = i := by omega
                  have hmin2 : min (i + 1) k2 = i + 1 := by omega
                  have hd1 : (r.going.take i).drop k2 = [] := drop_take_in _ _ _ (by omega)
                  have hd2 : (r.going.take (i + 1)).drop k2 = [] := drop_take_in _ _ _ (by omega)
                  obtain ⟨j, rfl⟩ : ∃ j : Nat, x = (j : Int) + 1 := ⟨(x - 1).toNat, by omega⟩
                  have hjl : j < r.members.length := by omega
                  have Hsn := Lib.hid (setAll_snoc ms1 r.going 4 i j hgetx)
                  rw [hmin, hd1] at hN
                  have c0 := hN.c0
                  have hs0 := hN.s0eq
                  simp only [setAll_length] at hs0
                  rw [hml.out] at hs0
                  obtain ⟨sa0, sn0, sc0⟩ := s0
                  injection hs0 with w1' w2' w3'
                  subst w1' w2'
                  clear w3'
                  dsimp only [Sl.v] at c0
                  have hgm0 := hN.lt
                  have hgX := hN.dX.1
                  have x1 : IntKind.i64.wrap ((j : Int) + 1 - 1) = (j : Int) := by rw [show (j : Int) + 1 - 1 = j by omega]; exact IntWalk.i64_in _ (by omega)
                  have x1' : IntKind.i64.wrap (j : Int) = (j : Int) := IntWalk.i64_in _ (by omega)
                  have j0 : (0 : Int) ≤ (j : Int) := by omega
                  have j1 : (j : Int) < (r.members.length : Int) := by omega
                  have hNm := Lib.hid hN
                  clear hN hix hi hik hmin hd1 hgetx v1 v2 hbl1 hbl2
                  replace hmin2 := Lib.hid hmin2
                  replace hd2 := Lib.hid hd2
                  go_upto_region 15 with fail
                  refine wp_region_freeB_l 9 (B3) [0, 1, 2, 3, 4, 5, 6, 7, 8, 9] (fun _ _ => true) (fun i W W' => if i = 9 then Below (B3) W W' else Below W.heap.size W W') (by kernel_rfl) [94, 95, 96, 97, 98, 99, 100, 101, 102, 103]
                    [Is (.pointer (some ⟨X, 0, none⟩)), Is (.slice (some ⟨gm, 0, none⟩) r.members.length sc0), Is (.pointer (some ⟨w.heap.size, 2, none⟩)), Is (.slice (some ⟨bc, oc, none⟩) r.going.length gcc), Is (.int .i64 (i : Int)), Is (.pointer (some ⟨bc, oc + i, none⟩)), Is (.int .i64 ((j : Int) + 1)), Is (.int .i64 (j : Int)), Is (.pointer (some ⟨gm, j * 35, none⟩)), PtW wr (.pointer (some ⟨gm, j * 35 + 33, none⟩))]
                    (by kernel_rfl) (by kernel_rfl) (fun i W W' h hb => by (split at h <;> first | exact hb.trans h | exact hb.trans (h.mono (Nat.le_trans (by assumption) hb.size)))) (fun i W W' hi h hb => by (rw [if_neg hi] at h; exact hb.trans (h.mono hb.size))) ?_ ?_
                  · intro i j hi hij hlv x W W' h hr
                    have hi : i < 10 := hi
                    try dsimp only at hlv hr
                    have hi : i = 0 ∨ i = 1 ∨ i = 2 ∨ i = 3 ∨ i = 4 ∨ i = 5 ∨ i = 6 ∨ i = 7 ∨ i = 8 ∨ i = 9 := by omega
                    rcases hi with rfl | rfl | rfl | rfl | rfl | rfl | rfl | rfl | rfl | rfl <;> first | exact h | (have hj : j ≠ 9 := by first | (intro e; subst e; simp at hlv; done) | (exact fun e => hij e.symm)) <;> (rw [if_neg hj] at hr; exact PtW.keep h hr)
                  · refine ⟨?_, ?_, ?_, ?_, ?_, ?_, ?_, ?_, ?_, ?_, ?_⟩
                    · intro L ax W hf hL hq hd
                      have hfu := hf.full (hq (by decide))
                      try simp [Region.binds] at hd
                      have e8 : ax.tmps[8]?.getD undef = .pointer (some ⟨X, 0, none⟩) := hf.out 8 (by decide) rfl
                      refine ⟨fun _ => ?_, fun h => absurd trivial h⟩
                      refine free_run (v := .pointer (some ⟨X, 0, none⟩)) (W' := W) rfl ?_ rfl (Below.refl _ _)
                      go_simp
                    · intro L ax W hf hL hq hd
                      have hfu := hf.full (hq (by decide))
                      simp [Region.binds] at hd
                      have e94 : ax.tmps[94]?.getD undef = .pointer (some ⟨X, 0, none⟩) := slv (hf.got 0 (by decide) (by simp [hd]) (fun j _ => by simp))
                      refine ⟨fun _ => ?_, fun h => absurd trivial h⟩
                      have h1 := (hfu.cell (p := ⟨X, 0, none⟩) hXw).trans c0
                      refine free_run (v := .slice (some ⟨gm, 0, none⟩) r.members.length sc0) (W' := W) rfl ?_ rfl (Below.refl _ _)
                      go_simp
                    · intro L ax W hf hL hq hd
                      have hfu := hf.full (hq (by decide))
                      try simp [Region.binds] at hd
                      have e3 : ax.tmps[3]?.getD undef = .pointer (some ⟨w.heap.size, 0, none⟩) := hf.out 3 (by decide) rfl
                      refine ⟨fun _ => ?_, fun h => absurd trivial h⟩
                      refine free_run (v := .pointer (some ⟨w.heap.size, 2, none⟩)) (W' := W) rfl ?_ rfl (Below.refl _ _)
                      go_simp
                    · intro L ax W hf hL hq hd
                      have hfu := hf.full (hq (by decide))
                      simp [Region.binds] at hd
                      have e96 : ax.tmps[96]?.getD undef = .pointer (some ⟨w.heap.size, 2, none⟩) := slv (hf.got 2 (by decide) (by simp [hd]) (fun j _ => by simp))
                      refine ⟨fun _ => ?_, fun h => absurd trivial h⟩
                      have h1 := (hfu.cell (p := ⟨w.heap.size, 2, none⟩) hrw).trans q2
                      refine free_run (v := .slice (some ⟨bc, oc, none⟩) r.going.length gcc) (W' := W) rfl ?_ rfl (Below.refl _ _)
                      go_simp
                    · intro L ax W hf hL hq hd
                      have hfu := hf.full (hq (by decide))
                      try simp [Region.binds] at hd
                      have e12 : ax.tmps[12]?.getD undef = .int .i64 (i : Int) := hf.out 12 (by decide) rfl
                      refine ⟨fun _ => ?_, fun h => absurd trivial h⟩
                      refine free_run (v := .int .i64 (i : Int)) (W' := W) rfl ?_ rfl (Below.refl _ _)
                      go_simp
                    · intro L ax W hf hL hq hd
                      have hfu := hf.full (hq (by decide))
                      simp [Region.binds] at hd
                      have e97 : ax.tmps[97]?.getD undef = .slice (some ⟨bc, oc, none⟩) r.going.length gcc := slv (hf.got 3 (by decide) (by simp [hd]) (fun j _ => by simp))
                      have e98 : ax.tmps[98]?.getD undef = .int .i64 (i : Int) := slv (hf.got 4 (by decide) (by simp [hd]) (fun j _ => by simp))
                      refine ⟨fun _ => ?_, fun h => absurd trivial h⟩
                      refine free_run (v := .pointer (some ⟨bc, oc + i, none⟩)) (W' := W) rfl ?_ rfl (Below.refl _ _)
                      go_simp
                    · intro L ax W hf hL hq hd
                      have hfu := hf.full (hq (by decide))
                      simp [Region.binds] at hd
                      have e99 : ax.tmps[99]?.getD undef = .pointer (some ⟨bc, oc + i, none⟩) := slv (hf.got 5 (by decide) (by simp [hd]) (fun j _ => by simp))
                      refine ⟨fun _ => ?_, fun h => absurd trivial h⟩
                      have h1 := (hfu.cell (p := ⟨bc, oc + i, none⟩) hbcw).trans hcx
                      refine free_run (v := .int .i64 ((j : Int) + 1)) (W' := W) rfl ?_ rfl (Below.refl _ _)
                      go_simp
                    · intro L ax W hf hL hq hd
                      have hfu := hf.full (hq (by decide))
                      simp [Region.binds] at hd
                      have e100 : ax.tmps[100]?.getD undef = .int .i64 ((j : Int) + 1) := slv (hf.got 6 (by decide) (by simp [hd]) (fun j _ => by simp))
                      refine ⟨fun _ => ?_, fun h => absurd trivial h⟩
                      refine free_run (v := .int .i64 (j : Int)) (W' := W) rfl ?_ rfl (Below.refl _ _)
                      go_simp
                    · intro L ax W hf hL hq hd
                      have hfu := hf.full (hq (by decide))
                      simp [Region.binds] at hd
                      have e95 : ax.tmps[95]?.getD undef = .slice (some ⟨gm, 0, none⟩) r.members.length sc0 := slv (hf.got 1 (by decide) (by simp [hd]) (fun j _ => by simp))
                      have e101 : ax.tmps[101]?.getD undef = .int .i64 (j : Int) := slv (hf.got 7 (by decide) (by simp [hd]) (fun j _ => by simp))
                      refine ⟨fun _ => ?_, fun h => absurd trivial h⟩
                      refine free_run (v := .pointer (some ⟨gm, j * 35, none⟩)) (W' := W) rfl ?_ rfl (Below.refl _ _)
                      go_simp
                    · intro L ax W hf hL hq hd
                      have hfu := hf.full (hq (by decide))
                      simp [Region.binds] at hd
                      have e102 : ax.tmps[102]?.getD undef = .pointer (some ⟨gm, j * 35, none⟩) := slv (hf.got 8 (by decide) (by simp [hd]) (fun j _ => by simp))
                      refine ⟨fun _ => ?_, fun h => absurd trivial h⟩
                      refine free_run (v := .pointer (some ⟨gm, j * 35 + 33, none⟩)) (W' := W) rfl ?_ ⟨rfl, hfu⟩ (Below.refl _ _)
                      go_simp
                    · intro vs W hl' hF hb
                      obtain ⟨g', hg1, hg2⟩ := vs_litE vs hl' hF
                      have ho9 : PtW wr (.pointer (some ⟨gm, j * 35 + 33, none⟩)) (g' 9) W := hg2 9 (by decide) (fun j => by simp)
                      obtain ⟨e9, hbW⟩ := ho9
                      rw [hg1]
                      simp only [List.length_cons, List.length_nil, Nat.reduceAdd, show List.range 10 = [0, 1, 2, 3, 4, 5, 6, 7, 8, 9] from rfl, List.map_cons, List.map_nil, putL, List.zip_cons_cons, List.zip_nil_right, List.setIfInBounds_toArray, List.set_cons_succ, List.set_cons_zero, e9]
                      obtain ⟨y1, y2, hNn, hBn⟩ := (hNm.out.keep hbW).setSt j (by simp only [setAll_length]; rw [hml.out]; exact hjl) 4
                      obtain ⟨sv, sq⟩ : ∃ sv : Int, W.cell? ⟨gm, j * 35 + 33, none⟩ = some (.int .i64 sv) := ⟨_, (mbr_cells ((hNm.out.keep hbW).mrow j (by simp only [setAll_length]; rw [hml.out]; exact hjl))).2.2.1⟩
                      have hBW := Lib.hid (hBk.out.trans ((hbW.mono hBw).trans hBn))
                      replace hNn := Lib.hid hNn
                      clear hg1 hg2 e9 hb hbW hl' hF c0 q2 hcx hNm hBn
                      go_wp2_with fail
                      go_roundw
                      case rel => exact ⟨i + 1, his.out, by go_num, Lib.hid ⟨_, _, _, _, _, _, by rw [hmin2.out, hd2.out, Hsn.out]; exact hNn.out⟩, hBW⟩
                      case measure =>
                        have := his.out
                        simp [intOf]
                        omega
                · have u1 : ¬ (i : Int) < (k2 : Int) := by omega
                  have hmin : min i k2 = k2 := by omega
                  have hmin2 := Lib.hid (show min (i + 1) k2 = min i k2 by omega)
                  have Hd := Lib.hid (Hdo.out (by omega))
                  have hl2 := l2.out
                  obtain ⟨lw, hlwe⟩ : ∃ l, l = (r.going.take i).drop k2 := ⟨_, rfl⟩
                  rw [← hlwe] at hN Hd
                  have hlw : lw.length ≤ 1000000 := by
                    rw [hlwe, List.length_drop, List.length_take]
                    omega
                  obtain ⟨va, vn, vc⟩ := s2
                  have cX : wr.cell? ⟨X, 2, none⟩ = some (.slice va vn vc) := hN.c2
                  have hown := hN.goi
                  dsimp only [Sl.v] at hown
                  have hNMf := Lib.hid hN
                  obtain ⟨lc, hlc⟩ : ∃ x, x = gcc := ⟨_, rfl⟩
                  rw [← hlc] at q2
                  have cR := q2
                  obtain ⟨gb, hgb⟩ : ∃ x, x = g2 := ⟨_, rfl⟩
                  rw [← hgb] at hown hNMf
                  clear q2 hlc hgb hN hix hi hik hmin hgetx v1 v2 Hdo hl2 hlwe hbl1 hbl2
                  go_upto_region 16 with fail
                  refine wp_region_freeB_l 8 (B3) [0, 1, 2, 3, 4, 5, 6, 7, 8] (fun i j => !(j == 8 && i == 7)) (fun i W W' => if i = 8 then Below (B3) W W' else Below W.heap.size W W') (by kernel_rfl) [104, 105, 106, 107, 108, 109, 110, 111, 112, 113]
                    [Is (.pointer (some ⟨X, 2, none⟩)), Is (.slice va vn vc), Is (.pointer (some ⟨w.heap.size, 2, none⟩)), Is (.slice (some ⟨bc, oc, none⟩) r.going.length lc), Is (.int .i64 (i : Int)), Is (.pointer (some ⟨bc, oc + i, none⟩)), Is (.int .i64 x), LitI x, AppI wr B3 gb (lw ++ [x]), Is (.pointer (some ⟨X, 2, none⟩))]
                    (by kernel_rfl) (by kernel_rfl) (fun i W W' h hb => by (split at h <;> first | exact hb.trans h | exact hb.trans (h.mono (Nat.le_trans (by assumption) hb.size)))) (fun i W W' hi h hb => by (rw [if_neg hi] at h; exact hb.trans (h.mono hb.size))) ?_ ?_
                  · intro i j hi hij hlv x W W' h hr
                    have hi : i < 10 := hi
                    try dsimp only at hlv hr
                    have hi : i = 0 ∨ i = 1 ∨ i = 2 ∨ i = 3 ∨ i = 4 ∨ i = 5 ∨ i = 6 ∨ i = 7 ∨ i = 8 ∨ i = 9 := by omega
                    rcases hi with rfl | rfl | rfl | rfl | rfl | rfl | rfl | rfl | rfl | rfl <;> first | exact h | (have hj : j ≠ 8 := by first | (intro e; subst e; simp at hlv; done) | (exact fun e => hij e.symm)) <;> (rw [if_neg hj] at hr; first | exact AppI.keep h hr | exact LitI.keep h hr)
                  · refine ⟨?_, ?_, ?_, ?_, ?_, ?_, ?_, ?_, ?_, ?_, ?_⟩
                    · intro L ax W hf hL hq hd
                      have hfu := hf.full (hq (by decide))
                      try simp [Region.binds] at hd
                      have e8 : ax.tmps[8]?.getD undef = .pointer (some ⟨X, 0, none⟩) := hf.out 8 (by decide) rfl
                      refine ⟨fun _ => ?_, fun h => absurd trivial h⟩
                      refine free_run (v := .pointer (some ⟨X, 2, none⟩)) (W' := W) rfl ?_ rfl (Below.refl _ _)
                      go_simp
                    · intro L ax W hf hL hq hd
                      have hfu := hf.full (hq (by decide))
                      simp [Region.binds] at hd
                      have e104 : ax.tmps[104]?.getD undef = .pointer (some ⟨X, 2, none⟩) := slv (hf.got 0 (by decide) (by simp [hd]) (fun j _ => by simp))
                      refine ⟨fun _ => ?_, fun h => absurd trivial h⟩
                      have h1 := (hfu.cell (p := ⟨X, 2, none⟩) hXw).trans cX
                      refine free_run (v := .slice va vn vc) (W' := W) rfl ?_ rfl (Below.refl _ _)
                      go_simp
                    · intro L ax W hf hL hq hd
                      have hfu := hf.full (hq (by decide))
                      try simp [Region.binds] at hd
                      have e3 : ax.tmps[3]?.getD undef = .pointer (some ⟨w.heap.size, 0, none⟩) := hf.out 3 (by decide) rfl
                      refine ⟨fun _ => ?_, fun h => absurd trivial h⟩
                      refine free_run (v := .pointer (some ⟨w.heap.size, 2, none⟩)) (W' := W) rfl ?_ rfl (Below.refl _ _)
                      go_simp
                    · intro L ax W hf hL hq hd
                      have hfu := hf.full (hq (by decide))
                      simp [Region.binds] at hd
                      have e106 : ax.tmps[106]?.getD undef = .pointer (some ⟨w.heap.size, 2, none⟩) := slv (hf.got 2 (by decide) (by simp [hd]) (fun j _ => by simp))
                      refine ⟨fun _ => ?_, fun h => absurd trivial h⟩
                      have h1 := (hfu.cell (p := ⟨w.heap.size, 2, none⟩) hrw).trans cR
                      refine free_run (v := .slice (some ⟨bc, oc, none⟩) r.going.length lc) (W' := W) rfl ?_ rfl (Below.refl _ _)
                      go_simp
                    · intro L ax W hf hL hq hd
                      have hfu := hf.full (hq (by decide))
                      try simp [Region.binds] at hd
                      have e12 : ax.tmps[12]?.getD undef = .int .i64 (i : Int) := hf.out 12 (by decide) rfl
                      refine ⟨fun _ => ?_, fun h => absurd trivial h⟩
                      refine free_run (v := .int .i64 (i : Int)) (W' := W) rfl ?_ rfl (Below.refl _ _)
                      go_simp
                    · intro L ax W hf hL hq hd
                      have hfu := hf.full (hq (by decide))
                      simp [Region.binds] at hd
                      have e107 : ax.tmps[107]?.getD undef = .slice (some ⟨bc, oc, none⟩) r.going.length lc := slv (hf.got 3 (by decide) (by simp [hd]) (fun j _ => by simp))
                      have e108 : ax.tmps[108]?.getD undef = .int .i64 (i : Int) := slv (hf.got 4 (by decide) (by simp [hd]) (fun j _ => by simp))
                      refine ⟨fun _ => ?_, fun h => absurd trivial h⟩
                      refine free_run (v := .pointer (some ⟨bc, oc + i, none⟩)) (W' := W) rfl ?_ rfl (Below.refl _ _)
                      go_simp
                    · intro L ax W hf hL hq hd
                      have hfu := hf.full (hq (by decide))
                      simp [Region.binds] at hd
                      have e109 : ax.tmps[109]?.getD undef = .pointer (some ⟨bc, oc + i, none⟩) := slv (hf.got 5 (by decide) (by simp [hd]) (fun j _ => by simp))
                      refine ⟨fun _ => ?_, fun h => absurd trivial h⟩
                      have h1 := (hfu.cell (p := ⟨bc, oc + i, none⟩) hbcw).trans hcx
                      refine free_run (v := .int .i64 x) (W' := W) rfl ?_ rfl (Below.refl _ _)
                      go_simp
                    · intro L ax W hf hL hq hd
                      have hfu := hf.full (hq (by decide))
                      simp [Region.binds] at hd
                      have e110 : ax.tmps[110]?.getD undef = .int .i64 x := slv (hf.got 6 (by decide) (by simp [hd]) (fun j _ => by simp))
                      refine ⟨fun _ => ?_, fun h => absurd trivial h⟩
                      have hbI := bsI_one x W
                      refine free_run (v := .slice (some ⟨W.heap.size, 0, none⟩) 1 1) (W' := W.alloc (.cells #[i64V x] 3)) rfl ?_ ⟨W.heap.size, rfl, _, _, heap_alloc_new W _⟩ (bel_a _ _)
                      go_simp
                    · intro L ax W hf hL hq hd
                      have hfu := hf.full (hq (by decide))
                      simp [Region.binds] at hd
                      have e105 : ax.tmps[105]?.getD undef = .slice va vn vc := slv (hf.got 1 (by decide) (by simp [hd]) (fun j _ => by simp))
                      have f111 : LitI x (sl ax 111) W := hf.got 7 (by decide) (by simp [hd]) (fun j hj => by by_cases e : j = 8 <;> first | (subst e; rw [hL] at hj; cases hj; done) | (simp [e]; done))
                      refine ⟨fun _ => ?_, fun h => absurd trivial h⟩
                      obtain ⟨bl, e111, ty, fr, hrl⟩ := f111
                      have e111 := slv e111
                      obtain ⟨⟨sa', sn', sc'⟩, w', z1, z2, z3⟩ := app_line (s1 := ⟨va, vn, vc⟩) hfu hown hBw hlw bl 1 x hrl
                      dsimp only [Sl.v] at z1 z2
                      refine free_run (v := .slice sa' sn' sc') (W' := w') rfl ?_ z2 z3
                      go_simp
                    · intro L ax W hf hL hq hd
                      try simp [Region.binds] at hd
                      have e8 : ax.tmps[8]?.getD undef = .pointer (some ⟨X, 0, none⟩) := hf.out 8 (by decide) rfl
                      refine ⟨fun _ => ?_, fun h => absurd trivial h⟩
                      refine free_run (v := .pointer (some ⟨X, 2, none⟩)) (W' := W) rfl ?_ rfl (Below.refl _ _)
                      go_simp
                    · intro vs W hl' hF hb
                      obtain ⟨g', hg1, hg2⟩ := vs_litE vs hl' hF
                      have ho8 : AppI wr B3 gb (lw ++ [x]) (g' 8) W := hg2 8 (by decide) (fun j => by simp)
                      have e9 : g' 9 = .pointer (some ⟨X, 2, none⟩) := hg2 9 (by decide) (fun j => by simp)
                      obtain ⟨hsz9, ⟨sa', sn', sc'⟩, gb', hs8, hw8, hg8, hf8⟩ := ho8
                      dsimp only [Sl.v] at hs8
                      rw [hg1]
                      simp only [List.length_cons, List.length_nil, Nat.reduceAdd, show List.range 10 = [0, 1, 2, 3, 4, 5, 6, 7, 8, 9] from rfl, List.map_cons, List.map_nil, putL, List.zip_cons_cons, List.zip_nil_right, List.setIfInBounds_toArray, List.set_cons_succ, List.set_cons_zero, hs8, e9]
                      obtain ⟨hcell, hfz, hNM9, hbW⟩ := nm_goi hNMf.out hw8 hb hf8 hg8
                      dsimp only [Sl.v] at hcell hNM9 hbW
                      have hB9 := Lib.hid (hBk.out.trans hbW)
                      replace hNM9 := Lib.hid hNM9
                      clear hg1 hg2 hs8 e9 hw8 hg8 hf8 hb hbW hl' hF cX cR hcx hNMf hown hsz9
                      go_wp2_with fail
                      go_roundw
                      case rel => exact ⟨i + 1, his.out, by go_num, Lib.hid ⟨_, _, _, _, _, _, by rw [hmin2.out, Hd.out]; exact hNM9.out⟩, hB9⟩
                      case measure =>
                        have := his.out
                        simp [intOf]
                        omega
              -- DEV>
            · obtain rfl : i = r.going.length := by omega
              have t1 : ¬ ((r.going.length : Nat) : Int) < (r.going.length : Int) := by omega
              have htr := Lib.hid (show turned r ((en - pn) * r.churn.toNat) = ⟨setAll (setAll r.members (r.coming.take k1) 2) (r.going.take k2) 4, r.coming.drop k1, r.going.drop k2, r.churn⟩ by
                rw [turned, ← hk1.out, ← hk2.out])
              have hPt := Lib.hid (turned_may hP1 ((en - pn) * r.churn.toNat))
              have hNz := Lib.hid (show NextM wr B3 X (turned r ((en - pn) * r.churn.toNat)) by
                have := hNk.out
                rw [Nat.min_eq_right hk2l, List.take_length, hms1.out, hcl.out] at this
                rw [htr.out]
                exact this)
              generalize turned r ((en - pn) * r.churn.toNat) = tr at *
              have hB8 := Lib.hid (hB7.out.trans (hBk.out.mono (Nat.le_of_lt hk03)))
              have hth8 := Lib.hid (there_below hBk.out hk23 hth7.out)
              have z33 := (hBk.out.cell (p := ⟨b1, 33, none⟩) hk13).trans c337.out
              obtain ⟨gp, ge, ⟨pa, pl, pc⟩⟩ := gh
              have hopl := (hhI.out.keep' hB8.out).2.2.1
              simp only at hopl
              subst hopl
              dsimp only [Sl.v] at z33
              have hz8 := hBk.out.size
              clear hN hNk hB7 hRB7 hth7 hBk hRBk hi hix hXw hBw hN70 hb77 c337 htr hml hcll hms1 hcl hbl1 hbl2 l1 l2 l5 hk1 hk2 hk1l hk2l l3 l4 hP1
              go_upto_region 18 with fail
              clear q1 q2 hrw t1
              rename World => w8
              have hbz0 := Lib.hid (Below.refl B3 w8)
              go_loopw [13] (fun t W' => ∃ (k : Nat) (rr : Reg), k ≤ h.ops.length ∧ t = .int .i64 k ∧ Hid (NextM W' B3 X rr) ∧ Hid (RegP rr) ∧ Hid (regNext r h parent = regOps rr (h.ops.drop k)) ∧ Hid (Below B3 w8 W')) (fun t _ => h.ops.length - (intOf t).toNat)
              case atStart => exact ⟨0, tr, Nat.zero_le _, rfl, hNz, hPt, HR, hbz0⟩
              case round =>
                  obtain ⟨ko, rr, hko, rfl, HNr, HPr, HRr, HBr⟩ := hrel
                  have hBwr := Lib.hid (hB8.out.trans (HBr.out.mono (Nat.le_of_lt hk03)))
                  have zth := there_below HBr.out hk23 hth8.out
                  have z33' := (HBr.out.cell (p := ⟨b1, 33, none⟩) hk13).trans z33
                  clear z33 hNz hPt HR
                  have x6 : IntKind.i64.wrap ((ko : Int) + 1) = ko + 1 := IntWalk.i64_in _ (by omega)
                  have hb1r : b1 < wr.heap.size := by
                    obtain ⟨_, _, _, _, _, _, hn⟩ := HNr.out
                    have := hn.hB
                    have := hn.hX
                    omega
                  by_cases hkx : ko < h.ops.length
                  · obtain ⟨bo, oo, e, hbo, hco⟩ := (OpsR.keep' hhI.out.2.2 hBwr.out).at (by omega)
                    have e1 := congrArg Sl.a e
                    simp only at e1
                    subst e1
                    clear e
                    obtain ⟨cs, hcx, g1, rfl, hv1⟩ := hco ko hkx
                    clear hco
                    have hmo := List.all_eq_true.1 Hops.out (h.ops[ko]) (List.getElem_mem hkx)
                    have hdr := List.drop_eq_getElem_cons hkx
                    generalize h.ops[ko] = o at *
                    have HRo := Lib.hid (show regNext r h parent = if (regOp rr o).2 = 0 then regOps (regOp rr o).1 (h.ops.drop (ko + 1)) else (zeroReg, (regOp rr o).2) by rw [HRr.out, hdr, regOps])
                    have k1o : (ko : Int) < (h.ops.length : Int) := by omega
                    have his := Lib.hid (show ko + 1 ≤ h.ops.length from hkx)
                    have hmk := opMay_kind hmo
                    have HP2 := Lib.hid (fun hz : (regOp rr o).2 = 0 => regOp_may HPr.out hmo hz)
                    replace hmo := Lib.hid hmo
                    clear hdr hkx hko HRr
                    go_upto_region 21 with fail
                    obtain ⟨W1, hW1, hr1, hB1, hz1⟩ := box_op wr g1
                    rw [← hW1]
                    clear hW1 hcx
                    obtain ⟨gm, s0, s1, s2, ga1, gb1, h0⟩ := HNr.out
                    have hXr := h0.hX
                    have hgr := h0.lt.2
                    have hBX := h0.hB
                    replace h0 := h0.keep hB1
                    have hth1 := Lib.hid (there_below hB1 (show b2 < wr.heap.size by omega) zth)
                    have hBX1 := Lib.hid (HBr.out.trans (hB1.mono (by omega)))
                    obtain ⟨oc0, ok0, os0, ov0⟩ := op_parts hr1
                    obtain ⟨o1, o2, o3, o4, -⟩ := hv1
                    obtain ⟨ob, hob⟩ : ∃ x, x = wr.heap.size := ⟨_, rfl⟩
                    rw [← hob] at oc0 ok0 os0 ov0 ⊢
                    have hO1 : ob < W1.heap.size := by omega
                    have hobX : X < ob := by omega
                    have hobg : gm < ob := by omega
                    clear hgr
                    have hobB : b2 < ob := by omega
                    rw [o1] at oc0
                    rw [o2] at ok0
                    rw [o3] at os0
                    rw [o4] at ov0
                    clear hob hr1 hB1 hz1 o1 o2 o3 o4 HNr HBr zth hbo z33' hb1r hXr
                    have hlen := HPr.out.len
                    have hX0 := h0.hX
                    rcases hmk with hk | hk
                    · as_aux_lemma =>
                        have hrow0 := h0.row
                        have c30 := h0.c3
                        have FZ := find_zero o.key rr.members
                        have HFB := find_bound o.key rr.members 0
                        rw [Nat.zero_add] at HFB
                        change 0 ≤ findI o.key rr.members ∧ findI o.key rr.members ≤ _ at HFB
                        have HF := rfind_c (g := ⟨s0, s1, s2, rr.churn⟩) h0.reg.1 (by omega) o.key
                        have HRd := Lib.hid (show regOp rr o = if keyIn o.key rr.members = true ∨ rr.churn.toNat < o.stake.toNat then (rr, 14) else if 64 ≤ rr.members.length then (rr, 5)
                          else (⟨rr.members ++ [⟨o.key, o.stake, 1, false⟩], rr.coming ++ [(rr.members.length : Int) + 1], rr.going, rr.churn⟩, 0) from if_pos hk)
                        rw [hk] at oc0
                        clear hk
                        have Hh := Lib.hid h0
                        clear h0
                        go_wp2_with fail
                        refine HF.mono ?_
                        clear HF
                        rintro e w3 ⟨rfl, hb⟩
                        have hN3 := Lib.hid (Hh.out.keep hb)
                        have hth := Lib.hid (there_below hb (show b2 < W1.heap.size by omega) hth1.out)
                        have hBe := Lib.hid (hBX1.out.trans (hb.mono (show B3 ≤ W1.heap.size by omega)))
                        have os3 := (hb.cell (p := ⟨ob, 33, none⟩) hO1).trans os0
                        have ok3 := (row?_below _ _ _ hb hO1).trans ok0
                        have c33 := (hb.cell (p := ⟨X, 3, none⟩) hX0).trans c30
                        have hX3 := hN3.out.hX
                        have hO3 : ob < w3.heap.size := Nat.lt_of_lt_of_le hO1 hb.size
                        clear Hh hth1 hBX1 hb os0 ok0 c30 oc0 hrow0 hX0 hO1
                        obtain ⟨sn, hsn⟩ : ∃ sn, sn = o.stake.toNat := ⟨_, rfl⟩
                        obtain ⟨cn, hcn⟩ : ∃ cn, cn = rr.churn.toNat := ⟨_, rfl⟩
                        rw [← hsn] at os3 HRd
                        rw [← hcn] at c33 HRd
                        replace hsn := Lib.hid hsn
                        replace hcn := Lib.hid hcn
                        cases hki : keyIn o.key rr.members
                        rotate_left
                        · have hf0 : (findI o.key rr.members != 0) = true := by
                            rw [bne_iff_ne]
                            intro e
                            rw [FZ.1 e] at hki
                            cases hki
                          have hbf : decide (findI o.key rr.members = 0) = false := by simpa using hf0
                          have Hr := Lib.hid (show regOp rr o = (rr, 14) by rw [HRd.out]; exact if_pos (.inl hki))
                          clear FZ hki HRd
                          have HR2 := Lib.hid (show regNext r h parent = (zeroReg, 14) by rw [HRo.out, show regOp rr o = (rr, 14) from Hr.out]; rfl)
                          have hzw := hBe.out.size
                          have hst := store_reg w3 b2 0 (regA zeroG4) rfl (onesReg _) hth.out
                          have hput : row? (putRow w3 b2 0 (regA zeroG4)) b2 0 4 = some (regA zeroG4) := row?_put_same _ _ _ _ _ (by rfl) (by omega) hth.out
                          have hpb : Below w.heap.size w (putRow w3 b2 0 (regA zeroG4)) := below_put (hB8.out.trans (hBe.out.mono (Nat.le_of_lt hk03))) (by omega) _ _
                          clear HRo HP2 hth 
                          go_wp2_with (with_reducible refine ret_row2 Try.isAgg103 Try.sizeOf103 rnext_res (x := .pointer (some ⟨b2, 0, none⟩)) (y := .int .i64 14) (b2) 0 ?rrhx (Eq.refl _) ?rrhy ?rrh ?rrhd ?rrhR; (case rrhx => simp only [Array.getD_eq_getD_getElem?, List.getElem?_toArray, List.getElem?_cons_succ, List.getElem?_cons_zero, Option.getD_some]); (case rrhy => simp only [Array.getD_eq_getD_getElem?, List.getElem?_toArray, List.getElem?_cons_succ, List.getElem?_cons_zero, Option.getD_some]); (case rrhd => exact rfl); (case rrh => go_simp); (case rrhR => ((exact next_done (g' := zeroG4) (by rw [HR2.out]) hput (by rw [HR2.out]; exact RegAt.zero _ _) hpb))))
                        · have hf0 : (findI o.key rr.members != 0) = false := by
                            rw [FZ.2 hki]
                            rfl
                          have hbf : decide (findI o.key rr.members = 0) = true := by simpa using hf0
                          clear FZ
                          by_cases hs : cn < sn
                          · have Hr := Lib.hid (show regOp rr o = (rr, 14) by rw [HRd.out]; exact if_pos (.inr hs))
                            have hs' : (cn : Int) < (sn : Int) := by omega
                            clear hki HRd hs
                            have HR2 := Lib.hid (show regNext r h parent = (zeroReg, 14) by rw [HRo.out, show regOp rr o = (rr, 14) from Hr.out]; rfl)
                            have hzw := hBe.out.size
                            have hst := store_reg w3 b2 0 (regA zeroG4) rfl (onesReg _) hth.out
                            have hput : row? (putRow w3 b2 0 (regA zeroG4)) b2 0 4 = some (regA zeroG4) := row?_put_same _ _ _ _ _ (by rfl) (by omega) hth.out
                            have hpb : Below w.heap.size w (putRow w3 b2 0 (regA zeroG4)) := below_put (hB8.out.trans (hBe.out.mono (Nat.le_of_lt hk03))) (by omega) _ _
                            clear HRo HP2 hth 
                            go_wp2_with (with_reducible refine ret_row2 Try.isAgg103 Try.sizeOf103 rnext_res (x := .pointer (some ⟨b2, 0, none⟩)) (y := .int .i64 14) (b2) 0 ?rrhx (Eq.refl _) ?rrhy ?rrh ?rrhd ?rrhR; (case rrhx => simp only [Array.getD_eq_getD_getElem?, List.getElem?_toArray, List.getElem?_cons_succ, List.getElem?_cons_zero, Option.getD_some]); (case rrhy => simp only [Array.getD_eq_getD_getElem?, List.getElem?_toArray, List.getElem?_cons_succ, List.getElem?_cons_zero, Option.getD_some]); (case rrhd => exact rfl); (case rrh => go_simp); (case rrhR => ((exact next_done (g' := zeroG4) (by rw [HR2.out]) hput (by rw [HR2.out]; exact RegAt.zero _ _) hpb))))
                          · replace HRd := Lib.hid (show regOp rr o = if 64 ≤ rr.members.length then (rr, 5) else (⟨rr.members ++ [⟨o.key, o.stake, 1, false⟩], rr.coming ++ [(rr.members.length : Int) + 1], rr.going, rr.churn⟩, 0) by
                              rw [HRd.out, if_neg]
                              rw [hki]
                              intro h
                              rcases h with h | h
                              · cases h
                              · omega)
                            have hs' : ¬ (cn : Int) < (sn : Int) := by omega
                            have c0 : w3.cell? ⟨X, 0, none⟩ = some (.slice (some ⟨gm, 0, none⟩) rr.members.length s0.c) := by
                              have := hN3.out.c0
                              rw [hN3.out.s0eq] at this
                              exact this
                            clear hki hs
                            by_cases h64 : 64 ≤ rr.members.length
                            · have Hr := Lib.hid (show regOp rr o = (rr, 5) by rw [HRd.out]; exact if_pos h64)
                              have h64' : (64 : Int) ≤ (rr.members.length : Int) := by omega
                              clear h64 HRd
                              have HR2 := Lib.hid (show regNext r h parent = (zeroReg, 5) by rw [HRo.out, show regOp rr o = (rr, 5) from Hr.out]; rfl)
                              have hzw := hBe.out.size
                              have hst := store_reg w3 b2 0 (regA zeroG4) rfl (onesReg _) hth.out
                              have hput : row? (putRow w3 b2 0 (regA zeroG4)) b2 0 4 = some (regA zeroG4) := row?_put_same _ _ _ _ _ (by rfl) (by omega) hth.out
                              have hpb : Below w.heap.size w (putRow w3 b2 0 (regA zeroG4)) := below_put (hB8.out.trans (hBe.out.mono (Nat.le_of_lt hk03))) (by omega) _ _
                              clear HRo HP2 hth 
                              go_wp2_with (with_reducible refine ret_row2 Try.isAgg103 Try.sizeOf103 rnext_res (x := .pointer (some ⟨b2, 0, none⟩)) (y := .int .i64 5) (b2) 0 ?rrhx (Eq.refl _) ?rrhy ?rrh ?rrhd ?rrhR; (case rrhx => simp only [Array.getD_eq_getD_getElem?, List.getElem?_toArray, List.getElem?_cons_succ, List.getElem?_cons_zero, Option.getD_some]); (case rrhy => simp only [Array.getD_eq_getD_getElem?, List.getElem?_toArray, List.getElem?_cons_succ, List.getElem?_cons_zero, Option.getD_some]); (case rrhd => exact rfl); (case rrh => go_simp); (case rrhR => ((exact next_done (g' := zeroG4) (by rw [HR2.out]) hput (by rw [HR2.out]; exact RegAt.zero _ _) hpb))))
                            · have Hr := Lib.hid (show regOp rr o = (⟨rr.members ++ [⟨o.key, o.stake, 1, false⟩], rr.coming ++ [(rr.members.length : Int) + 1], rr.going, rr.churn⟩, 0) by rw [HRd.out]; exact if_neg h64)
                              have h64' : ¬ (64 : Int) ≤ (rr.members.length : Int) := by omega
                              have hcl := HPr.out.coming.length_le
                              have HD := hN3.out
                              obtain ⟨s', w4, gm', e1, e2, e3, HN4, hB4, hz4⟩ := HD.app0 (by omega) ⟨o.key, o.stake, 1, false⟩
                              have hbm : ∀ W, (bldM #[(0, .agg (hashA o.key)), (1, .int .u64 (sn : Int)), (2, .int .i64 1)]).run Try.prog W = .ok (.agg (mbrA ⟨o.key, o.stake, 1, false⟩)) W := fun W => by
                                rw [hsn.out]
                                exact run_bldM _ _ _ _
                              have hbs := fun W => bsM_one ⟨o.key, o.stake, 1, false⟩ W
                              rw [HD.s0eq] at e1 e2
                              dsimp only [Sl.v] at e1 e2
                              obtain ⟨ua, un, uc⟩ := s'
                              dsimp only [Sl.v] at e1 e2 HN4 hB4
                              replace HN4 := Lib.hid HN4
                              have HR2 := Lib.hid (show regNext r h parent = regOps (regOp rr o).1 (h.ops.drop (ko + 1)) by rw [HRo.out, if_pos (by rw [Hr.out])])
                              have HPn := Lib.hid (HP2.out (by rw [Hr.out]))
                              have hBe4 := Lib.hid (hBe.out.trans hB4)
                              rw [Hr.out] at HR2 HPn
                              generalize (⟨o.key, o.stake, 1, false⟩ : Mbr) = m at *
                              clear HRd h64 HRo HP2 Hr HD hB4 hN3 hBe HFB
                              go_upto_region 27 with fail
                              clear e1 e2 e3 hbm hbs c0 c33 os3 ok3 hz4
                              generalize w4.setCell ⟨X, 0, none⟩ (.slice ua un uc) = W4 at *
                              have hX4 := HN4.out.hX
                              have hse := HN4.out.s0eq
                              injection hse with q1 q2 q3
                              clear q3
                              subst q1
                              simp only [List.length_append, List.length_singleton] at q2
                              subst q2
                              have d0 := HN4.out.c0
                              have d1 := HN4.out.c1
                              dsimp only [Sl.v] at d0
                              obtain ⟨t', w5', g1', f1, f2, f3, HN5, hB5, hz5⟩ := HN4.out.app1 (by simp only; omega) ((rr.members.length : Int) + 1)
                              obtain ⟨va, vn, vc⟩ := t'
                              dsimp only [Sl.v] at f1 f2 HN5 hB5 d1
                              have hbi := fun W => bsI_one ((rr.members.length : Int) + 1) W
                              replace HN5 := Lib.hid HN5
                              replace hBe4 := Lib.hid (hBe4.out.trans hB5)
                              have kl := Lib.hid hlen
                              clear hB5 hlen hcl HN4
                              go_wp2_with fail
                              go_roundw
                              case rel => exact ⟨ko + 1, _, his.out, by go_num, Lib.hid ⟨_, _, _, _, _, _, HN5.out⟩, HPn, HR2, hBe4⟩
                              case measure =>
                                have := his.out
                                simp [intOf]
                                omega
                    · obtain ⟨v1, v2⟩ := opMay_val hmo.out (by rcases hk with h | h <;> rw [h] <;> decide)
                      have hse := h0.s0eq
                      obtain ⟨sa, sn0, sc⟩ := s0
                      injection hse with q1 q2 q3
                      subst q1 q2
                      clear q3
                      have c0 := h0.c0
                      dsimp only [Sl.v] at c0
                      generalize hkk : o.kind = kk at *
                      have k1b : (kk == 1) = false := by rcases hk with h | h <;> rw [h] <;> rfl
                      have k1d : decide (kk = 1) = false := by rcases hk with h | h <;> rw [h] <;> rfl
                      have k1n : ¬ kk = 1 := by rcases hk with h | h <;> rw [h] <;> decide
                      generalize hvv : o.validator = v at *
                      by_cases hv : (rr.members.length : Int) < v
                      · have Hr := Lib.hid (show regOp rr o = (rr, 14) by
                          rcases hk with h | h
                          · rw [regOp_exit (by rw [hkk, h]), hvv, if_pos hv]
                          · rw [regOp_slash (by rw [hkk, h]), hvv, if_pos hv])
                        have hth := hth1
                        have hBe := hBX1
                        have hN := Lib.hid h0
                        clear hkk hvv hk h0
                        have HR2 := Lib.hid (show regNext r h parent = (zeroReg, 14) by rw [HRo.out, show regOp rr o = (rr, 14) from Hr.out]; rfl)
                        have hzw := hBe.out.size
                        have hst := store_reg W1 b2 0 (regA zeroG4) rfl (onesReg _) hth.out
                        have hput : row? (putRow W1 b2 0 (regA zeroG4)) b2 0 4 = some (regA zeroG4) := row?_put_same _ _ _ _ _ (by rfl) (by omega) hth.out
                        have hpb : Below w.heap.size w (putRow W1 b2 0 (regA zeroG4)) := below_put (hB8.out.trans (hBe.out.mono (Nat.le_of_lt hk03))) (by omega) _ _
                        clear HRo HP2 hth 
                        go_wp2_with (with_reducible refine ret_row2 Try.isAgg103 Try.sizeOf103 rnext_res (x := .pointer (some ⟨b2, 0, none⟩)) (y := .int .i64 14) (b2) 0 ?rrhx (Eq.refl _) ?rrhy ?rrh ?rrhd ?rrhR; (case rrhx => simp only [Array.getD_eq_getD_getElem?, List.getElem?_toArray, List.getElem?_cons_succ, List.getElem?_cons_zero, Option.getD_some]); (case rrhy => simp only [Array.getD_eq_getD_getElem?, List.getElem?_toArray, List.getElem?_cons_succ, List.getElem?_cons_zero, Option.getD_some]); (case rrhd => exact rfl); (case rrh => go_simp); (case rrhR => ((exact next_done (g' := zeroG4) (by rw [HR2.out]) hput (by rw [HR2.out]; exact RegAt.zero _ _) hpb))))
                      · obtain ⟨i, rfl⟩ : ∃ i : Nat, v = (i : Int) + 1 := ⟨(v - 1).toNat, by omega⟩
                        have hi : i < rr.members.length := by omega
                        have HE := Lib.hid (show kk = 2 → regOp rr o = if leavesB rr ((i : Int) + 1) then (leave rr ((i : Int) + 1), 0) else (rr, 14) from fun h => by
                          rw [regOp_exit (by rw [hkk, h]), hvv, if_neg hv])
                        have HS := Lib.hid (show kk = 3 → regOp rr o = if (rr.members[i]).marked = true ∨ votes (rr.members[i]).status = false then (rr, 14) else (leave ⟨markAt rr.members i, rr.coming, rr.going, rr.churn⟩ ((i : Int) + 1), 0) from fun h => by
                          rw [regOp_slash (by rw [hkk, h]), hvv, if_neg hv, show ((i : Int) + 1 - 1).toNat = i by omega, getD_of (List.getElem?_eq_getElem hi)])
                        have x1 : IntKind.i64.wrap ((i : Int) + 1 - 1) = i := by rw [show (i : Int) + 1 - 1 = i by omega]; exact IntWalk.i64_in _ (by omega)
                        have x1' : IntKind.i64.wrap (i : Int) = i := IntWalk.i64_in _ (by omega)
                        have j0 : (0 : Int) ≤ (i : Int) := by omega
                        have j1 : (i : Int) < (rr.members.length : Int) := by omega
                        have hv' : ¬ (rr.members.length : Int) < (i : Int) + 1 := hv
                        clear hkk hvv hv
                        have hrow := h0.mrow i hi
                        obtain ⟨-, -, q2, q3⟩ := mbr_cells hrow
                        have hrow0 := h0.row
                        have HO := rothers_c h0.reg (show rr.members.length ≤ 1000000 by omega) ((i : Int) + 1)
                        have hlb : leavesB rr ((i : Int) + 1) = (decide ((rr.members[i]).status = 2) && decide (0 < oth rr.members ((i : Int) + 1) rr.members.length)) := by
                          rw [leavesB, show ((i : Int) + 1 - 1).toNat = i by omega, getD_of (List.getElem?_eq_getElem hi)]
                        have HLM := Lib.hid (leavesB_mark rr i ((i : Int) + 1))
                        have HFS := Lib.hid (flat_same rr.members i hi)
                        have hml := Lib.hid (mark_length rr.members i)
                        generalize hmm : rr.members[i] = m at *
                        replace hmm := Lib.hid hmm
                        obtain ⟨mst, hmst⟩ : ∃ x, x = m.status := ⟨_, rfl⟩
                        rw [← hmst] at q2 hlb HS
                        obtain ⟨mk, hmk⟩ : ∃ x, x = m.marked := ⟨_, rfl⟩
                        rw [← hmk] at q3 HS HFS
                        obtain ⟨oi, hoi⟩ : ∃ oi : Int, oi = ((oth rr.members ((i : Int) + 1) rr.members.length : Nat) : Int) := ⟨_, rfl⟩
                        rw [← hoi] at HO
                        have hlb2 : leavesB rr ((i : Int) + 1) = (decide (mst = 2) && decide (0 < oi)) := by
                          rw [hlb]
                          congr 1
                          exact decide_eq_decide.2 (by omega)
                        obtain ⟨lb, hlbe⟩ : ∃ x, x = leavesB rr ((i : Int) + 1) := ⟨_, rfl⟩
                        rw [← hlbe] at hlb2 HE HLM
                        have hgm1 := h0.lt.2
                        have Hh := Lib.hid h0
                        replace hmst := Lib.hid hmst
                        replace hmk := Lib.hid hmk
                        replace hlbe := Lib.hid hlbe
                        replace hk := Lib.hid hk
                        have hi' := Lib.hid hi
                        clear hoi hlb h0
                        go_upto_region 31 with fail
                        go_cut [16] from 114 to 238 (fun u W => u = .bool lb ∧ Hid (Below W1.heap.size W1 W))
                        case first =>
                          as_aux_lemma =>
                            by_cases hst2 : mst = 2
                            · subst hst2
                              by_cases ho : 0 < oi
                              · have e0 : lb = true := by rw [hlb2]; simpa using ho
                                subst e0
                                have hod : decide (0 < oi) = true := by simpa using ho
                                clear hlb2
                                go_wp2_with fail
                                refine HO.mono ?_
                                rintro e w4 ⟨rfl, hb⟩
                                replace hb := Lib.hid hb
                                go_wp2_with fail
                                go_meet
                                exact ⟨rfl, hb⟩
                              · have e0 : lb = false := by rw [hlb2]; simpa using ho
                                subst e0
                                have hod : decide (0 < oi) = false := by simpa using ho
                                clear hlb2
                                go_wp2_with fail
                                refine HO.mono ?_
                                rintro e w4 ⟨rfl, hb⟩
                                replace hb := Lib.hid hb
                                go_wp2_with fail
                                go_meet
                                exact ⟨rfl, hb⟩
                            · have e0 : lb = false := by rw [hlb2]; simp [hst2]
                              subst e0
                              have hsd : decide (mst = 2) = false := by simpa using hst2
                              have hsb : (mst == 2) = false := by simpa using hst2
                              clear hlb2 HO
                              have hb := Lib.hid (Below.refl W1.heap.size W1)
                              go_wp2_with fail
                              go_meet
                              exact ⟨rfl, hb⟩
                        case rest =>
                          obtain ⟨rfl, hb⟩ := hcut
                          rename World => w4
                          have hN4 := Hh.out.keep hb.out
                          have oc4 := (hb.out.cell (p := ⟨ob, 0, none⟩) hO1).trans oc0
                          have ov4 := (hb.out.cell (p := ⟨ob, 34, none⟩) hO1).trans ov0
                          have hX4 := hN4.hX
                          have hO4 : ob < w4.heap.size := Nat.lt_of_lt_of_le hO1 hb.out.size
                          have hth4 := Lib.hid (there_below hb.out (show b2 < W1.heap.size by omega) hth1.out)
                          have hBe4 := Lib.hid (hBX1.out.trans (hb.out.mono (show B3 ≤ W1.heap.size by omega)))
                          have hrow4 := hN4.mrow i hi
                          rw [hmm.out] at hrow4
                          obtain ⟨-, -, q24, q34⟩ := mbr_cells hrow4
                          rw [← hmk.out] at q34
                          have hgm4 := hN4.lt.2
                          have Hh4 := Lib.hid hN4
                          clear hN4 Hh hb oc0 ov0 ok0 os0 hrow hrow0 q2 q3 HO hlb2 hth1 hBX1 c0 hgm1 hX0 hO1
                          rcases hk.out with hk2 | hk3
                          · as_aux_lemma =>
                              subst hk2
                              replace HE := Lib.hid (HE.out rfl)
                              clear HS k1b k1d k1n hk
                              cases lb
                              · have Hr := Lib.hid (show regOp rr o = (rr, 14) by rw [HE.out]; rfl)
                                have hth := hth4
                                have hBe := hBe4
                                clear HE hrow4 hth4 hBe4
                                have HR2 := Lib.hid (show regNext r h parent = (zeroReg, 14) by rw [HRo.out, show regOp rr o = (rr, 14) from Hr.out]; rfl)
                                have hzw := hBe.out.size
                                have hst := store_reg w4 b2 0 (regA zeroG4) rfl (onesReg _) hth.out
                                have hput : row? (putRow w4 b2 0 (regA zeroG4)) b2 0 4 = some (regA zeroG4) := row?_put_same _ _ _ _ _ (by rfl) (by omega) hth.out
                                have hpb : Below w.heap.size w (putRow w4 b2 0 (regA zeroG4)) := below_put (hB8.out.trans (hBe.out.mono (Nat.le_of_lt hk03))) (by omega) _ _
                                clear HRo HP2 hth 
                                go_wp2_with (with_reducible refine ret_row2 Try.isAgg103 Try.sizeOf103 rnext_res (x := .pointer (some ⟨b2, 0, none⟩)) (y := .int .i64 14) (b2) 0 ?rrhx (Eq.refl _) ?rrhy ?rrh ?rrhd ?rrhR; (case rrhx => simp only [Array.getD_eq_getD_getElem?, List.getElem?_toArray, List.getElem?_cons_succ, List.getElem?_cons_zero, Option.getD_some]); (case rrhy => simp only [Array.getD_eq_getD_getElem?, List.getElem?_toArray, List.getElem?_cons_succ, List.getElem?_cons_zero, Option.getD_some]); (case rrhd => exact rfl); (case rrh => go_simp); (case rrhR => ((exact next_done (g' := zeroG4) (by rw [HR2.out]) hput (by rw [HR2.out]; exact RegAt.zero _ _) hpb))))
                              · obtain ⟨a1, a2, HN5, hB5⟩ := Hh4.out.setM rr.members rfl (i * 35 + 34) (.bool mk) (by omega) HFS.out
                                cases mk
                                · skip
                                  have ov5 : (w4.setCell ⟨gm, i * 35 + 34, none⟩ (.bool false)).cell? ⟨ob, 34, none⟩ = some (.int .i64 ((i : Int) + 1)) := by
                                    rw [World.cell?_setCell_other w4 _ _ _ (by intro e; have e2 := congrArg Addr.block e; simp only at e2; omega)]
                                    exact ov4
                                  have hBe5 := Lib.hid (hBe4.out.trans hB5)
                                  have Hr := Lib.hid (show regOp rr o = (⟨setSt (rr.members) i 3, rr.coming, rr.going ++ [(i : Int) + 1], rr.churn⟩, 0) by rw [HE.out, if_pos rfl, leave, ← hlbe.out, if_pos rfl, show ((i : Int) + 1 - 1).toNat = i by omega])
                                  have HR2 := Lib.hid (show regNext r h parent = regOps (regOp rr o).1 (h.ops.drop (ko + 1)) by rw [HRo.out, if_pos (by rw [Hr.out])])
                                  have HPn := Lib.hid (HP2.out (by rw [Hr.out]))
                                  rw [Hr.out] at HR2 HPn
                                  have hgl := HPr.out.going.length_le
                                  obtain ⟨y1, y2, HN6, hB6'⟩ := HN5.setSt i (by have := hml.out; simp only; omega) 3
                                  obtain ⟨sv, sq⟩ : ∃ sv : Int, (w4.setCell ⟨gm, i * 35 + 34, none⟩ (.bool false)).cell? ⟨gm, i * 35 + 33, none⟩ = some (.int .i64 sv) := ⟨_, (mbr_cells (HN5.mrow i (by have := hml.out; simp only; omega))).2.2.1⟩
                                  replace HN6 := Lib.hid HN6
                                  replace hBe5 := Lib.hid (hBe5.out.trans hB6')
                                  have kl := Lib.hid hlen
                                  replace hgl := Lib.hid hgl
                                  have hii := Lib.hid hi
                                  clear hB5 hB6' HN5 Hr HRo HP2 HLM hlen hmm hi hth4 hrow4 Hh4 hBe4
                                  go_upto_region 36 with fail
                                  generalize w4.setCell ⟨gm, i * 35 + 34, none⟩ (.bool false) = W5 at *
                                  have ov6 : (W5.setCell ⟨gm, i * 35 + 33, none⟩ (.int .i64 3)).cell? ⟨ob, 34, none⟩ = some (.int .i64 ((i : Int) + 1)) := by
                                    rw [World.cell?_setCell_other W5 _ _ _ (by intro e; have e2 := congrArg Addr.block e; simp only at e2; omega)]
                                    exact ov5
                                  go_upto_region 37 with fail
                                  clear y1 y2 sq ov5 a1 a2 q24 q34
                                  generalize W5.setCell ⟨gm, i * 35 + 33, none⟩ (.int .i64 3) = W6 at *
                                  have hX6 := HN6.out.hX
                                  have hO6 := HN6.out.c2
                                  obtain ⟨t', w7', gb', f1, f2, f3, HN7, hB7', hz7⟩ := HN6.out.app2 (by have := hgl.out; have := kl.out; simp only; omega) ((i : Int) + 1)
                                  obtain ⟨va, vn, vc⟩ := t'
                                  obtain ⟨sa2, sn2, sc2⟩ := s2
                                  dsimp only [Sl.v] at f1 f2 HN7 hB7' hO6
                                  have hbi := fun W => bsI_one ((i : Int) + 1) W
                                  replace HN7 := Lib.hid HN7
                                  replace hBe5 := Lib.hid (hBe5.out.trans hB7')
                                  clear hB7' HN6
                                  go_wp2_with fail
                                  go_roundw
                                  case rel => exact ⟨ko + 1, _, his.out, by go_num, Lib.hid ⟨_, _, _, _, _, _, HN7.out⟩, HPn, HR2, hBe5⟩
                                  case measure =>
                                    have := his.out
                                    simp [intOf]
                                    omega
                                · skip
                                  have ov5 : (w4.setCell ⟨gm, i * 35 + 34, none⟩ (.bool true)).cell? ⟨ob, 34, none⟩ = some (.int .i64 ((i : Int) + 1)) := by
                                    rw [World.cell?_setCell_other w4 _ _ _ (by intro e; have e2 := congrArg Addr.block e; simp only at e2; omega)]
                                    exact ov4
                                  have hBe5 := Lib.hid (hBe4.out.trans hB5)
                                  have Hr := Lib.hid (show regOp rr o = (⟨setSt (rr.members) i 3, rr.coming, rr.going ++ [(i : Int) + 1], rr.churn⟩, 0) by rw [HE.out, if_pos rfl, leave, ← hlbe.out, if_pos rfl, show ((i : Int) + 1 - 1).toNat = i by omega])
                                  have HR2 := Lib.hid (show regNext r h parent = regOps (regOp rr o).1 (h.ops.drop (ko + 1)) by rw [HRo.out, if_pos (by rw [Hr.out])])
                                  have HPn := Lib.hid (HP2.out (by rw [Hr.out]))
                                  rw [Hr.out] at HR2 HPn
                                  have hgl := HPr.out.going.length_le
                                  obtain ⟨y1, y2, HN6, hB6'⟩ := HN5.setSt i (by have := hml.out; simp only; omega) 3
                                  obtain ⟨sv, sq⟩ : ∃ sv : Int, (w4.setCell ⟨gm, i * 35 + 34, none⟩ (.bool true)).cell? ⟨gm, i * 35 + 33, none⟩ = some (.int .i64 sv) := ⟨_, (mbr_cells (HN5.mrow i (by have := hml.out; simp only; omega))).2.2.1⟩
                                  replace HN6 := Lib.hid HN6
                                  replace hBe5 := Lib.hid (hBe5.out.trans hB6')
                                  have kl := Lib.hid hlen
                                  replace hgl := Lib.hid hgl
                                  have hii := Lib.hid hi
                                  clear hB5 hB6' HN5 Hr HRo HP2 HLM hlen hmm hi hth4 hrow4 Hh4 hBe4
                                  go_upto_region 36 with fail
                                  generalize w4.setCell ⟨gm, i * 35 + 34, none⟩ (.bool true) = W5 at *
                                  have ov6 : (W5.setCell ⟨gm, i * 35 + 33, none⟩ (.int .i64 3)).cell? ⟨ob, 34, none⟩ = some (.int .i64 ((i : Int) + 1)) := by
                                    rw [World.cell?_setCell_other W5 _ _ _ (by intro e; have e2 := congrArg Addr.block e; simp only at e2; omega)]
                                    exact ov5
                                  go_upto_region 37 with fail
                                  clear y1 y2 sq ov5 a1 a2 q24 q34
                                  generalize W5.setCell ⟨gm, i * 35 + 33, none⟩ (.int .i64 3) = W6 at *
                                  have hX6 := HN6.out.hX
                                  have hO6 := HN6.out.c2
                                  obtain ⟨t', w7', gb', f1, f2, f3, HN7, hB7', hz7⟩ := HN6.out.app2 (by have := hgl.out; have := kl.out; simp only; omega) ((i : Int) + 1)
                                  obtain ⟨va, vn, vc⟩ := t'
                                  obtain ⟨sa2, sn2, sc2⟩ := s2
                                  dsimp only [Sl.v] at f1 f2 HN7 hB7' hO6
                                  have hbi := fun W => bsI_one ((i : Int) + 1) W
                                  replace HN7 := Lib.hid HN7
                                  replace hBe5 := Lib.hid (hBe5.out.trans hB7')
                                  clear hB7' HN6
                                  go_wp2_with fail
                                  go_roundw
                                  case rel => exact ⟨ko + 1, _, his.out, by go_num, Lib.hid ⟨_, _, _, _, _, _, HN7.out⟩, HPn, HR2, hBe5⟩
                                  case measure =>
                                    have := his.out
                                    simp [intOf]
                                    omega
                          · as_aux_lemma =>
                              subst hk3
                              replace HS := Lib.hid (HS.out rfl)
                              clear HE k1b k1d k1n hk HFS
                              cases mk
                              rotate_left
                              · have Hr := Lib.hid (show regOp rr o = (rr, 14) by rw [HS.out]; exact if_pos (.inl rfl))
                                have hth := hth4
                                have hBe := hBe4
                                clear HS hrow4 hth4 hBe4
                                have HR2 := Lib.hid (show regNext r h parent = (zeroReg, 14) by rw [HRo.out, show regOp rr o = (rr, 14) from Hr.out]; rfl)
                                have hzw := hBe.out.size
                                have hst := store_reg w4 b2 0 (regA zeroG4) rfl (onesReg _) hth.out
                                have hput : row? (putRow w4 b2 0 (regA zeroG4)) b2 0 4 = some (regA zeroG4) := row?_put_same _ _ _ _ _ (by rfl) (by omega) hth.out
                                have hpb : Below w.heap.size w (putRow w4 b2 0 (regA zeroG4)) := below_put (hB8.out.trans (hBe.out.mono (Nat.le_of_lt hk03))) (by omega) _ _
                                clear HRo HP2 hth 
                                go_wp2_with (with_reducible refine ret_row2 Try.isAgg103 Try.sizeOf103 rnext_res (x := .pointer (some ⟨b2, 0, none⟩)) (y := .int .i64 14) (b2) 0 ?rrhx (Eq.refl _) ?rrhy ?rrh ?rrhd ?rrhR; (case rrhx => simp only [Array.getD_eq_getD_getElem?, List.getElem?_toArray, List.getElem?_cons_succ, List.getElem?_cons_zero, Option.getD_some]); (case rrhy => simp only [Array.getD_eq_getD_getElem?, List.getElem?_toArray, List.getElem?_cons_succ, List.getElem?_cons_zero, Option.getD_some]); (case rrhd => exact rfl); (case rrh => go_simp); (case rrhR => ((exact next_done (g' := zeroG4) (by rw [HR2.out]) hput (by rw [HR2.out]; exact RegAt.zero _ _) hpb))))
                              have HV := rvotes_c m w4
                              rw [← hmst.out] at HV
                              obtain ⟨ac, hac⟩ : ∃ x, x = votes mst := ⟨_, rfl⟩
                              rw [← hac] at HV HS
                              clear hac
                              go_wp2_with fail
                              refine HV.mono ?_
                              clear HV
                              rintro e w5 ⟨rfl, hb⟩
                              have hN5 := Hh4.out.keep hb
                              replace oc4 := (hb.cell (p := ⟨ob, 0, none⟩) hO4).trans oc4
                              replace ov4 := (hb.cell (p := ⟨ob, 34, none⟩) hO4).trans ov4
                              replace q24 := (hb.cell (p := ⟨gm, i * 35 + 33, none⟩) hgm4).trans q24
                              replace q34 := (hb.cell (p := ⟨gm, i * 35 + 34, none⟩) hgm4).trans q34
                              replace hth4 := Lib.hid (there_below hb (show b2 < w4.heap.size by omega) hth4.out)
                              replace hBe4 := Lib.hid (hBe4.out.trans (hb.mono (show B3 ≤ w4.heap.size by omega)))
                              replace hX4 := hN5.hX
                              replace hgm4 := hN5.lt.2
                              replace hO4 : ob < w5.heap.size := Nat.lt_of_lt_of_le hO4 hb.size
                              replace Hh4 := Lib.hid hN5
                              clear hb hN5
                              cases ac
                              · have Hr := Lib.hid (show regOp rr o = (rr, 14) by rw [HS.out]; exact if_pos (.inr rfl))
                                have hth := hth4
                                have hBe := hBe4
                                clear HS hrow4 hth4 hBe4
                                have HR2 := Lib.hid (show regNext r h parent = (zeroReg, 14) by rw [HRo.out, show regOp rr o = (rr, 14) from Hr.out]; rfl)
                                have hzw := hBe.out.size
                                have hst := store_reg w5 b2 0 (regA zeroG4) rfl (onesReg _) hth.out
                                have hput : row? (putRow w5 b2 0 (regA zeroG4)) b2 0 4 = some (regA zeroG4) := row?_put_same _ _ _ _ _ (by rfl) (by omega) hth.out
                                have hpb : Below w.heap.size w (putRow w5 b2 0 (regA zeroG4)) := below_put (hB8.out.trans (hBe.out.mono (Nat.le_of_lt hk03))) (by omega) _ _
                                clear HRo HP2 hth 
                                go_wp2_with (with_reducible refine ret_row2 Try.isAgg103 Try.sizeOf103 rnext_res (x := .pointer (some ⟨b2, 0, none⟩)) (y := .int .i64 14) (b2) 0 ?rrhx (Eq.refl _) ?rrhy ?rrh ?rrhd ?rrhR; (case rrhx => simp only [Array.getD_eq_getD_getElem?, List.getElem?_toArray, List.getElem?_cons_succ, List.getElem?_cons_zero, Option.getD_some]); (case rrhy => simp only [Array.getD_eq_getD_getElem?, List.getElem?_toArray, List.getElem?_cons_succ, List.getElem?_cons_zero, Option.getD_some]); (case rrhd => exact rfl); (case rrh => go_simp); (case rrhR => ((exact next_done (g' := zeroG4) (by rw [HR2.out]) hput (by rw [HR2.out]; exact RegAt.zero _ _) hpb))))
                              · obtain ⟨a1, a2, HN5, hB5⟩ := Hh4.out.setMk i hi
                                cases lb
                                · have Hr := Lib.hid (show regOp rr o = (⟨markAt rr.members i, rr.coming, rr.going, rr.churn⟩, 0) by rw [HS.out, if_neg (by simp), leave, HLM.out, if_neg (by simp)])
                                  have HR2 := Lib.hid (show regNext r h parent = regOps (regOp rr o).1 (h.ops.drop (ko + 1)) by rw [HRo.out, if_pos (by rw [Hr.out])])
                                  have HPn := Lib.hid (HP2.out (by rw [Hr.out]))
                                  rw [Hr.out] at HR2 HPn
                                  have hBe5 := Lib.hid (hBe4.out.trans hB5)
                                  replace HN5 := Lib.hid HN5
                                  clear HRo HP2 HLM Hr hB5 hrow4 Hh4 hBe4 hth4
                                  go_wp2_with fail
                                  go_roundw
                                  case rel => exact ⟨ko + 1, _, his.out, by go_num, Lib.hid ⟨_, _, _, _, _, _, HN5.out⟩, HPn, HR2, hBe5⟩
                                  case measure =>
                                    have := his.out
                                    simp [intOf]
                                    omega
                                · skip
                                  have ov5 : (w5.setCell ⟨gm, i * 35 + 34, none⟩ (.bool true)).cell? ⟨ob, 34, none⟩ = some (.int .i64 ((i : Int) + 1)) := by
                                    rw [World.cell?_setCell_other w5 _ _ _ (by intro e; have e2 := congrArg Addr.block e; simp only at e2; omega)]
                                    exact ov4
                                  have hBe5 := Lib.hid (hBe4.out.trans hB5)
                                  have Hr := Lib.hid (show regOp rr o = (⟨setSt (markAt rr.members i) i 3, rr.coming, rr.going ++ [(i : Int) + 1], rr.churn⟩, 0) by rw [HS.out, if_neg (by simp), leave, HLM.out, if_pos rfl, show ((i : Int) + 1 - 1).toNat = i by omega])
                                  have HR2 := Lib.hid (show regNext r h parent = regOps (regOp rr o).1 (h.ops.drop (ko + 1)) by rw [HRo.out, if_pos (by rw [Hr.out])])
                                  have HPn := Lib.hid (HP2.out (by rw [Hr.out]))
                                  rw [Hr.out] at HR2 HPn
                                  have hgl := HPr.out.going.length_le
                                  obtain ⟨y1, y2, HN6, hB6'⟩ := HN5.setSt i (by have := hml.out; simp only; omega) 3
                                  obtain ⟨sv, sq⟩ : ∃ sv : Int, (w5.setCell ⟨gm, i * 35 + 34, none⟩ (.bool true)).cell? ⟨gm, i * 35 + 33, none⟩ = some (.int .i64 sv) := ⟨_, (mbr_cells (HN5.mrow i (by have := hml.out; simp only; omega))).2.2.1⟩
                                  replace HN6 := Lib.hid HN6
                                  replace hBe5 := Lib.hid (hBe5.out.trans hB6')
                                  have kl := Lib.hid hlen
                                  replace hgl := Lib.hid hgl
                                  have hii := Lib.hid hi
                                  clear hB5 hB6' HN5 Hr HRo HP2 HLM hlen hmm hi hth4 hrow4 Hh4 hBe4
                                  go_upto_region 36 with fail
                                  generalize w5.setCell ⟨gm, i * 35 + 34, none⟩ (.bool true) = W5 at *
                                  have ov6 : (W5.setCell ⟨gm, i * 35 + 33, none⟩ (.int .i64 3)).cell? ⟨ob, 34, none⟩ = some (.int .i64 ((i : Int) + 1)) := by
                                    rw [World.cell?_setCell_other W5 _ _ _ (by intro e; have e2 := congrArg Addr.block e; simp only at e2; omega)]
                                    exact ov5
                                  go_upto_region 37 with fail
                                  clear y1 y2 sq ov5 a1 a2 q24 q34
                                  generalize W5.setCell ⟨gm, i * 35 + 33, none⟩ (.int .i64 3) = W6 at *
                                  have hX6 := HN6.out.hX
                                  have hO6 := HN6.out.c2
                                  obtain ⟨t', w7', gb', f1, f2, f3, HN7, hB7', hz7⟩ := HN6.out.app2 (by have := hgl.out; have := kl.out; simp only; omega) ((i : Int) + 1)
                                  obtain ⟨va, vn, vc⟩ := t'
                                  obtain ⟨sa2, sn2, sc2⟩ := s2
                                  dsimp only [Sl.v] at f1 f2 HN7 hB7' hO6
                                  have hbi := fun W => bsI_one ((i : Int) + 1) W
                                  replace HN7 := Lib.hid HN7
                                  replace hBe5 := Lib.hid (hBe5.out.trans hB7')
                                  clear hB7' HN6
                                  go_wp2_with fail
                                  go_roundw
                                  case rel => exact ⟨ko + 1, _, his.out, by go_num, Lib.hid ⟨_, _, _, _, _, _, HN7.out⟩, HPn, HR2, hBe5⟩
                                  case measure =>
                                    have := his.out
                                    simp [intOf]
                                    omega
                  · have hlast := Lib.hid (show regNext r h parent = (rr, 0) by
                      rw [HRr.out, List.drop_of_length_le (by omega)]
                      rfl)
                    obtain ⟨gmz, s0z, s1z, s2z, g1z, g2z, hNf⟩ := HNr.out
                    have hrowz := hNf.row
                    have hBX := hNf.hB
                    obtain ⟨gz, hgz⟩ : ∃ gz : GReg, gz = ⟨s0z, s1z, s2z, rr.churn⟩ := ⟨_, rfl⟩
                    rw [← hgz] at hrowz
                    have hst := store_reg wr b2 0 (regA gz) rfl (onesReg _) zth
                    have hput : row? (putRow wr b2 0 (regA gz)) b2 0 4 = some (regA gz) := row?_put_same _ _ _ _ _ (by rfl) (by omega) zth
                    have hpb : Below w.heap.size w (putRow wr b2 0 (regA gz)) := below_put hBwr.out (by omega) _ _
                    have hrg : RegAt w.heap.size (putRow wr b2 0 (regA gz)) gz rr := fun W2 q1 q2 => by
                      rw [hgz]
                      rw [size_put] at q1 q2
                      exact (hNf.keepX q1 (fun k hk hl => (q2 k (by omega) hl).trans (put_far _ _ _ _ k (by omega)))).reg
                    replace hrg := Lib.hid hrg
                    clear hNf hgz
                    have knl : ¬ (ko : Int) < (h.ops.length : Int) := by omega
                    go_wp2_with (with_reducible refine ret_row2 Try.isAgg103 Try.sizeOf103 rnext_res (x := .pointer (some ⟨b2, 0, none⟩)) (y := .int .i64 0) (b2) 0 ?rrhx (Eq.refl _) ?rrhy ?rrh ?rrhd ?rrhR; (case rrhx => simp only [Array.getD_eq_getD_getElem?, List.getElem?_toArray, List.getElem?_cons_succ, List.getElem?_cons_zero, Option.getD_some]); (case rrhy => simp only [Array.getD_eq_getD_getElem?, List.getElem?_toArray, List.getElem?_cons_succ, List.getElem?_cons_zero, Option.getD_some]); (case rrhd => exact rfl); (case rrh => go_simp); (case rrhR => ((exact next_done (g' := gz) (by rw [hlast.out]) hput (by rw [hlast.out]; exact hrg.out) hpb))))
end Go.Proofs.Ytkocpihfdpahpaa
