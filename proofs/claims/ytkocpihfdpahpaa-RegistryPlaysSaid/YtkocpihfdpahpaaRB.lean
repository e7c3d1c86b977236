/- Texts of this proof, one behind the other: RegN, RegO, RegR, RegT, RegU, RegV, RegX, RegW. -/
import Derived.Test.YtkocpihfdpahpaaRA
import Derived.Test.YtkocpihfdpahpaaQA
import Derived.Test.YtkocpihfdpahpaaQB
import Derived.Deep.QuietTactic
import Derived.BigQuiet
import Derived.Test.YtkocpihfdpahpaaQU
import Derived.Deep.RegionHeld3
set_option linter.unusedVariables false
set_option linter.unusedSimpArgs false
/- A register that is being made: four cells, its members and its two lines in blocks of their own. -/
namespace Go.Proofs.Ytkocpihfdpahpaa
open Go.RowKit

theorem OwnC.keepB {w w' : World} {base k n : Nat} {v : Value} {xs : List Value} (h : OwnC w base k v n xs) (hs : w.heap.size ≤ w'.heap.size) (hb : ∀ g, v.ownBlock = some g → g < w.heap.size → w'.heap[g]? = w.heap[g]?) : OwnC w' base k v n xs := by
  refine ⟨h.1, ?_⟩
  rcases h.2 with h2 | ⟨g, cap, rfl, h1, hlt, hn, hm, hc, hf, hx⟩
  · exact .inl h2
  · have hg := hb g rfl hlt
    have e1 := fun j => World.cell?_of_block (a := ⟨g, j, none⟩) hg
    have e2 := fun j => World.frozen?_of_block (a := ⟨g, j, none⟩) hg
    exact .inr ⟨g, cap, rfl, h1, by omega, hn, hm, fun j hj => by rw [e1]; exact hc j hj, fun j hj => by rw [e2]; exact hf j hj, fun j u hu => by rw [e1]; exact hx j u hu⟩

structure NM (W : World) (B X gm : Nat) (s0 s1 s2 : Sl) (g1 g2 : Option Nat) (r : Reg) : Prop where
  c0 : W.cell? ⟨X, 0, none⟩ = some s0.v
  c1 : W.cell? ⟨X, 1, none⟩ = some s1.v
  c2 : W.cell? ⟨X, 2, none⟩ = some s2.v
  c3 : W.cell? ⟨X, 3, none⟩ = some (.int .u64 (r.churn.toNat : Int))
  fz : ∀ j, j < 4 → W.frozen? ⟨X, j, none⟩ = false
  hB : B ≤ X
  hX : X < W.heap.size
  mem : OwnC W B 35 s0.v r.members.length (flatC mbrA r.members)
  gmb : s0.v.ownBlock = some gm
  com : OwnO W B s1.v r.coming g1
  goi : OwnO W B s2.v r.going g2
  dX : gm ≠ X ∧ g1 ≠ some X ∧ g2 ≠ some X
  dm : g1 ≠ some gm ∧ g2 ≠ some gm
  d12 : ∀ g, g1 = some g → g2 ≠ some g
def NextM (W : World) (B X : Nat) (r : Reg) : Prop := ∃ gm s0 s1 s2 g1 g2, NM W B X gm s0 s1 s2 g1 g2 r

section
variable {W W' : World} {B X gm : Nat} {s0 s1 s2 : Sl} {g1 g2 : Option Nat} {r : Reg}
theorem NM.lt (h : NM W B X gm s0 s1 s2 g1 g2 r) : B ≤ gm ∧ gm < W.heap.size := h.mem.lt gm h.gmb
theorem NM.keep (h : NM W B X gm s0 s1 s2 g1 g2 r) (hb : Below W.heap.size W W') : NM W' B X gm s0 s1 s2 g1 g2 r := by
  have hX := h.hX
  exact ⟨(hb.cell hX).trans h.c0, (hb.cell hX).trans h.c1, (hb.cell hX).trans h.c2, (hb.cell hX).trans h.c3, fun j hj => (hb.frozen (p := ⟨X, j, none⟩) hX).trans (h.fz j hj), h.hB, Nat.lt_of_lt_of_le hX hb.size, h.mem.keep hb, h.gmb, h.com.keep hb, h.goi.keep hb, h.dX, h.dm, h.d12⟩
theorem NM.row (h : NM W B X gm s0 s1 s2 g1 g2 r) : row? W X 0 4 = some (regA ⟨s0, s1, s2, r.churn⟩) := by
  refine row?_of_cells (by rfl) (by omega) (fun j hj => ?_)
  have hj4 : j < 4 := hj
  rw [Nat.zero_add]
  match j, hj4 with
  | 0, _ => exact h.c0
  | 1, _ => exact h.c1
  | 2, _ => exact h.c2
  | 3, _ => exact h.c3
theorem NM.reg (h : NM W B X gm s0 s1 s2 g1 g2 r) : RegR W ⟨s0, s1, s2, r.churn⟩ r :=
  ⟨rows_of_own mbrA mbrA_size (by omega) h.mem, h.com.reads, h.goi.reads, rfl⟩
theorem NM.s0eq (h : NM W B X gm s0 s1 s2 g1 g2 r) : s0 = ⟨some ⟨gm, 0, none⟩, r.members.length, s0.c⟩ := by
  rcases h.mem.2 with ⟨hv, _⟩ | ⟨g, cap, hv, _⟩
  · have := h.gmb
    rw [hv] at this
    cases this
  · have hg := h.gmb
    rw [hv] at hg
    injection hg with hg
    simp only at hg
    subst hg
    obtain ⟨a, n, c⟩ := s0
    injection hv with e1 e2 e3
    simp only at e1 e2
    subst e1 e2
    rfl
theorem NM.mrow (h : NM W B X gm s0 s1 s2 g1 g2 r) (i : Nat) (hi : i < r.members.length) : row? W gm (i * 35) 35 = some (mbrA r.members[i]) := by
  have hm := h.mem
  rw [h.s0eq] at hm
  exact own_row mbrA mbrA_size (by omega) hm i hi
/-- a cell of a member is written -/
theorem NM.setM (h : NM W B X gm s0 s1 s2 g1 g2 r) (ms : List Mbr) (hl : ms.length = r.members.length) (j : Nat) (u : Value) (hj : j < r.members.length * 35) (hf : flatC mbrA ms = (flatC mbrA r.members).set j u) :
    (W.cell? ⟨gm, j, none⟩).isSome = true ∧ W.frozen? ⟨gm, j, none⟩ = false ∧ NM (W.setCell ⟨gm, j, none⟩ u) B X gm s0 s1 s2 g1 g2 ⟨ms, r.coming, r.going, r.churn⟩ ∧ Below B W (W.setCell ⟨gm, j, none⟩ u) := by
  have hm := h.mem
  rw [h.s0eq] at hm
  obtain ⟨h1, h2, h3⟩ := hm.set j u (by rw [flatC_length mbrA mbrA_size]; exact hj)
  have hblk : ∀ k, k ≠ gm → (W.setCell ⟨gm, j, none⟩ u).heap[k]? = W.heap[k]? := fun k hk => Below.heap_setCell W ⟨gm, j, none⟩ u k hk
  have hsz := size_setCell W ⟨gm, j, none⟩ u
  have hXg : X ≠ gm := fun e => h.dX.1 e.symm
  have cX := fun o => World.cell?_of_block (a := ⟨X, o, none⟩) (hblk X hXg)
  have fX := fun o => World.frozen?_of_block (a := ⟨X, o, none⟩) (hblk X hXg)
  refine ⟨h1, h2, ⟨by rw [cX]; exact h.c0, by rw [cX]; exact h.c1, by rw [cX]; exact h.c2, by rw [cX]; exact h.c3, fun k hk => by rw [fX]; exact h.fz k hk, h.hB, by rw [hsz]; exact h.hX, ?_, h.gmb, ?_, ?_, h.dX, h.dm, h.d12⟩, (Below.refl B W).setCell (by exact h.lt.1) _⟩
  · simp only
    rw [hf, hl, h.s0eq]
    exact h3
  · exact h.com.keepB (by rw [hsz]; exact Nat.le_refl _) fun g hg _ => hblk g fun e => h.dm.1 (by rw [hg, e])
  · exact h.goi.keepB (by rw [hsz]; exact Nat.le_refl _) fun g hg _ => hblk g fun e => h.dm.2 (by rw [hg, e])
theorem NM.setSt (h : NM W B X gm s0 s1 s2 g1 g2 r) (i : Nat) (hi : i < r.members.length) (s : Int) :
    (W.cell? ⟨gm, i * 35 + 33, none⟩).isSome = true ∧ W.frozen? ⟨gm, i * 35 + 33, none⟩ = false ∧ NM (W.setCell ⟨gm, i * 35 + 33, none⟩ (.int .i64 s)) B X gm s0 s1 s2 g1 g2 ⟨setSt r.members i s, r.coming, r.going, r.churn⟩ ∧ Below B W (W.setCell ⟨gm, i * 35 + 33, none⟩ (.int .i64 s)) :=
  h.setM _ (List.length_modify ..) _ _ (by omega) (flat_setSt r.members i s)
theorem NM.setMk (h : NM W B X gm s0 s1 s2 g1 g2 r) (i : Nat) (hi : i < r.members.length) :
    (W.cell? ⟨gm, i * 35 + 34, none⟩).isSome = true ∧ W.frozen? ⟨gm, i * 35 + 34, none⟩ = false ∧ NM (W.setCell ⟨gm, i * 35 + 34, none⟩ (.bool true)) B X gm s0 s1 s2 g1 g2 ⟨markAt r.members i, r.coming, r.going, r.churn⟩ ∧ Below B W (W.setCell ⟨gm, i * 35 + 34, none⟩ (.bool true)) :=
  h.setM _ (List.length_modify ..) _ _ (by omega) (flat_mark r.members i)
end

theorem info_int : (Try.prog.info? 3).map (fun i => (i.zero, i.size, i.bytes)) = some (some (.int .i64 0), 1, 8) := by kernel_rfl
def bsI (n : Nat) (parts : Array (Nat × Value)) : Sem Value := Instr.buildSlice 58 n parts
theorem fold_bsI (n : Nat) (parts : Array (Nat × Value)) : Instr.buildSlice 58 n parts = bsI n parts := rfl
theorem bsI_one (x : Int) (w : World) : (bsI 1 #[(0, .int .i64 x)]).run Try.prog w = .ok (.slice (some ⟨w.heap.size, 0, none⟩) 1 1) (w.alloc (.cells #[i64V x] 3)) := by
  obtain ⟨i0, hi, hy0, hy1, hy2⟩ := info_parts info_int
  have h := run_buildSlice_one (P := Try.prog) w (t := 58) (e := 3) (xs := #[i64V x]) Try.underlying58 hi hy0 hy1 (by simp [Value.cells]) (by omega) (by omega) (by rfl)
  have e : Instr.buildSlice 58 1 #[(0, Value.agg #[i64V x])] = Instr.buildSlice 58 1 #[(0, .int .i64 x)] := by
    simp [Instr.buildSlice, Instr.fill, Value.cells, i64V]
  rw [e] at h
  exact h
def appI (args : Array Value) : Sem Value := Builtin.append_ #[58, 58] 58 args
theorem fold_appI (args : Array Value) : Builtin.append_ #[58, 58] 58 args = appI args := rfl
section
variable {W : World} {B X gm : Nat} {s0 s1 s2 : Sl} {g1 g2 : Option Nat} {r : Reg}
theorem app_ints {v : Value} {xs : List Int} {gb : Option Nat} (hB : B ≤ W.heap.size) (hown : OwnO W B v xs gb) (hlen : xs.length ≤ 1000000) (n : Int) :
    ∃ (s' : Sl) (w' : World) (gb' : Option Nat), (appI #[v, .slice (some ⟨W.heap.size, 0, none⟩) 1 1]).run Try.prog (W.alloc (.cells #[i64V n] 3)) = .ok s'.v w' ∧ OwnO w' B s'.v (xs ++ [n]) gb' ∧ Below B W w' ∧ W.heap.size < w'.heap.size ∧
      (∀ k, k < W.heap.size → some k ≠ gb → w'.heap[k]? = W.heap[k]?) ∧ (gb' = gb ∨ ∃ k, gb' = some k ∧ W.heap.size ≤ k) := by
  obtain ⟨i0, hi, hy0, hy1, hy2⟩ := info_parts info_int
  have hA : Below W.heap.size W (W.alloc (.cells #[i64V n] 3)) := bel_a W _
  obtain ⟨s', w', gb', h1, h2, h3, h4⟩ := run_append_O (P := Try.prog) (W.alloc (.cells #[i64V n] 3)) 58 3 i0 _ Try.underlying58 hi hy0 hy1 hy2 (by simp [Value.cells]) B v xs gb (hown.keep hA) W.heap.size 1 n (heap_alloc_new W _) hlen (by simp; omega)
  have hsz : (W.alloc (.cells #[i64V n] 3)).heap.size = W.heap.size + 1 := by simp
  have hz := h3.size
  rw [hsz] at hz
  refine ⟨s', w', gb', h1, h2, ?_, by omega, fun k hk hne => ?_, ?_⟩
  · exact ((Below.refl B W).alloc hB _).grown h3 (by omega) (fun k hk => (hown.lt k hk).1)
  · exact (h3.block k (by omega) hne).trans (Below.heap_alloc W _ k hk)
  · rcases h4 with h4 | h4
    · exact .inl h4
    · exact .inr ⟨_, h4, by omega⟩
set_option maxRecDepth 100000 in
/-- a number more in the line of those that go -/
theorem NM.app2 (h : NM W B X gm s0 s1 s2 g1 g2 r) (hlen : r.going.length ≤ 1000000) (n : Int) :
    ∃ (s' : Sl) (w' : World) (gb' : Option Nat), (appI #[s2.v, .slice (some ⟨W.heap.size, 0, none⟩) 1 1]).run Try.prog (W.alloc (.cells #[i64V n] 3)) = .ok s'.v w' ∧ w'.cell? ⟨X, 2, none⟩ = some s2.v ∧ w'.frozen? ⟨X, 2, none⟩ = false ∧
      NM (w'.setCell ⟨X, 2, none⟩ s'.v) B X gm s0 s1 s' g1 gb' ⟨r.members, r.coming, r.going ++ [n], r.churn⟩ ∧ Below B W (w'.setCell ⟨X, 2, none⟩ s'.v) ∧ W.heap.size < w'.heap.size := by
  have hX := h.hX
  have hgl := h.lt.2
  obtain ⟨s', w', gb', e1, e2, e3, e4, e5, e6⟩ := app_ints (Nat.le_of_lt (Nat.lt_of_le_of_lt h.hB hX)) h.goi hlen n
  have bX := e5 X hX (fun e => h.dX.2.2 e.symm)
  have cX := fun o => World.cell?_of_block (a := ⟨X, o, none⟩) bX
  have fX := fun o => World.frozen?_of_block (a := ⟨X, o, none⟩) bX
  have hc2 := (cX 2).trans h.c2
  have hset : ∀ k, k ≠ X → (w'.setCell ⟨X, 2, none⟩ s'.v).heap[k]? = w'.heap[k]? := fun k hk => Below.heap_setCell w' ⟨X, 2, none⟩ s'.v k hk
  have hsz := size_setCell w' ⟨X, 2, none⟩ s'.v
  have hoth : ∀ o, o ≠ 2 → (w'.setCell ⟨X, 2, none⟩ s'.v).cell? ⟨X, o, none⟩ = W.cell? ⟨X, o, none⟩ := fun o ho => by
    rw [World.cell?_setCell_other w' _ _ _ (by intro e; injection e; omega), cX]
  have hgm : ∀ g, gb' = some g → g ≠ X ∧ g ≠ gm ∧ g1 ≠ some g := fun g hg => by
    rcases e6 with e6 | ⟨k, e6, e7⟩
    · rw [e6] at hg
      exact ⟨fun e => h.dX.2.2 (by rw [hg, e]), fun e => h.dm.2 (by rw [hg, e]), fun e => h.d12 g e hg⟩
    · rw [e6] at hg
      injection hg with hg
      refine ⟨by omega, by omega, fun e => ?_⟩
      have := (h.com.lt g e).2
      omega
  refine ⟨s', w', gb', e1, hc2, (fX 2).trans (h.fz 2 (by omega)), ⟨(hoth 0 (by omega)).trans h.c0, (hoth 1 (by omega)).trans h.c1, cell_set_same (by rw [hc2]; rfl), (hoth 3 (by omega)).trans h.c3, fun j hj => by rw [World.frozen?_setCell, fX]; exact h.fz j hj, h.hB, by rw [hsz]; omega,
    ?_, h.gmb, ?_, ?_, ⟨h.dX.1, h.dX.2.1, fun e => (hgm X e).1 rfl⟩, ⟨h.dm.1, fun e => (hgm gm e).2.1 rfl⟩, fun g hg hg' => (hgm g hg').2.2 hg⟩, e3.setCell h.hB _, e4⟩
  · exact h.mem.keepB (by rw [hsz]; omega) fun g hg hlt => by
      rw [h.gmb] at hg
      injection hg with hg
      subst hg
      rw [hset _ h.dX.1]
      exact e5 _ hlt (fun e => h.dm.2 e.symm)
  · exact h.com.keepB (by rw [hsz]; omega) fun g hg hlt => by
      rw [hset g (fun e => h.dX.2.1 (by rw [hg, e]))]
      exact e5 g hlt (fun e => h.d12 g hg e.symm)
  · exact e2.keepB (by rw [hsz]; omega) fun g hg _ => hset g (hgm g hg).1
set_option maxRecDepth 100000 in
/-- a number more in the line of those that come -/
theorem NM.app1 (h : NM W B X gm s0 s1 s2 g1 g2 r) (hlen : r.coming.length ≤ 1000000) (n : Int) :
    ∃ (s' : Sl) (w' : World) (gb' : Option Nat), (appI #[s1.v, .slice (some ⟨W.heap.size, 0, none⟩) 1 1]).run Try.prog (W.alloc (.cells #[i64V n] 3)) = .ok s'.v w' ∧ w'.cell? ⟨X, 1, none⟩ = some s1.v ∧ w'.frozen? ⟨X, 1, none⟩ = false ∧
      NM (w'.setCell ⟨X, 1, none⟩ s'.v) B X gm s0 s' s2 gb' g2 ⟨r.members, r.coming ++ [n], r.going, r.churn⟩ ∧ Below B W (w'.setCell ⟨X, 1, none⟩ s'.v) ∧ W.heap.size < w'.heap.size := by
  have hX := h.hX
  have hgl := h.lt.2
  obtain ⟨s', w', gb', e1, e2, e3, e4, e5, e6⟩ := app_ints (Nat.le_of_lt (Nat.lt_of_le_of_lt h.hB hX)) h.com hlen n
  have bX := e5 X hX (fun e => h.dX.2.1 e.symm)
  have cX := fun o => World.cell?_of_block (a := ⟨X, o, none⟩) bX
  have fX := fun o => World.frozen?_of_block (a := ⟨X, o, none⟩) bX
  have hc2 := (cX 1).trans h.c1
  have hset : ∀ k, k ≠ X → (w'.setCell ⟨X, 1, none⟩ s'.v).heap[k]? = w'.heap[k]? := fun k hk => Below.heap_setCell w' ⟨X, 1, none⟩ s'.v k hk
  have hsz := size_setCell w' ⟨X, 1, none⟩ s'.v
  have hoth : ∀ o, o ≠ 1 → (w'.setCell ⟨X, 1, none⟩ s'.v).cell? ⟨X, o, none⟩ = W.cell? ⟨X, o, none⟩ := fun o ho => by
    rw [World.cell?_setCell_other w' _ _ _ (by intro e; injection e; omega), cX]
  have hgm : ∀ g, gb' = some g → g ≠ X ∧ g ≠ gm ∧ g2 ≠ some g := fun g hg => by
    rcases e6 with e6 | ⟨k, e6, e7⟩
    · rw [e6] at hg
      exact ⟨fun e => h.dX.2.1 (by rw [hg, e]), fun e => h.dm.1 (by rw [hg, e]), h.d12 g hg⟩
    · rw [e6] at hg
      injection hg with hg
      refine ⟨by omega, by omega, fun e => ?_⟩
      have := (h.goi.lt g e).2
      omega
  refine ⟨s', w', gb', e1, hc2, (fX 1).trans (h.fz 1 (by omega)), ⟨(hoth 0 (by omega)).trans h.c0, cell_set_same (by rw [hc2]; rfl), (hoth 2 (by omega)).trans h.c2, (hoth 3 (by omega)).trans h.c3, fun j hj => by rw [World.frozen?_setCell, fX]; exact h.fz j hj, h.hB, by rw [hsz]; omega,
    ?_, h.gmb, ?_, ?_, ⟨h.dX.1, fun e => (hgm X e).1 rfl, h.dX.2.2⟩, ⟨fun e => (hgm gm e).2.1 rfl, h.dm.2⟩, fun g hg hg' => (hgm g hg).2.2 hg'⟩, e3.setCell h.hB _, e4⟩
  · exact h.mem.keepB (by rw [hsz]; omega) fun g hg hlt => by
      rw [h.gmb] at hg
      injection hg with hg
      subst hg
      rw [hset _ h.dX.1]
      exact e5 _ hlt (fun e => h.dm.1 e.symm)
  · exact e2.keepB (by rw [hsz]; omega) fun g hg _ => hset g (hgm g hg).1
  · exact h.goi.keepB (by rw [hsz]; omega) fun g hg hlt => by
      rw [hset g (fun e => h.dX.2.2 (by rw [hg, e]))]
      exact e5 g hlt (fun e => h.d12 g e.symm hg)
end
end Go.Proofs.Ytkocpihfdpahpaa

/- Contracts: registry's leave. -/
namespace Go.Proofs.Ytkocpihfdpahpaa
open Go.RowKit
attribute [local go_sem ↓] fold_bsI fold_appI

theorem oth_le (ms : List Mbr) (j : Int) : ∀ k, oth ms j k ≤ k
  | 0 => Nat.le_refl _
  | k + 1 => by
    have := oth_le ms j k
    unfold oth
    split <;> omega
set_option maxRecDepth 100000 in
set_option maxHeartbeats 3200000 in
theorem leave_c {W : World} {B X : Nat} {r : Reg} (h : NextM W B X r) (hm : r.members.length ≤ 1000000) (hg : r.going.length ≤ 1000000) (v : Int) (h1 : 1 ≤ v) (h2 : v ≤ (r.members.length : Int)) :
    Calls Try.prog 188 #[.pointer (some ⟨X, 0, none⟩), .int .i64 v] W fun e W' => e = .returned (.bool (leavesB r v)) ∧ NextM W' B X (leave r v) ∧ Below B W W' := by
  obtain ⟨i, rfl⟩ : ∃ i : Nat, v = (i : Int) + 1 := ⟨(v - 1).toNat, by omega⟩
  have hi : i < r.members.length := by omega
  clear h1 h2
  obtain ⟨gm, s0, s1, s2, g1, g2, h⟩ := h
  have hse := h.s0eq
  obtain ⟨sa, sn, sc⟩ := s0
  injection hse with q1 q2 q3
  subst q1 q2
  have hX := h.hX
  have c0 := h.c0
  dsimp only [Sl.v] at c0
  have Hh := Lib.hid h
  have HLB := Lib.hid (show leavesB r ((i : Int) + 1) = (decide ((r.members[i]).status = 2) && decide (0 < oth r.members ((i : Int) + 1) r.members.length)) by
    rw [leavesB, show ((i : Int) + 1 - 1).toNat = i by omega, getD_of (List.getElem?_eq_getElem hi)])
  have HLV := Lib.hid (show leave r ((i : Int) + 1) = if leavesB r ((i : Int) + 1) then ⟨setSt r.members i 3, r.coming, r.going ++ [(i : Int) + 1], r.churn⟩ else r by
    rw [leave, show ((i : Int) + 1 - 1).toNat = i by omega])
  clear h
  have j1 : (i : Int) < (r.members.length : Int) := by omega
  have x1 : IntKind.i64.wrap ((i : Int) + 1 - 1) = i := by rw [show (i : Int) + 1 - 1 = i by omega]; exact IntWalk.i64_in _ (by omega)
  go_enter Try.func188, Try.ntmps188
  go_wp2_with fail
  go_loopw [6, 23] (fun o k w' => ∃ n : Nat, n ≤ r.members.length ∧ o = .int .i64 (oth r.members ((i : Int) + 1) n : Nat) ∧ k = .int .i64 n ∧ Below W.heap.size W w') (fun _ k _ => r.members.length - (intOf k).toNat)
  case atStart => exact ⟨0, Nat.zero_le _, rfl, rfl, Below.refl _ _⟩
  case round =>
    obtain ⟨n, hn, rfl, rfl, hB⟩ := hrel
    have hzz := hB.size
    by_cases hnx : n < r.members.length
    · have HR := Hh.out.keep hB
      have hrow := HR.mrow n hnx
      have ho := oth_le r.members ((i : Int) + 1) n
      have Hs := Lib.hid (show oth r.members ((i : Int) + 1) (n + 1) = oth r.members ((i : Int) + 1) n + if (n : Int) + 1 ≠ (i : Int) + 1 ∧ (r.members[n]).status = 2 then 1 else 0 by
        rw [oth, getD_of (List.getElem?_eq_getElem hnx)])
      obtain ⟨o1, ho1⟩ : ∃ o1, o1 = oth r.members ((i : Int) + 1) (n + 1) := ⟨_, rfl⟩
      rw [← ho1] at Hs
      replace ho1 := Lib.hid ho1
      generalize r.members[n] = m at *
      generalize oth r.members ((i : Int) + 1) n = o0 at *
      have k1 : (n : Int) < (r.members.length : Int) := by omega
      have k2 : (o0 : Int) < 1000000 := by omega
      have x2 : IntKind.i64.wrap ((o0 : Int) + 1) = o0 + 1 := IntWalk.i64_in _ (by omega)
      go_upto_region 6 with fail
      obtain ⟨W1, hW1, hr1, hB1, hz1⟩ := box_mbr wr m
      rw [← hW1]
      clear hW1 hrow
      obtain ⟨_, _, q2, _⟩ := mbr_cells hr1
      have hBX := hB.trans (hB1.mono hzz)
      generalize m.status = ms at *
      by_cases hms : ms = 2
      · have b1 : (ms == 2) = true := by simp [hms]
        by_cases hni : n = i
        · subst hni
          have Hs := Lib.hid (show o1 = o0 by rw [Hs.out, if_neg (by simp)]; rfl)
          have b2 : ((n : Int) != (n : Int)) = false := by simp
          clear hms
          go_wp2_with fail
          go_roundw
          case rel => exact ⟨n + 1, by omega, by rw [← ho1.out, Hs.out], by go_num, hBX⟩
          case measure => simp [intOf]; omega
        · have Hs := Lib.hid (show o1 = o0 + 1 by rw [Hs.out, if_pos ⟨by omega, hms⟩])
          have b2 : ((n : Int) != (i : Int)) = true := by simp; omega
          clear hms hni
          go_wp2_with fail
          go_roundw
          case rel => exact ⟨n + 1, by omega, by rw [← ho1.out, Hs.out]; go_num, by go_num, hBX⟩
          case measure => simp [intOf]; omega
      · have b1 : (ms == 2) = false := by simp [hms]
        have Hs := Lib.hid (show o1 = o0 by rw [Hs.out, if_neg (fun h => hms h.2)]; rfl)
        clear hms
        go_wp2_with fail
        go_roundw
        case rel => exact ⟨n + 1, by omega, by rw [← ho1.out, Hs.out], by go_num, hBX⟩
        case measure => simp [intOf]; omega
    · obtain rfl : n = r.members.length := by omega
      have HR := Hh.out.keep hB
      have hBB : Below B W wr := hB.mono (Nat.le_of_lt (Nat.lt_of_le_of_lt HR.hB hX))
      have hrow := HR.mrow i hi
      generalize hmm : r.members[i] = m at *
      obtain ⟨_, _, q2, _⟩ := mbr_cells hrow
      have hgl := HR.lt.2
      clear hrow
      by_cases hms : m.status = 2
      · have b1 : (m.status != 2) = false := by simp [hms]
        by_cases ho : oth r.members ((i : Int) + 1) r.members.length = 0
        · have Hf := Lib.hid (show leavesB r ((i : Int) + 1) = false by rw [HLB.out, ho]; simp)
          have b2 : ((oth r.members ((i : Int) + 1) r.members.length : Int) == 0) = true := by simp [ho]
          generalize m.status = ms at *
          generalize oth r.members ((i : Int) + 1) r.members.length = oo at *
          clear hms ho
          go_wp2_with fail
          go_ret
          exact ⟨ret_bool Hf.out.symm, by rw [HLV.out, Hf.out]; exact ⟨_, _, _, _, _, _, HR⟩, hBB⟩
        · have Ht := Lib.hid (show leavesB r ((i : Int) + 1) = true by rw [HLB.out, hms]; simp; omega)
          have b2 : ((oth r.members ((i : Int) + 1) r.members.length : Int) == 0) = false := by simp; omega
          generalize m.status = ms at *
          generalize oth r.members ((i : Int) + 1) r.members.length = oo at *
          obtain ⟨a1, a2, HN, hBn⟩ := HR.setSt i hi 3
          generalize hW2 : wr.setCell ⟨gm, i * 35 + 33, none⟩ (.int .i64 3) = W2 at *
          clear hms ho
          obtain ⟨s', w3, gb', e1, e2, e3, HN2, hB3, hz3⟩ := HN.app2 hg ((i : Int) + 1)
          have d2 := HN.c2
          obtain ⟨ta, tn, tc⟩ := s2
          obtain ⟨ua, un, uc⟩ := s'
          dsimp only [Sl.v] at e1 e2 d2 HN2 hB3
          have hbs := bsI_one ((i : Int) + 1) W2
          have HN := Lib.hid HN
          have HN2 := Lib.hid HN2
          have HR := Lib.hid HR
          have hXX := HN.out.hX
          clear hmm
          go_wp2_with fail
          go_ret
          refine ⟨ret_bool Ht.out.symm, ?_, (hBB.trans hBn).trans hB3⟩
          rw [HLV.out, Ht.out]
          exact ⟨_, _, _, _, _, _, HN2.out⟩
      · have b1 : (m.status != 2) = true := by simp [hms]
        have Hf := Lib.hid (show leavesB r ((i : Int) + 1) = false by rw [HLB.out, decide_eq_false hms, Bool.false_and])
        generalize m.status = ms at *
        generalize oth r.members ((i : Int) + 1) r.members.length = oo at *
        clear hms
        go_wp2_with fail
        go_ret
        exact ⟨ret_bool Hf.out.symm, by rw [HLV.out, Hf.out]; exact ⟨_, _, _, _, _, _, HR⟩, hBB⟩
end Go.Proofs.Ytkocpihfdpahpaa

/- Contracts: registry's do: an operation. -/
namespace Go.Proofs.Ytkocpihfdpahpaa
open Go.RowKit

theorem info_mbrs : (Try.prog.info? 123).map (fun i => (i.zero, i.size, i.bytes)) = some (some (.agg (mbrA zeroMbr)), 35, 56) := by kernel_rfl
def bsM (n : Nat) (parts : Array (Nat × Value)) : Sem Value := Instr.buildSlice 101 n parts
theorem fold_bsM (n : Nat) (parts : Array (Nat × Value)) : Instr.buildSlice 101 n parts = bsM n parts := rfl
theorem bsM_one (m : Mbr) (w : World) : (bsM 1 #[(0, .agg (mbrA m))]).run Try.prog w = .ok (.slice (some ⟨w.heap.size, 0, none⟩) 1 1) (w.alloc (.cells (mbrA m) 123)) := by
  obtain ⟨i0, hi, hy0, hy1, hy2⟩ := info_parts info_mbrs
  exact run_buildSlice_one w Try.underlying101 hi hy0 hy1 (by simp [Value.cells]) (by omega) (by omega) _ (by simp)
def appM (args : Array Value) : Sem Value := Builtin.append_ #[101, 101] 101 args
theorem fold_appM (args : Array Value) : Builtin.append_ #[101, 101] 101 args = appM args := rfl
def bldM (parts : Array (Nat × Value)) : Sem Value := Instr.build 123 parts
theorem fold_bldM (parts : Array (Nat × Value)) : Instr.build 123 parts = bldM parts := rfl
theorem fold0_splice (A B : Array Value) (n : Nat) (hn : B.size = n) (h : n ≤ A.size) : Array.foldl (fun cs (x : Value × Nat) => cs.setIfInBounds x.2 x.1) A B.zipIdx 0 n = splice A 0 B := by
  have := fold_splice A B 0 n hn (by omega)
  simpa using this
theorem splice_zero_head (A B : Array Value) (n : Nat) (hn : B.size = n) (h : n ≤ A.size) : splice A 0 B = B ++ A.extract n A.size := by
  simp [splice, hn]
theorem run_bldM (k : Hash) (s : UInt64) (st : Int) (W : World) : (bldM #[(0, .agg (hashA k)), (1, .int .u64 (s.toNat : Int)), (2, .int .i64 st)]).run Try.prog W = .ok (.agg (mbrA ⟨k, s, st, false⟩)) W := by
  unfold bldM
  go_simp
  rw [fold0_splice _ _ 32 (by simp) (by simp), splice_zero_head _ _ 32 (by simp) (by simp)]
  simp [mbrA]
section
variable {W : World} {B X gm : Nat} {s0 s1 s2 : Sl} {g1 g2 : Option Nat} {r : Reg}
set_option maxRecDepth 100000 in
/-- a member more -/
theorem NM.app0 (h : NM W B X gm s0 s1 s2 g1 g2 r) (hlen : r.members.length ≤ 1000000) (m : Mbr) :
    ∃ (s' : Sl) (w' : World) (gm' : Nat), (appM #[s0.v, .slice (some ⟨W.heap.size, 0, none⟩) 1 1]).run Try.prog (W.alloc (.cells (mbrA m) 123)) = .ok s'.v w' ∧ w'.cell? ⟨X, 0, none⟩ = some s0.v ∧ w'.frozen? ⟨X, 0, none⟩ = false ∧
      NM (w'.setCell ⟨X, 0, none⟩ s'.v) B X gm' s' s1 s2 g1 g2 ⟨r.members ++ [m], r.coming, r.going, r.churn⟩ ∧ Below B W (w'.setCell ⟨X, 0, none⟩ s'.v) ∧ W.heap.size < w'.heap.size := by
  have hX := h.hX
  have hgl := h.lt.2
  have hBW := Nat.le_of_lt (Nat.lt_of_le_of_lt h.hB hX)
  obtain ⟨i0, hi, hy0, hy1, hy2⟩ := info_parts info_mbrs
  have hA : Below W.heap.size W (W.alloc (.cells (mbrA m) 123)) := bel_a W _
  have hsz : (W.alloc (.cells (mbrA m) 123)).heap.size = W.heap.size + 1 := by simp
  obtain ⟨s', w', e1, e2, e3, e4⟩ := run_append_one (P := Try.prog) mbrA mbrA_size (W.alloc (.cells (mbrA m) 123)) 101 mbrA_one B 123 i0 _ 56 Try.underlying101 hi hy0 hy1 hy2 (by simp [Value.cells]) s0.v r.members (h.mem.keep hA) W.heap.size 1 m (heap_alloc_new W _) hlen (by omega) (by omega)
  have hz := e3.size
  rw [hsz] at hz
  have e5 : ∀ k, k < W.heap.size → k ≠ gm → w'.heap[k]? = W.heap[k]? := fun k hk hne => by
    refine (e3.block k (by omega) ?_).trans (Below.heap_alloc W _ k hk)
    rw [h.gmb]
    exact fun e => hne (by injection e)
  have hBw : Below B W w' := ((Below.refl B W).alloc hBW _).grown e3 (by omega) (fun k hk => by rw [h.gmb] at hk; injection hk with hk; have := h.lt.1; omega)
  obtain ⟨gm', hgm', hge⟩ : ∃ gm', s'.v.ownBlock = some gm' ∧ (gm' = gm ∨ W.heap.size ≤ gm') := by
    rcases e4 with e4 | e4
    · exact ⟨gm, by rw [e4, h.gmb], .inl rfl⟩
    · exact ⟨_, e4, .inr (by omega)⟩
  have bX := e5 X hX (fun e => h.dX.1 e.symm)
  have cX := fun o => World.cell?_of_block (a := ⟨X, o, none⟩) bX
  have fX := fun o => World.frozen?_of_block (a := ⟨X, o, none⟩) bX
  have hc2 := (cX 0).trans h.c0
  have hset : ∀ k, k ≠ X → (w'.setCell ⟨X, 0, none⟩ s'.v).heap[k]? = w'.heap[k]? := fun k hk => Below.heap_setCell w' ⟨X, 0, none⟩ s'.v k hk
  have hszs := size_setCell w' ⟨X, 0, none⟩ s'.v
  have hoth : ∀ o, o ≠ 0 → (w'.setCell ⟨X, 0, none⟩ s'.v).cell? ⟨X, o, none⟩ = W.cell? ⟨X, o, none⟩ := fun o ho => by
    rw [World.cell?_setCell_other w' _ _ _ (by intro e; injection e; omega), cX]
  have hne : gm' ≠ X ∧ g1 ≠ some gm' ∧ g2 ≠ some gm' := by
    rcases hge with rfl | hge
    · exact ⟨h.dX.1, h.dm⟩
    · refine ⟨by omega, fun e => ?_, fun e => ?_⟩
      · have := (h.com.lt gm' e).2
        omega
      · have := (h.goi.lt gm' e).2
        omega
  refine ⟨s', w', gm', e1, hc2, (fX 0).trans (h.fz 0 (by omega)), ⟨cell_set_same (by rw [hc2]; rfl), (hoth 1 (by omega)).trans h.c1, (hoth 2 (by omega)).trans h.c2, (hoth 3 (by omega)).trans h.c3, fun j hj => by rw [World.frozen?_setCell, fX]; exact h.fz j hj, h.hB, by rw [hszs]; omega,
    ?_, hgm', ?_, ?_, ⟨hne.1, h.dX.2⟩, hne.2, h.d12⟩, hBw.setCell h.hB _, by omega⟩
  · exact e2.keepB (by rw [hszs]; exact Nat.le_refl _) fun g hg _ => hset g (fun e => hne.1 (by rw [hgm'] at hg; injection hg with hg; omega))
  · exact h.com.keepB (by rw [hszs]; omega) fun g hg hlt => by
      rw [hset g (fun e => h.dX.2.1 (by rw [hg, e]))]
      exact e5 g hlt (fun e => h.dm.1 (by rw [hg, e]))
  · exact h.goi.keepB (by rw [hszs]; omega) fun g hg hlt => by
      rw [hset g (fun e => h.dX.2.2 (by rw [hg, e]))]
      exact e5 g hlt (fun e => h.dm.2 (by rw [hg, e]))
end
end Go.Proofs.Ytkocpihfdpahpaa

/- Contract: registry's do: an operation. -/
namespace Go.Proofs.Ytkocpihfdpahpaa
open Go.RowKit
attribute [local go_sem ↓] fold_bsI fold_appI fold_bsM fold_appM fold_bldM

/-- a row's part -/
theorem row_part {w : World} {b off n : Nat} {l : Array Value} (h : row? w b off n = some l) (o k : Nat) (hk : o + k ≤ n) : row? w b (off + o) k = some (l.extract o (o + k)) := by
  obtain ⟨cs, t, fr, hg, hle, rfl⟩ := row?_some h
  unfold row?
  rw [hg]
  simp only [show off + o + k ≤ cs.size by omega, if_true, Option.some.injEq]
  rw [Array.extract_extract]
  congr 1
  omega
theorem op_parts {w : World} {b : Nat} {g : GOp} (h : row? w b 0 36 = some (opA g)) : w.cell? ⟨b, 0, none⟩ = some (.int .i64 g.kind) ∧ row? w b 1 32 = some (hashA g.key) ∧ w.cell? ⟨b, 33, none⟩ = some (.int .u64 (g.stake.toNat : Int)) ∧ w.cell? ⟨b, 34, none⟩ = some (.int .i64 g.validator) := by
  have h0 := cell_of_row? h 0 (by omega)
  have h1 := cell_of_row? h 33 (by omega)
  have h2 := cell_of_row? h 34 (by omega)
  have h3 := row_part h 1 32 (by omega)
  simp only [Nat.zero_add, Nat.reduceAdd, opA_key, opA_kind, opA_stake, opA_validator] at h0 h1 h2 h3
  exact ⟨h0, h3, h1, h2⟩
/-- what an operation leaves -/
def DoPost (w : World) (B X : Nat) (p : Reg × Int) (e : Ending) (w' : World) : Prop := e = .returned (.int .i64 p.2) ∧ NextM w' B X p.1 ∧ Below B w w'
set_option maxRecDepth 100000 in
set_option maxHeartbeats 3200000 in
theorem do_join {w : World} {B X gm : Nat} {s0 s1 s2 : Sl} {g1 g2 : Option Nat} {r : Reg} (h : NM w B X gm s0 s1 s2 g1 g2 r) (hP : RegP r) {g : GOp} {o : Op} (ho : OpR w g o) (hm : opMay o = true) (hk : o.kind = 1) :
    Calls Try.prog 131 #[.pointer (some ⟨X, 0, none⟩), .agg (opA g)] w (DoPost w B X (regOp r o)) := by
  have HR := Lib.hid (show regOp r o = if keyIn o.key r.members = true ∨ r.churn.toNat < o.stake.toNat then (r, 14) else if 64 ≤ r.members.length then (r, 5)
    else (⟨r.members ++ [⟨o.key, o.stake, 1, false⟩], r.coming ++ [(r.members.length : Int) + 1], r.going, r.churn⟩, 0) from if_pos hk)
  have hrow : row? (w.alloc (.cells (opA g) 83)) w.heap.size 0 36 = some (opA g) := by rw [row?_new]; simp
  have hB0 : Below w.heap.size w (w.alloc (.cells (opA g) 83)) := bel_a _ _
  have hz0 : (w.alloc (.cells (opA g) 83)).heap.size = w.heap.size + 1 := by simp
  have hst := opMay_stake hm hk
  have h0 := h.keep hB0
  have hBX := h.hB
  have hXw := h.hX
  have hlen := hP.len
  have hcl := hP.coming.length_le
  have FZ := find_zero o.key r.members
  have HFB := find_bound o.key r.members 0
  rw [Nat.zero_add] at HFB
  change 0 ≤ findI o.key r.members ∧ findI o.key r.members ≤ _ at HFB
  have hBw : Below B w (w.alloc (.cells (opA g) 83)) := hB0.mono (by omega)
  obtain ⟨o1, o2, o3, o4, _⟩ := ho
  have hk' : g.kind = 1 := by rw [o1, hk]
  rw [← o3] at hst
  clear h hm hk o1
  go_enter Try.func131, Try.ntmps131
  go_upto_region 1 with fail
  generalize w.alloc (.cells (opA g) 83) = w1 at *
  obtain ⟨oc0, ok0, os0, _⟩ := op_parts hrow
  rw [hk'] at oc0
  have hO0 : w.heap.size < w1.heap.size := by omega
  have hX0 : X < w1.heap.size := by omega
  have hrow0 := h0.row
  have c30 := h0.c3
  have HF := fun (W : World) (hb : Below w1.heap.size w1 W) => find_c (g := ⟨s0, s1, s2, r.churn⟩) ((h0.keep hb).reg.1) (by omega) g.key
  rw [o2] at HF
  have Hh := Lib.hid h0
  have HN : NextM w1 B X r := ⟨_, _, _, _, _, _, h0⟩
  clear h0 hrow hk' hB0
  obtain ⟨gk, gkey, gst, gv, ge⟩ := g
  simp only at o2 o3 o4 HF ok0 os0 hst
  subst o2 o3 o4
  go_wp2_with fail
  obtain ⟨sn, hsn⟩ : ∃ sn, sn = o.stake.toNat := ⟨_, rfl⟩
  obtain ⟨cn, hcn⟩ : ∃ cn, cn = r.churn.toNat := ⟨_, rfl⟩
  rw [← hsn] at os0 hst HR
  rw [← hcn] at c30 HR
  replace hsn := Lib.hid hsn
  replace hcn := Lib.hid hcn
  have hst1 : ¬ (sn : Int) < 1 := by omega
  cases hki : keyIn o.key r.members
  rotate_left
  · have Hr := Lib.hid (show regOp r o = (r, 14) by rw [HR.out]; exact if_pos (.inl hki))
    have hf0 : (findI o.key r.members != 0) = true := by
      rw [bne_iff_ne]
      intro e
      rw [FZ.1 e] at hki
      cases hki
    have hbf : decide (findI o.key r.members = 0) = false := by simpa using hf0
    clear FZ hki HR
    go_upto_region 3 with fail
    refine wp_region_freeG_l (fun W W' => Below W.heap.size W W') (by kernel_rfl) [11, 12, 13, 14, 15, 16, 17, 18, 19, 20, 21, 22, 23, 24, 25, 26, 27, 28, 29, 30, 31, 32, 33, 34, 10]
      [Is (.pointer (some ⟨X, 0, none⟩)), Is (.pointer (some ⟨X, 0, none⟩)), Is (.pointer (some ⟨X, 0, none⟩)), Is (.agg (regA ⟨s0, s1, s2, r.churn⟩)), Is (.pointer (some ⟨w.heap.size, 1, none⟩)), Is (.agg (hashA o.key)), Is (.int .i64 (findI o.key r.members)), Is (.bool true), Is (.bool true), Is (undef), Is (undef), Is (undef), Is (.bool true), Is (.bool true), Is (undef), Is (undef), Is (undef), Is (undef), Is (undef), Is (undef), Is (undef), Is (undef), Is (undef), Is (.bool true), Is (.bool true)]
      (by kernel_rfl) (fun W W' h hb => hb.trans (h.mono hb.size)) ?_ ?_ ?_
    · intro f hf
      simp only [List.mem_cons, List.not_mem_nil, or_false] at hf
      rcases hf with rfl | rfl | rfl | rfl | rfl | rfl | rfl | rfl | rfl | rfl | rfl | rfl | rfl | rfl | rfl | rfl | rfl | rfl | rfl | rfl | rfl | rfl | rfl | rfl | rfl <;> intro x W W' h hr <;> first | exact h
    · refine ⟨?_, ?_, ?_, ?_, ?_, ?_, ?_, ?_, ?_, ?_, ?_, ?_, ?_, ?_, ?_, ?_, ?_, ?_, ?_, ?_, ?_, ?_, ?_, ?_, ?_, trivial⟩
      · intro L ax W hf hd
        try simp [Region.binds] at hd
        have e0 : ax.tmps[0]?.getD undef = .pointer (some ⟨X, 0, none⟩) := hf.out 0 (by decide) rfl
        refine ⟨fun _ => ?_, fun h => absurd trivial h⟩
        refine free_run (v := .pointer (some ⟨X, 0, none⟩)) (W' := W) rfl ?_ rfl (Below.refl _ _)
        go_simp
      · intro L ax W hf hd
        simp [Region.binds] at hd
        have e11 : ax.tmps[11]?.getD undef = .pointer (some ⟨X, 0, none⟩) := slv (hf.got 0 (by decide) (by simp [hd]))
        refine ⟨fun _ => ?_, fun h => absurd trivial h⟩
        refine free_run (v := .pointer (some ⟨X, 0, none⟩)) (W' := W) rfl ?_ rfl (Below.refl _ _)
        go_simp
      · intro L ax W hf hd
        simp [Region.binds] at hd
        have e12 : ax.tmps[12]?.getD undef = .pointer (some ⟨X, 0, none⟩) := slv (hf.got 1 (by decide) (by simp [hd]))
        refine ⟨fun _ => ?_, fun h => absurd trivial h⟩
        refine free_run (v := .pointer (some ⟨X, 0, none⟩)) (W' := W) rfl ?_ rfl (Below.refl _ _)
        go_simp
      · intro L ax W hf hd
        simp [Region.binds] at hd
        have e13 : ax.tmps[13]?.getD undef = .pointer (some ⟨X, 0, none⟩) := slv (hf.got 2 (by decide) (by simp [hd]))
        refine ⟨fun _ => ?_, fun h => absurd trivial h⟩
        have h1 := (row?_below _ _ _ hf.below hX0).trans hrow0
        refine free_run (v := .agg (regA ⟨s0, s1, s2, r.churn⟩)) (W' := W) rfl ?_ rfl (Below.refl _ _)
        go_simp
      · intro L ax W hf hd
        try simp [Region.binds] at hd
        have e3 : ax.tmps[3]?.getD undef = .pointer (some ⟨w.heap.size, 0, none⟩) := hf.out 3 (by decide) rfl
        refine ⟨fun _ => ?_, fun h => absurd trivial h⟩
        refine free_run (v := .pointer (some ⟨w.heap.size, 1, none⟩)) (W' := W) rfl ?_ rfl (Below.refl _ _)
        go_simp
      · intro L ax W hf hd
        simp [Region.binds] at hd
        have e15 : ax.tmps[15]?.getD undef = .pointer (some ⟨w.heap.size, 1, none⟩) := slv (hf.got 4 (by decide) (by simp [hd]))
        refine ⟨fun _ => ?_, fun h => absurd trivial h⟩
        have h1 := (row?_below _ _ _ hf.below hO0).trans ok0
        refine free_run (v := .agg (hashA o.key)) (W' := W) rfl ?_ rfl (Below.refl _ _)
        go_simp
      · intro L ax W hf hd
        simp [Region.binds] at hd
        have e14 : ax.tmps[14]?.getD undef = .agg (regA ⟨s0, s1, s2, r.churn⟩) := slv (hf.got 3 (by decide) (by simp [hd]))
        have e16 : ax.tmps[16]?.getD undef = .agg (hashA o.key) := slv (hf.got 5 (by decide) (by simp [hd]))
        refine ⟨fun _ => ?_, fun h => absurd trivial h⟩
        refine free_call (f := 75) (args := #[.agg (regA ⟨s0, s1, s2, r.churn⟩), .agg (hashA o.key)]) rfl (by go_simp) ?_
        refine (HF W hf.below).mono ?_
        rintro e w' ⟨rfl, hb⟩
        exact ⟨_, rfl, rfl, hb⟩
      · intro L ax W hf hd
        simp [Region.binds] at hd
        have e17 : ax.tmps[17]?.getD undef = .int .i64 (findI o.key r.members) := slv (hf.got 6 (by decide) (by simp [hd]))
        refine ⟨fun _ => ?_, fun h => absurd trivial h⟩
        refine free_run (v := .bool true) (W' := W) rfl ?_ rfl (Below.refl _ _)
        go_simp
      · intro L ax W hf hd
        simp [Region.binds] at hd
        have e18 : ax.tmps[18]?.getD undef = .bool true := slv (hf.got 7 (by decide) (by simp [hd]))
        refine ⟨fun _ => ?_, fun h => absurd trivial h⟩
        refine free_run (v := .bool true) (W' := W) rfl ?_ rfl (Below.refl _ _)
        go_simp
      · intro L ax W hf hd
        simp [Region.binds] at hd
        have e3 : ax.tmps[3]?.getD undef = .pointer (some ⟨w.heap.size, 0, none⟩) := hf.out 3 (by decide) rfl
        have g0 : sl ax 19 = .bool true := hf.got 8 (by decide) (by simp [hd])
        refine ⟨fun hh => ?_, fun hh => ?_⟩
        · first
            | (exact absurd (g0.symm.trans hh) (undef_ne _))
            | (exact absurd (g0.symm.trans hh) (bool_ne (by decide)))
            | (exfalso; revert hh; simp [Held, g0, *]; done)
            | (refine free_run (v := undef) (W' := W) rfl ?_ rfl (Below.refl _ _); go_simp)
        · first
            | (exact absurd g0 hh)
            | (exfalso; revert hh; simp [Held, g0, *]; done)
            | (show undef = _; first | rfl | (simp [*]; done))
      · intro L ax W hf hd
        simp [Region.binds] at hd
        have e20 : ax.tmps[20]?.getD undef = undef := slv (hf.got 9 (by decide) (by simp [hd]))
        have g0 : sl ax 19 = .bool true := hf.got 8 (by decide) (by simp [hd])
        refine ⟨fun hh => ?_, fun hh => ?_⟩
        · first
            | (exact absurd (g0.symm.trans hh) (undef_ne _))
            | (exact absurd (g0.symm.trans hh) (bool_ne (by decide)))
            | (exfalso; revert hh; simp [Held, g0, *]; done)
            | (refine free_run (v := undef) (W' := W) rfl ?_ rfl (Below.refl _ _); go_simp)
        · first
            | (exact absurd g0 hh)
            | (exfalso; revert hh; simp [Held, g0, *]; done)
            | (show undef = _; first | rfl | (simp [*]; done))
      · intro L ax W hf hd
        simp [Region.binds] at hd
        have e21 : ax.tmps[21]?.getD undef = undef := slv (hf.got 10 (by decide) (by simp [hd]))
        have g0 : sl ax 19 = .bool true := hf.got 8 (by decide) (by simp [hd])
        refine ⟨fun hh => ?_, fun hh => ?_⟩
        · first
            | (exact absurd (g0.symm.trans hh) (undef_ne _))
            | (exact absurd (g0.symm.trans hh) (bool_ne (by decide)))
            | (exfalso; revert hh; simp [Held, g0, *]; done)
            | (refine free_run (v := undef) (W' := W) rfl ?_ rfl (Below.refl _ _); go_simp)
        · first
            | (exact absurd g0 hh)
            | (exfalso; revert hh; simp [Held, g0, *]; done)
            | (show undef = _; first | rfl | (simp [*]; done))
      · intro L ax W hf hd
        simp [Region.binds] at hd
        have e19 : ax.tmps[19]?.getD undef = .bool true := slv (hf.got 8 (by decide) (by simp [hd]))
        have e22 : ax.tmps[22]?.getD undef = undef := slv (hf.got 11 (by decide) (by simp [hd]))
        refine ⟨fun _ => ?_, fun h => absurd trivial h⟩
        refine free_run (v := .bool true) (W' := W) rfl ?_ rfl (Below.refl _ _)
        go_simp
      · intro L ax W hf hd
        simp [Region.binds] at hd
        have e23 : ax.tmps[23]?.getD undef = .bool true := slv (hf.got 12 (by decide) (by simp [hd]))
        refine ⟨fun _ => ?_, fun h => absurd trivial h⟩
        refine free_run (v := .bool true) (W' := W) rfl ?_ rfl (Below.refl _ _)
        go_simp
      · intro L ax W hf hd
        simp [Region.binds] at hd
        have e3 : ax.tmps[3]?.getD undef = .pointer (some ⟨w.heap.size, 0, none⟩) := hf.out 3 (by decide) rfl
        have g0 : sl ax 24 = .bool true := hf.got 13 (by decide) (by simp [hd])
        refine ⟨fun hh => ?_, fun hh => ?_⟩
        · first
            | (exact absurd (g0.symm.trans hh) (undef_ne _))
            | (exact absurd (g0.symm.trans hh) (bool_ne (by decide)))
            | (exfalso; revert hh; simp [Held, g0, *]; done)
            | (refine free_run (v := undef) (W' := W) rfl ?_ rfl (Below.refl _ _); go_simp)
        · first
            | (exact absurd g0 hh)
            | (exfalso; revert hh; simp [Held, g0, *]; done)
            | (show undef = _; first | rfl | (simp [*]; done))
      · intro L ax W hf hd
        simp [Region.binds] at hd
        have e25 : ax.tmps[25]?.getD undef = undef := slv (hf.got 14 (by decide) (by simp [hd]))
        have g0 : sl ax 24 = .bool true := hf.got 13 (by decide) (by simp [hd])
        refine ⟨fun hh => ?_, fun hh => ?_⟩
        · first
            | (exact absurd (g0.symm.trans hh) (undef_ne _))
            | (exact absurd (g0.symm.trans hh) (bool_ne (by decide)))
            | (exfalso; revert hh; simp [Held, g0, *]; done)
            | (refine free_run (v := undef) (W' := W) rfl ?_ rfl (Below.refl _ _); go_simp)
        · first
            | (exact absurd g0 hh)
            | (exfalso; revert hh; simp [Held, g0, *]; done)
            | (show undef = _; first | rfl | (simp [*]; done))
      · intro L ax W hf hd
        simp [Region.binds] at hd
        have e0 : ax.tmps[0]?.getD undef = .pointer (some ⟨X, 0, none⟩) := hf.out 0 (by decide) rfl
        have g0 : sl ax 24 = .bool true := hf.got 13 (by decide) (by simp [hd])
        refine ⟨fun hh => ?_, fun hh => ?_⟩
        · first
            | (exact absurd (g0.symm.trans hh) (undef_ne _))
            | (exact absurd (g0.symm.trans hh) (bool_ne (by decide)))
            | (exfalso; revert hh; simp [Held, g0, *]; done)
            | (refine free_run (v := undef) (W' := W) rfl ?_ rfl (Below.refl _ _); go_simp)
        · first
            | (exact absurd g0 hh)
            | (exfalso; revert hh; simp [Held, g0, *]; done)
            | (show undef = _; first | rfl | (simp [*]; done))
      · intro L ax W hf hd
        simp [Region.binds] at hd
        have e27 : ax.tmps[27]?.getD undef = undef := slv (hf.got 16 (by decide) (by simp [hd]))
        have g0 : sl ax 24 = .bool true := hf.got 13 (by decide) (by simp [hd])
        refine ⟨fun hh => ?_, fun hh => ?_⟩
        · first
            | (exact absurd (g0.symm.trans hh) (undef_ne _))
            | (exact absurd (g0.symm.trans hh) (bool_ne (by decide)))
            | (exfalso; revert hh; simp [Held, g0, *]; done)
            | (refine free_run (v := undef) (W' := W) rfl ?_ rfl (Below.refl _ _); go_simp)
        · first
            | (exact absurd g0 hh)
            | (exfalso; revert hh; simp [Held, g0, *]; done)
            | (show undef = _; first | rfl | (simp [*]; done))
      · intro L ax W hf hd
        simp [Region.binds] at hd
        have e28 : ax.tmps[28]?.getD undef = undef := slv (hf.got 17 (by decide) (by simp [hd]))
        have g0 : sl ax 24 = .bool true := hf.got 13 (by decide) (by simp [hd])
        refine ⟨fun hh => ?_, fun hh => ?_⟩
        · first
            | (exact absurd (g0.symm.trans hh) (undef_ne _))
            | (exact absurd (g0.symm.trans hh) (bool_ne (by decide)))
            | (exfalso; revert hh; simp [Held, g0, *]; done)
            | (refine free_run (v := undef) (W' := W) rfl ?_ rfl (Below.refl _ _); go_simp)
        · first
            | (exact absurd g0 hh)
            | (exfalso; revert hh; simp [Held, g0, *]; done)
            | (show undef = _; first | rfl | (simp [*]; done))
      · intro L ax W hf hd
        simp [Region.binds] at hd
        have e29 : ax.tmps[29]?.getD undef = undef := slv (hf.got 18 (by decide) (by simp [hd]))
        have g0 : sl ax 24 = .bool true := hf.got 13 (by decide) (by simp [hd])
        refine ⟨fun hh => ?_, fun hh => ?_⟩
        · first
            | (exact absurd (g0.symm.trans hh) (undef_ne _))
            | (exact absurd (g0.symm.trans hh) (bool_ne (by decide)))
            | (exfalso; revert hh; simp [Held, g0, *]; done)
            | (refine free_run (v := undef) (W' := W) rfl ?_ rfl (Below.refl _ _); go_simp)
        · first
            | (exact absurd g0 hh)
            | (exfalso; revert hh; simp [Held, g0, *]; done)
            | (show undef = _; first | rfl | (simp [*]; done))
      · intro L ax W hf hd
        simp [Region.binds] at hd
        have e30 : ax.tmps[30]?.getD undef = undef := slv (hf.got 19 (by decide) (by simp [hd]))
        have g0 : sl ax 24 = .bool true := hf.got 13 (by decide) (by simp [hd])
        refine ⟨fun hh => ?_, fun hh => ?_⟩
        · first
            | (exact absurd (g0.symm.trans hh) (undef_ne _))
            | (exact absurd (g0.symm.trans hh) (bool_ne (by decide)))
            | (exfalso; revert hh; simp [Held, g0, *]; done)
            | (refine free_run (v := undef) (W' := W) rfl ?_ rfl (Below.refl _ _); go_simp)
        · first
            | (exact absurd g0 hh)
            | (exfalso; revert hh; simp [Held, g0, *]; done)
            | (show undef = _; first | rfl | (simp [*]; done))
      · intro L ax W hf hd
        simp [Region.binds] at hd
        have e31 : ax.tmps[31]?.getD undef = undef := slv (hf.got 20 (by decide) (by simp [hd]))
        have g0 : sl ax 24 = .bool true := hf.got 13 (by decide) (by simp [hd])
        refine ⟨fun hh => ?_, fun hh => ?_⟩
        · first
            | (exact absurd (g0.symm.trans hh) (undef_ne _))
            | (exact absurd (g0.symm.trans hh) (bool_ne (by decide)))
            | (exfalso; revert hh; simp [Held, g0, *]; done)
            | (refine free_run (v := undef) (W' := W) rfl ?_ rfl (Below.refl _ _); go_simp)
        · first
            | (exact absurd g0 hh)
            | (exfalso; revert hh; simp [Held, g0, *]; done)
            | (show undef = _; first | rfl | (simp [*]; done))
      · intro L ax W hf hd
        simp [Region.binds] at hd
        have e26 : ax.tmps[26]?.getD undef = undef := slv (hf.got 15 (by decide) (by simp [hd]))
        have e32 : ax.tmps[32]?.getD undef = undef := slv (hf.got 21 (by decide) (by simp [hd]))
        have g0 : sl ax 24 = .bool true := hf.got 13 (by decide) (by simp [hd])
        refine ⟨fun hh => ?_, fun hh => ?_⟩
        · first
            | (exact absurd (g0.symm.trans hh) (undef_ne _))
            | (exact absurd (g0.symm.trans hh) (bool_ne (by decide)))
            | (exfalso; revert hh; simp [Held, g0, *]; done)
            | (refine free_run (v := undef) (W' := W) rfl ?_ rfl (Below.refl _ _); go_simp)
        · first
            | (exact absurd g0 hh)
            | (exfalso; revert hh; simp [Held, g0, *]; done)
            | (show undef = _; first | rfl | (simp [*]; done))
      · intro L ax W hf hd
        simp [Region.binds] at hd
        have e24 : ax.tmps[24]?.getD undef = .bool true := slv (hf.got 13 (by decide) (by simp [hd]))
        have e33 : ax.tmps[33]?.getD undef = undef := slv (hf.got 22 (by decide) (by simp [hd]))
        refine ⟨fun _ => ?_, fun h => absurd trivial h⟩
        refine free_run (v := .bool true) (W' := W) rfl ?_ rfl (Below.refl _ _)
        go_simp
      · intro L ax W hf hd
        simp [Region.binds] at hd
        have e34 : ax.tmps[34]?.getD undef = .bool true := slv (hf.got 23 (by decide) (by simp [hd]))
        refine ⟨fun _ => ?_, fun h => absurd trivial h⟩
        refine free_run (v := .bool true) (W' := W) rfl ?_ rfl (Below.refl _ _)
        go_simp
    · intro vs W hl' hF hb
      obtain ⟨g', hg1, hg2⟩ := vs_lit vs hl' hF
      have e24 : g' 24 = .bool true := hg2 24 (by decide)
      rw [hg1]
      clear hF hg1 hg2 hl'
      simp only [List.length_cons, List.length_nil, Nat.reduceAdd, show List.range 25 = [0, 1, 2, 3, 4, 5, 6, 7, 8, 9, 10, 11, 12, 13, 14, 15, 16, 17, 18, 19, 20, 21, 22, 23, 24] from rfl, List.map_cons, List.map_nil, putL, List.zip_cons_cons, List.zip_nil_right, List.setIfInBounds_toArray, List.set_cons_succ, List.set_cons_zero, e24]
      have HN2 := Lib.hid (show NextM W B X r from ⟨_, _, _, _, _, _, Hh.out.keep hb⟩)
      have HB2 := Lib.hid (show Below B w W from hBw.trans (hb.mono (by omega)))
      clear hb HF HN Hh
      go_wp2_with fail
      go_ret
      exact ⟨by rw [Hr.out]; rfl, by rw [Hr.out]; exact HN2.out, HB2.out⟩
  · have hf0 : (findI o.key r.members != 0) = false := by
      rw [FZ.2 hki]
      rfl
    have hbf : decide (findI o.key r.members = 0) = true := by simpa using hf0
    clear FZ
    obtain ⟨mn, hmin⟩ : ∃ mn : Int, min (4294967296 : Int) (cn : Int) = mn := ⟨_, rfl⟩
    by_cases hs : mn < (sn : Int)
    · have Hr := Lib.hid (show regOp r o = (r, 14) by rw [HR.out]; exact if_pos (.inr (by omega)))
      clear hki HR
      go_upto_region 3 with fail
      refine wp_region_freeG_l (fun W W' => Below W.heap.size W W') (by kernel_rfl) [11, 12, 13, 14, 15, 16, 17, 18, 19, 20, 21, 22, 23, 24, 25, 26, 27, 28, 29, 30, 31, 32, 33, 34, 10]
        [Is (.pointer (some ⟨X, 0, none⟩)), Is (.pointer (some ⟨X, 0, none⟩)), Is (.pointer (some ⟨X, 0, none⟩)), Is (.agg (regA ⟨s0, s1, s2, r.churn⟩)), Is (.pointer (some ⟨w.heap.size, 1, none⟩)), Is (.agg (hashA o.key)), Is (.int .i64 (findI o.key r.members)), Is (.bool false), Is (.bool false), Is (.pointer (some ⟨w.heap.size, 33, none⟩)), Is (.int .u64 (sn : Int)), Is (.bool false), Is (.bool false), Is (.bool false), Is (.pointer (some ⟨w.heap.size, 33, none⟩)), Is (.int .u64 (sn : Int)), Is (.pointer (some ⟨X, 0, none⟩)), Is (.pointer (some ⟨X, 0, none⟩)), Is (.pointer (some ⟨X, 0, none⟩)), Is (.pointer (some ⟨X, 3, none⟩)), Is (.int .u64 (cn : Int)), Is (.int .u64 mn), Is (.bool true), Is (.bool true), Is (.bool true)]
        (by kernel_rfl) (fun W W' h hb => hb.trans (h.mono hb.size)) ?_ ?_ ?_
      · intro f hf
        simp only [List.mem_cons, List.not_mem_nil, or_false] at hf
        rcases hf with rfl | rfl | rfl | rfl | rfl | rfl | rfl | rfl | rfl | rfl | rfl | rfl | rfl | rfl | rfl | rfl | rfl | rfl | rfl | rfl | rfl | rfl | rfl | rfl | rfl <;> intro x W W' h hr <;> first | exact h
      · refine ⟨?_, ?_, ?_, ?_, ?_, ?_, ?_, ?_, ?_, ?_, ?_, ?_, ?_, ?_, ?_, ?_, ?_, ?_, ?_, ?_, ?_, ?_, ?_, ?_, ?_, trivial⟩
        · intro L ax W hf hd
          try simp [Region.binds] at hd
          have e0 : ax.tmps[0]?.getD undef = .pointer (some ⟨X, 0, none⟩) := hf.out 0 (by decide) rfl
          refine ⟨fun _ => ?_, fun h => absurd trivial h⟩
          refine free_run (v := .pointer (some ⟨X, 0, none⟩)) (W' := W) rfl ?_ rfl (Below.refl _ _)
          go_simp
        · intro L ax W hf hd
          simp [Region.binds] at hd
          have e11 : ax.tmps[11]?.getD undef = .pointer (some ⟨X, 0, none⟩) := slv (hf.got 0 (by decide) (by simp [hd]))
          refine ⟨fun _ => ?_, fun h => absurd trivial h⟩
          refine free_run (v := .pointer (some ⟨X, 0, none⟩)) (W' := W) rfl ?_ rfl (Below.refl _ _)
          go_simp
        · intro L ax W hf hd
          simp [Region.binds] at hd
          have e12 : ax.tmps[12]?.getD undef = .pointer (some ⟨X, 0, none⟩) := slv (hf.got 1 (by decide) (by simp [hd]))
          refine ⟨fun _ => ?_, fun h => absurd trivial h⟩
          refine free_run (v := .pointer (some ⟨X, 0, none⟩)) (W' := W) rfl ?_ rfl (Below.refl _ _)
          go_simp
        · intro L ax W hf hd
          simp [Region.binds] at hd
          have e13 : ax.tmps[13]?.getD undef = .pointer (some ⟨X, 0, none⟩) := slv (hf.got 2 (by decide) (by simp [hd]))
          refine ⟨fun _ => ?_, fun h => absurd trivial h⟩
          have h1 := (row?_below _ _ _ hf.below hX0).trans hrow0
          refine free_run (v := .agg (regA ⟨s0, s1, s2, r.churn⟩)) (W' := W) rfl ?_ rfl (Below.refl _ _)
          go_simp
        · intro L ax W hf hd
          try simp [Region.binds] at hd
          have e3 : ax.tmps[3]?.getD undef = .pointer (some ⟨w.heap.size, 0, none⟩) := hf.out 3 (by decide) rfl
          refine ⟨fun _ => ?_, fun h => absurd trivial h⟩
          refine free_run (v := .pointer (some ⟨w.heap.size, 1, none⟩)) (W' := W) rfl ?_ rfl (Below.refl _ _)
          go_simp
        · intro L ax W hf hd
          simp [Region.binds] at hd
          have e15 : ax.tmps[15]?.getD undef = .pointer (some ⟨w.heap.size, 1, none⟩) := slv (hf.got 4 (by decide) (by simp [hd]))
          refine ⟨fun _ => ?_, fun h => absurd trivial h⟩
          have h1 := (row?_below _ _ _ hf.below hO0).trans ok0
          refine free_run (v := .agg (hashA o.key)) (W' := W) rfl ?_ rfl (Below.refl _ _)
          go_simp
        · intro L ax W hf hd
          simp [Region.binds] at hd
          have e14 : ax.tmps[14]?.getD undef = .agg (regA ⟨s0, s1, s2, r.churn⟩) := slv (hf.got 3 (by decide) (by simp [hd]))
          have e16 : ax.tmps[16]?.getD undef = .agg (hashA o.key) := slv (hf.got 5 (by decide) (by simp [hd]))
          refine ⟨fun _ => ?_, fun h => absurd trivial h⟩
          refine free_call (f := 75) (args := #[.agg (regA ⟨s0, s1, s2, r.churn⟩), .agg (hashA o.key)]) rfl (by go_simp) ?_
          refine (HF W hf.below).mono ?_
          rintro e w' ⟨rfl, hb⟩
          exact ⟨_, rfl, rfl, hb⟩
        · intro L ax W hf hd
          simp [Region.binds] at hd
          have e17 : ax.tmps[17]?.getD undef = .int .i64 (findI o.key r.members) := slv (hf.got 6 (by decide) (by simp [hd]))
          refine ⟨fun _ => ?_, fun h => absurd trivial h⟩
          refine free_run (v := .bool false) (W' := W) rfl ?_ rfl (Below.refl _ _)
          go_simp
        · intro L ax W hf hd
          simp [Region.binds] at hd
          have e18 : ax.tmps[18]?.getD undef = .bool false := slv (hf.got 7 (by decide) (by simp [hd]))
          refine ⟨fun _ => ?_, fun h => absurd trivial h⟩
          refine free_run (v := .bool false) (W' := W) rfl ?_ rfl (Below.refl _ _)
          go_simp
        · intro L ax W hf hd
          simp [Region.binds] at hd
          have e3 : ax.tmps[3]?.getD undef = .pointer (some ⟨w.heap.size, 0, none⟩) := hf.out 3 (by decide) rfl
          have g0 : sl ax 19 = .bool false := hf.got 8 (by decide) (by simp [hd])
          refine ⟨fun hh => ?_, fun hh => ?_⟩
          · first
              | (exact absurd (g0.symm.trans hh) (undef_ne _))
              | (exact absurd (g0.symm.trans hh) (bool_ne (by decide)))
              | (exfalso; revert hh; simp [Held, g0, *]; done)
              | (refine free_run (v := .pointer (some ⟨w.heap.size, 33, none⟩)) (W' := W) rfl ?_ rfl (Below.refl _ _); go_simp)
          · first
              | (exact absurd g0 hh)
              | (exfalso; revert hh; simp [Held, g0, *]; done)
              | (show undef = _; first | rfl | (simp [*]; done))
        · intro L ax W hf hd
          simp [Region.binds] at hd
          have e20 : ax.tmps[20]?.getD undef = .pointer (some ⟨w.heap.size, 33, none⟩) := slv (hf.got 9 (by decide) (by simp [hd]))
          have g0 : sl ax 19 = .bool false := hf.got 8 (by decide) (by simp [hd])
          refine ⟨fun hh => ?_, fun hh => ?_⟩
          · first
              | (exact absurd (g0.symm.trans hh) (undef_ne _))
              | (exact absurd (g0.symm.trans hh) (bool_ne (by decide)))
              | (exfalso; revert hh; simp [Held, g0, *]; done)
              | ((have h1 := (hf.below.cell (p := ⟨w.heap.size, 33, none⟩) hO0).trans os0); refine free_run (v := .int .u64 (sn : Int)) (W' := W) rfl ?_ rfl (Below.refl _ _); go_simp)
          · first
              | (exact absurd g0 hh)
              | (exfalso; revert hh; simp [Held, g0, *]; done)
              | (show undef = _; first | rfl | (simp [*]; done))
        · intro L ax W hf hd
          simp [Region.binds] at hd
          have e21 : ax.tmps[21]?.getD undef = .int .u64 (sn : Int) := slv (hf.got 10 (by decide) (by simp [hd]))
          have g0 : sl ax 19 = .bool false := hf.got 8 (by decide) (by simp [hd])
          refine ⟨fun hh => ?_, fun hh => ?_⟩
          · first
              | (exact absurd (g0.symm.trans hh) (undef_ne _))
              | (exact absurd (g0.symm.trans hh) (bool_ne (by decide)))
              | (exfalso; revert hh; simp [Held, g0, *]; done)
              | (refine free_run (v := .bool false) (W' := W) rfl ?_ rfl (Below.refl _ _); go_simp)
          · first
              | (exact absurd g0 hh)
              | (exfalso; revert hh; simp [Held, g0, *]; done)
              | (show undef = _; first | rfl | (simp [*]; done))
        · intro L ax W hf hd
          simp [Region.binds] at hd
          have e19 : ax.tmps[19]?.getD undef = .bool false := slv (hf.got 8 (by decide) (by simp [hd]))
          have e22 : ax.tmps[22]?.getD undef = .bool false := slv (hf.got 11 (by decide) (by simp [hd]))
          refine ⟨fun _ => ?_, fun h => absurd trivial h⟩
          refine free_run (v := .bool false) (W' := W) rfl ?_ rfl (Below.refl _ _)
          go_simp
        · intro L ax W hf hd
          simp [Region.binds] at hd
          have e23 : ax.tmps[23]?.getD undef = .bool false := slv (hf.got 12 (by decide) (by simp [hd]))
          refine ⟨fun _ => ?_, fun h => absurd trivial h⟩
          refine free_run (v := .bool false) (W' := W) rfl ?_ rfl (Below.refl _ _)
          go_simp
        · intro L ax W hf hd
          simp [Region.binds] at hd
          have e3 : ax.tmps[3]?.getD undef = .pointer (some ⟨w.heap.size, 0, none⟩) := hf.out 3 (by decide) rfl
          have g0 : sl ax 24 = .bool false := hf.got 13 (by decide) (by simp [hd])
          refine ⟨fun hh => ?_, fun hh => ?_⟩
          · first
              | (exact absurd (g0.symm.trans hh) (undef_ne _))
              | (exact absurd (g0.symm.trans hh) (bool_ne (by decide)))
              | (exfalso; revert hh; simp [Held, g0, *]; done)
              | (refine free_run (v := .pointer (some ⟨w.heap.size, 33, none⟩)) (W' := W) rfl ?_ rfl (Below.refl _ _); go_simp)
          · first
              | (exact absurd g0 hh)
              | (exfalso; revert hh; simp [Held, g0, *]; done)
              | (show undef = _; first | rfl | (simp [*]; done))
        · intro L ax W hf hd
          simp [Region.binds] at hd
          have e25 : ax.tmps[25]?.getD undef = .pointer (some ⟨w.heap.size, 33, none⟩) := slv (hf.got 14 (by decide) (by simp [hd]))
          have g0 : sl ax 24 = .bool false := hf.got 13 (by decide) (by simp [hd])
          refine ⟨fun hh => ?_, fun hh => ?_⟩
          · first
              | (exact absurd (g0.symm.trans hh) (undef_ne _))
              | (exact absurd (g0.symm.trans hh) (bool_ne (by decide)))
              | (exfalso; revert hh; simp [Held, g0, *]; done)
              | ((have h1 := (hf.below.cell (p := ⟨w.heap.size, 33, none⟩) hO0).trans os0); refine free_run (v := .int .u64 (sn : Int)) (W' := W) rfl ?_ rfl (Below.refl _ _); go_simp)
          · first
              | (exact absurd g0 hh)
              | (exfalso; revert hh; simp [Held, g0, *]; done)
              | (show undef = _; first | rfl | (simp [*]; done))
        · intro L ax W hf hd
          simp [Region.binds] at hd
          have e0 : ax.tmps[0]?.getD undef = .pointer (some ⟨X, 0, none⟩) := hf.out 0 (by decide) rfl
          have g0 : sl ax 24 = .bool false := hf.got 13 (by decide) (by simp [hd])
          refine ⟨fun hh => ?_, fun hh => ?_⟩
          · first
              | (exact absurd (g0.symm.trans hh) (undef_ne _))
              | (exact absurd (g0.symm.trans hh) (bool_ne (by decide)))
              | (exfalso; revert hh; simp [Held, g0, *]; done)
              | (refine free_run (v := .pointer (some ⟨X, 0, none⟩)) (W' := W) rfl ?_ rfl (Below.refl _ _); go_simp)
          · first
              | (exact absurd g0 hh)
              | (exfalso; revert hh; simp [Held, g0, *]; done)
              | (show undef = _; first | rfl | (simp [*]; done))
        · intro L ax W hf hd
          simp [Region.binds] at hd
          have e27 : ax.tmps[27]?.getD undef = .pointer (some ⟨X, 0, none⟩) := slv (hf.got 16 (by decide) (by simp [hd]))
          have g0 : sl ax 24 = .bool false := hf.got 13 (by decide) (by simp [hd])
          refine ⟨fun hh => ?_, fun hh => ?_⟩
          · first
              | (exact absurd (g0.symm.trans hh) (undef_ne _))
              | (exact absurd (g0.symm.trans hh) (bool_ne (by decide)))
              | (exfalso; revert hh; simp [Held, g0, *]; done)
              | (refine free_run (v := .pointer (some ⟨X, 0, none⟩)) (W' := W) rfl ?_ rfl (Below.refl _ _); go_simp)
          · first
              | (exact absurd g0 hh)
              | (exfalso; revert hh; simp [Held, g0, *]; done)
              | (show undef = _; first | rfl | (simp [*]; done))
        · intro L ax W hf hd
          simp [Region.binds] at hd
          have e28 : ax.tmps[28]?.getD undef = .pointer (some ⟨X, 0, none⟩) := slv (hf.got 17 (by decide) (by simp [hd]))
          have g0 : sl ax 24 = .bool false := hf.got 13 (by decide) (by simp [hd])
          refine ⟨fun hh => ?_, fun hh => ?_⟩
          · first
              | (exact absurd (g0.symm.trans hh) (undef_ne _))
              | (exact absurd (g0.symm.trans hh) (bool_ne (by decide)))
              | (exfalso; revert hh; simp [Held, g0, *]; done)
              | (refine free_run (v := .pointer (some ⟨X, 0, none⟩)) (W' := W) rfl ?_ rfl (Below.refl _ _); go_simp)
          · first
              | (exact absurd g0 hh)
              | (exfalso; revert hh; simp [Held, g0, *]; done)
              | (show undef = _; first | rfl | (simp [*]; done))
        · intro L ax W hf hd
          simp [Region.binds] at hd
          have e29 : ax.tmps[29]?.getD undef = .pointer (some ⟨X, 0, none⟩) := slv (hf.got 18 (by decide) (by simp [hd]))
          have g0 : sl ax 24 = .bool false := hf.got 13 (by decide) (by simp [hd])
          refine ⟨fun hh => ?_, fun hh => ?_⟩
          · first
              | (exact absurd (g0.symm.trans hh) (undef_ne _))
              | (exact absurd (g0.symm.trans hh) (bool_ne (by decide)))
              | (exfalso; revert hh; simp [Held, g0, *]; done)
              | (refine free_run (v := .pointer (some ⟨X, 3, none⟩)) (W' := W) rfl ?_ rfl (Below.refl _ _); go_simp)
          · first
              | (exact absurd g0 hh)
              | (exfalso; revert hh; simp [Held, g0, *]; done)
              | (show undef = _; first | rfl | (simp [*]; done))
        · intro L ax W hf hd
          simp [Region.binds] at hd
          have e30 : ax.tmps[30]?.getD undef = .pointer (some ⟨X, 3, none⟩) := slv (hf.got 19 (by decide) (by simp [hd]))
          have g0 : sl ax 24 = .bool false := hf.got 13 (by decide) (by simp [hd])
          refine ⟨fun hh => ?_, fun hh => ?_⟩
          · first
              | (exact absurd (g0.symm.trans hh) (undef_ne _))
              | (exact absurd (g0.symm.trans hh) (bool_ne (by decide)))
              | (exfalso; revert hh; simp [Held, g0, *]; done)
              | ((have h1 := (hf.below.cell (p := ⟨X, 3, none⟩) hX0).trans c30); refine free_run (v := .int .u64 (cn : Int)) (W' := W) rfl ?_ rfl (Below.refl _ _); go_simp)
          · first
              | (exact absurd g0 hh)
              | (exfalso; revert hh; simp [Held, g0, *]; done)
              | (show undef = _; first | rfl | (simp [*]; done))
        · intro L ax W hf hd
          simp [Region.binds] at hd
          have e31 : ax.tmps[31]?.getD undef = .int .u64 (cn : Int) := slv (hf.got 20 (by decide) (by simp [hd]))
          have g0 : sl ax 24 = .bool false := hf.got 13 (by decide) (by simp [hd])
          refine ⟨fun hh => ?_, fun hh => ?_⟩
          · first
              | (exact absurd (g0.symm.trans hh) (undef_ne _))
              | (exact absurd (g0.symm.trans hh) (bool_ne (by decide)))
              | (exfalso; revert hh; simp [Held, g0, *]; done)
              | (refine free_run (v := .int .u64 mn) (W' := W) rfl ?_ rfl (Below.refl _ _); go_simp)
          · first
              | (exact absurd g0 hh)
              | (exfalso; revert hh; simp [Held, g0, *]; done)
              | (show undef = _; first | rfl | (simp [*]; done))
        · intro L ax W hf hd
          simp [Region.binds] at hd
          have e26 : ax.tmps[26]?.getD undef = .int .u64 (sn : Int) := slv (hf.got 15 (by decide) (by simp [hd]))
          have e32 : ax.tmps[32]?.getD undef = .int .u64 mn := slv (hf.got 21 (by decide) (by simp [hd]))
          have g0 : sl ax 24 = .bool false := hf.got 13 (by decide) (by simp [hd])
          refine ⟨fun hh => ?_, fun hh => ?_⟩
          · first
              | (exact absurd (g0.symm.trans hh) (undef_ne _))
              | (exact absurd (g0.symm.trans hh) (bool_ne (by decide)))
              | (exfalso; revert hh; simp [Held, g0, *]; done)
              | (refine free_run (v := .bool true) (W' := W) rfl ?_ rfl (Below.refl _ _); go_simp)
          · first
              | (exact absurd g0 hh)
              | (exfalso; revert hh; simp [Held, g0, *]; done)
              | (show undef = _; first | rfl | (simp [*]; done))
        · intro L ax W hf hd
          simp [Region.binds] at hd
          have e24 : ax.tmps[24]?.getD undef = .bool false := slv (hf.got 13 (by decide) (by simp [hd]))
          have e33 : ax.tmps[33]?.getD undef = .bool true := slv (hf.got 22 (by decide) (by simp [hd]))
          refine ⟨fun _ => ?_, fun h => absurd trivial h⟩
          refine free_run (v := .bool true) (W' := W) rfl ?_ rfl (Below.refl _ _)
          go_simp
        · intro L ax W hf hd
          simp [Region.binds] at hd
          have e34 : ax.tmps[34]?.getD undef = .bool true := slv (hf.got 23 (by decide) (by simp [hd]))
          refine ⟨fun _ => ?_, fun h => absurd trivial h⟩
          refine free_run (v := .bool true) (W' := W) rfl ?_ rfl (Below.refl _ _)
          go_simp
      · intro vs W hl' hF hb
        obtain ⟨g', hg1, hg2⟩ := vs_lit vs hl' hF
        have e24 : g' 24 = .bool true := hg2 24 (by decide)
        rw [hg1]
        clear hF hg1 hg2 hl'
        simp only [List.length_cons, List.length_nil, Nat.reduceAdd, show List.range 25 = [0, 1, 2, 3, 4, 5, 6, 7, 8, 9, 10, 11, 12, 13, 14, 15, 16, 17, 18, 19, 20, 21, 22, 23, 24] from rfl, List.map_cons, List.map_nil, putL, List.zip_cons_cons, List.zip_nil_right, List.setIfInBounds_toArray, List.set_cons_succ, List.set_cons_zero, e24]
        have HN2 := Lib.hid (show NextM W B X r from ⟨_, _, _, _, _, _, Hh.out.keep hb⟩)
        have HB2 := Lib.hid (show Below B w W from hBw.trans (hb.mono (by omega)))
        clear hb HF HN Hh
        go_wp2_with fail
        go_ret
        exact ⟨by rw [Hr.out]; rfl, by rw [Hr.out]; exact HN2.out, HB2.out⟩
    · have HR := Lib.hid (show regOp r o = if 64 ≤ r.members.length then (r, 5) else (⟨r.members ++ [⟨o.key, o.stake, 1, false⟩], r.coming ++ [(r.members.length : Int) + 1], r.going, r.churn⟩, 0) by
        rw [HR.out, if_neg]
        rw [hki]
        intro h
        rcases h with h | h
        · cases h
        · omega)
      clear hki
      go_upto_region 3 with fail
      refine wp_region_freeG_l (fun W W' => Below W.heap.size W W') (by kernel_rfl) [11, 12, 13, 14, 15, 16, 17, 18, 19, 20, 21, 22, 23, 24, 25, 26, 27, 28, 29, 30, 31, 32, 33, 34, 10]
        [Is (.pointer (some ⟨X, 0, none⟩)), Is (.pointer (some ⟨X, 0, none⟩)), Is (.pointer (some ⟨X, 0, none⟩)), Is (.agg (regA ⟨s0, s1, s2, r.churn⟩)), Is (.pointer (some ⟨w.heap.size, 1, none⟩)), Is (.agg (hashA o.key)), Is (.int .i64 (findI o.key r.members)), Is (.bool false), Is (.bool false), Is (.pointer (some ⟨w.heap.size, 33, none⟩)), Is (.int .u64 (sn : Int)), Is (.bool false), Is (.bool false), Is (.bool false), Is (.pointer (some ⟨w.heap.size, 33, none⟩)), Is (.int .u64 (sn : Int)), Is (.pointer (some ⟨X, 0, none⟩)), Is (.pointer (some ⟨X, 0, none⟩)), Is (.pointer (some ⟨X, 0, none⟩)), Is (.pointer (some ⟨X, 3, none⟩)), Is (.int .u64 (cn : Int)), Is (.int .u64 mn), Is (.bool false), Is (.bool false), Is (.bool false)]
        (by kernel_rfl) (fun W W' h hb => hb.trans (h.mono hb.size)) ?_ ?_ ?_
      · intro f hf
        simp only [List.mem_cons, List.not_mem_nil, or_false] at hf
        rcases hf with rfl | rfl | rfl | rfl | rfl | rfl | rfl | rfl | rfl | rfl | rfl | rfl | rfl | rfl | rfl | rfl | rfl | rfl | rfl | rfl | rfl | rfl | rfl | rfl | rfl <;> intro x W W' h hr <;> first | exact h
      · refine ⟨?_, ?_, ?_, ?_, ?_, ?_, ?_, ?_, ?_, ?_, ?_, ?_, ?_, ?_, ?_, ?_, ?_, ?_, ?_, ?_, ?_, ?_, ?_, ?_, ?_, trivial⟩
        · intro L ax W hf hd
          try simp [Region.binds] at hd
          have e0 : ax.tmps[0]?.getD undef = .pointer (some ⟨X, 0, none⟩) := hf.out 0 (by decide) rfl
          refine ⟨fun _ => ?_, fun h => absurd trivial h⟩
          refine free_run (v := .pointer (some ⟨X, 0, none⟩)) (W' := W) rfl ?_ rfl (Below.refl _ _)
          go_simp
        · intro L ax W hf hd
          simp [Region.binds] at hd
          have e11 : ax.tmps[11]?.getD undef = .pointer (some ⟨X, 0, none⟩) := slv (hf.got 0 (by decide) (by simp [hd]))
          refine ⟨fun _ => ?_, fun h => absurd trivial h⟩
          refine free_run (v := .pointer (some ⟨X, 0, none⟩)) (W' := W) rfl ?_ rfl (Below.refl _ _)
          go_simp
        · intro L ax W hf hd
          simp [Region.binds] at hd
          have e12 : ax.tmps[12]?.getD undef = .pointer (some ⟨X, 0, none⟩) := slv (hf.got 1 (by decide) (by simp [hd]))
          refine ⟨fun _ => ?_, fun h => absurd trivial h⟩
          refine free_run (v := .pointer (some ⟨X, 0, none⟩)) (W' := W) rfl ?_ rfl (Below.refl _ _)
          go_simp
        · intro L ax W hf hd
          simp [Region.binds] at hd
          have e13 : ax.tmps[13]?.getD undef = .pointer (some ⟨X, 0, none⟩) := slv (hf.got 2 (by decide) (by simp [hd]))
          refine ⟨fun _ => ?_, fun h => absurd trivial h⟩
          have h1 := (row?_below _ _ _ hf.below hX0).trans hrow0
          refine free_run (v := .agg (regA ⟨s0, s1, s2, r.churn⟩)) (W' := W) rfl ?_ rfl (Below.refl _ _)
          go_simp
        · intro L ax W hf hd
          try simp [Region.binds] at hd
          have e3 : ax.tmps[3]?.getD undef = .pointer (some ⟨w.heap.size, 0, none⟩) := hf.out 3 (by decide) rfl
          refine ⟨fun _ => ?_, fun h => absurd trivial h⟩
          refine free_run (v := .pointer (some ⟨w.heap.size, 1, none⟩)) (W' := W) rfl ?_ rfl (Below.refl _ _)
          go_simp
        · intro L ax W hf hd
          simp [Region.binds] at hd
          have e15 : ax.tmps[15]?.getD undef = .pointer (some ⟨w.heap.size, 1, none⟩) := slv (hf.got 4 (by decide) (by simp [hd]))
          refine ⟨fun _ => ?_, fun h => absurd trivial h⟩
          have h1 := (row?_below _ _ _ hf.below hO0).trans ok0
          refine free_run (v := .agg (hashA o.key)) (W' := W) rfl ?_ rfl (Below.refl _ _)
          go_simp
        · intro L ax W hf hd
          simp [Region.binds] at hd
          have e14 : ax.tmps[14]?.getD undef = .agg (regA ⟨s0, s1, s2, r.churn⟩) := slv (hf.got 3 (by decide) (by simp [hd]))
          have e16 : ax.tmps[16]?.getD undef = .agg (hashA o.key) := slv (hf.got 5 (by decide) (by simp [hd]))
          refine ⟨fun _ => ?_, fun h => absurd trivial h⟩
          refine free_call (f := 75) (args := #[.agg (regA ⟨s0, s1, s2, r.churn⟩), .agg (hashA o.key)]) rfl (by go_simp) ?_
          refine (HF W hf.below).mono ?_
          rintro e w' ⟨rfl, hb⟩
          exact ⟨_, rfl, rfl, hb⟩
        · intro L ax W hf hd
          simp [Region.binds] at hd
          have e17 : ax.tmps[17]?.getD undef = .int .i64 (findI o.key r.members) := slv (hf.got 6 (by decide) (by simp [hd]))
          refine ⟨fun _ => ?_, fun h => absurd trivial h⟩
          refine free_run (v := .bool false) (W' := W) rfl ?_ rfl (Below.refl _ _)
          go_simp
        · intro L ax W hf hd
          simp [Region.binds] at hd
          have e18 : ax.tmps[18]?.getD undef = .bool false := slv (hf.got 7 (by decide) (by simp [hd]))
          refine ⟨fun _ => ?_, fun h => absurd trivial h⟩
          refine free_run (v := .bool false) (W' := W) rfl ?_ rfl (Below.refl _ _)
          go_simp
        · intro L ax W hf hd
          simp [Region.binds] at hd
          have e3 : ax.tmps[3]?.getD undef = .pointer (some ⟨w.heap.size, 0, none⟩) := hf.out 3 (by decide) rfl
          have g0 : sl ax 19 = .bool false := hf.got 8 (by decide) (by simp [hd])
          refine ⟨fun hh => ?_, fun hh => ?_⟩
          · first
              | (exact absurd (g0.symm.trans hh) (undef_ne _))
              | (exact absurd (g0.symm.trans hh) (bool_ne (by decide)))
              | (exfalso; revert hh; simp [Held, g0, *]; done)
              | (refine free_run (v := .pointer (some ⟨w.heap.size, 33, none⟩)) (W' := W) rfl ?_ rfl (Below.refl _ _); go_simp)
          · first
              | (exact absurd g0 hh)
              | (exfalso; revert hh; simp [Held, g0, *]; done)
              | (show undef = _; first | rfl | (simp [*]; done))
        · intro L ax W hf hd
          simp [Region.binds] at hd
          have e20 : ax.tmps[20]?.getD undef = .pointer (some ⟨w.heap.size, 33, none⟩) := slv (hf.got 9 (by decide) (by simp [hd]))
          have g0 : sl ax 19 = .bool false := hf.got 8 (by decide) (by simp [hd])
          refine ⟨fun hh => ?_, fun hh => ?_⟩
          · first
              | (exact absurd (g0.symm.trans hh) (undef_ne _))
              | (exact absurd (g0.symm.trans hh) (bool_ne (by decide)))
              | (exfalso; revert hh; simp [Held, g0, *]; done)
              | ((have h1 := (hf.below.cell (p := ⟨w.heap.size, 33, none⟩) hO0).trans os0); refine free_run (v := .int .u64 (sn : Int)) (W' := W) rfl ?_ rfl (Below.refl _ _); go_simp)
          · first
              | (exact absurd g0 hh)
              | (exfalso; revert hh; simp [Held, g0, *]; done)
              | (show undef = _; first | rfl | (simp [*]; done))
        · intro L ax W hf hd
          simp [Region.binds] at hd
          have e21 : ax.tmps[21]?.getD undef = .int .u64 (sn : Int) := slv (hf.got 10 (by decide) (by simp [hd]))
          have g0 : sl ax 19 = .bool false := hf.got 8 (by decide) (by simp [hd])
          refine ⟨fun hh => ?_, fun hh => ?_⟩
          · first
              | (exact absurd (g0.symm.trans hh) (undef_ne _))
              | (exact absurd (g0.symm.trans hh) (bool_ne (by decide)))
              | (exfalso; revert hh; simp [Held, g0, *]; done)
              | (refine free_run (v := .bool false) (W' := W) rfl ?_ rfl (Below.refl _ _); go_simp)
          · first
              | (exact absurd g0 hh)
              | (exfalso; revert hh; simp [Held, g0, *]; done)
              | (show undef = _; first | rfl | (simp [*]; done))
        · intro L ax W hf hd
          simp [Region.binds] at hd
          have e19 : ax.tmps[19]?.getD undef = .bool false := slv (hf.got 8 (by decide) (by simp [hd]))
          have e22 : ax.tmps[22]?.getD undef = .bool false := slv (hf.got 11 (by decide) (by simp [hd]))
          refine ⟨fun _ => ?_, fun h => absurd trivial h⟩
          refine free_run (v := .bool false) (W' := W) rfl ?_ rfl (Below.refl _ _)
          go_simp
        · intro L ax W hf hd
          simp [Region.binds] at hd
          have e23 : ax.tmps[23]?.getD undef = .bool false := slv (hf.got 12 (by decide) (by simp [hd]))
          refine ⟨fun _ => ?_, fun h => absurd trivial h⟩
          refine free_run (v := .bool false) (W' := W) rfl ?_ rfl (Below.refl _ _)
          go_simp
        · intro L ax W hf hd
          simp [Region.binds] at hd
          have e3 : ax.tmps[3]?.getD undef = .pointer (some ⟨w.heap.size, 0, none⟩) := hf.out 3 (by decide) rfl
          have g0 : sl ax 24 = .bool false := hf.got 13 (by decide) (by simp [hd])
          refine ⟨fun hh => ?_, fun hh => ?_⟩
          · first
              | (exact absurd (g0.symm.trans hh) (undef_ne _))
              | (exact absurd (g0.symm.trans hh) (bool_ne (by decide)))
              | (exfalso; revert hh; simp [Held, g0, *]; done)
              | (refine free_run (v := .pointer (some ⟨w.heap.size, 33, none⟩)) (W' := W) rfl ?_ rfl (Below.refl _ _); go_simp)
          · first
              | (exact absurd g0 hh)
              | (exfalso; revert hh; simp [Held, g0, *]; done)
              | (show undef = _; first | rfl | (simp [*]; done))
        · intro L ax W hf hd
          simp [Region.binds] at hd
          have e25 : ax.tmps[25]?.getD undef = .pointer (some ⟨w.heap.size, 33, none⟩) := slv (hf.got 14 (by decide) (by simp [hd]))
          have g0 : sl ax 24 = .bool false := hf.got 13 (by decide) (by simp [hd])
          refine ⟨fun hh => ?_, fun hh => ?_⟩
          · first
              | (exact absurd (g0.symm.trans hh) (undef_ne _))
              | (exact absurd (g0.symm.trans hh) (bool_ne (by decide)))
              | (exfalso; revert hh; simp [Held, g0, *]; done)
              | ((have h1 := (hf.below.cell (p := ⟨w.heap.size, 33, none⟩) hO0).trans os0); refine free_run (v := .int .u64 (sn : Int)) (W' := W) rfl ?_ rfl (Below.refl _ _); go_simp)
          · first
              | (exact absurd g0 hh)
              | (exfalso; revert hh; simp [Held, g0, *]; done)
              | (show undef = _; first | rfl | (simp [*]; done))
        · intro L ax W hf hd
          simp [Region.binds] at hd
          have e0 : ax.tmps[0]?.getD undef = .pointer (some ⟨X, 0, none⟩) := hf.out 0 (by decide) rfl
          have g0 : sl ax 24 = .bool false := hf.got 13 (by decide) (by simp [hd])
          refine ⟨fun hh => ?_, fun hh => ?_⟩
          · first
              | (exact absurd (g0.symm.trans hh) (undef_ne _))
              | (exact absurd (g0.symm.trans hh) (bool_ne (by decide)))
              | (exfalso; revert hh; simp [Held, g0, *]; done)
              | (refine free_run (v := .pointer (some ⟨X, 0, none⟩)) (W' := W) rfl ?_ rfl (Below.refl _ _); go_simp)
          · first
              | (exact absurd g0 hh)
              | (exfalso; revert hh; simp [Held, g0, *]; done)
              | (show undef = _; first | rfl | (simp [*]; done))
        · intro L ax W hf hd
          simp [Region.binds] at hd
          have e27 : ax.tmps[27]?.getD undef = .pointer (some ⟨X, 0, none⟩) := slv (hf.got 16 (by decide) (by simp [hd]))
          have g0 : sl ax 24 = .bool false := hf.got 13 (by decide) (by simp [hd])
          refine ⟨fun hh => ?_, fun hh => ?_⟩
          · first
              | (exact absurd (g0.symm.trans hh) (undef_ne _))
              | (exact absurd (g0.symm.trans hh) (bool_ne (by decide)))
              | (exfalso; revert hh; simp [Held, g0, *]; done)
              | (refine free_run (v := .pointer (some ⟨X, 0, none⟩)) (W' := W) rfl ?_ rfl (Below.refl _ _); go_simp)
          · first
              | (exact absurd g0 hh)
              | (exfalso; revert hh; simp [Held, g0, *]; done)
              | (show undef = _; first | rfl | (simp [*]; done))
        · intro L ax W hf hd
          simp [Region.binds] at hd
          have e28 : ax.tmps[28]?.getD undef = .pointer (some ⟨X, 0, none⟩) := slv (hf.got 17 (by decide) (by simp [hd]))
          have g0 : sl ax 24 = .bool false := hf.got 13 (by decide) (by simp [hd])
          refine ⟨fun hh => ?_, fun hh => ?_⟩
          · first
              | (exact absurd (g0.symm.trans hh) (undef_ne _))
              | (exact absurd (g0.symm.trans hh) (bool_ne (by decide)))
              | (exfalso; revert hh; simp [Held, g0, *]; done)
              | (refine free_run (v := .pointer (some ⟨X, 0, none⟩)) (W' := W) rfl ?_ rfl (Below.refl _ _); go_simp)
          · first
              | (exact absurd g0 hh)
              | (exfalso; revert hh; simp [Held, g0, *]; done)
              | (show undef = _; first | rfl | (simp [*]; done))
        · intro L ax W hf hd
          simp [Region.binds] at hd
          have e29 : ax.tmps[29]?.getD undef = .pointer (some ⟨X, 0, none⟩) := slv (hf.got 18 (by decide) (by simp [hd]))
          have g0 : sl ax 24 = .bool false := hf.got 13 (by decide) (by simp [hd])
          refine ⟨fun hh => ?_, fun hh => ?_⟩
          · first
              | (exact absurd (g0.symm.trans hh) (undef_ne _))
              | (exact absurd (g0.symm.trans hh) (bool_ne (by decide)))
              | (exfalso; revert hh; simp [Held, g0, *]; done)
              | (refine free_run (v := .pointer (some ⟨X, 3, none⟩)) (W' := W) rfl ?_ rfl (Below.refl _ _); go_simp)
          · first
              | (exact absurd g0 hh)
              | (exfalso; revert hh; simp [Held, g0, *]; done)
              | (show undef = _; first | rfl | (simp [*]; done))
        · intro L ax W hf hd
          simp [Region.binds] at hd
          have e30 : ax.tmps[30]?.getD undef = .pointer (some ⟨X, 3, none⟩) := slv (hf.got 19 (by decide) (by simp [hd]))
          have g0 : sl ax 24 = .bool false := hf.got 13 (by decide) (by simp [hd])
          refine ⟨fun hh => ?_, fun hh => ?_⟩
          · first
              | (exact absurd (g0.symm.trans hh) (undef_ne _))
              | (exact absurd (g0.symm.trans hh) (bool_ne (by decide)))
              | (exfalso; revert hh; simp [Held, g0, *]; done)
              | ((have h1 := (hf.below.cell (p := ⟨X, 3, none⟩) hX0).trans c30); refine free_run (v := .int .u64 (cn : Int)) (W' := W) rfl ?_ rfl (Below.refl _ _); go_simp)
          · first
              | (exact absurd g0 hh)
              | (exfalso; revert hh; simp [Held, g0, *]; done)
              | (show undef = _; first | rfl | (simp [*]; done))
        · intro L ax W hf hd
          simp [Region.binds] at hd
          have e31 : ax.tmps[31]?.getD undef = .int .u64 (cn : Int) := slv (hf.got 20 (by decide) (by simp [hd]))
          have g0 : sl ax 24 = .bool false := hf.got 13 (by decide) (by simp [hd])
          refine ⟨fun hh => ?_, fun hh => ?_⟩
          · first
              | (exact absurd (g0.symm.trans hh) (undef_ne _))
              | (exact absurd (g0.symm.trans hh) (bool_ne (by decide)))
              | (exfalso; revert hh; simp [Held, g0, *]; done)
              | (refine free_run (v := .int .u64 mn) (W' := W) rfl ?_ rfl (Below.refl _ _); go_simp)
          · first
              | (exact absurd g0 hh)
              | (exfalso; revert hh; simp [Held, g0, *]; done)
              | (show undef = _; first | rfl | (simp [*]; done))
        · intro L ax W hf hd
          simp [Region.binds] at hd
          have e26 : ax.tmps[26]?.getD undef = .int .u64 (sn : Int) := slv (hf.got 15 (by decide) (by simp [hd]))
          have e32 : ax.tmps[32]?.getD undef = .int .u64 mn := slv (hf.got 21 (by decide) (by simp [hd]))
          have g0 : sl ax 24 = .bool false := hf.got 13 (by decide) (by simp [hd])
          refine ⟨fun hh => ?_, fun hh => ?_⟩
          · first
              | (exact absurd (g0.symm.trans hh) (undef_ne _))
              | (exact absurd (g0.symm.trans hh) (bool_ne (by decide)))
              | (exfalso; revert hh; simp [Held, g0, *]; done)
              | (refine free_run (v := .bool false) (W' := W) rfl ?_ rfl (Below.refl _ _); go_simp)
          · first
              | (exact absurd g0 hh)
              | (exfalso; revert hh; simp [Held, g0, *]; done)
              | (show undef = _; first | rfl | (simp [*]; done))
        · intro L ax W hf hd
          simp [Region.binds] at hd
          have e24 : ax.tmps[24]?.getD undef = .bool false := slv (hf.got 13 (by decide) (by simp [hd]))
          have e33 : ax.tmps[33]?.getD undef = .bool false := slv (hf.got 22 (by decide) (by simp [hd]))
          refine ⟨fun _ => ?_, fun h => absurd trivial h⟩
          refine free_run (v := .bool false) (W' := W) rfl ?_ rfl (Below.refl _ _)
          go_simp
        · intro L ax W hf hd
          simp [Region.binds] at hd
          have e34 : ax.tmps[34]?.getD undef = .bool false := slv (hf.got 23 (by decide) (by simp [hd]))
          refine ⟨fun _ => ?_, fun h => absurd trivial h⟩
          refine free_run (v := .bool false) (W' := W) rfl ?_ rfl (Below.refl _ _)
          go_simp
      · intro vs W hl' hF hb
        obtain ⟨g', hg1, hg2⟩ := vs_lit vs hl' hF
        have e24 : g' 24 = .bool false := hg2 24 (by decide)
        rw [hg1]
        clear hF hg1 hg2 hl'
        simp only [List.length_cons, List.length_nil, Nat.reduceAdd, show List.range 25 = [0, 1, 2, 3, 4, 5, 6, 7, 8, 9, 10, 11, 12, 13, 14, 15, 16, 17, 18, 19, 20, 21, 22, 23, 24] from rfl, List.map_cons, List.map_nil, putL, List.zip_cons_cons, List.zip_nil_right, List.setIfInBounds_toArray, List.set_cons_succ, List.set_cons_zero, e24]
        have HN2 := Hh.out.keep hb
        have HB2 := Lib.hid (show Below B w W from hBw.trans (hb.mono (by omega)))
        have ok2 := (row?_below _ _ _ hb hO0).trans ok0
        have os2 := (hb.cell (p := ⟨w.heap.size, 33, none⟩) hO0).trans os0
        have hX2 := HN2.hX
        have hO2 : w.heap.size < W.heap.size := Nat.lt_of_lt_of_le hO0 hb.size
        have c0 : W.cell? ⟨X, 0, none⟩ = some (.slice (some ⟨gm, 0, none⟩) r.members.length s0.c) := by
          have := HN2.c0
          rw [HN2.s0eq] at this
          exact this
        clear hb HF HN Hh hmin hs hst hst1 hf0 hbf HFB c30 hrow0 ok0 os0
        by_cases h64 : 64 ≤ r.members.length
        · have Hr := Lib.hid (show regOp r o = (r, 5) by rw [HR.out]; exact if_pos h64)
          have h64' : (64 : Int) ≤ (r.members.length : Int) := by omega
          have HN2 := Lib.hid HN2
          clear h64 HR
          go_wp2_with fail
          go_ret
          exact ⟨by rw [Hr.out]; rfl, by rw [Hr.out]; exact ⟨_, _, _, _, _, _, HN2.out⟩, HB2.out⟩
        · have Hr := Lib.hid (show regOp r o = (⟨r.members ++ [⟨o.key, o.stake, 1, false⟩], r.coming ++ [(r.members.length : Int) + 1], r.going, r.churn⟩, 0) by rw [HR.out]; exact if_neg h64)
          have h64' : ¬ (64 : Int) ≤ (r.members.length : Int) := by omega
          have HD := HN2.keep ((Below.refl _ W).drew)
          obtain ⟨s', w3, gm', e1, e2, e3, HN3, hB3, hz3⟩ := HD.app0 (by omega) ⟨o.key, o.stake, 1, false⟩
          have hbm : ∀ W, (bldM #[(0, .agg (hashA o.key)), (1, .int .u64 (sn : Int)), (2, .int .i64 1)]).run Try.prog W = .ok (.agg (mbrA ⟨o.key, o.stake, 1, false⟩)) W := fun W => by
            rw [hsn.out]
            exact run_bldM _ _ _ _
          have hbs := fun W => bsM_one ⟨o.key, o.stake, 1, false⟩ W
          have e1' := e1
          rw [HD.s0eq] at e1 e2
          dsimp only [Sl.v] at e1 e2
          obtain ⟨ua, un, uc⟩ := s'
          dsimp only [Sl.v] at e1 e2 HN3 hB3
          clear h64 e1'
          have HD := Lib.hid HD
          have HN2 := Lib.hid HN2
          have HN3 := Lib.hid HN3
          generalize (⟨o.key, o.stake, 1, false⟩ : Mbr) = m at *
          go_wp2_with fail
          clear HR
          have e1d : (appM #[.slice (some ⟨gm, 0, none⟩) r.members.length s0.c, .slice (some ⟨W.heap.size, 0, none⟩) 1 1]).run Try.prog (W.alloc (.cells (mbrA m) 123)).drew = .ok (.slice ua un uc) w3 := e1
          clear e1
          go_region
          have hB4 := Lib.hid (show Below B w (w3.setCell ⟨X, 0, none⟩ (.slice ua un uc)) from HB2.out.trans (undrew hB3))
          have hz4 := size_setCell w3 ⟨X, 0, none⟩ (.slice ua un uc)
          simp only [World.size_drew] at hz3
          generalize w3.setCell ⟨X, 0, none⟩ (.slice ua un uc) = W4 at *
          have hX4 := HN3.out.hX
          have hO4 : w.heap.size < W4.heap.size := by omega
          replace hz4 := Lib.hid hz4
          have hse := HN3.out.s0eq
          injection hse with q1 q2 q3
          subst q1
          simp only [List.length_append, List.length_singleton] at q2
          subst q2
          have d0 := HN3.out.c0
          have d1 := HN3.out.c1
          dsimp only [Sl.v] at d0
          have HD2 := HN3.out.keep ((Below.refl _ W4).drew)
          obtain ⟨t', w5, g1', f1, f2, f3, HN5, hB5, hz5⟩ := HD2.app1 (by simp only; omega) ((r.members.length : Int) + 1)
          obtain ⟨va, vn, vc⟩ := t'
          dsimp only [Sl.v] at f1 f2 HN5 hB5 d1
          have f1d : (appI #[.slice s1.a s1.n s1.c, .slice (some ⟨W4.heap.size, 0, none⟩) 1 1]).run Try.prog (W4.alloc (.cells #[i64V ((r.members.length : Int) + 1)] 3)).drew = .ok (.slice va vn vc) w5 := f1
          have hbi := fun W => bsI_one ((r.members.length : Int) + 1) W
          have k1 : (r.members.length : Int) < 64 := by omega
          clear f1 e1d hbm hbs e2 e3 c0 os2 ok2 hB3 hz3
          replace HN5 := Lib.hid HN5
          replace HD2 := Lib.hid HD2
          replace hB5 := Lib.hid hB5
          go_wp2_with fail
          go_region
          go_wp2_with fail
          go_ret
          exact ⟨by rw [Hr.out]; rfl, by rw [Hr.out]; exact ⟨_, _, _, _, _, _, HN5.out⟩, hB4.out.trans (undrew hB5.out)⟩
end Go.Proofs.Ytkocpihfdpahpaa

/- Contract: registry's do: an exit, a slash. -/
namespace Go.Proofs.Ytkocpihfdpahpaa
open Go.RowKit

theorem regOp_exit {r : Reg} {o : Op} (hk : o.kind = 2) : regOp r o = if (r.members.length : Int) < o.validator then (r, 14) else if leavesB r o.validator then (leave r o.validator, 0) else (r, 14) := by
  unfold regOp
  rw [hk]
  rfl
theorem regOp_slash {r : Reg} {o : Op} (hk : o.kind = 3) : regOp r o = if (r.members.length : Int) < o.validator then (r, 14) else
    if (r.members.getD (o.validator - 1).toNat zeroMbr).marked = true ∨ votes (r.members.getD (o.validator - 1).toNat zeroMbr).status = false then (r, 14)
    else (leave ⟨markAt r.members (o.validator - 1).toNat, r.coming, r.going, r.churn⟩ o.validator, 0) := by
  unfold regOp
  rw [hk]
  rfl
set_option maxRecDepth 100000 in
set_option maxHeartbeats 3200000 in
theorem do_rest {w : World} {B X gm : Nat} {s0 s1 s2 : Sl} {g1 g2 : Option Nat} {r : Reg} (h : NM w B X gm s0 s1 s2 g1 g2 r) (hP : RegP r) {g : GOp} {o : Op} (ho : OpR w g o) (hm : opMay o = true) (hk : o.kind = 2 ∨ o.kind = 3) :
    Calls Try.prog 131 #[.pointer (some ⟨X, 0, none⟩), .agg (opA g)] w (DoPost w B X (regOp r o)) := by
  have hrow : row? (w.alloc (.cells (opA g) 83)) w.heap.size 0 36 = some (opA g) := by rw [row?_new]; simp
  have hB0 : Below w.heap.size w (w.alloc (.cells (opA g) 83)) := bel_a _ _
  have hz0 : (w.alloc (.cells (opA g) 83)).heap.size = w.heap.size + 1 := by simp
  obtain ⟨v1, v2⟩ := opMay_val hm (by omega)
  have h0 := h.keep hB0
  have hBX := h.hB
  have hXw := h.hX
  have hgw := h.lt.2
  have hlen := hP.len
  have hgl := hP.going.length_le
  have hBw : Below B w (w.alloc (.cells (opA g) 83)) := hB0.mono (by omega)
  obtain ⟨o1, o2, o3, o4, _⟩ := ho
  clear h hm
  go_enter Try.func131, Try.ntmps131
  go_upto_region 1 with fail
  generalize w.alloc (.cells (opA g) 83) = w1 at *
  obtain ⟨oc0, _, _, ov0⟩ := op_parts hrow
  rw [o1] at oc0
  rw [o4] at ov0
  have hO0 : w.heap.size < w1.heap.size := by omega
  have hX0 : X < w1.heap.size := by omega
  have hse := h0.s0eq
  obtain ⟨sa, sn, sc⟩ := s0
  injection hse with q1 q2 q3
  subst q1 q2
  have c0 := h0.c0
  dsimp only [Sl.v] at c0
  have HN := Lib.hid h0
  clear h0 hrow hB0 o1 o2 o3 o4
  generalize hkk : o.kind = kk at *
  have b1 : (kk == 1) = false := by rcases hk with h | h <;> rw [h] <;> rfl
  have b23 : (kk == 3) = true ∨ (kk == 3) = false ∧ (kk == 2) = true := by rcases hk with h | h <;> rw [h] <;> simp
  generalize hvv : o.validator = v at *
  by_cases hv : (r.members.length : Int) < v
  · have Hr := Lib.hid (show regOp r o = (r, 14) by
      rcases hk with h | h
      · rw [regOp_exit (by rw [hkk, h]), hvv, if_pos hv]
      · rw [regOp_slash (by rw [hkk, h]), hvv, if_pos hv])
    have c0' := fun n => (show (w1.drewN n).cell? ⟨X, 0, none⟩ = some (.slice (some ⟨gm, 0, none⟩) r.members.length sc) from c0)
    have ov' := fun n => (show (w1.drewN n).cell? ⟨w.heap.size, 34, none⟩ = some (.int .i64 v) from ov0)
    have hBw := Lib.hid hBw
    have vv : ¬ v < 1 := by omega
    clear hkk hvv
    rcases b23 with b3 | ⟨b3, b2⟩
    all_goals clear hk
    all_goals go_wp2_with fail
    all_goals go_quiet (fail)
    all_goals go_wp2_with fail
    all_goals go_ret
    all_goals exact ⟨by rw [Hr.out]; rfl, by rw [Hr.out]; exact ⟨_, _, _, _, _, _, HN.out.keep (below_drewN (Below.refl _ _) _)⟩, below_drewN hBw.out _⟩
  · obtain ⟨i, rfl⟩ : ∃ i : Nat, v = (i : Int) + 1 := ⟨(v - 1).toNat, by omega⟩
    have hi : i < r.members.length := by omega
    have HE := Lib.hid (show (kk == 3) = false → regOp r o = if leavesB r ((i : Int) + 1) then (leave r ((i : Int) + 1), 0) else (r, 14) from fun h => by
      rw [regOp_exit (by rw [hkk]; rcases hk with h2 | h2 <;> first | exact h2 | (rw [h2] at h; cases h)), hvv, if_neg hv])
    have HS := Lib.hid (show (kk == 3) = true → regOp r o = if (r.members[i]).marked = true ∨ votes (r.members[i]).status = false then (r, 14) else (leave ⟨markAt r.members i, r.coming, r.going, r.churn⟩ ((i : Int) + 1), 0) from fun h => by
      rw [regOp_slash (by rw [hkk]; exact beq_iff_eq.1 h), hvv, if_neg hv, show ((i : Int) + 1 - 1).toNat = i by omega, getD_of (List.getElem?_eq_getElem hi)])
    have c0' := fun n => (show (w1.drewN n).cell? ⟨X, 0, none⟩ = some (.slice (some ⟨gm, 0, none⟩) r.members.length sc) from c0)
    have ov' := fun n => (show (w1.drewN n).cell? ⟨w.heap.size, 34, none⟩ = some (.int .i64 ((i : Int) + 1)) from ov0)
    have hBw' := Lib.hid hBw
    have vv : ¬ (i : Int) + 1 < 1 := by omega
    have x1 : IntKind.i64.wrap ((i : Int) + 1 - 1) = i := by rw [show (i : Int) + 1 - 1 = i by omega]; exact IntWalk.i64_in _ (by omega)
    have j1 : (i : Int) < (r.members.length : Int) := by omega
    have hv' : ¬ (r.members.length : Int) < (i : Int) + 1 := hv
    clear hkk hvv hv hBw
    rcases b23 with b3 | ⟨b3, b2⟩
    · clear hk HE
      replace HS := Lib.hid (HS.out b3)
      go_wp2_with fail
      go_quiet (fail)
      have HN2 := HN.out.keep (below_drewN (Below.refl _ w1) nq)
      have oc1 : (w1.drewN nq).cell? ⟨w.heap.size, 0, none⟩ = some (.int .i64 kk) := oc0
      have hBw := Lib.hid (below_drewN hBw'.out nq)
      replace c0 := c0' nq
      replace ov0 := ov' nq
      have hO1 : w.heap.size < (w1.drewN nq).heap.size := hO0
      clear c0' ov' HN hBw' oc0 hO0 hX0
      generalize w1.drewN nq = w2 at *
      have c0' := fun n => (show (w2.drewN n).cell? ⟨X, 0, none⟩ = some (.slice (some ⟨gm, 0, none⟩) r.members.length sc) from c0)
      have ov' := fun n => (show (w2.drewN n).cell? ⟨w.heap.size, 34, none⟩ = some (.int .i64 ((i : Int) + 1)) from ov0)
      replace HN2 := Lib.hid HN2
      go_wp2_with fail
      go_quiet (fail)
      have HN3 := HN2.out.keep (below_drewN (Below.refl _ w2) nq)
      replace oc1 : (w2.drewN nq).cell? ⟨w.heap.size, 0, none⟩ = some (.int .i64 kk) := oc1
      replace ov0 := ov' nq
      replace hBw := Lib.hid (below_drewN hBw.out nq)
      replace hO1 : w.heap.size < (w2.drewN nq).heap.size := hO1
      clear c0' ov' HN2 c0
      generalize w2.drewN nq = w3 at *
      have hrow := HN3.mrow i hi
      generalize hmm : r.members[i] = m at *
      replace hmm := Lib.hid hmm
      obtain ⟨_, _, q2, q3⟩ := mbr_cells hrow
      have HC := fun W => active_c m.status W
      obtain ⟨mst, hmst⟩ : ∃ x, x = m.status := ⟨_, rfl⟩
      obtain ⟨mk, hmk⟩ : ∃ x, x = m.marked := ⟨_, rfl⟩
      rw [← hmst] at q2 HC HS
      rw [← hmk] at q3 HS
      obtain ⟨ac, hac⟩ : ∃ x, x = votes mst := ⟨_, rfl⟩
      rw [← hac] at HC HS
      have hX3 := HN3.hX
      have hg3 := HN3.lt.2
      cases mk
      rotate_left
      · have Hr := Lib.hid (show regOp r o = (r, 14) by rw [HS.out]; exact if_pos (.inl rfl))
        clear hrow hmst hmk hac
        replace HN3 := Lib.hid HN3
        go_wp2_with fail
        go_ret
        exact ⟨by rw [Hr.out]; rfl, by rw [Hr.out]; exact ⟨_, _, _, _, _, _, HN3.out⟩, hBw.out⟩
      cases ac
      · have Hr := Lib.hid (show regOp r o = (r, 14) by rw [HS.out]; exact if_pos (.inr rfl))
        clear hrow hmst hmk hac
        replace HN3 := Lib.hid HN3
        go_wp2_with (go_at_call 137; (with_reducible refine (HC _).mono ?_); rintro e w5 ⟨rfl, rfl⟩)
        go_ret
        exact ⟨by rw [Hr.out]; rfl, by rw [Hr.out]; exact ⟨_, _, _, _, _, _, HN3.out⟩, hBw.out⟩
      · have Hr := Lib.hid (show regOp r o = (leave ⟨markAt r.members i, r.coming, r.going, r.churn⟩ ((i : Int) + 1), 0) by rw [HS.out]; exact if_neg (by simp))
        clear hrow hmst hmk hac
        obtain ⟨a1, a2, HN4, hBn⟩ := HN3.setMk i hi
        have ov4 : (w3.setCell ⟨gm, i * 35 + 34, none⟩ (.bool true)).cell? ⟨w.heap.size, 34, none⟩ = some (.int .i64 ((i : Int) + 1)) := by
          rw [World.cell?_setCell_other w3 _ _ _ (by intro e; injection e with e1 e2; omega)]
          exact ov0
        generalize hW4 : w3.setCell ⟨gm, i * 35 + 34, none⟩ (.bool true) = W4 at *
        have HL := leave_c ⟨_, _, _, _, _, _, HN4⟩ (by simp [markAt]; omega) (by simp only; omega) ((i : Int) + 1) (by omega) (by simp [markAt]; omega)
        replace HN3 := Lib.hid HN3
        replace HN4 := Lib.hid HN4
        go_wp2_with (first
          | (go_at_call 137; (with_reducible refine (HC _).mono ?_); rintro e w5 ⟨rfl, rfl⟩)
          | (go_at_call 188; (with_reducible refine HL.mono ?_); rintro e w6 ⟨rfl, hL1, hL2⟩))
        go_ret
        exact ⟨by rw [Hr.out]; rfl, by rw [Hr.out]; exact hL1, (hBw.out.trans hBn).trans hL2⟩
    · clear hk HS
      replace HE := Lib.hid (HE.out b3)
      go_wp2_with fail
      go_quiet (fail)
      have HN2 := HN.out.keep (below_drewN (Below.refl _ w1) nq)
      have oc1 : (w1.drewN nq).cell? ⟨w.heap.size, 0, none⟩ = some (.int .i64 kk) := oc0
      have hBw := Lib.hid (below_drewN hBw'.out nq)
      replace c0 := c0' nq
      replace ov0 := ov' nq
      have hO1 : w.heap.size < (w1.drewN nq).heap.size := hO0
      clear c0' ov' HN hBw' oc0 hO0 hX0
      generalize w1.drewN nq = w2 at *
      have c0' := fun n => (show (w2.drewN n).cell? ⟨X, 0, none⟩ = some (.slice (some ⟨gm, 0, none⟩) r.members.length sc) from c0)
      have ov' := fun n => (show (w2.drewN n).cell? ⟨w.heap.size, 34, none⟩ = some (.int .i64 ((i : Int) + 1)) from ov0)
      replace HN2 := Lib.hid HN2
      go_wp2_with fail
      go_quiet (fail)
      have HN3 := HN2.out.keep (below_drewN (Below.refl _ w2) nq)
      replace oc1 : (w2.drewN nq).cell? ⟨w.heap.size, 0, none⟩ = some (.int .i64 kk) := oc1
      replace ov0 := ov' nq
      replace hBw := Lib.hid (below_drewN hBw.out nq)
      replace hO1 : w.heap.size < (w2.drewN nq).heap.size := hO1
      clear c0' ov' HN2 c0
      generalize w2.drewN nq = w3 at *
      have HL := leave_c ⟨_, _, _, _, _, _, HN3⟩ (by omega) (by omega) ((i : Int) + 1) (by omega) (by omega)
      have HNf : NextM w3 B X r := ⟨_, _, _, _, _, _, HN3⟩
      have HLV := Lib.hid (show leavesB r ((i : Int) + 1) = false → leave r ((i : Int) + 1) = r from fun h => by rw [leave, h]; rfl)
      generalize leavesB r ((i : Int) + 1) = lb at *
      clear HN3 HNf
      cases lb
      · have Hr := Lib.hid (show regOp r o = (r, 14) from HE.out)
        have Hl := Lib.hid (HLV.out rfl)
        go_wp2_with (go_at_call 188; (with_reducible refine HL.mono ?_); rintro e w6 ⟨rfl, hL1, hL2⟩)
        go_ret
        exact ⟨by rw [Hr.out]; rfl, by rw [Hr.out]; rw [Hl.out] at hL1; exact hL1, hBw.out.trans hL2⟩
      · have Hr := Lib.hid (show regOp r o = (leave r ((i : Int) + 1), 0) from HE.out)
        go_wp2_with (go_at_call 188; (with_reducible refine HL.mono ?_); rintro e w6 ⟨rfl, hL1, hL2⟩)
        go_ret
        exact ⟨by rw [Hr.out]; rfl, by rw [Hr.out]; exact hL1, hBw.out.trans hL2⟩
theorem do_c {w : World} {B X : Nat} {r : Reg} (h : NextM w B X r) (hP : RegP r) {g : GOp} {o : Op} (ho : OpR w g o) (hm : opMay o = true) :
    Calls Try.prog 131 #[.pointer (some ⟨X, 0, none⟩), .agg (opA g)] w (DoPost w B X (regOp r o)) := by
  obtain ⟨gm, s0, s1, s2, g1, g2, h⟩ := h
  rcases opMay_kind hm with hk | hk
  · exact do_join h hP ho hm hk
  · exact do_rest h hP ho hm hk
end Go.Proofs.Ytkocpihfdpahpaa

/- Contracts: slices.Clone of members and of numbers. The register that a header begins with. -/
namespace Go.Proofs.Ytkocpihfdpahpaa
open Go.RowKit

theorem mclones_c {w : World} {s : Sl} {l : List Mbr} (h : MbrsR w s l) (h0 : 0 < l.length) (hl : l.length ≤ 1000000) :
    Calls Try.prog 129 #[s.v] w fun e w' => ∃ (s' : Sl) (gm : Nat), e = .returned s'.v ∧ OwnC w' w.heap.size 35 s'.v l.length (flatC mbrA l) ∧ s'.v.ownBlock = some gm ∧ Below w.heap.size w w' := by
  obtain ⟨b, off, e, hb, hr, hc⟩ := mbrs_at h h0
  obtain ⟨sa, sn, sc⟩ := s
  have e1 := congrArg Sl.a e
  have e2 := congrArg Sl.n e
  simp only at e1 e2
  subst e1 e2
  obtain ⟨i0, hi, hz0, hz1, hz2⟩ := info_parts info_mbrs
  refine (Try.slices_Clone_f129 i0 (.agg (mbrA zeroMbr)) 35 56 hi hz0 hz1 hz2 (by simp [Value.cells]) (by decide) Try.sizeOf123 b off l.length sc (flatC mbrA l) w (flatC_length mbrA mbrA_size l) (Nat.le_trans hl (by decide)) (by omega) (fun j u hj => ?_) (flatC_onecell mbrA mbrA_one l)).mono ?_
  · have hlt := lt_of_get hj
    rw [flatC_length mbrA mbrA_size] at hlt
    have hq : j / 35 < l.length := Nat.div_lt_of_lt_mul (by omega)
    have hm := Nat.mod_lt j (show 0 < 35 by omega)
    have hjj : j = j / 35 * 35 + j % 35 := by have := Nat.div_add_mod j 35; omega
    rw [hjj, flatC_get mbrA mbrA_size l _ _ hq hm] at hj
    rw [hjj, ← Nat.add_assoc, cell_of_row? (hr _ hq) _ hm]
    exact hj
  · rintro e w' ⟨v', rfl, ho, hne, hb⟩
    have ho' := OwnC.of_row ho
    obtain ⟨s', rfl⟩ := ho'.slice
    rcases ho'.2 with ⟨hv, h1⟩ | ⟨g, cap, hv, _⟩
    · omega
    · exact ⟨s', g, rfl, ho', by rw [hv]; rfl, hb⟩
theorem iclones_c {w : World} {s : Sl} {l : List Int} (h : NumsR w s l) (hl : l.length ≤ 1000000) :
    Calls Try.prog 120 #[s.v] w fun e w' => ∃ (s' : Sl) (gb : Option Nat), e = .returned s'.v ∧ OwnO w' w.heap.size s'.v l gb ∧ Below w.heap.size w w' := by
  by_cases h0 : 0 < l.length
  · obtain ⟨b, off, e, hb, hc⟩ := nums_at h h0
    obtain ⟨sa, sn, sc⟩ := s
    have e1 := congrArg Sl.a e
    have e2 := congrArg Sl.n e
    simp only at e1 e2
    subst e1 e2
    refine (Try.slices_Clone_int b off l.length sc l w (Nat.le_refl _) (by omega) (fun j hj => by rw [hc j hj, getD_of (List.getElem?_eq_getElem hj)])).mono ?_
    rintro e w' ⟨v', rfl, ho, _, hb⟩
    rw [List.take_length] at ho
    obtain ⟨gb, ho', _⟩ := OwnO.of_row ho rfl
    obtain ⟨s', rfl, _⟩ := ho'.slice
    exact ⟨s', gb, rfl, ho', hb⟩
  · have hn : l = [] := List.eq_nil_of_length_eq_zero (by omega)
    subst hn
    have hn := h.1
    obtain ⟨sa, sn, sc⟩ := s
    simp only at hn
    subst hn
    cases sa with
    | none =>
      refine (Try.slices_Clone_int_nil 0 sc w).mono ?_
      rintro e w' ⟨rfl, rfl⟩
      exact ⟨⟨none, 0, 0⟩, none, rfl, OwnO.nil _ _ _, Below.refl _ _⟩
    | some a =>
      refine (Try.slices_Clone_int_zero a sc w).mono ?_
      rintro e w' ⟨v', rfl, ho, _, hb⟩
      obtain ⟨gb, ho', _⟩ := OwnO.of_row (xs := []) ho rfl
      obtain ⟨s', rfl, _⟩ := ho'.slice
      exact ⟨s', gb, rfl, ho', hb⟩
def zeroG4 : GReg := ⟨⟨none, 0, 0⟩, ⟨none, 0, 0⟩, ⟨none, 0, 0⟩, 0⟩
theorem zero_regA : #[.slice none 0 0, .slice none 0 0, .slice none 0 0, .int .u64 0] = regA zeroG4 := rfl
theorem RegR.zero (w : World) : RegR w zeroG4 zeroReg := ⟨SlR.nil _ _ _ _ _, SlR.nil _ _ _ _ _, SlR.nil _ _ _ _ _, rfl⟩
theorem LineP.le {r : Reg} (h : RegP r) : (∀ n ∈ r.coming, 1 ≤ n ∧ n ≤ (r.members.length : Int)) ∧ (∀ n ∈ r.going, 1 ≤ n ∧ n ≤ (r.members.length : Int)) ∧ r.coming.length ≤ 64 ∧ r.going.length ≤ 64 ∧ ∀ m ∈ r.members, m.stake.toNat ≤ 4294967296 :=
  ⟨h.coming.range, h.going.range, Nat.le_trans h.coming.length_le h.len.2, Nat.le_trans h.going.length_le h.len.2, fun m hm => (h.stakes m hm).2⟩
/-- above all stakes the limit does not matter -/
theorem sumL_le (ms : List Mbr) (hst : ∀ m ∈ ms, m.stake.toNat ≤ 4294967296) : ∀ l : List Int, sumL ms l ≤ l.length * 4294967296
  | [] => by simp [sumL]
  | n :: l => by
    have ih := sumL_le ms hst l
    have h1 : stakeAt ms n ≤ 4294967296 := by
      unfold stakeAt
      rcases Nat.lt_or_ge (n - 1).toNat ms.length with h | h
      · exact hst _ (mem_get.2 ⟨_, get_some h zeroMbr⟩)
      · rw [List.getD_eq_getElem?_getD, List.getElem?_eq_none h]
        simp [zeroMbr]
    simp only [sumL, List.map_cons, List.sum_cons, List.length_cons] at ih ⊢
    omega
theorem turnN_all (ms : List Mbr) (lim : Nat) : ∀ (l : List Int) (s : Nat), s + sumL ms l ≤ lim → turnN ms lim l s = l.length
  | [], _, _ => rfl
  | n :: l, s, h => by
    simp only [sumL, List.map_cons, List.sum_cons] at h
    rw [turnN, if_neg (by omega), turnN_all ms lim l _ (by simp only [sumL]; omega), List.length_cons]
    omega
theorem turnN_lim (ms : List Mbr) (hst : ∀ m ∈ ms, m.stake.toNat ≤ 4294967296) (l : List Int) (hl : l.length ≤ 64) (a b : Nat) (ha : 4611686018427387904 ≤ a) (hb : 4611686018427387904 ≤ b) : turnN ms a l 0 = turnN ms b l 0 := by
  have := sumL_le ms hst l
  rw [turnN_all ms a l 0 (by omega), turnN_all ms b l 0 (by omega)]
end Go.Proofs.Ytkocpihfdpahpaa

/- The lines cut at their heads; an operation in a box of its own. -/
namespace Go.Proofs.Ytkocpihfdpahpaa
open Go.RowKit

def slcI (x : Value) (k : Value) : Sem Value := Instr.sliceAt 58 x (some k) none none
theorem fold_slcI (x : Value) (k : Value) : Instr.sliceAt 58 x (some k) none none = slcI x k := rfl
theorem run_slcI (a : Option Addr) (n c k : Nat) (hk : k ≤ n) (hn : n ≤ c) (W : World) : (slcI (.slice a n c) (.int .i64 (k : Int))).run Try.prog W = .ok (.slice (if c = k then a else a.map (·.add (k * 1))) (n - k) (c - k)) W := by
  have h0 : (0 : Int) ≤ (k : Int) := by omega
  have h1 : (k : Int) ≤ (n : Int) := by omega
  have h2 : (n : Int) ≤ (c : Int) := by omega
  unfold slcI
  go_simp
theorem slc_cut {W : World} {base : Nat} {a : Option Addr} {n c : Nat} {xs : List Int} {gb : Option Nat} (h : OwnO W base (.slice a n c) xs gb) (k : Nat) (hk : k ≤ xs.length) :
    ∃ (s' : Sl) (gb' : Option Nat), (∀ W', (slcI (.slice a n c) (.int .i64 (k : Int))).run Try.prog W' = .ok s'.v W') ∧ OwnO W base s'.v (xs.drop k) gb' ∧ (gb' = gb ∨ gb' = none) := by
  have hc := h.cut k hk
  obtain ⟨a', c', e, hle, _, _⟩ := h
  injection e with e1 e2 e3
  subst e1 e2 e3
  have hr := fun W' => run_slcI a xs.length c k hk hle W'
  by_cases h1 : c = k
  · refine ⟨⟨a, xs.length - k, c - k⟩, none, fun W' => ?_, hc.1 h1 a, .inr rfl⟩
    rw [hr W', if_pos h1]
  · obtain ⟨g, off, e1, e2, ho⟩ := hc.2 (by omega)
    refine ⟨⟨some ⟨g, off + k, none⟩, xs.length - k, c - k⟩, gb, fun W' => ?_, ho, .inl rfl⟩
    rw [hr W', if_neg h1, e1]
    simp only [Option.map_some, Nat.mul_one]
    have hadd : (⟨g, off, none⟩ : Addr).add k = ⟨g, off + k, none⟩ := by unfold Addr.add; split <;> simp_all
    rw [hadd]
set_option maxRecDepth 100000 in
theorem nm_cut {W : World} {X gm : Nat} {s0 s1 s2 s1' s2' : Sl} {g1 g2 g1' g2' : Option Nat} {r : Reg} {l1 l2 : List Int} (h : NM W X X gm s0 s1 s2 g1 g2 r) (h1 : OwnO W X s1'.v l1 g1') (h2 : OwnO W X s2'.v l2 g2') (e1 : g1' = g1 ∨ g1' = none) (e2 : g2' = g2 ∨ g2' = none) :
    NM ((W.setCell ⟨X, 1, none⟩ s1'.v).setCell ⟨X, 2, none⟩ s2'.v) X X gm s0 s1' s2' g1' g2' ⟨r.members, l1, l2, r.churn⟩ ∧ Below X W ((W.setCell ⟨X, 1, none⟩ s1'.v).setCell ⟨X, 2, none⟩ s2'.v) := by
  have hblk : ∀ k, k ≠ X → ((W.setCell ⟨X, 1, none⟩ s1'.v).setCell ⟨X, 2, none⟩ s2'.v).heap[k]? = W.heap[k]? := fun k hk => by
    rw [Below.heap_setCell _ _ _ k hk, Below.heap_setCell _ _ _ k hk]
  have hsz : ((W.setCell ⟨X, 1, none⟩ s1'.v).setCell ⟨X, 2, none⟩ s2'.v).heap.size = W.heap.size := by rw [size_setCell, size_setCell]
  have hne : ∀ (o o' : Nat), o ≠ o' → (⟨X, o, none⟩ : Addr) ≠ ⟨X, o', none⟩ := fun o o' ho e => by injection e with _ e; exact ho e
  have q1 : ∀ g, g1' = some g → g1 = some g := fun g hg => by rcases e1 with e | e <;> rw [e] at hg <;> first | exact hg | cases hg
  have q2 : ∀ g, g2' = some g → g2 = some g := fun g hg => by rcases e2 with e | e <;> rw [e] at hg <;> first | exact hg | cases hg
  have f2 : (W.setCell ⟨X, 1, none⟩ s1'.v).cell? ⟨X, 2, none⟩ = some s2.v := by
    rw [World.cell?_setCell_other _ _ _ _ (by first | exact hne 1 2 (by omega) | exact hne 2 1 (by omega))]; exact h.c2
  refine ⟨⟨?_, ?_, ?_, ?_, fun j hj => ?_, h.hB, by rw [hsz]; exact h.hX, ?_, h.gmb, ?_, ?_, ⟨h.dX.1, fun e => h.dX.2.1 (q1 _ e), fun e => h.dX.2.2 (q2 _ e)⟩, ⟨fun e => h.dm.1 (q1 _ e), fun e => h.dm.2 (q2 _ e)⟩, fun g a b => h.d12 g (q1 g a) (q2 g b)⟩, ?_⟩
  · rw [World.cell?_setCell_other _ _ _ _ (by first | exact hne 2 0 (by omega) | exact hne 0 2 (by omega)), World.cell?_setCell_other _ _ _ _ (by first | exact hne 1 0 (by omega) | exact hne 0 1 (by omega))]
    exact h.c0
  · rw [World.cell?_setCell_other _ _ _ _ (by first | exact hne 2 1 (by omega) | exact hne 1 2 (by omega))]
    exact cell_set_same (by rw [h.c1]; rfl)
  · exact cell_set_same (by rw [f2]; rfl)
  · rw [World.cell?_setCell_other _ _ _ _ (by first | exact hne 2 3 (by omega) | exact hne 3 2 (by omega)), World.cell?_setCell_other _ _ _ _ (by first | exact hne 1 3 (by omega) | exact hne 3 1 (by omega))]
    exact h.c3
  · rw [World.frozen?_setCell, World.frozen?_setCell]
    exact h.fz j hj
  · exact h.mem.keepB (by rw [hsz]; exact Nat.le_refl _) fun k hk _ => hblk k (by rw [h.gmb] at hk; injection hk with hk; rw [← hk]; exact h.dX.1)
  · exact h1.keepB (by rw [hsz]; exact Nat.le_refl _) fun k hk _ => hblk k (fun e => h.dX.2.1 (by rw [q1 k hk, e]))
  · exact h2.keepB (by rw [hsz]; exact Nat.le_refl _) fun k hk _ => hblk k (fun e => h.dX.2.2 (by rw [q2 k hk, e]))
  · exact ((Below.refl X W).setCell (Nat.le_refl _) _).setCell (Nat.le_refl _) _
theorem box_op (W : World) (g : GOp) : ∃ W', W' = putRow (W.alloc (.cells (opA ⟨0, zeroHash, 0, 0, ⟨none, 0, 0⟩⟩) 83)) W.heap.size 0 (opA g) ∧ row? W' W.heap.size 0 36 = some (opA g) ∧ Below W.heap.size W W' ∧ W'.heap.size = W.heap.size + 1 := by
  refine ⟨_, rfl, ?_, below_put (bel_a W _) (Nat.le_refl _) _ _, by rw [size_put]; simp⟩
  exact row?_put_same _ _ _ _ _ (by simp) (by omega) (there_new W _ 83 0 36 (by simp))
theorem NM.keepX {W W' : World} {B X gm : Nat} {s0 s1 s2 : Sl} {g1 g2 : Option Nat} {r : Reg} (h : NM W B X gm s0 s1 s2 g1 g2 r) (hs : W.heap.size ≤ W'.heap.size) (hb : ∀ k, B ≤ k → k < W.heap.size → W'.heap[k]? = W.heap[k]?) : NM W' B X gm s0 s1 s2 g1 g2 r := by
  have bX := hb X h.hB h.hX
  have cX := fun o => World.cell?_of_block (a := ⟨X, o, none⟩) bX
  have fX := fun o => World.frozen?_of_block (a := ⟨X, o, none⟩) bX
  exact ⟨(cX 0).trans h.c0, (cX 1).trans h.c1, (cX 2).trans h.c2, (cX 3).trans h.c3, fun j hj => (fX j).trans (h.fz j hj), h.hB, Nat.lt_of_lt_of_le h.hX hs, h.mem.keepB hs fun g hg hl => hb g (h.mem.lt g hg).1 hl, h.gmb, h.com.keepB hs fun g hg hl => hb g (h.com.lt g hg).1 hl, h.goi.keepB hs fun g hg hl => hb g (h.goi.lt g hg).1 hl, h.dX, h.dm, h.d12⟩
/-- a register whose memory lies from block B on -/
def RegAt (B : Nat) (W : World) (g : GReg) (r : Reg) : Prop := ∀ W2 : World, W.heap.size ≤ W2.heap.size → (∀ k, B ≤ k → k < W.heap.size → W2.heap[k]? = W.heap[k]?) → RegR W2 g r
theorem RegAt.reg {B : Nat} {W : World} {g : GReg} {r : Reg} (h : RegAt B W g r) : RegR W g r := h W (Nat.le_refl _) fun _ _ _ => rfl
theorem RegAt.step {B : Nat} {W W' : World} {g : GReg} {r : Reg} (h : RegAt B W g r) (hs : W.heap.size ≤ W'.heap.size) (hb : ∀ k, B ≤ k → k < W.heap.size → W'.heap[k]? = W.heap[k]?) : RegAt B W' g r := fun W2 h2 hb2 =>
  h W2 (Nat.le_trans hs h2) fun k h3 h4 => (hb2 k h3 (by omega)).trans (hb k h3 h4)
theorem RegAt.keep {B : Nat} {W W' : World} {g : GReg} {r : Reg} (h : RegAt B W g r) (hb : Below W.heap.size W W') : RegAt B W' g r := h.step hb.size fun k _ hk => hb.block k hk
theorem RegAt.more {B B' : Nat} {W : World} {g : GReg} {r : Reg} (h : RegAt B W g r) (hB : B' ≤ B) : RegAt B' W g r := fun W2 h2 hb2 => h W2 h2 fun k h3 h4 => hb2 k (by omega) h4
theorem RegAt.zero (B : Nat) (w : World) : RegAt B w zeroG4 zeroReg := fun W2 _ _ => RegR.zero W2
theorem RegAt.put {B : Nat} {W : World} {g : GReg} {r : Reg} (h : RegAt B W g r) {b off : Nat} {xs : Array Value} (hb : b < B) : RegAt B (putRow W b off xs) g r :=
  h.step (by rw [size_put]; exact Nat.le_refl _) fun k hk _ => setCells_far _ _ _ _ k (by omega)
theorem put_far (w : World) (b off : Nat) (xs : Array Value) (k : Nat) (hk : k ≠ b) : (putRow w b off xs).heap[k]? = w.heap[k]? := setCells_far _ _ _ _ k hk
end Go.Proofs.Ytkocpihfdpahpaa

/- Contract: registry's Next: the register behind a header. -/
namespace Go.Proofs.Ytkocpihfdpahpaa
open Go.RowKit

attribute [local go_sem] regA_size
theorem slot_facts {w w' : World} {X : Nat} {g : GReg} (hr : row? w X 0 4 = some (regA g)) (ht : there w X 0 4) (hb : Below w.heap.size w w') (hX : X < w.heap.size) : (w'.cell? ⟨X, 0, none⟩ = some g.members.v ∧ w'.cell? ⟨X, 1, none⟩ = some g.coming.v ∧ w'.cell? ⟨X, 2, none⟩ = some g.going.v ∧ w'.cell? ⟨X, 3, none⟩ = some (.int .u64 (g.churn.toNat : Int))) ∧
    w'.frozen? ⟨X, 0, none⟩ = false ∧ w'.frozen? ⟨X, 1, none⟩ = false ∧ w'.frozen? ⟨X, 2, none⟩ = false ∧ w'.frozen? ⟨X, 3, none⟩ = false := by
  have hr' := (row?_below _ _ _ hb hX).trans hr
  have ht' := there_below hb hX ht
  have h0 := cell_of_row? hr' 0 (by omega)
  have h1 := cell_of_row? hr' 1 (by omega)
  have h2 := cell_of_row? hr' 2 (by omega)
  have h3 := cell_of_row? hr' 3 (by omega)
  have f0 := (ht' 0 (by omega)).2
  have f1 := (ht' 1 (by omega)).2
  have f2 := (ht' 2 (by omega)).2
  have f3 := (ht' 3 (by omega)).2
  simp only [Nat.zero_add] at h0 h1 h2 h3 f0 f1 f2 f3
  exact ⟨⟨h0, h1, h2, h3⟩, f0, f1, f2, f3⟩
theorem setAll_snoc (ms : List Mbr) (l : List Int) (s : Int) (k : Nat) (i : Nat) (h : l[k]? = some ((i : Int) + 1)) : setAll ms (l.take (k + 1)) s = setSt (setAll ms (l.take k) s) i s := by
  obtain ⟨hlt, he⟩ := List.getElem?_eq_some_iff.1 h
  rw [List.take_succ_eq_append_getElem hlt, setAll, List.foldl_append, he]
  show setSt (setAll ms (l.take k) s) ((i : Int) + 1 - 1).toNat s = _
  rw [show ((i : Int) + 1 - 1).toNat = i by omega]
/-- the register that is being made, before the lines turn -/
theorem nm_made {w5 w6 w7 w8 : World} {X gm : Nat} {g : GReg} {t0 t1 t2 : Sl} {gb1 gb2 : Option Nat} {r : Reg} (hr : row? w5 X 0 4 = some (regA g)) (ht : there w5 X 0 4) (hch : g.churn = r.churn) (hX : X < w5.heap.size)
    (h6 : Below w5.heap.size w5 w6) (h7 : Below w6.heap.size w6 w7) (h8 : Below w7.heap.size w7 w8) (ho0 : OwnC w6 w5.heap.size 35 t0.v r.members.length (flatC mbrA r.members)) (hgm : t0.v.ownBlock = some gm) (ho1 : OwnO w7 w6.heap.size t1.v r.coming gb1) (ho2 : OwnO w8 w7.heap.size t2.v r.going gb2) :
    NM (((w8.setCell ⟨X, 0, none⟩ t0.v).setCell ⟨X, 1, none⟩ t1.v).setCell ⟨X, 2, none⟩ t2.v) X X gm t0 t1 t2 gb1 gb2 r ∧ Below X w5 (((w8.setCell ⟨X, 0, none⟩ t0.v).setCell ⟨X, 1, none⟩ t1.v).setCell ⟨X, 2, none⟩ t2.v) := by
  have z6 := h6.size
  have z7 := h7.size
  have z8 := h8.size
  have h58 : Below w5.heap.size w5 w8 := h6.trans ((h7.mono z6).trans (h8.mono (Nat.le_trans z6 z7)))
  obtain ⟨⟨x0, x1, x2, x3⟩, y0, y1, y2, y3⟩ := slot_facts hr ht h58 hX
  have hgl := ho0.lt gm hgm
  have hg1 := ho1.lt
  have hg2 := ho2.lt
  have hne : ∀ (o o' : Nat), o ≠ o' → (⟨X, o, none⟩ : Addr) ≠ ⟨X, o', none⟩ := fun o o' ho e => by injection e with _ e; exact ho e
  have hblk : ∀ k, k ≠ X → (((w8.setCell ⟨X, 0, none⟩ t0.v).setCell ⟨X, 1, none⟩ t1.v).setCell ⟨X, 2, none⟩ t2.v).heap[k]? = w8.heap[k]? := fun k hk => by
    rw [Below.heap_setCell _ _ _ k hk, Below.heap_setCell _ _ _ k hk, Below.heap_setCell _ _ _ k hk]
  have hsz : (((w8.setCell ⟨X, 0, none⟩ t0.v).setCell ⟨X, 1, none⟩ t1.v).setCell ⟨X, 2, none⟩ t2.v).heap.size = w8.heap.size := by rw [size_setCell, size_setCell, size_setCell]
  have m8 := (ho0.keep h7).keep h8
  have o8 := ho1.keep h8
  have f0 : (w8.setCell ⟨X, 0, none⟩ t0.v).cell? ⟨X, 1, none⟩ = some g.coming.v := by rw [World.cell?_setCell_other _ _ _ _ (by first | exact hne 0 1 (by omega) | exact hne 1 0 (by omega))]; exact x1
  have f1 : ((w8.setCell ⟨X, 0, none⟩ t0.v).setCell ⟨X, 1, none⟩ t1.v).cell? ⟨X, 2, none⟩ = some g.going.v := by
    rw [World.cell?_setCell_other _ _ _ _ (by first | exact hne 1 2 (by omega) | exact hne 2 1 (by omega)), World.cell?_setCell_other _ _ _ _ (by first | exact hne 0 2 (by omega) | exact hne 2 0 (by omega))]; exact x2
  refine ⟨⟨?_, ?_, ?_, ?_, fun j hj => ?_, Nat.le_refl _, by rw [hsz]; omega, ?_, hgm, ?_, ?_, ⟨by omega, fun e => ?_, fun e => ?_⟩, ⟨fun e => ?_, fun e => ?_⟩, fun g e1 e2 => ?_⟩, ?_⟩
  · rw [World.cell?_setCell_other _ _ _ _ (by first | exact hne 2 0 (by omega) | exact hne 0 2 (by omega)), World.cell?_setCell_other _ _ _ _ (by first | exact hne 1 0 (by omega) | exact hne 0 1 (by omega))]
    exact cell_set_same (by rw [x0]; rfl)
  · rw [World.cell?_setCell_other _ _ _ _ (by first | exact hne 2 1 (by omega) | exact hne 1 2 (by omega))]
    exact cell_set_same (by rw [f0]; rfl)
  · exact cell_set_same (by rw [f1]; rfl)
  · rw [World.cell?_setCell_other _ _ _ _ (by first | exact hne 2 3 (by omega) | exact hne 3 2 (by omega)), World.cell?_setCell_other _ _ _ _ (by first | exact hne 1 3 (by omega) | exact hne 3 1 (by omega)), World.cell?_setCell_other _ _ _ _ (by first | exact hne 0 3 (by omega) | exact hne 3 0 (by omega)), x3, hch]
  · rw [World.frozen?_setCell, World.frozen?_setCell, World.frozen?_setCell]
    match j, hj with
    | 0, _ => exact y0
    | 1, _ => exact y1
    | 2, _ => exact y2
    | 3, _ => exact y3
  · exact (m8.more (by omega)).keepB (by rw [hsz]; exact Nat.le_refl _) fun k hk _ => hblk k (by rw [hgm] at hk; injection hk with hk; omega)
  · exact (o8.more (by omega)).keepB (by rw [hsz]; exact Nat.le_refl _) fun k hk _ => hblk k (by have := (hg1 k hk).1; omega)
  · exact (ho2.more (by omega)).keepB (by rw [hsz]; exact Nat.le_refl _) fun k hk _ => hblk k (by have := (hg2 k hk).1; omega)
  · have := (hg1 X e).1; omega
  · have := (hg2 X e).1; omega
  · have := (hg1 gm e).1; omega
  · have := (hg2 gm e).1; omega
  · have := (hg1 g e1).2
    have := (hg2 g e2).1
    omega
  · exact (((h58.mono (Nat.le_of_lt hX)).setCell (Nat.le_refl _) _).setCell (Nat.le_refl _) _).setCell (Nat.le_refl _) _
def bldN (parts : Array (Nat × Value)) : Sem Value := Instr.build 202 parts
theorem fold_bldN (parts : Array (Nat × Value)) : Instr.build 202 parts = bldN parts := rfl
theorem run_bldN (g : GReg) (W : World) : (bldN #[(0, .agg (regA g))]).run Try.prog W = .ok (.agg (regA g)) W := by
  unfold bldN
  go_simp
  rw [fold0_splice _ _ 4 (by rfl) (by simp), splice_all' _ _ (by rfl)]
attribute [local go_sem ↓] fold_bldN fold_slcI
theorem next_res : Try.f58.results = #[.cell 6 103, .tmp 7] := by kernel_rfl
/-- what Next answers -/
def NextPost (w : World) (p : Reg × Int) (e : Ending) (w' : World) : Prop := ∃ g', e = .returned (.tuple #[.agg (regA g'), .int .i64 p.2]) ∧ RegAt w.heap.size w' g' p.1 ∧ Below w.heap.size w w'
theorem next_done {w W : World} {b : Nat} {p : Reg × Int} {c : Int} {g' : GReg} (hc : p.2 = c) (hp : row? W b 0 4 = some (regA g')) (hr : RegAt w.heap.size W g' p.1) (hb : Below w.heap.size w W) : NextPost w p (.returned (.tuple #[.agg ((row? W b 0 4).getD #[]), .int .i64 c])) W :=
  ⟨g', by rw [hp, hc]; rfl, hr, hb⟩
theorem noErr_code (b : Bool) : noErr b = if b then 0 else 2 := by cases b <;> rfl
theorem hdr_parts {w : World} {b : Nat} {g : GHeader} (h : row? w b 0 34 = some (headerA g)) : w.cell? ⟨b, 32, none⟩ = some (.int .u64 (g.epoch.toNat : Int)) ∧ w.cell? ⟨b, 33, none⟩ = some g.ops.v := by
  have h1 := cell_of_row? h 32 (by omega)
  have h2 := cell_of_row? h 33 (by omega)
  simp only [Nat.zero_add, headerA_epoch, headerA_ops] at h1 h2
  exact ⟨h1, h2⟩
set_option maxRecDepth 100000 in
set_option maxHeartbeats 6400000 in
theorem next_c {w : World} {gr : GReg} {r : Reg} {gh : GHeader} {h : Hdr} (parent : UInt64) (hr : RegR w gr r) (hh : HdrR w gh h) (hm : r.members.length ≤ 1000000) (hc : r.coming.length ≤ 1000000) (hg : r.going.length ≤ 1000000) (hf : HdrFits h) :
    Calls Try.prog 58 #[.agg (regA gr), .agg (headerA gh), .int .u64 (parent.toNat : Int)] w (NextPost w (regNext r h parent)) := by
  have hB0 : Below w.heap.size w (((w.alloc (.cells (regA gr) 103)).alloc (.cells (headerA gh) 49)).alloc (.cells (regA zeroG4) 103)) := by (repeat' (first | (with_reducible exact Below.refl _ _) | (with_reducible assumption) | (with_reducible refine bel_trans (by assumption) ?_ ?_) | (with_reducible refine bel_grown (by assumption) ?_ ?_ ?_) | (with_reducible refine Below.alloc ?_ ?_ _) | (with_reducible refine Below.drew ?_) | (with_reducible refine below_drewN ?_ _) | (with_reducible refine Below.setCell ?_ ?_ _) | (with_reducible refine below_put ?_ ?_ _ _) | (with_reducible exact Nat.le_refl _) | omega | (with_reducible refine Nat.le_trans ?_ (Below.size (by assumption))) | (with_reducible refine Nat.le_trans ?_ (World.grownBy.size (by assumption))) | (simp only [World.size_alloc, World.size_setCell, World.size_drew, size_drewN]; omega) | (simp only [World.size_alloc, World.size_setCell, World.size_drew, size_drewN, size_put]; omega) | (intro k hk; simp [Value.ownBlock] at hk; done) | (intro k hk; simp [Value.ownBlock] at hk; omega) | (simp [size_drewN] at *; omega)))
  have hz0 : (((w.alloc (.cells (regA gr) 103)).alloc (.cells (headerA gh) 49)).alloc (.cells (regA zeroG4) 103)).heap.size = w.heap.size + 3 := by simp
  have hrow1 : row? (((w.alloc (.cells (regA gr) 103)).alloc (.cells (headerA gh) 49)).alloc (.cells (regA zeroG4) 103)) w.heap.size 0 4 = some (regA gr) := by
    rw [row?_old _ _ _ _ _ (by simp; omega), row?_old _ _ _ _ _ (by simp), row?_new]; exact if_pos (by simp [regA])
  have hrow2 : row? (((w.alloc (.cells (regA gr) 103)).alloc (.cells (headerA gh) 49)).alloc (.cells (regA zeroG4) 103)) (w.heap.size + 1) 0 34 = some (headerA gh) := by
    rw [row?_old _ _ _ _ _ (by simp), row?_new_at _ _ _ _ _ _ (by simp)]; simp
  have hrow3 : row? (((w.alloc (.cells (regA gr) 103)).alloc (.cells (headerA gh) 49)).alloc (.cells (regA zeroG4) 103)) (w.heap.size + 1 + 1) 0 4 = some (regA zeroG4) := by
    rw [row?_new_at _ _ _ _ _ _ (by simp)]; exact if_pos (by simp [regA])
  have hth3 : there (((w.alloc (.cells (regA gr) 103)).alloc (.cells (headerA gh) 49)).alloc (.cells (regA zeroG4) 103)) (w.heap.size + 1 + 1) 0 4 :=
    there_new_at _ _ _ _ _ _ (by simp) (by simp [regA])
  have hRB := (RBox.keep ⟨hrow1, hr.keep hB0⟩ (Below.refl _ _) : RBox _ w.heap.size gr r)
  have hH := hh.keep' hB0
  have hzr := zero_regA
  have HD := Lib.hid (show nextIn r h parent = ((regMay r && hdrMay h) && decide (parent.toNat < h.epoch.toNat)) from rfl)
  have HNX := Lib.hid (show regNext r h parent = if nextIn r h parent then regOps (turned r ((h.epoch.toNat - parent.toNat) * r.churn.toNat)) h.ops else (zeroReg, 2) from rfl)
  have hep : gh.epoch = h.epoch := hh.2.1
  have hrI := Lib.hid hr
  have hhI := Lib.hid hh
  clear hr hh hrow1
  go_enter Try.func58, Try.ntmps58
  go_upto_region 1 with fail
  generalize ((w.alloc (.cells (regA gr) 103)).alloc (.cells (headerA gh) 49)).alloc (.cells (regA zeroG4) 103) = w1 at *
  have HN := name_c gh h w1 hH hf
  rw [noErr_code] at HN
  obtain ⟨ec, hec⟩ : ∃ ec : Int, ec = if hdrMay h = true then 0 else 2 := ⟨_, rfl⟩
  rw [← hec] at HN
  replace hec := Lib.hid hec
  generalize hdName h = nm at *
  have hk0 : w.heap.size < w1.heap.size := by omega
  obtain ⟨b2, hb2⟩ : ∃ b2, b2 = w.heap.size + 1 + 1 := ⟨_, rfl⟩
  obtain ⟨b1, hb1⟩ : ∃ b1, b1 = w.heap.size + 1 := ⟨_, rfl⟩
  rw [← hb2] at hrow3 hth3 ⊢
  rw [← hb1] at hrow2 ⊢
  have hk1 : b1 < w1.heap.size := by omega
  have hk2 : b2 < w1.heap.size := by omega
  have hn2 : w.heap.size < b2 := by omega
  have hn1 : w.heap.size < b1 := by omega
  have hn12 : b1 < b2 := by omega
  clear hb1 hb2
  go_wp2_with fail
  refine HN.mono ?_
  clear HN
  rintro e w2 ⟨rfl, hb⟩
  have hz2 := hb.size
  have hB2 := hB0.trans (hb.mono (by omega))
  have hRB2 := hRB.keep hb
  have hH2 := hH.keep' hb
  have hrow22 := (row?_below _ _ _ hb hk1).trans hrow2
  have hrow32 := (row?_below _ _ _ hb hk2).trans hrow3
  have hth2 := (there_below hb hk2 hth3)
  have ht := there_new w2 (hashA zeroHash) 24 0 32 (by simp)
  have hk02 : w.heap.size < w2.heap.size := by omega
  have hk12 : b1 < w2.heap.size := by omega
  have hk22 : b2 < w2.heap.size := by omega
  clear hb hRB hH hrow2 hrow3 hth3 hB0 hk0 hk1 hk2
  go_upto_region 2 with fail
  obtain ⟨w3, hw3⟩ : ∃ w3, w3 = putRow (w2.alloc (.cells (hashA zeroHash) 24)) w2.heap.size 0 (hashA nm) := ⟨_, rfl⟩
  have hb : Below w2.heap.size w2 w3 := by rw [hw3]; exact below_put (bel_a w2 _) (Nat.le_refl _) _ _
  rw [← hw3]
  clear hw3 ht
  have hz3 := hb.size
  have hB3 := hB2.trans (hb.mono (by omega))
  have hRB3 := hRB2.keep hb
  have hH3 := hH2.keep' hb
  have hrow23 := (row?_below _ _ _ hb hk12).trans hrow22
  have hrow33 := (row?_below _ _ _ hb hk22).trans hrow32
  have hth33 := (there_below hb hk22 hth2)
  have hk03 : w.heap.size < w3.heap.size := by omega
  have hk13 : b1 < w3.heap.size := by omega
  have hk23 : b2 < w3.heap.size := by omega
  clear hb hRB2 hH2 hrow22 hrow32 hth2 hB2 hk02 hk12 hk22 hz2 hz3 hz0
  have HM := regMay_c hRB3.reg hm hc hg
  have hrowA := hRB3.row
  go_wp2_with fail
  refine HM.mono ?_
  clear HM
  rintro e w4 ⟨rfl, hb⟩
  have hz4 := hb.size
  have hB4 := Lib.hid (hB3.trans (hb.mono (by omega)))
  have hRB4 := Lib.hid (hRB3.keep hb)
  have hH4 := Lib.hid (hH3.keep' hb)
  have hrow24 := (row?_below _ _ _ hb hk13).trans hrow23
  have hrow34 := Lib.hid ((row?_below _ _ _ hb hk23).trans hrow33)
  have hth34 := (there_below hb hk23 hth33)
  have hk04 : w.heap.size < w4.heap.size := by omega
  have hk14 : b1 < w4.heap.size := by omega
  have hk24 : b2 < w4.heap.size := by omega
  clear hb hRB3 hH3 hrow23 hrow33 hth33 hB3 hk03 hk13 hk23 hz4 hrowA
  obtain ⟨c32, c33⟩ := hdr_parts hrow24
  rw [hep] at c32
  have HZ := Lib.hid (show nextIn r h parent = false → regNext r h parent = (zeroReg, 2) from fun e => by rw [HNX.out, e]; rfl)
  have hput : row? (putRow w4 b2 0 (regA zeroG4)) b2 0 4 = some (regA zeroG4) := row?_put_same _ _ _ _ _ (by rfl) (by omega) hth34
  have hpb : Below w.heap.size w (putRow w4 b2 0 (regA zeroG4)) := below_put hB4.out (by omega) _ _
  have hst := store_reg w4 b2 0 (regA zeroG4) rfl (onesReg _) hth34
  cases hmr : regMay r
  · have Hr := Lib.hid (HZ.out (by rw [HD.out, hmr]; rfl))
    rw [Hr.out]
    clear hmr HD HNX HZ hep
    go_wp2_with (with_reducible refine ret_row2 Try.isAgg103 Try.sizeOf103 next_res (x := .pointer (some ⟨b2, 0, none⟩)) (y := .int .i64 2) (b2) 0 ?rrhx (Eq.refl _) ?rrhy ?rrh ?rrhd ?rrhR; (case rrhx => simp only [Array.getD_eq_getD_getElem?, List.getElem?_toArray, List.getElem?_cons_succ, List.getElem?_cons_zero, Option.getD_some]); (case rrhy => simp only [Array.getD_eq_getD_getElem?, List.getElem?_toArray, List.getElem?_cons_succ, List.getElem?_cons_zero, Option.getD_some]); (case rrhd => exact rfl); (case rrh => go_simp); (case rrhR => ((exact next_done (g' := zeroG4) (by rw [Hr.out]) hput (by rw [Hr.out]; exact RegAt.zero _ _) hpb))))
  have hP := (regMay_iff r).1 hmr
  cases hmh : hdrMay h
  · have Hr := Lib.hid (HZ.out (by rw [HD.out, hmr, hmh]; rfl))
    obtain rfl : ec = 2 := by rw [hec.out, hmh]; rfl
    clear hmr hmh HD HNX HZ hep hec
    go_wp2_with (with_reducible refine ret_row2 Try.isAgg103 Try.sizeOf103 next_res (x := .pointer (some ⟨b2, 0, none⟩)) (y := .int .i64 2) (b2) 0 ?rrhx (Eq.refl _) ?rrhy ?rrh ?rrhd ?rrhR; (case rrhx => simp only [Array.getD_eq_getD_getElem?, List.getElem?_toArray, List.getElem?_cons_succ, List.getElem?_cons_zero, Option.getD_some]); (case rrhy => simp only [Array.getD_eq_getD_getElem?, List.getElem?_toArray, List.getElem?_cons_succ, List.getElem?_cons_zero, Option.getD_some]); (case rrhd => exact rfl); (case rrh => go_simp); (case rrhR => ((exact next_done (g' := zeroG4) (by rw [Hr.out]) hput (by rw [Hr.out]; exact RegAt.zero _ _) hpb))))
  obtain rfl : ec = 0 := by rw [hec.out, hmh]; rfl
  have hpe := Lib.hid (show (decide (parent.toNat < h.epoch.toNat) = true → nextIn r h parent = true) ∧ (decide (parent.toNat < h.epoch.toNat) = false → nextIn r h parent = false) from ⟨fun e => by rw [HD.out, hmr, hmh, e]; rfl, fun e => by rw [HD.out, hmr, hmh, e]; rfl⟩)
  obtain ⟨pn, hpn⟩ : ∃ pn, pn = parent.toNat := ⟨_, rfl⟩
  obtain ⟨en, hen⟩ : ∃ en, en = h.epoch.toNat := ⟨_, rfl⟩
  have hen62 : en ≤ 4611686018427387904 := by
    rw [hen]
    have := hmh
    simp only [hdrMay, Bool.and_eq_true, decide_eq_true_eq] at this
    exact this.1.1.2
  rw [← hpn]
  rw [← hen] at c32
  have Hops := Lib.hid (hdrMay_ops hmh)
  rw [← hpn, ← hen] at hpe HNX
  replace hpn := Lib.hid hpn
  replace hen := Lib.hid hen
  replace hen62 := Lib.hid hen62
  clear hmr hmh HD hep hec
  by_cases hlt : pn < en
  rotate_left
  · have Hr := Lib.hid (HZ.out (hpe.out.2 (by simpa using hlt)))
    have hge : (en : Int) ≤ (pn : Int) := by omega
    clear hlt HNX HZ hpe
    go_wp2_with (with_reducible refine ret_row2 Try.isAgg103 Try.sizeOf103 next_res (x := .pointer (some ⟨b2, 0, none⟩)) (y := .int .i64 2) (b2) 0 ?rrhx (Eq.refl _) ?rrhy ?rrh ?rrhd ?rrhR; (case rrhx => simp only [Array.getD_eq_getD_getElem?, List.getElem?_toArray, List.getElem?_cons_succ, List.getElem?_cons_zero, Option.getD_some]); (case rrhy => simp only [Array.getD_eq_getD_getElem?, List.getElem?_toArray, List.getElem?_cons_succ, List.getElem?_cons_zero, Option.getD_some]); (case rrhd => exact rfl); (case rrh => go_simp); (case rrhR => ((exact next_done (g' := zeroG4) (by rw [Hr.out]) hput (by rw [Hr.out]; exact RegAt.zero _ _) hpb))))
  have HR := Lib.hid (show regNext r h parent = regOps (turned r ((en - pn) * r.churn.toNat)) h.ops by rw [HNX.out, hpe.out.1 (by simpa using hlt)]; rfl)
  have hge : ¬ (en : Int) ≤ (pn : Int) := by omega
  clear HNX HZ hpe hput hpb hst
  have hrowA := hRB4.out.row
  have hbn := fun W => run_bldN gr W
  go_upto_region 5 with fail
  have hb5 : Below w4.heap.size w4 (w4.alloc (.cells (regA gr) 202)) := bel_a _ _
  have hz5 : (w4.alloc (.cells (regA gr) 202)).heap.size = w4.heap.size + 1 := by simp
  have hrowX : row? (w4.alloc (.cells (regA gr) 202)) w4.heap.size 0 4 = some (regA gr) := by rw [row?_new]; exact if_pos (by simp [regA])
  have hthX : there (w4.alloc (.cells (regA gr) 202)) w4.heap.size 0 4 := there_new _ _ _ _ _ (by simp [regA])
  have hB5 := Lib.hid (hB4.out.trans (hb5.mono (by omega)))
  have hRB5 := (hRB4.out.keep hb5)
  have hH5 := Lib.hid (hH4.out.keep' hb5)
  have hrow35 := Lib.hid ((row?_below _ _ _ hb5 hk24).trans hrow34.out)
  have hth35 := (there_below hb5 hk24 hth34)
  have c325 := (hb5.cell (p := ⟨b1, 32, none⟩) hk14).trans c32
  have c335 := (hb5.cell (p := ⟨b1, 33, none⟩) hk14).trans c33
  obtain ⟨X, hX⟩ : ∃ X, X = w4.heap.size := ⟨_, rfl⟩
  have hXw : X < (w4.alloc (.cells (regA gr) 202)).heap.size := by omega
  rw [← hX] at hrowX hthX
  generalize hW5 : w4.alloc (.cells (regA gr) 202) = w5 at *
  rw [← hX]
  have hk25 : b2 < X := by omega
  clear hb5 hB4 hRB4 hH4 hrow34 hth34 c32 c33 hW5 hrowA hbn hk14 hk24 hk04 hz5
  clear hX
  have hmc := mclones_c (w := w5.drew) (RegR.keep hRB5.reg ((Below.refl _ w5).drew)).1 (by have := hP.len; omega) hm
  obtain ⟨c0, c1, c2, c3, _⟩ := hRB5.cells
  have hnX : w.heap.size ≠ X := by omega
  have hnX' : ¬ X = w.heap.size := by omega
  go_region_held3 (fun W => W.cell? ⟨w.heap.size, 0, none⟩ = some gr.members.v ∧ W.cell? ⟨w.heap.size, 1, none⟩ = some gr.coming.v ∧ W.cell? ⟨w.heap.size, 2, none⟩ = some gr.going.v)
    (first | go_keep | (with_reducible exact ⟨c0, c1, c2⟩) | (with_reducible exact ⟨d0, d1, d2⟩) | (with_reducible exact ⟨f0, f1, f2⟩) | (with_reducible exact ⟨g0, g1, g2⟩) | (go_simp; done) | (simp [hnX, hnX', g0, g1, g2]; done))
    (first
      | (go_simp; go_at_call 129; (with_reducible refine hmc.mono ?_); rintro e w6 ⟨t0, gm, rfl, ho0, hgm, hb6⟩; have hR6 := RBox.keep (W := w5.drew) ⟨hRB5.row, RegR.keep hRB5.reg ((Below.refl _ w5).drew)⟩ hb6; obtain ⟨d0, d1, d2, d3, _⟩ := hR6.cells; have hI6 := iclones_c hR6.reg.2.1 hc)
      | (go_simp; go_at_call 120; (with_reducible refine hI6.mono ?_); rintro e w7 ⟨t1, gb1, rfl, ho1, hb7⟩; have hR7 := hR6.keep hb7; obtain ⟨f0, f1, f2, f3, _⟩ := hR7.cells; have hI7 := iclones_c hR7.reg.2.2.1 hg)
      | (go_simp; go_at_call 120; (with_reducible refine hI7.mono ?_); rintro e w8 ⟨t2, gb2, rfl, ho2, hb8⟩; have hR8 := hR7.keep hb8; obtain ⟨g0, g1, g2, g3, _⟩ := hR8.cells; have hb58 := (undrew hb6).trans ((hb7.mono (show w5.heap.size ≤ w6.heap.size from hb6.size)).trans (hb8.mono (Nat.le_trans (show w5.heap.size ≤ w6.heap.size from hb6.size) hb7.size))); obtain ⟨⟨x0, x1, x2, x3⟩, y0, y1, y2, y3⟩ := slot_facts hrowX hthX hb58 hXw))
  obtain ⟨HN9, hB9⟩ := nm_made hrowX hthX hRB5.reg.2.2.2 hXw (undrew hb6) hb7 hb8 ho0 hgm ho1 ho2
  generalize hW9 : ((w8.setCell ⟨X, 0, none⟩ t0.v).setCell ⟨X, 1, none⟩ t1.v).setCell ⟨X, 2, none⟩ t2.v = W9 at *
  obtain ⟨a0, n0, q0⟩ := t0
  obtain ⟨a1, n1, q1⟩ := t1
  obtain ⟨a2, n2, q2⟩ := t2
  clear hW9 ho0 ho1 ho2 hb6 hb7 hb8 hb58 hR6 hR7 hR8 hI6 hI7 d0 d1 d2 d3 f0 f1 f2 f3 g0 g1 g2 g3 x0 x1 x2 x3 y0 y1 y2 y3 hmc
  obtain ⟨nn, hnn⟩ : ∃ nn : Nat, nn = en - pn := ⟨_, rfl⟩
  obtain ⟨cn, hcn⟩ : ∃ cn : Nat, cn = r.churn.toNat := ⟨_, rfl⟩
  obtain ⟨qn, hqn⟩ : ∃ qn : Nat, qn = 4611686018427387904 / cn := ⟨_, rfl⟩
  have hc0 : 0 < cn := by rw [hcn]; exact hP.churn.1
  have hn0 : 0 < nn := by omega
  have xsub : IntKind.u64.wrap ((en : Int) - (pn : Int)) = (nn : Int) := by
    have := hen62.out
    rw [IntWalk.u64_in _ (by omega)]
    omega
  have xquo : IntKind.u64.wrap (Int.tdiv 4611686018427387904 (cn : Int)) = (qn : Int) := by
    rw [IntWalk.u64_quo _ _ ⟨by omega, by omega, by omega⟩, hqn, Int.natCast_ediv]
    rfl
  have hdiv : nn ≤ qn ↔ nn * cn ≤ 4611686018427387904 := by rw [hqn, Nat.le_div_iff_mul_le hc0]
  obtain ⟨lm, hL⟩ : ∃ lm : Nat, lm = if nn ≤ qn then nn * cn else 4611686018427387904 := ⟨_, rfl⟩
  have hLlt : lm < 18446744073709551616 := by
    rw [hL]
    split
    · have := hdiv.1 ‹_›; omega
    · omega
  have xmul : nn ≤ qn → IntKind.u64.wrap ((nn : Int) * (cn : Int)) = (lm : Int) := fun h => by
    have h1 := hdiv.1 h
    have e : (nn : Int) * (cn : Int) = ((nn * cn : Nat) : Int) := by rw [Int.natCast_mul]
    rw [e, IntWalk.u64_in _ (by omega), hL, if_pos h]
  have hc4 : w5.cell? ⟨w.heap.size, 3, none⟩ = some (.int .u64 (cn : Int)) := by rw [c3, hcn, hRB5.reg.2.2.2]
  have hLim := Lib.hid (show ∀ l : List Int, l.length ≤ 64 → turnN r.members lm l 0 = turnN r.members ((en - pn) * r.churn.toNat) l 0 from fun l hl => by
    rw [← hnn, ← hcn, hL]
    split
    · rfl
    · rename_i h
      exact turnN_lim r.members (fun m hm => (hP.stakes m hm).2) l hl _ _ (by omega) (by omega))
  replace hnn := Lib.hid hnn
  replace hcn := Lib.hid hcn
  have hLn := Lib.hid (show ¬ nn ≤ qn → lm = 4611686018427387904 from fun h => by rw [hL, if_neg h])
  clear hqn hdiv hL
  have c0' := (hB9.cell (p := ⟨w.heap.size, 0, none⟩) (show w.heap.size < X by omega)).trans c0
  have c1' := (hB9.cell (p := ⟨w.heap.size, 1, none⟩) (show w.heap.size < X by omega)).trans c1
  have c2' := (hB9.cell (p := ⟨w.heap.size, 2, none⟩) (show w.heap.size < X by omega)).trans c2
  have c3' := (hB9.cell (p := ⟨w.heap.size, 3, none⟩) (show w.heap.size < X by omega)).trans hc4
  have e32 := (hB9.cell (p := ⟨b1, 32, none⟩) (show b1 < X by omega)).trans c325
  have e33 := (hB9.cell (p := ⟨b1, 33, none⟩) (show b1 < X by omega)).trans c335
  have HN := Lib.hid HN9
  have hrow9 := (row?_below _ _ _ hB9 (show w.heap.size < X by omega)).trans hRB5.row
  have HBw := Lib.hid (show Below w.heap.size w W9 from hB5.out.trans (hB9.mono (by omega)))
  have C33 := Lib.hid c335
  clear HN9 c0 c1 c2 c3 hc4 hRB5 c325 c335 hrowX hthX
  have hk09 : w.heap.size < W9.heap.size := by
    have := HN.out.hX
    omega
  obtain ⟨k1, hk1⟩ : ∃ k1, k1 = turnN r.members lm r.coming 0 := ⟨_, rfl⟩
  obtain ⟨k2, hk2⟩ : ∃ k2, k2 = turnN r.members lm r.going 0 := ⟨_, rfl⟩
  have hU : (UInt64.ofNat lm).toNat = lm := by rw [UInt64.toNat_ofNat']; omega
  obtain ⟨l1, l2, l3, l4, l5⟩ := LineP.le hP
  have HT1 : ∀ W, Below W9.heap.size W9 W → Calls Try.prog 130 #[.agg (regA gr), gr.coming.v, .int .u64 (lm : Int)] W fun e w' => e = .returned (.int .i64 (k1 : Int)) ∧ Below W.heap.size W w' := fun W hW => by
    have hR := hrI.out.keep (HBw.out.trans (hW.mono (by omega)))
    have := turn_c hR hm hR.2.1 l3 l1 l5 (UInt64.ofNat lm)
    rw [hU, ← hk1] at this
    exact this
  have HT2 : ∀ W, Below W9.heap.size W9 W → Calls Try.prog 130 #[.agg (regA gr), gr.going.v, .int .u64 (lm : Int)] W fun e w' => e = .returned (.int .i64 (k2 : Int)) ∧ Below W.heap.size W w' := fun W hW => by
    have hR := hrI.out.keep (HBw.out.trans (hW.mono (by omega)))
    have := turn_c hR hm hR.2.2.1 l4 l2 l5 (UInt64.ofNat lm)
    rw [hU, ← hk2] at this
    exact this
  have hk1l : k1 ≤ r.coming.length := by rw [hk1]; exact turnN_le _ _ _ _
  have hk2l : k2 ≤ r.going.length := by rw [hk2]; exact turnN_le _ _ _ _
  rw [hLim.out _ l3] at hk1
  rw [hLim.out _ l4] at hk2
  replace hk1 := Lib.hid hk1
  replace hk2 := Lib.hid hk2
  replace l1 := Lib.hid l1
  replace l2 := Lib.hid l2
  replace l5 := Lib.hid l5
  replace HT1 := Lib.hid HT1
  replace HT2 := Lib.hid HT2
  clear hLim hU hLlt
  go_upto_if 73 with fail
  go_cut [11] from 12 (fun l W => l = .int .u64 (lm : Int) ∧ W = W9)
  case first =>
    clear HT1 HT2
    by_cases hq : nn ≤ qn
    · have hq' : (nn : Int) ≤ (qn : Int) := by omega
      have xm := xmul hq
      clear hq xmul hLn
      go_wp2_with fail
      go_meet
      case rel => exact ⟨rfl, rfl⟩
    · have hq' : ¬ (nn : Int) ≤ (qn : Int) := by omega
      have hl := Lib.hid (hLn.out hq)
      clear hq xmul hLn
      go_wp2_with fail
      go_meet
      case rel => exact ⟨by rw [hl.out]; rfl, rfl⟩
  case rest =>
    obtain ⟨rfl, rfl⟩ := hcut
    clear xsub xquo xmul hLn
    go_upto_region 10 with fail
    replace HT1 := HT1.out
    replace HT2 := HT2.out
    clear hzr hrow24 hgm hnX hnX' hc0 hn0 hlt hge
    refine wp_region_freeG_l (fun W W' => Below W.heap.size W W') (by kernel_rfl) [78, 79, 80, 81, 82, 83, 84, 85, 86, 87, 13, 14]
      [Is (.agg (regA gr)), Is (.pointer (some ⟨w.heap.size, 1, none⟩)), Is (gr.coming.v), Is (.int .u64 (lm : Int)), Is (.int .i64 (k1 : Int)), Is (.agg (regA gr)), Is (.pointer (some ⟨w.heap.size, 2, none⟩)), Is (gr.going.v), Is (.int .u64 (lm : Int)), Is (.int .i64 (k2 : Int)), Is (.int .i64 (k1 : Int)), Is (.int .i64 (k2 : Int))]
      (by kernel_rfl) (fun W W' h hb => hb.trans (h.mono hb.size)) ?_ ?_ ?_
    · intro f hf
      simp only [List.mem_cons, List.not_mem_nil, or_false] at hf
      rcases hf with rfl | rfl | rfl | rfl | rfl | rfl | rfl | rfl | rfl | rfl | rfl | rfl <;> intro x W W' h hr <;> first | exact h
    · refine ⟨?_, ?_, ?_, ?_, ?_, ?_, ?_, ?_, ?_, ?_, ?_, ?_, trivial⟩
      · intro L ax W hf hd
        try simp [Region.binds] at hd
        have e3 : ax.tmps[3]?.getD undef = .pointer (some ⟨w.heap.size, 0, none⟩) := hf.out 3 (by decide) rfl
        refine ⟨fun _ => ?_, fun h => absurd trivial h⟩
        have h1 := (row?_below _ _ _ hf.below hk09).trans hrow9
        refine free_run (v := .agg (regA gr)) (W' := W) rfl ?_ rfl (Below.refl _ _)
        go_simp
      · intro L ax W hf hd
        try simp [Region.binds] at hd
        have e3 : ax.tmps[3]?.getD undef = .pointer (some ⟨w.heap.size, 0, none⟩) := hf.out 3 (by decide) rfl
        refine ⟨fun _ => ?_, fun h => absurd trivial h⟩
        refine free_run (v := .pointer (some ⟨w.heap.size, 1, none⟩)) (W' := W) rfl ?_ rfl (Below.refl _ _)
        go_simp
      · intro L ax W hf hd
        simp [Region.binds] at hd
        have e79 : ax.tmps[79]?.getD undef = .pointer (some ⟨w.heap.size, 1, none⟩) := slv (hf.got 1 (by decide) (by simp [hd]))
        refine ⟨fun _ => ?_, fun h => absurd trivial h⟩
        have h1 := (hf.below.cell (p := ⟨w.heap.size, 1, none⟩) hk09).trans c1'
        refine free_run (v := gr.coming.v) (W' := W) rfl ?_ rfl (Below.refl _ _)
        go_simp
      · intro L ax W hf hd
        try simp [Region.binds] at hd
        have e11 : ax.tmps[11]?.getD undef = .int .u64 (lm : Int) := hf.out 11 (by decide) rfl
        refine ⟨fun _ => ?_, fun h => absurd trivial h⟩
        refine free_run (v := .int .u64 (lm : Int)) (W' := W) rfl ?_ rfl (Below.refl _ _)
        go_simp
      · intro L ax W hf hd
        simp [Region.binds] at hd
        have e78 : ax.tmps[78]?.getD undef = .agg (regA gr) := slv (hf.got 0 (by decide) (by simp [hd]))
        have e80 : ax.tmps[80]?.getD undef = gr.coming.v := slv (hf.got 2 (by decide) (by simp [hd]))
        have e81 : ax.tmps[81]?.getD undef = .int .u64 (lm : Int) := slv (hf.got 3 (by decide) (by simp [hd]))
        refine ⟨fun _ => ?_, fun h => absurd trivial h⟩
        refine free_call (f := 130) (args := #[.agg (regA gr), gr.coming.v, .int .u64 (lm : Int)]) rfl (by go_simp) ?_
        refine (HT1 W hf.below).mono ?_
        rintro e w' ⟨rfl, hb⟩
        exact ⟨_, rfl, rfl, hb⟩
      · intro L ax W hf hd
        try simp [Region.binds] at hd
        have e3 : ax.tmps[3]?.getD undef = .pointer (some ⟨w.heap.size, 0, none⟩) := hf.out 3 (by decide) rfl
        refine ⟨fun _ => ?_, fun h => absurd trivial h⟩
        have h1 := (row?_below _ _ _ hf.below hk09).trans hrow9
        refine free_run (v := .agg (regA gr)) (W' := W) rfl ?_ rfl (Below.refl _ _)
        go_simp
      · intro L ax W hf hd
        try simp [Region.binds] at hd
        have e3 : ax.tmps[3]?.getD undef = .pointer (some ⟨w.heap.size, 0, none⟩) := hf.out 3 (by decide) rfl
        refine ⟨fun _ => ?_, fun h => absurd trivial h⟩
        refine free_run (v := .pointer (some ⟨w.heap.size, 2, none⟩)) (W' := W) rfl ?_ rfl (Below.refl _ _)
        go_simp
      · intro L ax W hf hd
        simp [Region.binds] at hd
        have e84 : ax.tmps[84]?.getD undef = .pointer (some ⟨w.heap.size, 2, none⟩) := slv (hf.got 6 (by decide) (by simp [hd]))
        refine ⟨fun _ => ?_, fun h => absurd trivial h⟩
        have h1 := (hf.below.cell (p := ⟨w.heap.size, 2, none⟩) hk09).trans c2'
        refine free_run (v := gr.going.v) (W' := W) rfl ?_ rfl (Below.refl _ _)
        go_simp
      · intro L ax W hf hd
        try simp [Region.binds] at hd
        have e11 : ax.tmps[11]?.getD undef = .int .u64 (lm : Int) := hf.out 11 (by decide) rfl
        refine ⟨fun _ => ?_, fun h => absurd trivial h⟩
        refine free_run (v := .int .u64 (lm : Int)) (W' := W) rfl ?_ rfl (Below.refl _ _)
        go_simp
      · intro L ax W hf hd
        simp [Region.binds] at hd
        have e83 : ax.tmps[83]?.getD undef = .agg (regA gr) := slv (hf.got 5 (by decide) (by simp [hd]))
        have e85 : ax.tmps[85]?.getD undef = gr.going.v := slv (hf.got 7 (by decide) (by simp [hd]))
        have e86 : ax.tmps[86]?.getD undef = .int .u64 (lm : Int) := slv (hf.got 8 (by decide) (by simp [hd]))
        refine ⟨fun _ => ?_, fun h => absurd trivial h⟩
        refine free_call (f := 130) (args := #[.agg (regA gr), gr.going.v, .int .u64 (lm : Int)]) rfl (by go_simp) ?_
        refine (HT2 W hf.below).mono ?_
        rintro e w' ⟨rfl, hb⟩
        exact ⟨_, rfl, rfl, hb⟩
      · intro L ax W hf hd
        simp [Region.binds] at hd
        have e82 : ax.tmps[82]?.getD undef = .int .i64 (k1 : Int) := slv (hf.got 4 (by decide) (by simp [hd]))
        refine ⟨fun _ => ?_, fun h => absurd trivial h⟩
        refine free_run (v := .int .i64 (k1 : Int)) (W' := W) rfl ?_ rfl (Below.refl _ _)
        go_simp
      · intro L ax W hf hd
        simp [Region.binds] at hd
        have e87 : ax.tmps[87]?.getD undef = .int .i64 (k2 : Int) := slv (hf.got 9 (by decide) (by simp [hd]))
        refine ⟨fun _ => ?_, fun h => absurd trivial h⟩
        refine free_run (v := .int .i64 (k2 : Int)) (W' := W) rfl ?_ rfl (Below.refl _ _)
        go_simp
    · intro vs W hl' hF hb
      obtain ⟨g', hg1, hg2⟩ := vs_lit vs hl' hF
      have e10 : g' 10 = .int .i64 (k1 : Int) := hg2 10 (by decide)
      have e11 : g' 11 = .int .i64 (k2 : Int) := hg2 11 (by decide)
      rw [hg1]
      clear hF hg1 hg2 hl'
      simp only [List.length_cons, List.length_nil, Nat.reduceAdd, show List.range 12 = [0, 1, 2, 3, 4, 5, 6, 7, 8, 9, 10, 11] from rfl, List.map_cons, List.map_nil, putL, List.zip_cons_cons, List.zip_nil_right, List.setIfInBounds_toArray, List.set_cons_succ, List.set_cons_zero, e10, e11]
      have hz9 := hB9.size
      have hN10 := HN.out.keep hb
      have hB10 := hB9.trans (hb.mono (by omega))
      have hBw10 := Lib.hid (HBw.out.trans (hb.mono (by omega)))
      have d1 := (hb.cell (p := ⟨w.heap.size, 1, none⟩) hk09).trans c1'
      have d2 := (hb.cell (p := ⟨w.heap.size, 2, none⟩) hk09).trans c2'
      have hk010 : w.heap.size < W.heap.size := Nat.lt_of_lt_of_le hk09 hb.size
      have hXX : w.heap.size < X := by omega
      clear HT1 HT2 HN hB9 HBw c0' c1' c2' c3' e32 e33 hrow9 hb hk09
      have hRw := Lib.hid (hrI.out.keep hBw10.out)
      obtain ⟨⟨ma, mn, mc⟩, ⟨ca, cn', cc⟩, ⟨ga, gn, gcc⟩, gch⟩ := gr
      have hln1 := hRw.out.2.1.1
      have hln2 := hRw.out.2.1.2.1
      have hln3 := hRw.out.2.2.1.1
      have hln4 := hRw.out.2.2.1.2.1
      simp only at hln1 hln2 hln3 hln4
      subst hln1 hln3
      dsimp only [Sl.v] at d1 d2
      replace hN10 := Lib.hid hN10
      have kk1 : (k1 : Int) ≤ (r.coming.length : Int) := by omega
      have kk2 : (k2 : Int) ≤ (r.going.length : Int) := by omega
      have kk3 : k1 ≤ cc := by omega
      have kk4 : k2 ≤ gcc := by omega
      have hse := hN10.out.s0eq
      injection hse with s1 s2 s3
      subst s1 s2
      replace hN10 := hN10.out
      have HB0W := hBw10
      go_upto_region 12 with fail
      go_loopw [93] (fun i W' => ∃ k : Nat, k ≤ k1 ∧ i = .int .i64 k ∧ Hid (NM W' X X gm ⟨some ⟨gm, 0, none⟩, r.members.length, q0⟩ ⟨a1, n1, q1⟩ ⟨a2, n2, q2⟩ gb1 gb2 ⟨setAll r.members (r.coming.take k) 2, r.coming, r.going, r.churn⟩) ∧ Hid (Below X W W')) (fun i _ => k1 - (intOf i).toNat)
      case atStart => exact ⟨0, Nat.zero_le _, rfl, Lib.hid hN10, Lib.hid (Below.refl _ _)⟩
      case round =>
        obtain ⟨k, hk, rfl, HNk, HBk⟩ := hrel
        have hBwr := Lib.hid (HB0W.out.trans (HBk.out.mono (Nat.le_of_lt hXX)))
        by_cases hkx : k < k1
        · have hRk := hrI.out.keep hBwr.out
          obtain ⟨b, off, e, hb, hc⟩ := nums_at hRk.2.1 (by omega)
          have e1 := congrArg Sl.a e
          simp only at e1
          subst e1
          clear e
          have hck := hc k (by omega)
          clear hc
          have hget := List.getElem?_eq_getElem (l := r.coming) (i := k) (by omega)
          obtain ⟨v1, v2⟩ := l1.out (r.coming[k]'(by omega)) (List.getElem_mem _)
          generalize r.coming[k]'(by omega) = n at *
          obtain ⟨i, rfl⟩ : ∃ i : Nat, n = (i : Int) + 1 := ⟨(n - 1).toNat, by omega⟩
          have hlen : (setAll r.members (r.coming.take k) 2).length = r.members.length := by rw [setAll_length]
          have hi : i < r.members.length := by omega
          have Hsn := Lib.hid (setAll_snoc r.members r.coming 2 k i hget)
          have j1 : (i : Int) < (r.members.length : Int) := by omega
          have k9 : (k : Int) < (k1 : Int) := by omega
          have x1 : IntKind.i64.wrap ((i : Int) + 1 - 1) = i := by rw [show (i : Int) + 1 - 1 = i by omega]; exact IntWalk.i64_in _ (by omega)
          have c0 := HNk.out.c0
          dsimp only [Sl.v] at c0
          obtain ⟨y1, y2, HNn, hBn⟩ := HNk.out.setSt i (by simp only; rw [hlen]; exact hi) 2
          obtain ⟨sv, q2⟩ : ∃ sv : Int, wr.cell? ⟨gm, i * 35 + 33, none⟩ = some (.int .i64 sv) := ⟨_, (mbr_cells (HNk.out.mrow i (by simp only; rw [hlen]; exact hi))).2.2.1⟩
          replace HNn := Lib.hid HNn
          replace hBn := Lib.hid hBn
          clear hget v1 v2 hlen hRk
          go_wp2_with fail
          go_roundw
          case rel => exact ⟨k + 1, by omega, by go_num, Lib.hid (by rw [Hsn.out]; exact HNn.out), Lib.hid (HBk.out.trans hBn.out)⟩
          case measure => simp [intOf]; omega
        · obtain rfl : k1 = k := by omega
          clear hkx hk
          have HBk2 := Lib.hid (hB10.trans HBk.out)
          have hd2 := (HBk.out.cell (p := ⟨w.heap.size, 2, none⟩) hXX).trans d2
          have HB0wq := Lib.hid hBwr.out
          clear hN10 HBk hBwr d1 d2 hRw HB0W hBw10 hk010 kk1
          rename World => wq
          go_upto_region 17 with fail
          go_loopw [112] (fun i W' => ∃ k : Nat, k ≤ k2 ∧ i = .int .i64 k ∧ Hid (NM W' X X gm ⟨some ⟨gm, 0, none⟩, r.members.length, q0⟩ ⟨a1, n1, q1⟩ ⟨a2, n2, q2⟩ gb1 gb2 ⟨setAll (setAll r.members (r.coming.take k1) 2) (r.going.take k) 4, r.coming, r.going, r.churn⟩) ∧ Hid (Below X wq W')) (fun i _ => k2 - (intOf i).toNat)
          case atStart => exact ⟨0, Nat.zero_le _, rfl, HNk, Lib.hid (Below.refl _ _)⟩
          case round =>
            obtain ⟨k, hk, rfl, HNk, HBk⟩ := hrel
            have hBwr := Lib.hid (HB0wq.out.trans (HBk.out.mono (Nat.le_of_lt hXX)))
            by_cases hkx : k < k2
            · have hRk := hrI.out.keep hBwr.out
              obtain ⟨b, off, e, hb, hc⟩ := nums_at hRk.2.2.1 (by omega)
              have e1 := congrArg Sl.a e
              simp only at e1
              subst e1
              clear e
              have hck := hc k (by omega)
              clear hc
              have hget := List.getElem?_eq_getElem (l := r.going) (i := k) (by omega)
              obtain ⟨v1, v2⟩ := l2.out (r.going[k]'(by omega)) (List.getElem_mem _)
              generalize r.going[k]'(by omega) = n at *
              obtain ⟨i, rfl⟩ : ∃ i : Nat, n = (i : Int) + 1 := ⟨(n - 1).toNat, by omega⟩
              have hlen : (setAll (setAll r.members (r.coming.take k1) 2) (r.going.take k) 4).length = r.members.length := by rw [setAll_length, setAll_length]
              have hi : i < r.members.length := by omega
              have Hsn := Lib.hid (setAll_snoc (setAll r.members (r.coming.take k1) 2) r.going 4 k i hget)
              have j1 : (i : Int) < (r.members.length : Int) := by omega
              have k9 : (k : Int) < (k2 : Int) := by omega
              have x1 : IntKind.i64.wrap ((i : Int) + 1 - 1) = i := by rw [show (i : Int) + 1 - 1 = i by omega]; exact IntWalk.i64_in _ (by omega)
              have c0 := HNk.out.c0
              dsimp only [Sl.v] at c0
              obtain ⟨y1, y2, HNn, hBn⟩ := HNk.out.setSt i (by simp only; rw [hlen]; exact hi) 4
              obtain ⟨sv, q2⟩ : ∃ sv : Int, wr.cell? ⟨gm, i * 35 + 33, none⟩ = some (.int .i64 sv) := ⟨_, (mbr_cells (HNk.out.mrow i (by simp only; rw [hlen]; exact hi))).2.2.1⟩
              replace HNn := Lib.hid HNn
              replace hBn := Lib.hid hBn
              clear hget v1 v2 hlen hRk
              go_wp2_with fail
              go_roundw
              case rel => exact ⟨k + 1, by omega, by go_num, Lib.hid (by rw [Hsn.out]; exact HNn.out), Lib.hid (HBk.out.trans hBn.out)⟩
              case measure => simp [intOf]; omega
            · obtain rfl : k2 = k := by omega
              clear hkx hk
              have HBk3 := Lib.hid (HBk2.out.trans HBk.out)
              have d1 := HNk.out.c1
              have d2 := HNk.out.c2
              dsimp only [Sl.v] at d1 d2
              clear HBk2 HBk hd2
              rename World => wp
              go_upto_region 21 with fail
              have hND := HNk.out
              obtain ⟨t1, gc1, r1, o1, u1⟩ := slc_cut hND.com k1 hk1l
              obtain ⟨t2, gc2, r2, o2, u2⟩ := slc_cut hND.goi k2 hk2l
              obtain ⟨HNc0, hBc0⟩ := nm_cut hND o1 o2 u1 u2
              have HNc := HNc0.keep ((Below.refl _ _).drew)
              have hBc := hBc0.drew
              clear HNc0 hBc0
              obtain ⟨ba, bn, bc⟩ := t1
              obtain ⟨da, dn, dc⟩ := t2
              dsimp only [Sl.v] at r1 r2 HNc hBc
              have x1 := hND.c1
              have x2 := hND.c2
              have y1 := hND.fz 1 (by omega)
              have y2 := hND.fz 2 (by omega)
              dsimp only [Sl.v] at x1 x2
              replace HNc := Lib.hid HNc
              replace hBc := Lib.hid (HBk3.out.trans hBc)
              replace hND := Lib.hid hND
              replace o1 := Lib.hid o1
              replace o2 := Lib.hid o2
              replace u1 := Lib.hid u1
              replace u2 := Lib.hid u2
              go_region
              clear r1 r2 x1 x2 y1 y2 d1 d2
              generalize ((wp.setCell ⟨X, 1, none⟩ (.slice ba bn bc)).setCell ⟨X, 2, none⟩ (.slice da dn dc)).drew = wz at *
              have htr := Lib.hid (show turned r ((en - pn) * r.churn.toNat) = ⟨setAll (setAll r.members (r.coming.take k1) 2) (r.going.take k2) 4, r.coming.drop k1, r.going.drop k2, r.churn⟩ by
                rw [turned, ← hk1.out, ← hk2.out])
              have hPt := turned_may hP ((en - pn) * r.churn.toNat)
              have hNz : NextM wz X X (turned r ((en - pn) * r.churn.toNat)) := by rw [htr.out]; exact ⟨_, _, _, _, _, _, HNc.out⟩
              generalize turned r ((en - pn) * r.churn.toNat) = tr at *
              have hBz := Lib.hid (hB5.out.trans (hBc.out.mono (by omega)))
              have z33 := (hBc.out.cell (p := ⟨b1, 33, none⟩) (show b1 < X by omega)).trans C33.out
              have zth := there_below hBc.out (show b2 < X by omega) hth35
              have hopl := (hhI.out.keep' hBz.out).2.2.1
              have hop16 : h.ops.length ≤ 9223372036854775807 := hf.1
              clear HNk HBk3 hBwr htr HNc hND o1 o2 u1 u2 hth35 hrow35 HB0wq
              replace hPt := Lib.hid hPt
              replace hNz := Lib.hid hNz
              obtain ⟨gp, ge, ⟨pa, pl, pc⟩⟩ := gh
              simp only at hopl
              subst hopl
              dsimp only [Sl.v] at z33
              have hbz0 := Lib.hid (Below.refl X wz)
              go_upto_region 23 with fail
              go_loopw [151] (fun i W' => ∃ (k : Nat) (rr : Reg), k ≤ h.ops.length ∧ i = .int .i64 k ∧ Hid (NextM W' X X rr) ∧ Hid (RegP rr) ∧ Hid (regNext r h parent = regOps rr (h.ops.drop k)) ∧ Hid (Below X wz W')) (fun i _ => h.ops.length - (intOf i).toNat)
              case atStart => exact ⟨0, tr, Nat.zero_le _, rfl, hNz, hPt, HR, hbz0⟩
              case round =>
                obtain ⟨ko, rr, hko, rfl, HNr, HPr, HRr, HBr⟩ := hrel
                have hBwr := Lib.hid (hBz.out.trans (HBr.out.mono (by omega)))
                have zth' := there_below HBr.out (show b2 < X by omega) zth
                by_cases hkx : ko < h.ops.length
                · obtain ⟨bo, oo, e, hbo, hco⟩ := (OpsR.keep' hhI.out.2.2 hBwr.out).at (by omega)
                  have e1 := congrArg Sl.a e
                  simp only at e1
                  subst e1
                  clear e
                  obtain ⟨cs, hcx, g1, rfl, hv1⟩ := hco ko hkx
                  clear hco
                  have hmo := List.all_eq_true.1 Hops.out (h.ops[ko]) (List.getElem_mem hkx)
                  have hdr := List.drop_eq_getElem_cons hkx
                  generalize h.ops[ko] = o at *
                  have HRo := Lib.hid (show regNext r h parent = if (regOp rr o).2 = 0 then regOps (regOp rr o).1 (h.ops.drop (ko + 1)) else (zeroReg, (regOp rr o).2) by rw [HRr.out, hdr, regOps])
                  have k1o : (ko : Int) < (h.ops.length : Int) := by omega
                  clear hdr
                  replace hmo := Lib.hid hmo
                  replace hv1 := Lib.hid hv1
                  replace zth' := Lib.hid zth'
                  go_upto_region 25 with fail
                  obtain ⟨W1, hW1, hr1, hB1, hz1⟩ := box_op wr g1
                  rw [← hW1]
                  clear hW1 hcx
                  have hNW : NextM W1 X X rr := by
                    obtain ⟨_, _, _, _, _, _, hn⟩ := HNr.out
                    exact ⟨_, _, _, _, _, _, hn.keep hB1⟩
                  have hDO := do_c hNW HPr.out (hv1.out.keep' hB1) hmo.out
                  have hX1 : X < wr.heap.size := by
                    obtain ⟨_, _, _, _, _, _, hn⟩ := HNr.out
                    exact hn.hX
                  have hBX1 := Lib.hid (HBr.out.trans (hB1.mono (by omega)))
                  have hth1 := there_below hB1 (show b2 < wr.heap.size by omega) zth'.out
                  clear hNW hB1
                  go_wp2_with fail
                  refine hDO.mono ?_
                  clear hDO
                  rintro e w6' hpost
                  obtain ⟨rfl, hNo, hBo⟩ := hpost
                  replace hNo := Lib.hid hNo
                  have hth2 := there_below hBo (show b2 < X by omega) hth1
                  have hBX2 := Lib.hid (hBX1.out.trans hBo)
                  clear hth1 hr1
                  by_cases hz : (regOp rr o).2 = 0
                  · have hP2 := Lib.hid (regOp_may HPr.out hmo.out hz)
                    have HR2 := Lib.hid (HRo.out.trans (if_pos hz))
                    generalize (regOp rr o).2 = code at *
                    subst hz
                    clear hth2 hBo
                    go_wp2_with fail
                    go_roundw
                    case rel => exact ⟨ko + 1, _, by omega, by go_num, hNo, hP2, HR2, hBX2⟩
                    case measure => simp [intOf]; omega
                  · have HR2 := Lib.hid (HRo.out.trans (if_neg hz))
                    have bz : ((regOp rr o).2 != 0) = true := by simpa using hz
                    have hzr := zero_regA
                    generalize (regOp rr o).2 = code at *
                    have hst := store_reg w6' b2 0 (regA zeroG4) rfl (onesReg _) hth2
                    have hput : row? (putRow w6' b2 0 (regA zeroG4)) b2 0 4 = some (regA zeroG4) := row?_put_same _ _ _ _ _ (by rfl) (by omega) hth2
                    have hpb : Below w.heap.size w (putRow w6' b2 0 (regA zeroG4)) := below_put (hBz.out.trans (hBX2.out.mono (by omega))) (by omega) _ _
                    clear hz hth2 hBo HRo
                    go_wp2_with (with_reducible refine ret_row2 Try.isAgg103 Try.sizeOf103 next_res (x := .pointer (some ⟨b2, 0, none⟩)) (y := .int .i64 code) (b2) 0 ?rrhx (Eq.refl _) ?rrhy ?rrh ?rrhd ?rrhR; (case rrhx => simp only [Array.getD_eq_getD_getElem?, List.getElem?_toArray, List.getElem?_cons_succ, List.getElem?_cons_zero, Option.getD_some]); (case rrhy => simp only [Array.getD_eq_getD_getElem?, List.getElem?_toArray, List.getElem?_cons_succ, List.getElem?_cons_zero, Option.getD_some]); (case rrhd => exact rfl); (case rrh => go_simp); (case rrhR => ((exact next_done (g' := zeroG4) (by rw [HR2.out]) hput (by rw [HR2.out]; exact RegAt.zero _ _) hpb))))
                · have hlast := Lib.hid (show regNext r h parent = (rr, 0) by
                    rw [HRr.out, List.drop_of_length_le (by omega)]
                    rfl)
                  obtain ⟨gmz, s0z, s1z, s2z, g1z, g2z, hNf⟩ := HNr.out
                  have hrowz := hNf.row
                  obtain ⟨gz, hgz⟩ : ∃ gz : GReg, gz = ⟨s0z, s1z, s2z, rr.churn⟩ := ⟨_, rfl⟩
                  rw [← hgz] at hrowz
                  have hst := store_reg wr b2 0 (regA gz) rfl (onesReg _) zth'
                  have hput : row? (putRow wr b2 0 (regA gz)) b2 0 4 = some (regA gz) := row?_put_same _ _ _ _ _ (by rfl) (by omega) zth'
                  have hpb : Below w.heap.size w (putRow wr b2 0 (regA gz)) := below_put hBwr.out (by omega) _ _
                  have hrg : RegAt w.heap.size (putRow wr b2 0 (regA gz)) gz rr := fun W2 q1 q2 => by
                    rw [hgz]
                    rw [size_put] at q1 q2
                    exact (hNf.keepX q1 (fun k hk hl => (q2 k (by omega) hl).trans (put_far _ _ _ _ k (by omega)))).reg
                  replace hrg := Lib.hid hrg
                  clear hNf hgz
                  have knl : ¬ (ko : Int) < (h.ops.length : Int) := by omega
                  go_wp2_with (with_reducible refine ret_row2 Try.isAgg103 Try.sizeOf103 next_res (x := .pointer (some ⟨b2, 0, none⟩)) (y := .int .i64 0) (b2) 0 ?rrhx (Eq.refl _) ?rrhy ?rrh ?rrhd ?rrhR; (case rrhx => simp only [Array.getD_eq_getD_getElem?, List.getElem?_toArray, List.getElem?_cons_succ, List.getElem?_cons_zero, Option.getD_some]); (case rrhy => simp only [Array.getD_eq_getD_getElem?, List.getElem?_toArray, List.getElem?_cons_succ, List.getElem?_cons_zero, Option.getD_some]); (case rrhd => exact rfl); (case rrh => go_simp); (case rrhR => ((exact next_done (g' := gz) (by rw [hlast.out]) hput (by rw [hlast.out]; exact hrg.out) hpb))))
end Go.Proofs.Ytkocpihfdpahpaa
