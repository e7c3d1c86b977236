/- Texts of this proof, one behind the other: Reg, RegP, RegQ, RegS, RegM, RegL, RegA, RegB, RegC, RegD, RegE. -/
import Derived.Test.YthdjhbiigmcecaaQB
import Derived.Test.YthdjhbiigmcecaaQA
import Derived.Test.YthdjhbiigmcecaaShelf
import Derived.Shelf.SlicesQ.IndexFunc
import Derived.IntWalk
import Derived.Deep.CutRange
set_option linter.unusedVariables false
set_option linter.unusedSimpArgs false
/- Registers and their members: cells, and what they hold. -/
namespace Go.Proofs.Ythdjhbiigmcecaa
open Go.RowKit

structure Mbr where
  key : Hash
  stake : UInt64
  status : Int
  marked : Bool
  deriving DecidableEq
structure Reg where
  members : List Mbr
  coming : List Int
  going : List Int
  churn : UInt64
  deriving DecidableEq
structure GReg where
  members : Sl
  coming : Sl
  going : Sl
  churn : UInt64
def mbrA (m : Mbr) : Array Value := hashA m.key ++ #[.int .u64 (m.stake.toNat : Int), .int .i64 m.status, .bool m.marked]
@[simp] theorem mbrA_size (m : Mbr) : (mbrA m).size = 35 := by simp [mbrA]
def intA (n : Int) : Array Value := #[.int .i64 n]
def regA (g : GReg) : Array Value := #[g.members.v, g.coming.v, g.going.v, .int .u64 (g.churn.toNat : Int)]
abbrev MbrsR (w : World) (s : Sl) (l : List Mbr) : Prop := SlR 35 (fun cs m => cs = mbrA m) w s l
abbrev NumsR (w : World) (s : Sl) (l : List Int) : Prop := SlR 1 (fun cs n => cs = intA n) w s l
def RegR (w : World) (g : GReg) (r : Reg) : Prop := MbrsR w g.members r.members ∧ NumsR w g.coming r.coming ∧ NumsR w g.going r.going ∧ g.churn = r.churn
theorem RegR.keep {w w' : World} {g : GReg} {r : Reg} (h : RegR w g r) (hb : Below w.heap.size w w') : RegR w' g r :=
  ⟨SlR.keep h.1 hb fun _ _ h => h, SlR.keep h.2.1 hb fun _ _ h => h, SlR.keep h.2.2.1 hb fun _ _ h => h, h.2.2.2⟩
end Go.Proofs.Ythdjhbiigmcecaa

/- Registers, plainly: which may be, and the one behind a header. -/
namespace Go.Proofs.Ythdjhbiigmcecaa

/-! a test of every place -/
/-! members -/
def zeroMbr : Mbr := ⟨zeroHash, 0, 0, false⟩
structure LineP (ms : List Mbr) (l : List Int) (s : Int) : Prop where
  nodup : l.Nodup
  mem : ∀ n : Int, n ∈ l ↔ ∃ (i : Nat) (m : Mbr), n = (i : Int) + 1 ∧ ms[i]? = some m ∧ m.status = s
theorem get_some {α : Type} {l : List α} {i : Nat} (h : i < l.length) (d : α) : l[i]? = some (l.getD i d) := by
  rw [List.getD_eq_getElem?_getD, List.getElem?_eq_getElem h]
  rfl
theorem lt_of_get {α : Type} {l : List α} {i : Nat} {x : α} (h : l[i]? = some x) : i < l.length := by
  rcases Nat.lt_or_ge i l.length with h1 | h1
  · exact h1
  · rw [List.getElem?_eq_none h1] at h; cases h
/-! as the document asks -/
theorem LineP.range {ms : List Mbr} {l : List Int} {s : Int} (h : LineP ms l s) : ∀ n ∈ l, 1 ≤ n ∧ n ≤ (ms.length : Int) := fun n hn => by
  obtain ⟨i, m, h1, h2, _⟩ := (h.mem n).1 hn
  have := lt_of_get h2
  omega

/-! the register behind a header -/
end Go.Proofs.Ythdjhbiigmcecaa

/- The register behind a header may be; what stays; how much turns. Plainly. -/
namespace Go.Proofs.Ythdjhbiigmcecaa

/-! operations -/
end Go.Proofs.Ythdjhbiigmcecaa

/- What stays along a branch, and how much turns. Plainly. -/
namespace Go.Proofs.Ythdjhbiigmcecaa

/-- what operations do to members -/
structure OpGrow (ms ms' : List Mbr) : Prop where
  len : ms.length ≤ ms'.length
  old : ∀ (j : Nat) (m : Mbr), ms[j]? = some m → ∃ m', ms'[j]? = some m' ∧ m'.key = m.key ∧ m'.stake = m.stake ∧ (m.marked = true → m'.marked = true) ∧ (m'.status = m.status ∨ m.status = 2 ∧ m'.status = 3)
  new : ∀ (j : Nat) (m' : Mbr), ms.length ≤ j → ms'[j]? = some m' → m'.status = 1
theorem OpGrow.refl (ms : List Mbr) : OpGrow ms ms := ⟨Nat.le_refl _, fun j m h => ⟨m, h, rfl, rfl, id, .inl rfl⟩, fun j m h1 h2 => absurd (lt_of_get h2) (by omega)⟩
theorem OpGrow.trans {a b c : List Mbr} (h1 : OpGrow a b) (h2 : OpGrow b c) : OpGrow a c := by
  refine ⟨Nat.le_trans h1.len h2.len, fun j m hj => ?_, fun j m' hl hj => ?_⟩
  · obtain ⟨m1, e1, e2, e3, e4, e5⟩ := h1.old j m hj
    obtain ⟨m2, f1, f2, f3, f4, f5⟩ := h2.old j m1 e1
    exact ⟨m2, f1, by rw [f2, e2], by rw [f3, e3], fun h => f4 (e4 h), by omega⟩
  · rcases Nat.lt_or_ge j b.length with h | h
    · have e := get_some h zeroMbr
      have := h1.new j _ hl e
      obtain ⟨m2, f1, _, _, _, f5⟩ := h2.old j _ e
      rw [hj] at f1
      injection f1 with f1
      subst f1
      omega
    · exact h2.new j m' h hj
/-! how much turns -/
/-! a branch -/
end Go.Proofs.Ythdjhbiigmcecaa

/- A register in memory of the call's own: lists of numbers that may be cut at their head; members that are written one by one. -/
namespace Go.Proofs.Ythdjhbiigmcecaa
open Go.RowKit

def i64V (n : Int) : Value := .int .i64 n
/-- a list of numbers of the call's own, at any place of its block -/
def OwnO (w : World) (base : Nat) (v : Value) (xs : List Int) (gb : Option Nat) : Prop :=
  ∃ a c, v = .slice a xs.length c ∧ xs.length ≤ c ∧ c ≤ maxLen ∧ ((gb = none ∧ c = 0) ∨
    ∃ g off, gb = some g ∧ a = some ⟨g, off, none⟩ ∧ base ≤ g ∧ g < w.heap.size ∧ (∀ j, j < c → (w.cell? ⟨g, off + j, none⟩).isSome = true) ∧ (∀ j, j < c → w.frozen? ⟨g, off + j, none⟩ = false) ∧
      ∀ j u, xs[j]? = some u → w.cell? ⟨g, off + j, none⟩ = some (i64V u))
theorem OwnO.nil (w : World) (base : Nat) (a : Option Addr) : OwnO w base (.slice a 0 0) [] none := ⟨a, 0, rfl, Nat.le_refl _, by decide, .inl ⟨rfl, rfl⟩⟩
theorem OwnO.keepB {w w' : World} {base : Nat} {v : Value} {xs : List Int} {gb : Option Nat} (h : OwnO w base v xs gb) (hs : w.heap.size ≤ w'.heap.size) (hb : ∀ g, gb = some g → g < w.heap.size → w'.heap[g]? = w.heap[g]?) : OwnO w' base v xs gb := by
  obtain ⟨a, c, h1, h2, h3, h4⟩ := h
  refine ⟨a, c, h1, h2, h3, ?_⟩
  rcases h4 with h4 | ⟨g, off, e1, e2, e3, e4, e5, e6, e7⟩
  · exact .inl h4
  · have hg := hb g e1 e4
    have c1 := fun j => World.cell?_of_block (a := ⟨g, off + j, none⟩) hg
    have c2 := fun j => World.frozen?_of_block (a := ⟨g, off + j, none⟩) hg
    exact .inr ⟨g, off, e1, e2, e3, by omega, fun j hj => by rw [c1]; exact e5 j hj, fun j hj => by rw [c2]; exact e6 j hj, fun j u hu => by rw [c1]; exact e7 j u hu⟩
theorem OwnO.keep {w w' : World} {base : Nat} {v : Value} {xs : List Int} {gb : Option Nat} (h : OwnO w base v xs gb) (hb : Below w.heap.size w w') : OwnO w' base v xs gb :=
  h.keepB hb.size fun g _ hg => hb.block g hg
theorem OwnO.lt {w : World} {base : Nat} {v : Value} {xs : List Int} {gb : Option Nat} (h : OwnO w base v xs gb) : ∀ g, gb = some g → base ≤ g ∧ g < w.heap.size := by
  obtain ⟨a, c, _, _, _, h4⟩ := h
  intro g hg
  rcases h4 with ⟨h4, _⟩ | ⟨g', off, e1, e2, e3, e4, _⟩
  · rw [h4] at hg; cases hg
  · rw [e1] at hg
    injection hg with hg
    omega
theorem OwnO.slice {w : World} {base : Nat} {v : Value} {xs : List Int} {gb : Option Nat} (h : OwnO w base v xs gb) : ∃ s : Sl, v = s.v ∧ s.n = xs.length ∧ s.n ≤ s.c ∧ s.c ≤ maxLen := by
  obtain ⟨a, c, h1, h2, h3, _⟩ := h
  exact ⟨⟨a, xs.length, c⟩, h1, rfl, h2, h3⟩
theorem OwnO.more {w : World} {base base' : Nat} {v : Value} {xs : List Int} {gb : Option Nat} (h : OwnO w base v xs gb) (hb : base' ≤ base) : OwnO w base' v xs gb := by
  obtain ⟨a, c, h1, h2, h3, h4⟩ := h
  refine ⟨a, c, h1, h2, h3, ?_⟩
  rcases h4 with h4 | ⟨g, off, e1, e2, e3, r⟩
  · exact .inl h4
  · exact .inr ⟨g, off, e1, e2, by omega, r⟩
theorem row_one {w : World} {b o : Nat} {v : Value} (h : w.cell? ⟨b, o, none⟩ = some v) : row? w b o 1 = some #[v] := by
  unfold World.cell? at h
  unfold row?
  simp only at h
  cases hg : w.heap[b]? with
  | none => rw [hg] at h; simp at h
  | some x =>
    cases x with
    | cells cs t fr =>
      rw [hg] at h
      simp only at h
      have hc : cs[o]? = some v := h
      obtain ⟨hlt, he⟩ := Array.getElem?_eq_some_iff.1 hc
      simp only
      rw [if_pos (by omega)]
      congr 1
      apply Array.ext
      · simp; omega
      · intro j h1 h2
        simp at h2
        subst h2
        simp [he]
    | _ => rw [hg] at h; simp at h
theorem OwnO.reads {w : World} {base : Nat} {s : Sl} {xs : List Int} {gb : Option Nat} (h : OwnO w base s.v xs gb) : NumsR w s xs := by
  obtain ⟨a, c, h1, h2, h3, h4⟩ := h
  obtain ⟨sa, sn, sc⟩ := s
  injection h1 with e1 e2 e3
  subst e1 e2 e3
  refine ⟨rfl, h2, fun hne => ?_⟩
  have hl : 0 < xs.length := List.length_pos_iff.2 hne
  rcases h4 with ⟨_, h4⟩ | ⟨g, off, _, e2, _, _, _, _, e7⟩
  · omega
  · refine ⟨g, off, e2, fun i hi => ⟨_, ?_, rfl⟩⟩
    rw [Nat.mul_one]
    exact row_one (e7 i _ (List.getElem?_eq_getElem hi))
theorem OwnO.of_row {w : World} {base n : Nat} {v : Value} {xs : List Int} {e : TypeId} (h : w.ownsRow base e 1 v n (xs.map i64V)) (hn : n = xs.length) : ∃ gb, OwnO w base v xs gb ∧ (gb = none ∨ ∃ g, gb = some g) := by
  subst hn
  have ho := OwnC.of_row h
  rcases ho.2 with ⟨hv, h0⟩ | ⟨g, cap, hv, h1, h2, h3, h4, h5, h6, h7⟩
  · subst hv
    have : xs = [] := List.eq_nil_of_length_eq_zero h0
    subst this
    exact ⟨none, OwnO.nil _ _ _, .inl rfl⟩
  · subst hv
    refine ⟨some g, ⟨_, cap, rfl, h3, h4, .inr ⟨g, 0, rfl, rfl, h1, h2, fun j hj => ?_, fun j hj => ?_, fun j u hu => ?_⟩⟩, .inr ⟨g, rfl⟩⟩
    · rw [Nat.zero_add]; exact h5 j (by omega)
    · rw [Nat.zero_add]; exact h6 j (by omega)
    · rw [Nat.zero_add]; exact h7 j _ (by rw [List.getElem?_map, hu]; rfl)
theorem cell_set_same {w : World} {a : Addr} {v : Value} (h : (w.cell? a).isSome = true) : (w.setCell a v).cell? a = some v := by
  obtain ⟨x, hx⟩ := Option.isSome_iff_exists.1 h
  exact World.cell?_setCell_same w a v hx
theorem size_setCell (w : World) (a : Addr) (v : Value) : (w.setCell a v).heap.size = w.heap.size := by simp
/-! members written one by one -/
section
variable {α : Type} (A : α → Array Value) {k : Nat} (hk : ∀ x, (A x).size = k)
include hk
end
theorem OwnC.set {w : World} {base k n cap g : Nat} {xs : List Value} (h : OwnC w base k (.slice (some ⟨g, 0, none⟩) n cap) n xs) (j : Nat) (u : Value) (hj : j < xs.length) :
    (w.cell? ⟨g, j, none⟩).isSome = true ∧ w.frozen? ⟨g, j, none⟩ = false ∧ OwnC (w.setCell ⟨g, j, none⟩ u) base k (.slice (some ⟨g, 0, none⟩) n cap) n (xs.set j u) := by
  obtain ⟨hl, h⟩ := h
  rcases h with ⟨hv, _⟩ | ⟨g', cap', hv, h1, h2, h3, h4, h5, h6, h7⟩
  · cases hv
  injection hv with e1 e2 e3
  injection e1 with e1
  injection e1 with e1
  subst e1 e3
  have hjc : j < cap * k := by
    have := Nat.mul_le_mul_right k h3
    omega
  refine ⟨h5 j hjc, h6 j hjc, by rw [List.length_set]; exact hl, .inr ⟨g, cap, rfl, h1, by rw [size_setCell]; exact h2, h3, h4, fun i hi => ?_, fun i hi => ?_, fun i v hv => ?_⟩⟩
  · by_cases e : i = j
    · subst e
      rw [cell_set_same (h5 _ hi)]
      rfl
    · rw [World.cell?_setCell_other w _ _ _ (by intro e'; injection e'; omega)]
      exact h5 i hi
  · rw [World.frozen?_setCell]
    exact h6 i hi
  · by_cases e : i = j
    · subst e
      rw [cell_set_same (h5 _ hjc)]
      rw [List.getElem?_set_self hj] at hv
      exact hv
    · rw [World.cell?_setCell_other w _ _ _ (by intro e'; injection e'; omega)]
      rw [List.getElem?_set_ne (fun e' => e e'.symm)] at hv
      exact h7 i v hv
end Go.Proofs.Ythdjhbiigmcecaa

/- Members and registers: loads, stores and '==' for the walk. -/
namespace Go.Proofs.Ythdjhbiigmcecaa
open Go.RowKit

theorem mbrA_tail (m : Mbr) (i : Nat) : (mbrA m)[32 + i]? = #[.int .u64 (m.stake.toNat : Int), .int .i64 m.status, .bool m.marked][i]? := by
  rw [mbrA, Array.getElem?_append_right (by simp)]
  simp
@[simp] theorem mbrA_stake (m : Mbr) : (mbrA m)[32]? = some (.int .u64 (m.stake.toNat : Int)) := mbrA_tail m 0
@[simp] theorem mbrA_st (m : Mbr) : (mbrA m)[33]? = some (.int .i64 m.status) := mbrA_tail m 1
@[simp] theorem mbrA_mark (m : Mbr) : (mbrA m)[34]? = some (.bool m.marked) := mbrA_tail m 2
@[simp] theorem mbrA_stake' (m : Mbr) (h) : (mbrA m)[32]'h = .int .u64 (m.stake.toNat : Int) := by
  have := mbrA_stake m
  rwa [Array.getElem?_eq_getElem h, Option.some.injEq] at this
@[simp] theorem mbrA_st' (m : Mbr) (h) : (mbrA m)[33]'h = .int .i64 m.status := by
  have := mbrA_st m
  rwa [Array.getElem?_eq_getElem h, Option.some.injEq] at this
@[simp] theorem mbrA_mark' (m : Mbr) (h) : (mbrA m)[34]'h = .bool m.marked := by
  have := mbrA_mark m
  rwa [Array.getElem?_eq_getElem h, Option.some.injEq] at this
@[simp] theorem mbrA_key (m : Mbr) : (mbrA m).extract 0 32 = hashA m.key := by
  simp [mbrA, Array.extract_append, ext_self, ext_none]
@[simp] theorem mbrA_all (m : Mbr) : (mbrA m).extract 0 35 = mbrA m := ext_self _ _ (by simp)
theorem mbrA_one (m : Mbr) : ∀ u ∈ (mbrA m).toList, u.oneCell' = true := by
  intro u hu
  simp only [mbrA, hashA, Array.toList_append, List.mem_append, List.mem_map] at hu
  rcases hu with ⟨x, _, rfl⟩ | hu
  · rfl
  · simp at hu
    rcases hu with rfl | rfl | rfl <;> rfl
theorem load_mbr_s (x : Value) : Instr.loadAt 183 x = loadAgg 183 x := rfl
theorem load_mbr (w : World) (b off : Nat) (h : (row? w b off 35).isSome = true) : (loadAgg 183 (.pointer (some ⟨b, off, none⟩))).run Try.prog w = .ok (.agg ((row? w b off 35).getD #[])) w := run_loadAgg Try.isAgg183 Try.sizeOf183 w b off h
attribute [go_sem ↓] load_mbr_s
attribute [go_sem] load_mbr
theorem load_reg_s (x : Value) : Instr.loadAt 80 x = loadAgg 80 x := rfl
theorem load_reg (w : World) (b off : Nat) (h : (row? w b off 4).isSome = true) : (loadAgg 80 (.pointer (some ⟨b, off, none⟩))).run Try.prog w = .ok (.agg ((row? w b off 4).getD #[])) w := run_loadAgg Try.isAgg80 Try.sizeOf80 w b off h
attribute [go_sem ↓] load_reg_s
attribute [go_sem] load_reg
theorem onesMbr (m : Mbr) : oneCells (mbrA m) := by
  unfold oneCells
  rw [Array.all_eq_true']
  intro u hu
  exact mbrA_one m u (by simpa using hu)
theorem onesReg (g : GReg) : oneCells (regA g) := by
  unfold oneCells
  simp [regA, Value.oneCell']
attribute [go_sem] onesMbr onesReg
theorem store_mbr_s (x v : Value) : Instr.storeAt 183 x v = storeAgg 183 x v := rfl
theorem info_mbr : (Try.prog.info? 183).map (·.size) = some 35 := by kernel_rfl
theorem store_mbr (w : World) (b off : Nat) (xs : Array Value) (hn : xs.size = 35) (h1 : oneCells xs) (ht : there w b off 35) : (storeAgg 183 (.pointer (some ⟨b, off, none⟩)) (.agg xs)).run Try.prog w = .ok () (putRow w b off xs) := run_storeAgg info_mbr w b off xs hn h1 ht
attribute [go_sem ↓] store_mbr_s
attribute [go_sem] store_mbr
theorem store_reg_s (x v : Value) : Instr.storeAt 80 x v = storeAgg 80 x v := rfl
theorem info_reg : (Try.prog.info? 80).map (·.size) = some 4 := by kernel_rfl
theorem store_reg (w : World) (b off : Nat) (xs : Array Value) (hn : xs.size = 4) (h1 : oneCells xs) (ht : there w b off 4) : (storeAgg 80 (.pointer (some ⟨b, off, none⟩)) (.agg xs)).run Try.prog w = .ok () (putRow w b off xs) := run_storeAgg info_reg w b off xs hn h1 ht
attribute [go_sem ↓] store_reg_s
attribute [go_sem] store_reg
/-- a register's own box -/
theorem reg_new (w : World) (g : GReg) (t : TypeId) : row? (w.alloc (.cells (regA g) t)) w.heap.size 0 4 = some (regA g) ∧ (w.alloc (.cells (regA g) t)).cell? ⟨w.heap.size, 0, none⟩ = some g.members.v ∧ (w.alloc (.cells (regA g) t)).cell? ⟨w.heap.size, 1, none⟩ = some g.coming.v ∧
    (w.alloc (.cells (regA g) t)).cell? ⟨w.heap.size, 2, none⟩ = some g.going.v ∧ (w.alloc (.cells (regA g) t)).cell? ⟨w.heap.size, 3, none⟩ = some (.int .u64 (g.churn.toNat : Int)) := by
  refine ⟨by rw [row?_new]; exact if_pos (by simp [regA]), ?_, ?_, ?_, ?_⟩ <;> rw [cell_alloc, if_pos rfl] <;> rfl

section
variable {P : Program} (w : World)
theorem fields4 {t : TypeId} {n0 n1 n2 n3 : String} {t0 t1 t2 t3 : TypeId} {o0 o1 o2 o3 : Nat} (hf : (P.fieldsOf t).toList.map (fun f => (f.name, f.type, f.offset)) = [(n0, t0, o0), (n1, t1, o1), (n2, t2, o2), (n3, t3, o3)]) :
    ∃ f0 f1 f2 f3, (P.fieldsOf t).toList = [f0, f1, f2, f3] ∧ (f0.name = n0 ∧ f1.name = n1 ∧ f2.name = n2 ∧ f3.name = n3) ∧ (f0.type = t0 ∧ f1.type = t1 ∧ f2.type = t2 ∧ f3.type = t3) ∧ (f0.offset = o0 ∧ f1.offset = o1 ∧ f2.offset = o2 ∧ f3.offset = o3) := by
  generalize (P.fieldsOf t).toList = l at hf
  match l, hf with
  | [f0, f1, f2, f3], hf =>
    simp only [List.map_cons, List.map_nil, List.cons.injEq, Prod.mk.injEq, and_true] at hf
    obtain ⟨⟨a1, a2, a3⟩, ⟨b1, b2, b3⟩, ⟨c1, c2, c3⟩, ⟨d1, d2, d3⟩⟩ := hf
    exact ⟨f0, f1, f2, f3, rfl, ⟨a1, b1, c1, d1⟩, ⟨a2, b2, c2, d2⟩, ⟨a3, b3, c3, d3⟩⟩
theorem eqMbr_run (d : Nat) {t th tu ts tb e : TypeId} {i : TypeInfo} {n0 n1 n2 n3 : String} (hf : (P.fieldsOf t).toList.map (fun f => (f.name, f.type, f.offset)) = [(n0, th, 0), (n1, tu, 32), (n2, ts, 33), (n3, tb, 34)]) (hu : P.underlying t = some (.struct (P.fieldsOf t))) (hp : P.stoodInHeld t = false)
    (h0 : n0 ≠ "_") (h1 : n1 ≠ "_") (h2 : n2 ≠ "_") (h3 : n3 ≠ "_") (hu0 : P.underlying tu = some (.int .u64)) (hus : P.underlying ts = some (.int .i64)) (hub : P.underlying tb = some .bool)
    (hA : ∀ w, (isAgg th).run P w = .ok true w) (hS : ∀ w, (Go.sizeOf th).run P w = .ok 32 w) (huh : P.underlying th = some (.array 32 e)) (hi : P.info? e = some i) (hc : P.cellsOf e = 1) (he : P.underlying e = some (.int .u8)) (a b : Mbr) :
    (Op.equalIn (d + 3) t (.agg (mbrA a)) (.agg (mbrA b))).run P w = .ok (decide (a = b)) w := by
  obtain ⟨f0, f1, f2, f3, hf, ⟨m0, m1, m2, m3⟩, ⟨t0, t1, t2, t3⟩, ⟨o0, o1, o2, o3⟩⟩ := fields4 hf
  rw [run_equalIn_struct w (d + 2) t _ _ hu hp, hf]
  have a1 : ∀ w, (isAgg tu).run P w = .ok false w := fun _ => by simp [isAgg, run_underlying hu0]
  have a2 : ∀ w, (isAgg ts).run P w = .ok false w := fun _ => by simp [isAgg, run_underlying hus]
  have a3 : ∀ w, (isAgg tb).run P w = .ok false w := fun _ => by simp [isAgg, run_underlying hub]
  have p0 := fun p : Mbr => part_agg (P := P) w hA hS (mbrA p) (off := 0) (by simp)
  have p1 := fun p : Mbr => part_one (P := P) w a1 (mbrA p) 32 _ (mbrA_stake p)
  have p2 := fun p : Mbr => part_one (P := P) w a2 (mbrA p) 33 _ (mbrA_st p)
  have p3 := fun p : Mbr => part_one (P := P) w a3 (mbrA p) 34 _ (mbrA_mark p)
  simp only [Nat.zero_add, mbrA_key] at p0
  have q0 := eqHash_run (P := P) w d huh hi hc he a.key b.key
  have q1 := run_equalIn_int (P := P) w (d + 1) tu .u64 .u64 (a.stake.toNat : Int) (b.stake.toNat : Int) hu0
  have q2 := run_equalIn_int (P := P) w (d + 1) ts .i64 .i64 a.status b.status hus
  have q3 := run_equalIn_bool' (P := P) w (d + 1) tb a.marked b.marked hub
  have e1 : ((a.stake.toNat : Int) == (b.stake.toNat : Int)) = decide (a.stake = b.stake) := by
    rw [Bool.eq_iff_iff]
    simp only [beq_iff_eq, decide_eq_true_eq]
    exact ⟨fun h => UInt64.toNat_inj.1 (by omega), fun h => by rw [h]⟩
  rw [e1] at q1
  have e2 : (a.status == b.status) = decide (a.status = b.status) := by rw [Bool.eq_iff_iff]; simp
  rw [e2] at q2
  have e3 : (a.marked == b.marked) = decide (a.marked = b.marked) := by rw [Bool.eq_iff_iff]; simp
  rw [e3] at q3
  have e4 : decide (a = b) = (decide (a.key = b.key) && (decide (a.stake = b.stake) && (decide (a.status = b.status) && decide (a.marked = b.marked)))) := by
    rw [Bool.eq_iff_iff]
    cases a; cases b
    simp
  rw [e4]
  generalize decide (a.key = b.key) = k0 at *
  generalize decide (a.stake = b.stake) = k1 at *
  generalize decide (a.status = b.status) = k2 at *
  generalize decide (a.marked = b.marked) = k3 at *
  simp only [Op.eqFields, m0, m1, m2, m3, t0, t1, t2, t3, o0, o1, o2, o3, h0, h1, h2, h3, ne_eq, not_false_eq_true, if_true, Sem.run_bind, p0, Result.andThen_ok, q0]
  cases k0
  · rfl
  simp only [Bool.not_true, Bool.false_eq_true, if_false, Bool.true_and, Sem.run_bind, p1, q1, Result.andThen_ok]
  cases k1
  · rfl
  simp only [Bool.not_true, Bool.false_eq_true, if_false, Bool.true_and, Sem.run_bind, p2, q2, Result.andThen_ok]
  cases k2
  · rfl
  simp only [Bool.not_true, Bool.false_eq_true, if_false, Bool.true_and, Sem.run_bind, p3, q3, Result.andThen_ok]
  cases k3 <;> rfl
end
theorem mbr_fields : (Try.prog.fieldsOf 183).toList.map (fun f => (f.name, f.type, f.offset)) = [("Key", 24, 0), ("Stake", 22, 32), ("Status", 181, 33), ("Marked", 4, 34)] := by kernel_rfl
theorem eq_mbr (w : World) (a b : Mbr) : (Op.equalIn 10000 183 (.agg (mbrA a)) (.agg (mbrA b))).run Try.prog w = .ok (decide (a = b)) w := by
  obtain ⟨i, hi⟩ := u8_info
  exact eqMbr_run w 9997 mbr_fields (by kernel_rfl) (by kernel_rfl) (by decide) (by decide) (by decide) (by decide) Try.underlying22 Try.underlying181 Try.underlying4 Try.isAgg24 Try.sizeOf24 Try.underlying24 hi u8_cells Try.underlying5 a b
attribute [go_sem ↓] eq_mbr
end Go.Proofs.Ythdjhbiigmcecaa

/- Contracts: registry's tests of keys: unlike, Find; who votes. -/
namespace Go.Proofs.Ythdjhbiigmcecaa
open Go.RowKit

instance : Inhabited Mbr := ⟨zeroMbr⟩
end Go.Proofs.Ythdjhbiigmcecaa

/- Contracts: slices.Contains at numbers; registry's Find, line, May. -/
namespace Go.Proofs.Ythdjhbiigmcecaa
open Go.RowKit

/-! Find -/
end Go.Proofs.Ythdjhbiigmcecaa

/- Contracts: registry's line, May; turn. -/
namespace Go.Proofs.Ythdjhbiigmcecaa
open Go.RowKit

/-- a register in a box of its own: the box, and what it leads to -/
structure RBox (W : World) (b : Nat) (g : GReg) (r : Reg) : Prop where
  row : row? W b 0 4 = some (regA g)
  reg : RegR W g r
theorem RBox.new (w : World) (g : GReg) (r : Reg) (t : TypeId) (h : RegR w g r) : RBox (w.alloc (.cells (regA g) t)) w.heap.size g r := ⟨(reg_new w g t).1, h.keep (bel_a w _)⟩
theorem RBox.keep {W W' : World} {b : Nat} {g : GReg} {r : Reg} (h : RBox W b g r) (hb : Below W.heap.size W W') : RBox W' b g r := ⟨(row?_below _ _ _ hb (lt_of_row h.row)).trans h.row, h.reg.keep hb⟩
theorem RBox.cells {W : World} {b : Nat} {g : GReg} {r : Reg} (h : RBox W b g r) : W.cell? ⟨b, 0, none⟩ = some g.members.v ∧ W.cell? ⟨b, 1, none⟩ = some g.coming.v ∧ W.cell? ⟨b, 2, none⟩ = some g.going.v ∧ W.cell? ⟨b, 3, none⟩ = some (.int .u64 (g.churn.toNat : Int)) ∧ b < W.heap.size := by
  have h0 := cell_of_row? h.row 0 (by omega)
  have h1 := cell_of_row? h.row 1 (by omega)
  have h2 := cell_of_row? h.row 2 (by omega)
  have h3 := cell_of_row? h.row 3 (by omega)
  simp only [Nat.zero_add] at h0 h1 h2 h3
  exact ⟨h0, h1, h2, h3, lt_of_row h.row⟩
end Go.Proofs.Ythdjhbiigmcecaa

/- Contracts: registry's May, turn. -/
namespace Go.Proofs.Ythdjhbiigmcecaa
open Go.RowKit

end Go.Proofs.Ythdjhbiigmcecaa

/- Contracts: registry's turn, Active, Stake, Total. -/
namespace Go.Proofs.Ythdjhbiigmcecaa
open Go.RowKit

/-! who is active, and what weighs how much -/
end Go.Proofs.Ythdjhbiigmcecaa
