/- Texts of this proof, one behind the other: RegQ, RegS, RegM, RegL, RegA, RegB, RegC, RegD, RegE, RegN. -/
import Derived.Test.YthdjhbiigmcecaaPAI
import Derived.Test.YthdjhbiigmcecaaPAA
import Derived.Test.YthdjhbiigmcecaaPAE
import Derived.Test.YthdjhbiigmcecaaShelf
import Derived.Shelf.SlicesQ.IndexFunc
import Derived.IntWalk
import Derived.Deep.CutRange
set_option linter.unusedVariables false
set_option linter.unusedSimpArgs false
/- The register behind a header may be; what stays; how much turns. Plainly. -/
namespace Go.Proofs.Ythdjhbiigmcecaa

/-! operations -/
end Go.Proofs.Ythdjhbiigmcecaa

/- What stays along a branch, and how much turns. Plainly. -/
namespace Go.Proofs.Ythdjhbiigmcecaa

/-! how much turns -/
/-! a branch -/
end Go.Proofs.Ythdjhbiigmcecaa

/- A register in memory of the call's own: lists of numbers that may be cut at their head; members that are written one by one. -/
namespace Go.Proofs.Ythdjhbiigmcecaa
open Go.RowKit

theorem row_one {w : World} {b o : Nat} {v : Value} (h : w.cell? ⟨b, o, none⟩ = some v) : row? w b o 1 = some #[v] := by
 unfold World.cell? at h
 unfold row?
 simp only at h
 cases hg : w.heap[b]? with
 | none => rw [hg] at h; simp at h
 | some x =>
  cases x with
  | cells cs t fr =>
   rw [hg] at h
   simp only at h
   have hc : cs[o]? = some v := h
   obtain ⟨hlt, he⟩ := Array.getElem?_eq_some_iff.1 hc
   simp only
   rw [if_pos (by omega)]
   congr 1
   apply Array.ext
   ·simp; omega
   ·intro j h1 h2
    simp at h2
    subst h2
    simp [he]
  | _ => rw [hg] at h; simp at h
theorem cell_set_same {w : World} {a : Addr} {v : Value} (h : (w.cell? a).isSome = true) : (w.setCell a v).cell? a = some v := by
 obtain ⟨x, hx⟩ := Option.isSome_iff_exists.1 h
 exact World.cell?_setCell_same w a v hx
theorem size_setCell (w : World) (a : Addr) (v : Value) : (w.setCell a v).heap.size = w.heap.size := by simp
/-! members written one by one -/
section
variable {α : Type} (A : α → Array Value) {k : Nat} (hk : ∀ x, (A x).size = k)
include hk
end
end Go.Proofs.Ythdjhbiigmcecaa

/- Members and registers: loads, stores and '==' for the walk. -/
namespace Go.Proofs.Ythdjhbiigmcecaa
open Go.RowKit

theorem mbrA_tail (m : Mbr) (i : Nat) : (mbrA m)[32 + i]? = #[.int .u64 (m.stake.toNat : Int), .int .i64 m.status, .bool m.marked][i]? := by
 rw [mbrA, Array.getElem?_append_right (by simp)]
 simp
@[simp] theorem mbrA_stake (m : Mbr) : (mbrA m)[32]? = some (.int .u64 (m.stake.toNat : Int)) := mbrA_tail m 0
@[simp] theorem mbrA_st (m : Mbr) : (mbrA m)[33]? = some (.int .i64 m.status) := mbrA_tail m 1
@[simp] theorem mbrA_mark (m : Mbr) : (mbrA m)[34]? = some (.bool m.marked) := mbrA_tail m 2
@[simp] theorem mbrA_stake' (m : Mbr) (h) : (mbrA m)[32]'h = .int .u64 (m.stake.toNat : Int) := by
 have := mbrA_stake m
 rwa [Array.getElem?_eq_getElem h, Option.some.injEq] at this
@[simp] theorem mbrA_st' (m : Mbr) (h) : (mbrA m)[33]'h = .int .i64 m.status := by
 have := mbrA_st m
 rwa [Array.getElem?_eq_getElem h, Option.some.injEq] at this
@[simp] theorem mbrA_mark' (m : Mbr) (h) : (mbrA m)[34]'h = .bool m.marked := by
 have := mbrA_mark m
 rwa [Array.getElem?_eq_getElem h, Option.some.injEq] at this
@[simp] theorem mbrA_key (m : Mbr) : (mbrA m).extract 0 32 = hashA m.key := by
 simp [mbrA, Array.extract_append, ext_self, ext_none]
@[simp] theorem mbrA_all (m : Mbr) : (mbrA m).extract 0 35 = mbrA m := ext_self _ _ (by simp)
theorem mbrA_one (m : Mbr) : ∀ u ∈ (mbrA m).toList, u.oneCell' = true := by
 intro u hu
 simp only [mbrA, hashA, Array.toList_append, List.mem_append, List.mem_map] at hu
 rcases hu with ⟨x, _, rfl⟩ | hu
 ·rfl
 ·simp at hu
  rcases hu with rfl | rfl | rfl <;> rfl
theorem load_mbr_s (x : Value) : Instr.loadAt 183 x = loadAgg 183 x := rfl
theorem load_mbr (w : World) (b off : Nat) (h : (row? w b off 35).isSome = true) : (loadAgg 183 (.pointer (some ⟨b, off, none⟩))).run Try.prog w = .ok (.agg ((row? w b off 35).getD #[])) w := run_loadAgg Try.isAgg183 Try.sizeOf183 w b off h
attribute [go_sem ↓] load_mbr_s
attribute [go_sem] load_mbr
theorem load_reg_s (x : Value) : Instr.loadAt 80 x = loadAgg 80 x := rfl
theorem load_reg (w : World) (b off : Nat) (h : (row? w b off 4).isSome = true) : (loadAgg 80 (.pointer (some ⟨b, off, none⟩))).run Try.prog w = .ok (.agg ((row? w b off 4).getD #[])) w := run_loadAgg Try.isAgg80 Try.sizeOf80 w b off h
attribute [go_sem ↓] load_reg_s
attribute [go_sem] load_reg
theorem onesMbr (m : Mbr) : oneCells (mbrA m) := by
 unfold oneCells
 rw [Array.all_eq_true']
 intro u hu
 exact mbrA_one m u (by simpa using hu)
theorem onesReg (g : GReg) : oneCells (regA g) := by
 unfold oneCells
 simp [regA, Value.oneCell']
attribute [go_sem] onesMbr onesReg
theorem store_mbr_s (x v : Value) : Instr.storeAt 183 x v = storeAgg 183 x v := rfl
theorem info_mbr : (Try.prog.info? 183).map (·.size) = some 35 := by kernel_rfl
theorem store_mbr (w : World) (b off : Nat) (xs : Array Value) (hn : xs.size = 35) (h1 : oneCells xs) (ht : there w b off 35) : (storeAgg 183 (.pointer (some ⟨b, off, none⟩)) (.agg xs)).run Try.prog w = .ok () (putRow w b off xs) := run_storeAgg info_mbr w b off xs hn h1 ht
attribute [go_sem ↓] store_mbr_s
attribute [go_sem] store_mbr
theorem store_reg_s (x v : Value) : Instr.storeAt 80 x v = storeAgg 80 x v := rfl
theorem info_reg : (Try.prog.info? 80).map (·.size) = some 4 := by kernel_rfl
theorem store_reg (w : World) (b off : Nat) (xs : Array Value) (hn : xs.size = 4) (h1 : oneCells xs) (ht : there w b off 4) : (storeAgg 80 (.pointer (some ⟨b, off, none⟩)) (.agg xs)).run Try.prog w = .ok () (putRow w b off xs) := run_storeAgg info_reg w b off xs hn h1 ht
attribute [go_sem ↓] store_reg_s
attribute [go_sem] store_reg
section
variable {P : Program} (w : World)
theorem fields4 {t : TypeId} {n0 n1 n2 n3 : String} {t0 t1 t2 t3 : TypeId} {o0 o1 o2 o3 : Nat} (hf : (P.fieldsOf t).toList.map (fun f => (f.name, f.type, f.offset)) = [(n0, t0, o0), (n1, t1, o1), (n2, t2, o2), (n3, t3, o3)]) :
  ∃ f0 f1 f2 f3, (P.fieldsOf t).toList = [f0, f1, f2, f3] ∧ (f0.name = n0 ∧ f1.name = n1 ∧ f2.name = n2 ∧ f3.name = n3) ∧ (f0.type = t0 ∧ f1.type = t1 ∧ f2.type = t2 ∧ f3.type = t3) ∧ (f0.offset = o0 ∧ f1.offset = o1 ∧ f2.offset = o2 ∧ f3.offset = o3) := by
 generalize (P.fieldsOf t).toList = l at hf
 match l, hf with
 | [f0, f1, f2, f3], hf =>
  simp only [List.map_cons, List.map_nil, List.cons.injEq, Prod.mk.injEq, and_true] at hf
  obtain ⟨⟨a1, a2, a3⟩, ⟨b1, b2, b3⟩, ⟨c1, c2, c3⟩, ⟨d1, d2, d3⟩⟩ := hf
  exact ⟨f0, f1, f2, f3, rfl, ⟨a1, b1, c1, d1⟩, ⟨a2, b2, c2, d2⟩, ⟨a3, b3, c3, d3⟩⟩
theorem eqMbr_run (d : Nat) {t th tu ts tb e : TypeId} {i : TypeInfo} {n0 n1 n2 n3 : String} (hf : (P.fieldsOf t).toList.map (fun f => (f.name, f.type, f.offset)) = [(n0, th, 0), (n1, tu, 32), (n2, ts, 33), (n3, tb, 34)]) (hu : P.underlying t = some (.struct (P.fieldsOf t))) (hp : P.stoodInHeld t = false)
  (h0 : n0 ≠ "_") (h1 : n1 ≠ "_") (h2 : n2 ≠ "_") (h3 : n3 ≠ "_") (hu0 : P.underlying tu = some (.int .u64)) (hus : P.underlying ts = some (.int .i64)) (hub : P.underlying tb = some .bool)
  (hA : ∀ w, (isAgg th).run P w = .ok true w) (hS : ∀ w, (Go.sizeOf th).run P w = .ok 32 w) (huh : P.underlying th = some (.array 32 e)) (hi : P.info? e = some i) (hc : P.cellsOf e = 1) (he : P.underlying e = some (.int .u8)) (a b : Mbr) :
  (Op.equalIn (d + 3) t (.agg (mbrA a)) (.agg (mbrA b))).run P w = .ok (decide (a = b)) w := by
 obtain ⟨f0, f1, f2, f3, hf, ⟨m0, m1, m2, m3⟩, ⟨t0, t1, t2, t3⟩, ⟨o0, o1, o2, o3⟩⟩ := fields4 hf
 rw [run_equalIn_struct w (d + 2) t _ _ hu hp, hf]
 have a1 : ∀ w, (isAgg tu).run P w = .ok false w := fun _ => by simp [isAgg, run_underlying hu0]
 have a2 : ∀ w, (isAgg ts).run P w = .ok false w := fun _ => by simp [isAgg, run_underlying hus]
 have a3 : ∀ w, (isAgg tb).run P w = .ok false w := fun _ => by simp [isAgg, run_underlying hub]
 have p0 := fun p : Mbr => part_agg (P := P) w hA hS (mbrA p) (off := 0) (by simp)
 have p1 := fun p : Mbr => part_one (P := P) w a1 (mbrA p) 32 _ (mbrA_stake p)
 have p2 := fun p : Mbr => part_one (P := P) w a2 (mbrA p) 33 _ (mbrA_st p)
 have p3 := fun p : Mbr => part_one (P := P) w a3 (mbrA p) 34 _ (mbrA_mark p)
 simp only [Nat.zero_add, mbrA_key] at p0
 have q0 := eqHash_run (P := P) w d huh hi hc he a.key b.key
 have q1 := run_equalIn_int (P := P) w (d + 1) tu .u64 .u64 (a.stake.toNat : Int) (b.stake.toNat : Int) hu0
 have q2 := run_equalIn_int (P := P) w (d + 1) ts .i64 .i64 a.status b.status hus
 have q3 := run_equalIn_bool' (P := P) w (d + 1) tb a.marked b.marked hub
 have e1 : ((a.stake.toNat : Int) == (b.stake.toNat : Int)) = decide (a.stake = b.stake) := by
  rw [Bool.eq_iff_iff]
  simp only [beq_iff_eq, decide_eq_true_eq]
  exact ⟨fun h => UInt64.toNat_inj.1 (by omega), fun h => by rw [h]⟩
 rw [e1] at q1
 have e2 : (a.status == b.status) = decide (a.status = b.status) := by rw [Bool.eq_iff_iff]; simp
 rw [e2] at q2
 have e3 : (a.marked == b.marked) = decide (a.marked = b.marked) := by rw [Bool.eq_iff_iff]; simp
 rw [e3] at q3
 have e4 : decide (a = b) = (decide (a.key = b.key) && (decide (a.stake = b.stake) && (decide (a.status = b.status) && decide (a.marked = b.marked)))) := by
  rw [Bool.eq_iff_iff]
  cases a; cases b
  simp
 rw [e4]
 generalize decide (a.key = b.key) = k0 at *
 generalize decide (a.stake = b.stake) = k1 at *
 generalize decide (a.status = b.status) = k2 at *
 generalize decide (a.marked = b.marked) = k3 at *
 simp only [Op.eqFields, m0, m1, m2, m3, t0, t1, t2, t3, o0, o1, o2, o3, h0, h1, h2, h3, ne_eq, not_false_eq_true, if_true, Sem.run_bind, p0, Result.andThen_ok, q0]
 cases k0
 ·rfl
 simp only [Bool.not_true, Bool.false_eq_true, if_false, Bool.true_and, Sem.run_bind, p1, q1, Result.andThen_ok]
 cases k1
 ·rfl
 simp only [Bool.not_true, Bool.false_eq_true, if_false, Bool.true_and, Sem.run_bind, p2, q2, Result.andThen_ok]
 cases k2
 ·rfl
 simp only [Bool.not_true, Bool.false_eq_true, if_false, Bool.true_and, Sem.run_bind, p3, q3, Result.andThen_ok]
 cases k3 <;> rfl
end
theorem mbr_fields : (Try.prog.fieldsOf 183).toList.map (fun f => (f.name, f.type, f.offset)) = [("Key", 24, 0), ("Stake", 22, 32), ("Status", 181, 33), ("Marked", 4, 34)] := by kernel_rfl
theorem eq_mbr (w : World) (a b : Mbr) : (Op.equalIn 10000 183 (.agg (mbrA a)) (.agg (mbrA b))).run Try.prog w = .ok (decide (a = b)) w := by
 obtain ⟨i, hi⟩ := u8_info
 exact eqMbr_run w 9997 mbr_fields (by kernel_rfl) (by kernel_rfl) (by decide) (by decide) (by decide) (by decide) Try.underlying22 Try.underlying181 Try.underlying4 Try.isAgg24 Try.sizeOf24 Try.underlying24 hi u8_cells Try.underlying5 a b
attribute [go_sem ↓] eq_mbr
end Go.Proofs.Ythdjhbiigmcecaa

/- Contracts: registry's tests of keys: unlike, Find; who votes. -/
namespace Go.Proofs.Ythdjhbiigmcecaa
open Go.RowKit

instance : Inhabited Mbr := ⟨zeroMbr⟩
end Go.Proofs.Ythdjhbiigmcecaa

/- Contracts: slices.Contains at numbers; registry's Find, line, May. -/
namespace Go.Proofs.Ythdjhbiigmcecaa
open Go.RowKit

/-! Find -/
end Go.Proofs.Ythdjhbiigmcecaa

/- Contracts: registry's line, May; turn. -/
namespace Go.Proofs.Ythdjhbiigmcecaa
open Go.RowKit

end Go.Proofs.Ythdjhbiigmcecaa

/- Contracts: registry's May, turn. -/
namespace Go.Proofs.Ythdjhbiigmcecaa
open Go.RowKit

end Go.Proofs.Ythdjhbiigmcecaa

/- Contracts: registry's turn, Active, Stake, Total. -/
namespace Go.Proofs.Ythdjhbiigmcecaa
open Go.RowKit

/-! who is active, and what weighs how much -/
end Go.Proofs.Ythdjhbiigmcecaa

/- A register that is being made: four cells, its members and its two lines in blocks of their own. -/
namespace Go.Proofs.Ythdjhbiigmcecaa
open Go.RowKit

section
variable {W W' : World} {B X gm : Nat} {s0 s1 s2 : Sl} {g1 g2 : Option Nat} {r : Reg}
end

def bsI (n : Nat) (parts : Array (Nat × Value)) : Sem Value := Instr.buildSlice 58 n parts
theorem fold_bsI (n : Nat) (parts : Array (Nat × Value)) : Instr.buildSlice 58 n parts = bsI n parts := rfl
def appI (args : Array Value) : Sem Value := Builtin.append_ #[58, 58] 58 args
theorem fold_appI (args : Array Value) : Builtin.append_ #[58, 58] 58 args = appI args := rfl
section
variable {W : World} {B X gm : Nat} {s0 s1 s2 : Sl} {g1 g2 : Option Nat} {r : Reg}
end
end Go.Proofs.Ythdjhbiigmcecaa
