/- Texts of this proof, one behind the other: Rws, Reg, RegP, RegQ, RegS, RegM, RegL, RegA, RegB, RegC. -/
import Derived.Test.YthdjhbiigmcecaaGreatCAB
import Derived.Test.YthdjhbiigmcecaaGreatCAC
import Derived.Test.YthdjhbiigmcecaaGreatCAG
import Derived.Test.YthdjhbiigmcecaaGreatShelf
import Derived.Shelf.SlicesQ.IndexFunc
import Derived.IntWalk
import Derived.Deep.CutRange
set_option linter.unusedVariables false
set_option linter.unusedSimpArgs false
/- Rows of structs of any kind: their cells in one list, reading them, appending one. Over any program. -/
namespace Go.Proofs.YthdjhbiigmcecaaGreat
open Go.RowKit

/-- a slice of one struct, made on the spot -/
theorem run_buildSlice_one {P : Program} (w : World) {t e : TypeId} {i : TypeInfo} {z : Value} {k : Nat} (ht : P.underlying t = some (.slice e)) (hi : P.info? e = some i) (hz : i.zero = some z) (hs : i.size = k) (hzs : z.cells.size = k) (h0 : 0 < k) (hle : k ≤ 16777216)
  (xs : Array Value) (hxs : xs.size = k) : (Instr.buildSlice t 1 #[(0, .agg xs)]).run P w = .ok (.slice (some ⟨w.heap.size, 0, none⟩) 1 1) (w.alloc (.cells xs e)) := by
 have hfold : ∀ Z : Array Value, Z.size = k → xs.zipIdx.foldl (fun cs (x : Value × Nat) => cs.setIfInBounds (0 + x.2) x.1) Z = xs := fun Z hZ => by
  rw [fold_splice Z xs 0 xs.zipIdx.size (by simp) (by simp; omega), splice_all' _ _ (by omega)]
 have hsz : (Go.sizeOf e).run P w = .ok k w := by simp [Go.sizeOf, typeInfo, hi, hs]
 have hzv : (zeroValue e).run P w = .ok z w := by simp [zeroValue, typeInfo, hi, hz]
 simp only [Instr.buildSlice, Sem.run_bind, run_underlying ht, Result.andThen_ok, hsz, Nat.one_mul]
 rw [if_neg (by omega), if_neg (by omega)]
 simp only [Sem.run_bind, hzv, Result.andThen_ok, Sem.run_pure]
 have hf : Instr.fill (fun i => some (i * k, k)) ((Array.range k).map (z.cells[· % z.cells.size]!)) (#[(0, Value.agg xs)] : Array (Nat × Value)).toList = some xs := by
  simp only [Instr.fill, Value.cells, Nat.zero_mul]
  rw [if_neg (by simp [hxs])]
  refine congrArg some (hfold _ ?_)
  simp
 rw [hf]
 simp [newRow]
section
variable {α : Type} (A : α → Array Value)
/-- the cells of a row of structs -/
def flatC (xs : List α) : List Value := (xs.map fun x => (A x).toList).flatten
theorem flatC_cons (x : α) (xs : List α) : flatC A (x :: xs) = (A x).toList ++ flatC A xs := by simp [flatC]
theorem flatC_append (xs ys : List α) : flatC A (xs ++ ys) = flatC A xs ++ flatC A ys := by simp [flatC]
theorem flatC_one (x : α) : flatC A [x] = (A x).toList := by simp [flatC]
variable {k : Nat} (hk : ∀ x, (A x).size = k)
include hk
theorem flatC_length (xs : List α) : (flatC A xs).length = xs.length * k := by
 induction xs with
 | nil => simp [flatC]
 | cons x xs ih =>
  rw [flatC_cons, List.length_append, ih, List.length_cons, Nat.add_mul, Nat.one_mul, Array.length_toList, hk]
  omega
theorem flatC_get : ∀ (xs : List α) (i r : Nat) (hi : i < xs.length), r < k → (flatC A xs)[i * k + r]? = (A xs[i])[r]?
 | [], _, _, hi, _ => by simp at hi
 | x :: xs, 0, r, hi, hr => by
  rw [flatC_cons, Nat.zero_mul, Nat.zero_add, List.getElem?_append_left (by rw [Array.length_toList, hk]; exact hr)]
  simp
 | x :: xs, i + 1, r, hi, hr => by
  have ih := flatC_get xs i r (by simpa using hi) hr
  rw [flatC_cons, List.getElem?_append_right (by rw [Array.length_toList, hk, Nat.add_mul]; omega), Array.length_toList, hk]
  rw [show (i + 1) * k + r - k = i * k + r by rw [Nat.add_mul]; omega, ih]
  rfl
/-- a row of the call's own, read -/
theorem own_row (hk0 : 0 < k) {w : World} {B n c g : Nat} {xs : List α} (h : OwnC w B k (.slice (some ⟨g, 0, none⟩) n c) xs.length (flatC A xs)) (i : Nat) (hi : i < xs.length) : row? w g (i * k) k = some (A xs[i]) := by
 rcases h.2 with ⟨hv, hn⟩ | ⟨g', cap, hv, _, hlt, hn, _, hc, _, hx⟩
 ·cases hv
 ·injection hv with h1 h2 h3
  injection h1 with h1
  injection h1 with h1
  subst h1
  have hle : i * k + k ≤ xs.length * k := by
   have := Nat.mul_le_mul_right k (show i + 1 ≤ xs.length by omega)
   rw [Nat.add_mul, Nat.one_mul] at this
   exact this
  have hcell : ∀ j, j < k → w.cell? ⟨g, i * k + j, none⟩ = (A xs[i])[j]? := fun j hj => by
   have e := flatC_get A hk xs i j hi hj
   have hj2 : j < (A xs[i]).size := by rw [hk]; exact hj
   rw [Array.getElem?_eq_getElem hj2] at e ⊢
   exact hx _ _ e
  have h0 := hcell 0 hk0
  rw [Nat.add_zero, Array.getElem?_eq_getElem (by rw [hk]; exact hk0)] at h0
  unfold World.cell? at h0
  unfold row?
  cases hg : w.heap[g]? with
  | none => rw [hg] at h0; simp at h0
  | some o =>
   cases o with
   | cells cs t fr =>
    have hcs : ∀ j, j < k → cs[i * k + j]? = (A xs[i])[j]? := fun j hj => by
     rw [← cell_of_row w g (i * k + j) cs t fr hg]
     exact hcell j hj
    have hlast := hcs (k - 1) (by omega)
    have hkl : k - 1 < (A xs[i]).size := by rw [hk]; omega
    rw [Array.getElem?_eq_getElem hkl] at hlast
    have hsz := (Array.getElem?_eq_some_iff.1 hlast).1
    simp only
    rw [if_pos (by omega)]
    congr 1
    apply Array.ext
    ·simp only [Array.size_extract, hk]
     omega
    ·intro j h1 h2
     have hj : j < k := by rw [hk] at h2; exact h2
     have := hcs j hj
     rw [Array.getElem?_eq_getElem h2] at this
     have h3 := Array.getElem?_eq_some_iff.1 this
     simp only [Array.getElem_extract]
     exact h3.2
   | _ => rw [hg] at h0; simp at h0
theorem rows_of_own (hk0 : 0 < k) {w : World} {B : Nat} {s : Sl} {xs : List α} (h : OwnC w B k s.v xs.length (flatC A xs)) : SlR k (fun cs x => cs = A x) w s xs := by
 obtain ⟨sa, sn, sc⟩ := s
 rcases h.2 with ⟨hv, hn⟩ | ⟨g, cap, hv, _, hlt, hn, _, hc, _, hx⟩
 ·injection hv with h1 h2 h3
  subst h2
  have : xs = [] := List.eq_nil_of_length_eq_zero hn
  subst this
  exact ⟨rfl, Nat.zero_le _, fun e => absurd rfl e⟩
 ·injection hv with h1 h2 h3
  subst h1 h2 h3
  refine ⟨rfl, hn, fun _ => ⟨g, 0, rfl, fun i hi => ⟨_, ?_, rfl⟩⟩⟩
  rw [Nat.zero_add]
  exact own_row A hk hk0 h i hi
omit hk in
theorem flatC_onecell (h1 : ∀ x, ∀ u ∈ (A x).toList, u.oneCell' = true) (xs : List α) : ∀ u ∈ flatC A xs, u.oneCell' = true := by
 intro u hu
 simp only [flatC, List.mem_flatten, List.mem_map] at hu
 obtain ⟨l, ⟨x, _, rfl⟩, hu⟩ := hu
 exact h1 x u hu
/-- one element as a source of append -/
theorem src_one {P : Program} {t e : TypeId} (ht : P.underlying t = some (.slice e)) (h1 : ∀ x, ∀ u ∈ (A x).toList, u.oneCell' = true) {w : World} {b c : Nat} {x : α} {e' : TypeId} {fr : Nat × Nat} (hb : w.heap[b]? = some (.cells (A x) e' fr)) :
  Src P k t (.slice (some ⟨b, 0, none⟩) 1 c) 1 (flatC A [x]) w := by
 refine Src.ofSlice w ht ⟨b, 0, none⟩ 1 c (flatC A [x]) (by rw [flatC_length A hk]; rfl) (fun j u hu => ?_) (flatC_onecell A h1 _)
 rw [flatC_one] at hu
 have hadd : (⟨b, 0, none⟩ : Addr).add j = ⟨b, j, none⟩ := by unfold Addr.add; split <;> simp_all
 rw [hadd, cell_of_row w b j _ _ _ hb]
 simpa using hu
theorem run_append_one {P : Program} (w : World) (t : TypeId)
  (h1 : ∀ x, ∀ u ∈ (A x).toList, u.oneCell' = true)
  (base : Nat) (e : TypeId) (i : TypeInfo) (z : Value) (bytes : Nat) (ht : P.underlying t = some (.slice e)) (hi : P.info? e = some i) (hz : i.zero = some z)
  (hsize : i.size = k) (hby : i.bytes = bytes) (hzs : z.cells.size = k)
  (v : Value) (xs : List α) (hown : OwnC w base k v xs.length (flatC A xs)) (b c : Nat) (x : α) {e' : TypeId} {fr : Nat × Nat} (hb : w.heap[b]? = some (.cells (A x) e' fr))
  (hlen : xs.length ≤ 1000000) (hbb : bytes ≤ 1000000) (hbase : base ≤ w.heap.size) :
  ∃ (s' : Sl) (w' : World), (Builtin.append_ #[t, t] t #[v, .slice (some ⟨b, 0, none⟩) 1 c]).run P w = .ok s'.v w' ∧ OwnC w' base k s'.v (xs ++ [x]).length (flatC A (xs ++ [x])) ∧ w.grownBy w' v.ownBlock ∧ (s'.v.ownBlock = v.ownBlock ∨ s'.v.ownBlock = some w.heap.size) := by
 have hm := Nat.mul_le_mul (show xs.length + 1 ≤ 1000001 by omega) hbb
 obtain ⟨v', w', h2, h3, h4, h5⟩ := run_append_ownC (P := P) w base t t t e i z k bytes ht hi hz hsize hby hzs v xs.length (flatC A xs) hown (.slice (some ⟨b, 0, none⟩) 1 c) 1 (flatC A [x]) (src_one A hk ht h1 hb) (by simp only [maxLen]; omega) (by omega) hbase
 obtain ⟨s', rfl⟩ := h3.slice
 exact ⟨s', w', h2, by rw [flatC_append, List.length_append]; exact h3, h4, h5⟩
end
end Go.Proofs.YthdjhbiigmcecaaGreat

/- Registers and their members: cells, and what they hold. -/
namespace Go.Proofs.YthdjhbiigmcecaaGreat
open Go.RowKit

structure Mbr where
 key : Hash
 stake : UInt64
 status : Int
 marked : Bool
 deriving DecidableEq
structure Reg where
 members : List Mbr
 coming : List Int
 going : List Int
 churn : UInt64
 deriving DecidableEq
structure GReg where
 members : Sl
 coming : Sl
 going : Sl
 churn : UInt64
def mbrA (m : Mbr) : Array Value := hashA m.key ++ #[.int .u64 (m.stake.toNat : Int), .int .i64 m.status, .bool m.marked]
@[simp] theorem mbrA_size (m : Mbr) : (mbrA m).size = 35 := by simp [mbrA]
def regA (g : GReg) : Array Value := #[g.members.v, g.coming.v, g.going.v, .int .u64 (g.churn.toNat : Int)]
end Go.Proofs.YthdjhbiigmcecaaGreat

/- Registers, plainly: which may be, and the one behind a header. -/
namespace Go.Proofs.YthdjhbiigmcecaaGreat

/-! a test of every place -/
/-! members -/
def zeroMbr : Mbr := ⟨zeroHash, 0, 0, false⟩
theorem lt_of_get {α : Type} {l : List α} {i : Nat} {x : α} (h : l[i]? = some x) : i < l.length := by
 rcases Nat.lt_or_ge i l.length with h1 | h1
 ·exact h1
 ·rw [List.getElem?_eq_none h1] at h; cases h
/-! as the document asks -/
/-! the register behind a header -/
end Go.Proofs.YthdjhbiigmcecaaGreat

/- The register behind a header may be; what stays; how much turns. Plainly. -/
namespace Go.Proofs.YthdjhbiigmcecaaGreat

/-! operations -/
end Go.Proofs.YthdjhbiigmcecaaGreat

/- What stays along a branch, and how much turns. Plainly. -/
namespace Go.Proofs.YthdjhbiigmcecaaGreat

/-! how much turns -/
/-! a branch -/
end Go.Proofs.YthdjhbiigmcecaaGreat

/- A register in memory of the call's own: lists of numbers that may be cut at their head; members that are written one by one. -/
namespace Go.Proofs.YthdjhbiigmcecaaGreat
open Go.RowKit

theorem cell_set_same {w : World} {a : Addr} {v : Value} (h : (w.cell? a).isSome = true) : (w.setCell a v).cell? a = some v := by
 obtain ⟨x, hx⟩ := Option.isSome_iff_exists.1 h
 exact World.cell?_setCell_same w a v hx
theorem size_setCell (w : World) (a : Addr) (v : Value) : (w.setCell a v).heap.size = w.heap.size := by simp
/-! members written one by one -/
section
variable {α : Type} (A : α → Array Value) {k : Nat} (hk : ∀ x, (A x).size = k)
include hk
end
end Go.Proofs.YthdjhbiigmcecaaGreat

/- Members and registers: loads, stores and '==' for the walk. -/
namespace Go.Proofs.YthdjhbiigmcecaaGreat
open Go.RowKit

theorem mbrA_tail (m : Mbr) (i : Nat) : (mbrA m)[32 + i]? = #[.int .u64 (m.stake.toNat : Int), .int .i64 m.status, .bool m.marked][i]? := by
 rw [mbrA, Array.getElem?_append_right (by simp)]
 simp
@[simp] theorem mbrA_stake (m : Mbr) : (mbrA m)[32]? = some (.int .u64 (m.stake.toNat : Int)) := mbrA_tail m 0
@[simp] theorem mbrA_st (m : Mbr) : (mbrA m)[33]? = some (.int .i64 m.status) := mbrA_tail m 1
@[simp] theorem mbrA_mark (m : Mbr) : (mbrA m)[34]? = some (.bool m.marked) := mbrA_tail m 2
@[simp] theorem mbrA_stake' (m : Mbr) (h) : (mbrA m)[32]'h = .int .u64 (m.stake.toNat : Int) := by
 have := mbrA_stake m
 rwa [Array.getElem?_eq_getElem h, Option.some.injEq] at this
@[simp] theorem mbrA_st' (m : Mbr) (h) : (mbrA m)[33]'h = .int .i64 m.status := by
 have := mbrA_st m
 rwa [Array.getElem?_eq_getElem h, Option.some.injEq] at this
@[simp] theorem mbrA_mark' (m : Mbr) (h) : (mbrA m)[34]'h = .bool m.marked := by
 have := mbrA_mark m
 rwa [Array.getElem?_eq_getElem h, Option.some.injEq] at this
@[simp] theorem mbrA_key (m : Mbr) : (mbrA m).extract 0 32 = hashA m.key := by
 simp [mbrA, Array.extract_append, ext_self, ext_none]
@[simp] theorem mbrA_all (m : Mbr) : (mbrA m).extract 0 35 = mbrA m := ext_self _ _ (by simp)
theorem mbrA_one (m : Mbr) : ∀ u ∈ (mbrA m).toList, u.oneCell' = true := by
 intro u hu
 simp only [mbrA, hashA, Array.toList_append, List.mem_append, List.mem_map] at hu
 rcases hu with ⟨x, _, rfl⟩ | hu
 ·rfl
 ·simp at hu
  rcases hu with rfl | rfl | rfl <;> rfl
theorem onesMbr (m : Mbr) : oneCells (mbrA m) := by
 unfold oneCells
 rw [Array.all_eq_true']
 intro u hu
 exact mbrA_one m u (by simpa using hu)
theorem onesReg (g : GReg) : oneCells (regA g) := by
 unfold oneCells
 simp [regA, Value.oneCell']
attribute [go_sem] onesMbr onesReg
section
variable {P : Program} (w : World)
end
end Go.Proofs.YthdjhbiigmcecaaGreat

/- Contracts: registry's tests of keys: unlike, Find; who votes. -/
namespace Go.Proofs.YthdjhbiigmcecaaGreat
open Go.RowKit

instance : Inhabited Mbr := ⟨zeroMbr⟩
end Go.Proofs.YthdjhbiigmcecaaGreat

/- Contracts: slices.Contains at numbers; registry's Find, line, May. -/
namespace Go.Proofs.YthdjhbiigmcecaaGreat
open Go.RowKit

/-! Find -/
end Go.Proofs.YthdjhbiigmcecaaGreat

/- Contracts: registry's line, May; turn. -/
namespace Go.Proofs.YthdjhbiigmcecaaGreat
open Go.RowKit

end Go.Proofs.YthdjhbiigmcecaaGreat
