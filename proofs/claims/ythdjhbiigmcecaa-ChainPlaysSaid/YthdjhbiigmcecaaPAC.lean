/- Texts of this proof, one behind the other: ShaB. -/
import Derived.Test.YthdjhbiigmcecaaPAA
import Derived.Test.YthdjhbiigmcecaaPAB
import Derived.Laws.CopyOwn
import Derived.Deep.RegionHeld3
import Derived.Deep.RegionLaw
import Derived.StillTailTactics
import Derived.Deep.CutRange
set_option linter.unusedVariables false
set_option linter.unusedSimpArgs false
/- (*sha.stream).block: what it does to a stream. -/
namespace Go.Proofs.Ythdjhbiigmcecaa
open Go.RowKit

def strLL (l : List UInt32) (m : List UInt8) (hv al : Nat) : List Value := l.map u32V ++ shaK.map u32V ++ m.map byteV ++ [.int .i64 (hv : Int), .int .u64 (al : Int)]
def strL (s : S8) (m : List UInt8) (hv al : Nat) : List Value := strLL s.list m hv al
/-- a stream: the words, the constants, what waits, how many bytes wait, and how many came in all -/
def StR (w : World) (r : Nat) (s : S8) (m : List UInt8) (hv al : Nat) : Prop :=
 m.length = 64 ∧ w.heap[r]? = some (.cells (strL s m hv al).toArray 237 (0, 0))
theorem strL_length (s : S8) (m : List UInt8) (hv al : Nat) (h : m.length = 64) : (strL s m hv al).length = 138 := by
 simp [strL, strLL, S8.list, shaK_length, h]
theorem S8.list_length (s : S8) : s.list.length = 8 := rfl
theorem strL_eight (s : S8) (m : List UInt8) (hv al i : Nat) (h : i < 8) : (strL s m hv al)[i]? = some (u32V (s.list[i]'h)) := by
 unfold strL strLL
 rw [List.append_assoc, List.append_assoc, List.getElem?_append_left (by simp [S8.list]; omega), List.getElem?_map, List.getElem?_eq_getElem (show i < s.list.length from h)]
 rfl
theorem kOf_eq (i : Nat) (h : i < 64) : kOf i = shaK[i]'(by rw [shaK_length]; exact h) := by
 unfold kOf
 rw [List.getD_eq_getElem?_getD, List.getElem?_eq_getElem (by rw [shaK_length]; exact h)]
 rfl
theorem strL_k (s : S8) (m : List UInt8) (hv al i : Nat) (h : i < 64) : (strL s m hv al)[8 + i]? = some (u32V (kOf i)) := by
 unfold strL strLL
 rw [List.append_assoc, List.append_assoc, List.getElem?_append_right (by simp [S8.list]), List.getElem?_append_left (by simp [S8.list, shaK_length]; omega), List.getElem?_map, kOf_eq i h]
 simp only [List.length_map, S8.list_length, Nat.add_sub_cancel_left]
 rw [List.getElem?_eq_getElem (by rw [shaK_length]; exact h)]
 rfl
theorem strL_wait (s : S8) (m : List UInt8) (hv al i : Nat) (hm : m.length = 64) (h : i < 64) : (strL s m hv al)[72 + i]? = some (byteV (m[i]'(by omega))) := by
 unfold strL strLL
 rw [List.append_assoc, List.getElem?_append_right (by simp [S8.list, shaK_length]), List.getElem?_append_left (by simp [S8.list, shaK_length]; omega), List.getElem?_map]
 simp only [List.length_append, List.length_map, S8.list_length, shaK_length, Nat.add_sub_cancel_left, show 72 + i - (8 + 64) = i by omega]
 rw [List.getElem?_eq_getElem (by omega)]
 rfl
theorem strL_have (s : S8) (m : List UInt8) (hv al : Nat) (hm : m.length = 64) : (strL s m hv al)[136]? = some (.int .i64 (hv : Int)) := by
 unfold strL strLL
 rw [List.getElem?_append_right (by simp [S8.list, shaK_length, hm])]
 simp [S8.list, shaK_length, hm]
theorem strL_all (s : S8) (m : List UInt8) (hv al : Nat) (hm : m.length = 64) : (strL s m hv al)[137]? = some (.int .u64 (al : Int)) := by
 unfold strL strLL
 rw [List.getElem?_append_right (by simp [S8.list, shaK_length, hm])]
 simp [S8.list, shaK_length, hm]
section
variable {w : World} {r : Nat} {s : S8} {m : List UInt8} {hv al : Nat}
theorem StR.lt (h : StR w r s m hv al) : r < w.heap.size := (Array.getElem?_eq_some_iff.1 h.2).1
theorem StR.cell (h : StR w r s m hv al) (i : Nat) : w.cell? ⟨r, i, none⟩ = (strL s m hv al)[i]? := by
 rw [cell_of_row w r i _ _ _ h.2]
 simp
theorem StR.frozen (h : StR w r s m hv al) (i : Nat) : w.frozen? ⟨r, i, none⟩ = false := frozen_of_row w r i _ _ h.2
theorem StR.eight (h : StR w r s m hv al) (i : Nat) (hi : i < 8) : w.cell? ⟨r, i, none⟩ = some (.int .u32 (u32I (s.list[i]'hi))) := (h.cell i).trans (strL_eight s m hv al i hi)
theorem StR.k (h : StR w r s m hv al) (i : Nat) (hi : i < 64) : w.cell? ⟨r, 8 + i, none⟩ = some (.int .u32 (u32I (kOf i))) := (h.cell _).trans (strL_k s m hv al i hi)
theorem StR.wait (h : StR w r s m hv al) (i : Nat) (hi : i < 64) : w.cell? ⟨r, 72 + i, none⟩ = some (.int .u8 ((m[i]'(by rw [h.1]; exact hi)).toNat : Int)) := (h.cell _).trans (strL_wait s m hv al i h.1 hi)
theorem StR.have_ (h : StR w r s m hv al) : w.cell? ⟨r, 136, none⟩ = some (.int .i64 (hv : Int)) := (h.cell _).trans (strL_have s m hv al h.1)
theorem StR.all (h : StR w r s m hv al) : w.cell? ⟨r, 137, none⟩ = some (.int .u64 (al : Int)) := (h.cell _).trans (strL_all s m hv al h.1)
theorem StR.keep {w' : World} (h : StR w r s m hv al) (hb : Below w.heap.size w w') : StR w' r s m hv al := ⟨h.1, (hb.block r h.lt).trans h.2⟩
end

/-- eight words as an array's cells -/
def s8A (s : S8) : Array Value := #[.int .u32 (u32I s.a), .int .u32 (u32I s.b), .int .u32 (u32I s.c), .int .u32 (u32I s.d), .int .u32 (u32I s.e), .int .u32 (u32I s.f), .int .u32 (u32I s.g), .int .u32 (u32I s.h)]
theorem s8A_size (s : S8) : (s8A s).size = 8 := rfl
theorem s8A_one (s : S8) : oneCells (s8A s) := by simp [oneCells, s8A, Value.oneCell']
theorem load_a8_s (x : Value) : Instr.loadAt 157 x = loadAgg 157 x := rfl
theorem load_a8 (w : World) (b off : Nat) (h : (row? w b off 8).isSome = true) : (loadAgg 157 (.pointer (some ⟨b, off, none⟩))).run Try.prog w = .ok (.agg ((row? w b off 8).getD #[])) w := run_loadAgg Try.isAgg157 Try.sizeOf157 w b off h
theorem store_a8_s (x v : Value) : Instr.storeAt 157 x v = storeAgg 157 x v := rfl
theorem info_a8 : (Try.prog.info? 157).map (·.size) = some 8 := by kernel_rfl
theorem store_a8 (w : World) (b off : Nat) (xs : Array Value) (hn : xs.size = 8) (h1 : oneCells xs) (ht : there w b off 8) : (storeAgg 157 (.pointer (some ⟨b, off, none⟩)) (.agg xs)).run Try.prog w = .ok () (putRow w b off xs) := run_storeAgg info_a8 w b off xs hn h1 ht
/-- the i-th word -/
def S8.at (s : S8) (i : Nat) : UInt32 := s.list.getD i 0
theorem S8.at_eq (s : S8) (i : Nat) (h : i < 8) : s.list[i]'h = s.at i := by
 unfold S8.at
 rw [List.getD_eq_getElem?_getD, List.getElem?_eq_getElem (show i < s.list.length from h)]
 rfl
theorem s8A_at (s : S8) (k : Nat) (h : k < 8) : (s8A s)[k]? = some (.int .u32 (u32I (s.at k))) := by
 rcases (show k = 0 ∨ k = 1 ∨ k = 2 ∨ k = 3 ∨ k = 4 ∨ k = 5 ∨ k = 6 ∨ k = 7 by omega) with rfl | rfl | rfl | rfl | rfl | rfl | rfl | rfl <;> rfl
theorem wd_eq (m : List UInt8) (k : Nat) (h : 4 * k + 3 < m.length) :
  wd m k = UInt32.ofNat ((((m[4 * k]'(by omega)).toNat * 256 + (m[4 * k + 1]'(by omega)).toNat) * 256 + (m[4 * k + 2]'(by omega)).toNat) * 256 + (m[4 * k + 3]'(by omega)).toNat) := by
 have e : (m.drop (4 * k)).take 4 = [m[4 * k]'(by omega), m[4 * k + 1]'(by omega), m[4 * k + 2]'(by omega), m[4 * k + 3]'(by omega)] := by
  rw [List.drop_eq_getElem_cons (show 4 * k < m.length by omega), List.drop_eq_getElem_cons (show 4 * k + 1 < m.length by omega), List.drop_eq_getElem_cons (show 4 * k + 1 + 1 < m.length by omega), List.drop_eq_getElem_cons (show 4 * k + 1 + 1 + 1 < m.length by omega)]
  rfl
 unfold wd
 rw [e]
 simp [numOf]

theorem u32I_ofNat (n : Nat) (h : n < 4294967296) : u32I (UInt32.ofNat n) = (n : Int) := by
 unfold u32I
 rw [UInt32.toNat_ofNat', Nat.mod_eq_of_lt (by omega)]
theorem word_or (b0 b1 b2 b3 : UInt8) :
  bits BinOp.or IntKind.u32 (bits BinOp.or IntKind.u32 (bits BinOp.or IntKind.u32 (IntKind.u32.wrap (IntKind.u32.wrap (b0.toNat : Int) * 16777216)) (IntKind.u32.wrap (IntKind.u32.wrap (b1.toNat : Int) * 65536)))
   (IntKind.u32.wrap (IntKind.u32.wrap (b2.toNat : Int) * 256))) (IntKind.u32.wrap (b3.toNat : Int)) = u32I (UInt32.ofNat (((b0.toNat * 256 + b1.toNat) * 256 + b2.toNat) * 256 + b3.toNat)) := by
 have q0 := b0.toNat_lt
 have q1 := b1.toNat_lt
 have q2 := b2.toNat_lt
 have q3 := b3.toNat_lt
 have e0 : IntKind.u32.wrap (IntKind.u32.wrap (b0.toNat : Int) * 16777216) = ((b0.toNat * 16777216 : Nat) : Int) := by simp only [IntKind.wrap_u32']; omega
 have e1 : IntKind.u32.wrap (IntKind.u32.wrap (b1.toNat : Int) * 65536) = ((b1.toNat * 65536 : Nat) : Int) := by simp only [IntKind.wrap_u32']; omega
 have e2 : IntKind.u32.wrap (IntKind.u32.wrap (b2.toNat : Int) * 256) = ((b2.toNat * 256 : Nat) : Int) := by simp only [IntKind.wrap_u32']; omega
 have e3 : IntKind.u32.wrap (b3.toNat : Int) = (b3.toNat : Int) := by simp only [IntKind.wrap_u32']; omega
 rw [e0, e1, e2, e3, u32_or_nat _ _ (by omega) (by omega), nat_join 24 _ _ (by omega) (by omega), u32_or_nat _ _ (by omega) (by omega), nat_join 16 _ _ (by omega) (by omega), u32_or_nat _ _ (by omega) (by omega), nat_join 8 _ _ (by omega) (by omega), u32I_ofNat _ (by omega)]
 refine congrArg (fun n : Nat => (n : Int)) ?_
 omega
theorem ws_set {W : World} {b k : Nat} {f : Nat → UInt32} (hc : ∀ j < k, W.cell? ⟨b, j, none⟩ = some (.int .u32 (u32I (f j)))) (h : (W.cell? ⟨b, k, none⟩).isSome = true) :
  ∀ j < k + 1, (W.setCell ⟨b, k, none⟩ (.int .u32 (u32I (f k)))).cell? ⟨b, j, none⟩ = some (.int .u32 (u32I (f j))) := fun j hj => by
 by_cases e : j = k
 ·subst e
  exact World.cell?_setCell_same' _ _ _ h
 ·rw [World.cell?_setCell_other _ _ _ _ (fun h => e (by injection h with _ h _; exact h.symm))]
  exact hc j (by omega)

theorem sched_val (y2 y7 y15 y16 : UInt32) :
  IntKind.u32.wrap (IntKind.u32.wrap (IntKind.u32.wrap (bits BinOp.xor IntKind.u32 (bits BinOp.xor IntKind.u32 (u32I (rotr y2 17)) (u32I (rotr y2 19))) (u32I y2 / (1024 : Int)) + u32I y7) +
   bits BinOp.xor IntKind.u32 (bits BinOp.xor IntKind.u32 (u32I (rotr y15 7)) (u32I (rotr y15 18))) (u32I y15 / (8 : Int))) + u32I y16) = u32I (sig1 y2 + y7 + sig0 y15 + y16) := by
 simp only [u32I_shr10, u32I_shr3, u32I_xor, u32I_add]
 rfl

theorem one_val (ta tb tc td te tf tg th kk ww : UInt32) :
  IntKind.u32.wrap (IntKind.u32.wrap (IntKind.u32.wrap (IntKind.u32.wrap (u32I th + bits BinOp.xor IntKind.u32 (bits BinOp.xor IntKind.u32 (u32I (rotr te 6)) (u32I (rotr te 11))) (u32I (rotr te 25))) +
   bits BinOp.xor IntKind.u32 (bits BinOp.and IntKind.u32 (u32I te) (u32I tf)) (bits BinOp.andNot IntKind.u32 (u32I tg) (u32I te))) + u32I kk) + u32I ww) = u32I (shaOne kk ww ⟨ta, tb, tc, td, te, tf, tg, th⟩) := by
 simp only [u32I_xor, u32I_and, u32I_andNot, u32I_add]
 rfl
theorem two_val (ta tb tc td te tf tg th : UInt32) :
  IntKind.u32.wrap (bits BinOp.xor IntKind.u32 (bits BinOp.xor IntKind.u32 (u32I (rotr ta 2)) (u32I (rotr ta 13))) (u32I (rotr ta 22)) +
   bits BinOp.xor IntKind.u32 (bits BinOp.xor IntKind.u32 (bits BinOp.and IntKind.u32 (u32I ta) (u32I tb)) (bits BinOp.and IntKind.u32 (u32I ta) (u32I tc))) (bits BinOp.and IntKind.u32 (u32I tb) (u32I tc))) = u32I (shaTwo ⟨ta, tb, tc, td, te, tf, tg, th⟩) := by
 simp only [u32I_xor, u32I_and, u32I_add]
 rfl
theorem a8_shift (ta tb tc td te tf tg th : UInt32) : (Go.splice (s8A ⟨ta, tb, tc, td, te, tf, tg, th⟩).toList 1 ((s8A ⟨ta, tb, tc, td, te, tf, tg, th⟩).toList.take 7)).toArray = s8A ⟨ta, ta, tb, tc, td, te, tf, tg⟩ := rfl
theorem heap_putNew (w : World) (cs xs : Array Value) (t : TypeId) (h : xs.size = cs.size) : (putRow (w.alloc (.cells cs t)) w.heap.size 0 xs).heap[w.heap.size]? = some (.cells xs t (0, 0)) := by
 have key : ∀ (vs : List Value) (o : Nat) (W : World) (C : Array Value), W.heap[w.heap.size]? = some (.cells C t (0, 0)) → o + vs.length ≤ C.size →
   ∃ C', (W.setCells w.heap.size o vs).heap[w.heap.size]? = some (.cells C' t (0, 0)) ∧ C'.size = C.size ∧ ∀ i, C'[i]? = if o ≤ i ∧ i < o + vs.length then vs[i - o]? else C[i]? := by
  intro vs
  induction vs with
  | nil => intro o W C h _; exact ⟨C, h, rfl, fun i => by rw [if_neg (fun hh => by simp at hh; omega)]⟩
  | cons v vs ih =>
   intro o W C h hle
   simp only [List.length_cons] at hle
   obtain ⟨C', h1, h2, h3⟩ := ih (o + 1) (W.setCell ⟨w.heap.size, o, none⟩ v) (C.setIfInBounds o v) (heap_set W _ _ _ _ _ h) (by simp; omega)
   refine ⟨C', h1, by rw [h2]; simp, fun i => ?_⟩
   rw [h3 i]
   by_cases e : i = o
   ·subst e
    rw [if_neg (by omega), if_pos (by simp), Nat.sub_self, Array.getElem?_setIfInBounds_self_of_lt (by omega)]
    rfl
   ·by_cases e2 : o + 1 ≤ i ∧ i < o + 1 + vs.length
    ·rw [if_pos e2, if_pos (by simp; omega), show i - o = (i - (o + 1)) + 1 by omega, List.getElem?_cons_succ]
    ·rw [if_neg e2, if_neg (by simp; omega), Array.getElem?_setIfInBounds_ne (fun h => e h.symm)]
 obtain ⟨C', h1, h2, h3⟩ := key xs.toList 0 (w.alloc (.cells cs t)) cs (heap_alloc_new w _) (by simp; omega)
 rw [show putRow (w.alloc (.cells cs t)) w.heap.size 0 xs = (w.alloc (.cells cs t)).setCells w.heap.size 0 xs.toList from rfl, h1]
 congr 2
 apply Array.ext_getElem?
 intro i
 rw [h3 i]
 by_cases hi : i < xs.size
 ·rw [if_pos (by simp; omega)]
  simp
 ·rw [if_neg (by simp; omega), Array.getElem?_eq_none (by omega), Array.getElem?_eq_none (by omega)]
/-- the sums put in, as far as k -/
def mixL (a b : List UInt32) (k : Nat) : List UInt32 := (List.zipWith (· + ·) a b).take k ++ a.drop k
theorem mixL_length (a b : List UInt32) (k : Nat) (ha : a.length = 8) (hb : b.length = 8) (hk : k ≤ 8) : (mixL a b k).length = 8 := by
 simp [mixL, ha, hb]
 omega
theorem mixL_at (a b : List UInt32) (k : Nat) (ha : a.length = 8) (hb : b.length = 8) (hk : k < 8) : (mixL a b k)[k]? = some (a[k]'(by omega)) := by
 unfold mixL
 rw [List.getElem?_append_right (by simp [ha, hb]; omega), List.getElem?_drop]
 simp only [List.length_take, List.length_zipWith, ha, hb]
 rw [show k + (k - min k (min 8 8)) = k by omega, List.getElem?_eq_getElem (by omega)]
theorem mixL_step (a b : List UInt32) (k : Nat) (ha : a.length = 8) (hb : b.length = 8) (hk : k < 8) : (mixL a b k).set k (a[k]'(by omega) + b[k]'(by omega)) = mixL a b (k + 1) := by
 apply List.ext_getElem?
 intro i
 unfold mixL
 rw [List.getElem?_set, List.take_succ_eq_append_getElem (by simp [ha, hb]; omega), List.append_assoc]
 have hlen : ((List.zipWith (· + ·) a b).take k).length = k := by simp [ha, hb]; omega
 by_cases e : k = i
 ·subst e
  rw [if_pos rfl, if_pos (by simp [ha, hb]; omega), List.getElem?_append_right (by omega), hlen, Nat.sub_self]
  simp
 ·rw [if_neg e]
  by_cases h1 : i < k
  ·rw [List.getElem?_append_left (by omega), List.getElem?_append_left (by omega)]
  ·rw [List.getElem?_append_right (by omega), List.getElem?_append_right (by omega), hlen, List.getElem?_append_right (by simp; omega), List.getElem?_drop, List.getElem?_drop]
   congr 1
   simp
   omega
theorem mixS_at (s t : S8) (k : Nat) (hk : k < 8) : (mixL s.list t.list k)[k]? = some (s.at k) := (mixL_at s.list t.list k rfl rfl hk).trans (congrArg some (S8.at_eq s k hk))
theorem mixS_step (s t : S8) (k : Nat) (hk : k < 8) : (mixL s.list t.list k).set k (s.at k + t.at k) = mixL s.list t.list (k + 1) := by
 rw [← S8.at_eq s k hk, ← S8.at_eq t k hk]
 exact mixL_step s.list t.list k rfl rfl hk
theorem mixL_all (s t : S8) : mixL s.list t.list 8 = (s.add t).list := rfl
theorem strLL_set (l : List UInt32) (m : List UInt8) (hv al i : Nat) (x : UInt32) (h : i < l.length) : (strLL l m hv al).toArray.setIfInBounds i (u32V x) = (strLL (l.set i x) m hv al).toArray := by
 unfold strLL
 rw [List.setIfInBounds_toArray, List.append_assoc, List.append_assoc, List.set_append_left _ _ (by simpa using h), ← List.map_set, ← List.append_assoc, ← List.append_assoc]
theorem strLL_at (l : List UInt32) (m : List UInt8) (hv al i : Nat) (h : i < l.length) : (strLL l m hv al)[i]? = some (u32V l[i]) := by
 unfold strLL
 rw [List.append_assoc, List.append_assoc, List.getElem?_append_left (by simpa using h), List.getElem?_map, List.getElem?_eq_getElem h]
 rfl
theorem strL_noneWait (s : S8) (m : List UInt8) (hv al : Nat) (hm : m.length = 64) (n : Nat) : (strL s m hv al).toArray.setIfInBounds 136 (.int .i64 (n : Int)) = (strL s m n al).toArray := by
 unfold strL strLL
 rw [List.setIfInBounds_toArray, List.set_append_right _ _ (by simp [S8.list, shaK_length, hm])]
 simp [S8.list, shaK_length, hm]

attribute [local go_sem ↓] load_a8_s store_a8_s
attribute [local go_sem] load_a8 store_a8
set_option maxRecDepth 100000 in
set_option maxHeartbeats 3200000 in
theorem block_c (r : Nat) (s : S8) (m : List UInt8) (hv al : Nat) (w : World) (h : StR w r s m hv al) :
  Calls Try.prog 200 #[.pointer (some ⟨r, 0, none⟩)] w fun e w' => e = .returned (.tuple #[]) ∧ StR w' r (shaBlk s m) m 0 al ∧ w.grownBy w' (some r) := by
 have hm := h.1
 have hlt := h.lt
 have hne1 : ¬ r = w.heap.size := by omega
 have hne2 : ¬ w.heap.size = r := by omega
 replace h := Lib.hid h
 go_enter Try.func200, Try.ntmps200
 go_wp2_with fail
 -- loop 1
 go_loopw [3, 4, 14] (fun u3 u4 i W => ∃ k : Nat, k ≤ 16 ∧ i = .int .i64 k ∧ Hid (Below w.heap.size w W) ∧ Hid (there W w.heap.size 0 64) ∧ Hid (∀ j < k, W.cell? ⟨w.heap.size, j, none⟩ = some (.int .u32 (u32I (sch m j))))) (fun _ _ i _ => 16 - (intOf i).toNat)
 case atStart => exact ⟨0, Nat.zero_le _, rfl, Lib.hid (bel_a _ _), Lib.hid (there_new _ _ _ _ _ (by simp)), Lib.hid (fun j hj => absurd hj (Nat.not_lt_zero j))⟩
 case round =>
  obtain ⟨k, hk, rfl, hB, hT, hc⟩ := hrel
  by_cases hkx : k < 16
  ·
   -- DEV<
   as_aux_lemma =>
    have j0 : (0 : Int) ≤ (k : Int) := by omega
    have j1 : (k : Int) < 16 := by omega
    have j2 : (k : Int) < 64 := by omega
    have hwd := wd_eq m k (by omega)
    have h0 := (h.out.keep hB.out).wait (4 * k) (by omega)
    have h1 := (h.out.keep hB.out).wait (4 * k + 1) (by omega)
    have h2 := (h.out.keep hB.out).wait (4 * k + 2) (by omega)
    have h3 := (h.out.keep hB.out).wait (4 * k + 3) (by omega)
    rw [← Nat.add_assoc] at h1 h2 h3
    generalize m[4 * k] = b0 at *
    generalize m[4 * k + 1] = b1 at *
    generalize m[4 * k + 2] = b2 at *
    generalize m[4 * k + 3] = b3 at *
    replace hwd := Lib.hid hwd
    have q0 := b0.toNat_lt
    have q1 := b1.toNat_lt
    have q2 := b2.toNat_lt
    have q3 := b3.toNat_lt
    have c0 : (0 : Int) ≤ 4 * (k : Int) := by omega
    have c1 : 4 * (k : Int) + 4 ≤ 64 := by omega
    have c2 : 4 * (k : Int) ≤ 4 * (k : Int) + 4 := by omega
    have c3 : (0 : Int) ≤ 4 * (k : Int) + 4 := by omega
    have c4 : ¬ (64 : Int) < 4 * (k : Int) + 4 := by omega
    have c5 : ¬ (4 * (k : Int) + 4 < 4 * (k : Int)) := by omega
    go_upto_region 5 with fail
    rw [show 4 * k + 4 - 4 * k = 4 by omega]
    have hS0 : wr.drew.cell? ⟨r, 72 + 4 * k, none⟩ = some (.int .u8 (b0.toNat : Int)) ∧ wr.drew.cell? ⟨r, 72 + 4 * k + 1, none⟩ = some (.int .u8 (b1.toNat : Int)) ∧ wr.drew.cell? ⟨r, 72 + 4 * k + 2, none⟩ = some (.int .u8 (b2.toNat : Int)) ∧ wr.drew.cell? ⟨r, 72 + 4 * k + 3, none⟩ = some (.int .u8 (b3.toNat : Int)) := ⟨h0, h1, h2, h3⟩
    clear c0 c1 c2 c3 c4 c5
    have hcw := (hT.out k (by omega))
    rw [Nat.zero_add] at hcw
    obtain ⟨t0, t1⟩ := hcw
    obtain ⟨v0, hv0⟩ := Option.isSome_iff_exists.1 t0
    clear t0
    go_region_held3 (fun W => W.cell? ⟨r, 72 + 4 * k, none⟩ = some (.int .u8 (b0.toNat : Int)) ∧ W.cell? ⟨r, 72 + 4 * k + 1, none⟩ = some (.int .u8 (b1.toNat : Int)) ∧ W.cell? ⟨r, 72 + 4 * k + 2, none⟩ = some (.int .u8 (b2.toNat : Int)) ∧ W.cell? ⟨r, 72 + 4 * k + 3, none⟩ = some (.int .u8 (b3.toNat : Int))) (go_keep) (fail)
    rename_i hHeld
    clear hHeld
    rw [word_or, ← hwd.out, ← sch_low m k hkx]
    have hB2 := Lib.hid (show Below w.heap.size w (wr.setCell ⟨w.heap.size, k, none⟩ (.int .u32 (u32I (sch m k)))).drew from by have := hB.out; (repeat' (first | (with_reducible first | exact Below.refl _ _ | assumption | refine bel_trans (by assumption) ?_ ?_ | refine bel_grown (by assumption) ?_ ?_ ?_ | refine Below.alloc ?_ ?_ _ | refine Below.drew ?_ | refine below_drewN ?_ _ | refine Below.setCell ?_ ?_ _ | refine below_put ?_ ?_ _ _ | exact Nat.le_refl _) | omega | (with_reducible first | refine Nat.le_trans ?_ (Below.size (by assumption)) | refine Nat.le_trans ?_ (World.grownBy.size (by assumption))) | (simp only [World.size_alloc, World.size_setCell, World.size_drew, size_drewN]; omega) | (simp only [World.size_alloc, World.size_setCell, World.size_drew, size_drewN, size_put]; omega) | (intro k hk; simp [Value.ownBlock] at hk; first | done | omega) | (simp [size_drewN] at *; omega))))
    have hT2 := Lib.hid (there_drew _ _ _ _ (there_set wr ⟨w.heap.size, k, none⟩ (.int .u32 (u32I (sch m k))) _ _ _ hT.out))
    have hc2 := Lib.hid (ws_set (f := sch m) hc.out (by rw [hv0]; rfl))
    clear h0 h1 h2 h3 hS0 hv0 t1
    go_wp2_with fail
    go_roundw
    case rel => exact ⟨k + 1, by omega, by go_num, hB2, hT2, hc2⟩
    case measure => (first | omega | (simp [intOf]; done) | (simp [intOf]; omega))
   -- DEV>
  ·have hk16 : (k : Int) = 16 := by omega
   obtain rfl : k = 16 := by omega
   rw [hk16]
   clear hk hkx hk16
   go_wp2_with fail
   -- loop 2
   go_loopw [6, 7, 8] (fun i _ _ W => ∃ k : Nat, 16 ≤ k ∧ k ≤ 64 ∧ i = .int .i64 k ∧ Hid (Below w.heap.size w W) ∧ Hid (there W w.heap.size 0 64) ∧ Hid (∀ j < k, W.cell? ⟨w.heap.size, j, none⟩ = some (.int .u32 (u32I (sch m j))))) (fun i _ _ _ => 64 - (intOf i).toNat)
   case atStart => exact ⟨16, by omega, by omega, rfl, hB, hT, hc⟩
   case round =>
    clear hB hT hc
    obtain ⟨k, hk1, hk2, rfl, hB, hT, hc⟩ := hrel
    by_cases hkx : k < 64
    ·
     -- DEV<
     as_aux_lemma =>
      have hsch := Lib.hid (sch_high m k hk1)
      have x2 := hc.out (k - 2) (by omega)
      have x15 := hc.out (k - 15) (by omega)
      have x7 := hc.out (k - 7) (by omega)
      have x16 := hc.out (k - 16) (by omega)
      generalize sch m (k - 2) = y2 at *
      generalize sch m (k - 15) = y15 at *
      generalize sch m (k - 7) = y7 at *
      generalize sch m (k - 16) = y16 at *
      have j0 : (0 : Int) ≤ (k : Int) := by omega
      have j2 : (k : Int) < 64 := by omega
      have a2 : (0 : Int) ≤ (k : Int) - 2 ∧ (k : Int) - 2 < 64 ∧ ((k : Int) - 2).toNat = k - 2 ∧ (2 : Int) ≤ (k : Int) := by omega
      have a15 : (0 : Int) ≤ (k : Int) - 15 ∧ (k : Int) - 15 < 64 ∧ ((k : Int) - 15).toNat = k - 15 ∧ (15 : Int) ≤ (k : Int) := by omega
      have a7 : (0 : Int) ≤ (k : Int) - 7 ∧ (k : Int) - 7 < 64 ∧ ((k : Int) - 7).toNat = k - 7 ∧ (7 : Int) ≤ (k : Int) := by omega
      have a16 : (0 : Int) ≤ (k : Int) - 16 ∧ (k : Int) - 16 < 64 ∧ ((k : Int) - 16).toNat = k - 16 ∧ (16 : Int) ≤ (k : Int) := by omega
      have v2 : IntKind.i64.wrap ((k : Int) - 2) = (k : Int) - 2 := IntWalk.i64_in _ (by omega)
      have v15 : IntKind.i64.wrap ((k : Int) - 15) = (k : Int) - 15 := IntWalk.i64_in _ (by omega)
      have v7 : IntKind.i64.wrap ((k : Int) - 7) = (k : Int) - 7 := IntWalk.i64_in _ (by omega)
      have v16 : IntKind.i64.wrap ((k : Int) - 16) = (k : Int) - 16 := IntWalk.i64_in _ (by omega)
      have z2 := fun n => (cell_drewN wr n ⟨w.heap.size, k - 2, none⟩).trans x2
      have z15 := fun n => (cell_drewN wr n ⟨w.heap.size, k - 15, none⟩).trans x15
      obtain ⟨a21, a22, a23, a24⟩ := a2
      obtain ⟨a151, a152, a153, a154⟩ := a15
      obtain ⟨a71, a72, a73, a74⟩ := a7
      obtain ⟨a161, a162, a163, a164⟩ := a16
      have hcw := (hT.out k (by omega))
      rw [Nat.zero_add] at hcw
      obtain ⟨t0, t1⟩ := hcw
      obtain ⟨v0, hv0⟩ := Option.isSome_iff_exists.1 t0
      clear t0
      go_upto_region 11 with fail
      go_quiet (fail)
      go_upto_region 12 with fail
      clear x2 x15 z2 z15 a21 a22 a23 a24 a151 a152 a153 a154 v2 v15
      have hS0 : (wr.drewN nq).drew.cell? ⟨w.heap.size, k - 7, none⟩ = some (.int .u32 (u32I y7)) ∧ (wr.drewN nq).drew.cell? ⟨w.heap.size, k - 16, none⟩ = some (.int .u32 (u32I y16)) := ⟨x7, x16⟩
      have n7 : ∀ (W : World) (v : Value), (W.setCell ⟨w.heap.size, k, none⟩ v).cell? ⟨w.heap.size, k - 7, none⟩ = W.cell? ⟨w.heap.size, k - 7, none⟩ := fun W v => World.cell?_setCell_other _ _ _ _ (fun h => by injection h with _ h _; omega)
      have n16 : ∀ (W : World) (v : Value), (W.setCell ⟨w.heap.size, k, none⟩ v).cell? ⟨w.heap.size, k - 16, none⟩ = W.cell? ⟨w.heap.size, k - 16, none⟩ := fun W v => World.cell?_setCell_other _ _ _ _ (fun h => by injection h with _ h _; omega)
      go_region_held3 (fun W => W.cell? ⟨w.heap.size, k - 7, none⟩ = some (.int .u32 (u32I y7)) ∧ W.cell? ⟨w.heap.size, k - 16, none⟩ = some (.int .u32 (u32I y16))) (go_keep)
       (first
        | (go_simp; go_at_call 224; ((with_reducible refine (rot17 _ _).mono ?_); rintro e w2 ⟨rfl, rfl⟩))
        | (go_simp; go_at_call 224; ((with_reducible refine (rot19 _ _).mono ?_); rintro e w2 ⟨rfl, rfl⟩))
        | (go_simp; go_at_call 224; ((with_reducible refine (rot7 _ _).mono ?_); rintro e w2 ⟨rfl, rfl⟩))
        | (go_simp; go_at_call 224; ((with_reducible refine (rot18 _ _).mono ?_); rintro e w2 ⟨rfl, rfl⟩)))
      rename_i hHeld
      clear hHeld hS0
      rw [sched_val, ← hsch.out]
      have hB2 := Lib.hid (show Below w.heap.size w ((wr.drewN (nq + 1)).setCell ⟨w.heap.size, k, none⟩ (.int .u32 (u32I (sch m k)))) from by have := hB.out; (repeat' (first | (with_reducible first | exact Below.refl _ _ | assumption | refine bel_trans (by assumption) ?_ ?_ | refine bel_grown (by assumption) ?_ ?_ ?_ | refine Below.alloc ?_ ?_ _ | refine Below.drew ?_ | refine below_drewN ?_ _ | refine Below.setCell ?_ ?_ _ | refine below_put ?_ ?_ _ _ | exact Nat.le_refl _) | omega | (with_reducible first | refine Nat.le_trans ?_ (Below.size (by assumption)) | refine Nat.le_trans ?_ (World.grownBy.size (by assumption))) | (simp only [World.size_alloc, World.size_setCell, World.size_drew, size_drewN]; omega) | (simp only [World.size_alloc, World.size_setCell, World.size_drew, size_drewN, size_put]; omega) | (intro k hk; simp [Value.ownBlock] at hk; first | done | omega) | (simp [size_drewN] at *; omega))))
      have hT2 := Lib.hid (there_set (wr.drewN (nq + 1)) ⟨w.heap.size, k, none⟩ (.int .u32 (u32I (sch m k))) _ _ _ (there_drewN _ _ _ _ _ hT.out))
      have hc2 := Lib.hid (ws_set (W := wr.drewN (nq + 1)) (f := sch m) hc.out (by rw [cell_drewN, hv0]; rfl))
      clear x7 x16 n7 n16 hv0 t1 v7 v16 a71 a72 a73 a74 a161 a162 a163 a164
      go_wp2_with fail
      go_roundw
      case rel => exact ⟨k + 1, by omega, by omega, by go_num, hB2, hT2, hc2⟩
      case measure => (first | omega | (simp [intOf]; done) | (simp [intOf]; omega))
     -- DEV>
    ·have hk64 : (k : Int) = 64 := by omega
     obtain rfl : k = 64 := by omega
     rw [hk64]
     clear hk1 hk2 hkx hk64
     have hrow : row? wr r 0 8 = some (s8A s) := by
      refine row?_of_cells rfl (by omega) fun j hj => ?_
      have hj8 : j < 8 := hj
      rw [Nat.zero_add, (h.out.keep hB.out).eight j hj8]
      rcases (show j = 0 ∨ j = 1 ∨ j = 2 ∨ j = 3 ∨ j = 4 ∨ j = 5 ∨ j = 6 ∨ j = 7 by omega) with rfl | rfl | rfl | rfl | rfl | rfl | rfl | rfl <;> rfl
     have h8o := s8A_one s
     have h8s := s8A_size s
     go_wp2_with fail
     have hBw := hB.out.size
     obtain ⟨W1, hW1⟩ : ∃ W1, W1 = putRow (wr.alloc (.cells #[.int .u32 0, .int .u32 0, .int .u32 0, .int .u32 0, .int .u32 0, .int .u32 0, .int .u32 0, .int .u32 0] 157)) wr.heap.size 0 (s8A s) := ⟨_, rfl⟩
     have hB1 : Hid (Below w.heap.size w W1) := Lib.hid (by have := hB.out; rw [hW1]; (repeat' (first | (with_reducible first | exact Below.refl _ _ | assumption | refine bel_trans (by assumption) ?_ ?_ | refine bel_grown (by assumption) ?_ ?_ ?_ | refine Below.alloc ?_ ?_ _ | refine Below.drew ?_ | refine below_drewN ?_ _ | refine Below.setCell ?_ ?_ _ | refine below_put ?_ ?_ _ _ | exact Nat.le_refl _) | omega | (with_reducible first | refine Nat.le_trans ?_ (Below.size (by assumption)) | refine Nat.le_trans ?_ (World.grownBy.size (by assumption))) | (simp only [World.size_alloc, World.size_setCell, World.size_drew, size_drewN]; omega) | (simp only [World.size_alloc, World.size_setCell, World.size_drew, size_drewN, size_put]; omega) | (intro k hk; simp [Value.ownBlock] at hk; first | done | omega) | (simp [size_drewN] at *; omega))))
     have hc1 : Hid (∀ j < 64, W1.cell? ⟨w.heap.size, j, none⟩ = some (.int .u32 (u32I (sch m j)))) := Lib.hid fun j hj => by
      have := hc.out j hj
      have hlt := lt_of_cell this
      rw [hW1, cell_put_far _ _ _ _ _ _ (by omega), cell_alloc, if_neg (by omega)]
      exact this
     have hv1 : Hid (W1.heap[wr.heap.size]? = some (.cells (s8A s) 157 (0, 0))) := Lib.hid (by
      rw [hW1]
      exact heap_putNew wr _ _ _ rfl)
     have hlt1 : wr.heap.size < W1.heap.size := by rw [hW1]; simp [size_put]
     have hwv : w.heap.size < wr.heap.size := by have := lt_of_cell (hc.out 0 (by omega)); omega
     rw [← hW1]
     clear hW1 hrow hc hB hT h8o h8s hBw
     generalize wr.heap.size = vb at *
     -- loop 3
     go_loopw [10, 11, 12, 103] (fun _ _ _ i W => ∃ k : Nat, k ≤ 64 ∧ i = .int .i64 k ∧ Hid (Below w.heap.size w W) ∧ Hid (∀ j < 64, W.cell? ⟨w.heap.size, j, none⟩ = some (.int .u32 (u32I (sch m j)))) ∧ Hid (W.heap[vb]? = some (.cells (s8A (shaComp m s k)) 157 (0, 0)))) (fun _ _ _ i _ => 64 - (intOf i).toNat)
     case atStart => exact ⟨0, Nat.zero_le _, rfl, hB1, hc1, hv1⟩
     case round =>
      clear hB1 hc1 hv1 hlt1
      obtain ⟨k, hk, rfl, hB, hc, hV⟩ := hrel
      by_cases hkx : k < 64
      ·
       -- DEV<
       as_aux_lemma =>
        have hvc := fun i => cell_of_row wr vb i _ _ _ hV.out
        have hkk := (h.out.keep hB.out).k k hkx
        have hww := hc.out k hkx
        have j0 : (0 : Int) ≤ (k : Int) := by omega
        have j2 : (k : Int) < 64 := by omega
        have hst := Lib.hid (show shaComp m s (k + 1) = shaRnd (kOf k) (sch m k) (shaComp m s k) from rfl)
        generalize shaComp m s k = t at *
        generalize kOf k = kk at *
        generalize sch m k = ww at *
        obtain ⟨ta, tb, tc, td, te, tf, tg, th⟩ := t
        have v0 := hvc 0
        have v1 := hvc 1
        have v2 := hvc 2
        have v3 := hvc 3
        have v4 := hvc 4
        have v5 := hvc 5
        have v6 := hvc 6
        have v7 := hvc 7
        clear hvc
        simp only [s8A, List.getElem?_toArray, List.getElem?_cons_succ, List.getElem?_cons_zero] at v0 v1 v2 v3 v4 v5 v6 v7
        have c8 : (8 : Nat) + k = 8 + k := rfl
        clear c8
        go_upto_region 17 with fail
        have hS0 : wr.drew.cell? ⟨vb, 4, none⟩ = some (.int .u32 (u32I te)) ∧ wr.drew.cell? ⟨vb, 5, none⟩ = some (.int .u32 (u32I tf)) ∧ wr.drew.cell? ⟨vb, 6, none⟩ = some (.int .u32 (u32I tg)) ∧ wr.drew.cell? ⟨vb, 7, none⟩ = some (.int .u32 (u32I th)) ∧ wr.drew.cell? ⟨r, 8 + k, none⟩ = some (.int .u32 (u32I kk)) ∧ wr.drew.cell? ⟨w.heap.size, k, none⟩ = some (.int .u32 (u32I ww)) := ⟨v4, v5, v6, v7, hkk, hww⟩
        go_region_held3 (fun W => W.cell? ⟨vb, 4, none⟩ = some (.int .u32 (u32I te)) ∧ W.cell? ⟨vb, 5, none⟩ = some (.int .u32 (u32I tf)) ∧ W.cell? ⟨vb, 6, none⟩ = some (.int .u32 (u32I tg)) ∧ W.cell? ⟨vb, 7, none⟩ = some (.int .u32 (u32I th)) ∧ W.cell? ⟨r, 8 + k, none⟩ = some (.int .u32 (u32I kk)) ∧ W.cell? ⟨w.heap.size, k, none⟩ = some (.int .u32 (u32I ww))) (go_keep)
         (first
          | (go_simp; go_at_call 224; ((with_reducible refine (rot6 _ _).mono ?_); rintro e w2 ⟨rfl, rfl⟩))
          | (go_simp; go_at_call 224; ((with_reducible refine (rot11 _ _).mono ?_); rintro e w2 ⟨rfl, rfl⟩))
          | (go_simp; go_at_call 224; ((with_reducible refine (rot25 _ _).mono ?_); rintro e w2 ⟨rfl, rfl⟩)))
        rename_i hHeld
        clear hHeld hS0
        rw [one_val ta tb tc td]
        have hS1 : wr.drew.drew.cell? ⟨vb, 0, none⟩ = some (.int .u32 (u32I ta)) ∧ wr.drew.drew.cell? ⟨vb, 1, none⟩ = some (.int .u32 (u32I tb)) ∧ wr.drew.drew.cell? ⟨vb, 2, none⟩ = some (.int .u32 (u32I tc)) := ⟨v0, v1, v2⟩
        have hone := Lib.hid (show shaRnd kk ww ⟨ta, tb, tc, td, te, tf, tg, th⟩ = ⟨shaOne kk ww ⟨ta, tb, tc, td, te, tf, tg, th⟩ + shaTwo ⟨ta, tb, tc, td, te, tf, tg, th⟩, ta, tb, tc, td + shaOne kk ww ⟨ta, tb, tc, td, te, tf, tg, th⟩, te, tf, tg⟩ from rfl)
        generalize shaOne kk ww ⟨ta, tb, tc, td, te, tf, tg, th⟩ = one at *
        clear v3 v4 v5 v6 v7 hkk hww
        go_upto_region 18 with fail
        go_region_held3 (fun W => W.cell? ⟨vb, 0, none⟩ = some (.int .u32 (u32I ta)) ∧ W.cell? ⟨vb, 1, none⟩ = some (.int .u32 (u32I tb)) ∧ W.cell? ⟨vb, 2, none⟩ = some (.int .u32 (u32I tc))) (go_keep)
         (first
          | (go_simp; go_at_call 224; ((with_reducible refine (rot2 _ _).mono ?_); rintro e w2 ⟨rfl, rfl⟩))
          | (go_simp; go_at_call 224; ((with_reducible refine (rot13 _ _).mono ?_); rintro e w2 ⟨rfl, rfl⟩))
          | (go_simp; go_at_call 224; ((with_reducible refine (rot22 _ _).mono ?_); rintro e w2 ⟨rfl, rfl⟩)))
        rename_i hHeld
        clear hHeld hS1
        rw [two_val ta tb tc td te tf tg th]
        generalize shaTwo ⟨ta, tb, tc, td, te, tf, tg, th⟩ = two at *
        clear v0 v1 v2
        go_upto_region 19 with fail
        have hVd : wr.drew.drew.drew.heap[vb]? = some (.cells (s8A ⟨ta, tb, tc, td, te, tf, tg, th⟩).toList.toArray 157 (0, 0)) := by
         rw [Array.toArray_toList]
         exact hV.out
        have hbd : Below vb wr wr.drew.drew.drew := (((Below.refl _ _).drew).drew).drew
        have hsrc : ∀ (j : Nat) (v : Value), ((s8A ⟨ta, tb, tc, td, te, tf, tg, th⟩).toList.take 7)[j]? = some v → wr.drew.drew.drew.cell? ((⟨vb, 0, none⟩ : Addr).add j) = some v := fun j v hjv => by
         have hadd : (⟨vb, 0, none⟩ : Addr).add j = ⟨vb, j, none⟩ := by unfold Addr.add; split <;> simp_all
         have hj : j < 7 := by
          have := (List.getElem?_eq_some_iff.1 hjv).1
          simp at this
          omega
         rw [hadd, show wr.drew.drew.drew.cell? ⟨vb, j, none⟩ = wr.cell? ⟨vb, j, none⟩ from rfl, cell_of_row wr vb j _ _ _ hV.out]
         rw [List.getElem?_take, if_pos hj] at hjv
         simpa using hjv
        have hone1 : ∀ v ∈ (s8A ⟨ta, tb, tc, td, te, tf, tg, th⟩).toList.take 7, v.oneCell' = true := fun v hv => by
         have h1 := s8A_one ⟨ta, tb, tc, td, te, tf, tg, th⟩
         simp only [oneCells, Array.all_eq_true'] at h1
         exact h1 v (by simpa using List.mem_of_mem_take hv)
        go_region_held3 (fun _ => True) (trivial)
         (first
          | (refine step_copy_splice (by rfl) (.tmp 178) (.tmp 179) 282 282 (by rfl) 156 Try.underlying282 (by kernel_rfl) (some ⟨vb, 1, none⟩) (some ⟨vb, 0, none⟩) 7 7 7 8 (by rfl) (by rfl) vb 1 (s8A ⟨ta, tb, tc, td, te, tf, tg, th⟩).toList 157 hVd ((s8A ⟨ta, tb, tc, td, te, tf, tg, th⟩).toList.take 7) rfl (fun _ => ⟨rfl, _, rfl, hsrc⟩) (by simp [s8A]) hone1 vb wr hbd (Nat.le_refl _) ?_; intro w4 hg4 hb4))
        have hV4 : w4.heap[vb]? = some (.cells (s8A ⟨ta, ta, tb, tc, td, te, tf, tg⟩) 157 (0, 0)) := (hg4.out).trans (by rw [a8_shift])
        clear hVd hbd hsrc hone1 hg4
        have v4 := cell_of_row w4 vb 4 _ _ _ hV4
        have f4 := frozen_of_row w4 vb 4 _ _ hV4
        have v0 := cell_of_row w4 vb 0 _ _ _ hV4
        have f0 := frozen_of_row w4 vb 0 _ _ hV4
        simp only [s8A, List.getElem?_toArray, List.getElem?_cons_succ, List.getElem?_cons_zero] at v4 v0
        have n40 : ∀ (W : World) (v : Value), (W.setCell ⟨vb, 4, none⟩ v).cell? ⟨vb, 0, none⟩ = W.cell? ⟨vb, 0, none⟩ := fun W v => World.cell?_setCell_other _ _ _ _ (fun h => by injection h with _ h _; omega)
        have hB4 := Lib.hid (hB.out.trans (hb4.mono (Nat.le_of_lt hwv)))
        have hc4 := Lib.hid (show ∀ j < 64, w4.cell? ⟨w.heap.size, j, none⟩ = some (.int .u32 (u32I (sch m j))) from fun j hj => (hb4.cell (p := ⟨w.heap.size, j, none⟩) hwv).trans (hc.out j hj))
        have hV5 := Lib.hid (heap_set _ vb 0 _ _ (.int .u32 (u32I (one + two))) (heap_set w4 vb 4 _ _ (.int .u32 (u32I (td + one))) hV4))
        have hsum1 := u32I_add td one
        have hsum2 := u32I_add one two
        clear hb4 hV4 hB hc hV
        go_upto_region 22 with fail
        have hB6 := Lib.hid (show Below w.heap.size w ((w4.setCell ⟨vb, 4, none⟩ (.int .u32 (u32I (td + one)))).setCell ⟨vb, 0, none⟩ (.int .u32 (u32I (one + two)))) from by have := hB4.out; (repeat' (first | (with_reducible first | exact Below.refl _ _ | assumption | refine bel_trans (by assumption) ?_ ?_ | refine bel_grown (by assumption) ?_ ?_ ?_ | refine Below.alloc ?_ ?_ _ | refine Below.drew ?_ | refine below_drewN ?_ _ | refine Below.setCell ?_ ?_ _ | refine below_put ?_ ?_ _ _ | exact Nat.le_refl _) | omega | (with_reducible first | refine Nat.le_trans ?_ (Below.size (by assumption)) | refine Nat.le_trans ?_ (World.grownBy.size (by assumption))) | (simp only [World.size_alloc, World.size_setCell, World.size_drew, size_drewN]; omega) | (simp only [World.size_alloc, World.size_setCell, World.size_drew, size_drewN, size_put]; omega) | (intro k hk; simp [Value.ownBlock] at hk; first | done | omega) | (simp [size_drewN] at *; omega))))
        have hc6 := Lib.hid (show ∀ j < 64, ((w4.setCell ⟨vb, 4, none⟩ (.int .u32 (u32I (td + one)))).setCell ⟨vb, 0, none⟩ (.int .u32 (u32I (one + two)))).cell? ⟨w.heap.size, j, none⟩ = some (.int .u32 (u32I (sch m j))) from fun j hj => by
         rw [World.cell?_setCell_other _ _ _ _ (fun h => by injection h with h _ _; omega), World.cell?_setCell_other _ _ _ _ (fun h => by injection h with h _ _; omega)]
         exact hc4.out j hj)
        have hV6 := Lib.hid (show ((w4.setCell ⟨vb, 4, none⟩ (.int .u32 (u32I (td + one)))).setCell ⟨vb, 0, none⟩ (.int .u32 (u32I (one + two)))).heap[vb]? = some (.cells (s8A (shaComp m s (k + 1))) 157 (0, 0)) from by
         rw [hst.out, hone.out]
         exact hV5.out)
        clear hB4 hc4 hV5 v4 v0 f4 f0 n40 hsum1 hsum2
        go_wp2_with fail
        go_roundw
        case rel => exact ⟨k + 1, by omega, by go_num, hB6, hc6, hV6⟩
        case measure => (first | omega | (simp [intOf]; done) | (simp [intOf]; omega))
       -- DEV>
      ·have hk64 : (k : Int) = 64 := by omega
       obtain rfl : k = 64 := by omega
       rw [hk64]
       clear hk hkx hk64 hc
       have hrv : ¬ r = vb := by omega
       have hvr : ¬ vb = r := by omega
       have hR0 := Lib.hid (show wr.heap[r]? = some (.cells (strLL (mixL s.list (shaComp m s 64).list 0) m hv al).toArray 237 (0, 0)) from (h.out.keep hB.out).2)
       have hG0 := Lib.hid (show w.grownBy wr (some r) from ⟨hB.out.os, hB.out.tape, hB.out.output, hB.out.size, fun k hk _ => hB.out.block k hk⟩)
       have hblk := Lib.hid (show shaBlk s m = s.add (shaComp m s 64) from rfl)
       generalize shaComp m s 64 = t at *
       clear hB
       go_wp2_with fail
       -- loop 4
       go_loopw [13, 191] (fun _ i W => ∃ k : Nat, k ≤ 8 ∧ i = .int .i64 k ∧ Hid (w.grownBy W (some r)) ∧ Hid (W.heap[vb]? = some (.cells (s8A t) 157 (0, 0))) ∧ Hid (W.heap[r]? = some (.cells (strLL (mixL s.list t.list k) m hv al).toArray 237 (0, 0)))) (fun _ i _ => 8 - (intOf i).toNat)
       case atStart => exact ⟨0, Nat.zero_le _, rfl, hG0, hV, hR0⟩
       case round =>
        clear hG0 hV hR0
        obtain ⟨k, hk, rfl, hG, hV, hR⟩ := hrel
        by_cases hkx : k < 8
        ·have hlen := mixL_length s.list t.list k rfl rfl hk
         have v0 := cell_of_row wr vb k _ _ _ hV.out
         have r0 := cell_of_row wr r k _ _ _ hR.out
         have fr := frozen_of_row wr r k _ _ hR.out
         rw [List.getElem?_toArray, strLL_at _ _ _ _ _ (by omega), u32V_eq] at r0
         have hmk := mixS_at s t k hkx
         rw [List.getElem?_eq_getElem (by omega)] at hmk
         rw [Option.some.inj hmk] at r0
         rw [s8A_at t k hkx] at v0
         have hset := heap_set wr r k _ _ (u32V (s.at k + t.at k)) hR.out
         rw [strLL_set _ _ _ _ _ _ (by omega), mixS_step s t k hkx] at hset
         replace hset := Lib.hid hset
         clear hmk hlen
         generalize s.at k = x at *
         generalize t.at k = y at *
         have hsum := u32I_add x y
         have j0 : (0 : Int) ≤ (k : Int) := by omega
         have j2 : (k : Int) < 8 := by omega
         go_upto_region 26 with fail
         refine wp_region_still_tail 13 (by kernel_rfl) (by kernel_rfl) ?_
         simp only [List.take_succ_cons, List.take_zero, List.drop_succ_cons, List.drop_zero]
         iterate 13 still_step
         try refine wpStill_nil ?_
         go_wp2_with fail
         have hGa := hG.out.trans (grown_set wr r k (.int .u32 (u32I (x + y))))
         have hG2 := Lib.hid (show w.grownBy (wr.setCell ⟨r, k, none⟩ (.int .u32 (u32I (x + y)))).drew (some r) from ⟨hGa.os, hGa.tape, hGa.output, hGa.size, hGa.block⟩)
         clear hGa
         have hV2 := Lib.hid (show (wr.setCell ⟨r, k, none⟩ (.int .u32 (u32I (x + y)))).drew.heap[vb]? = some (.cells (s8A t) 157 (0, 0)) from (Below.heap_setCell wr ⟨r, k, none⟩ _ vb hvr).trans hV.out)
         have hR2 := Lib.hid (show (wr.setCell ⟨r, k, none⟩ (.int .u32 (u32I (x + y)))).drew.heap[r]? = some (.cells (strLL (mixL s.list t.list (k + 1)) m hv al).toArray 237 (0, 0)) from hset.out)
         go_roundw
         case rel => exact ⟨k + 1, by omega, by go_num, hG2, hV2, hR2⟩
         case measure => (first | omega | (simp [intOf]; done) | (simp [intOf]; omega))
        ·have hk8 : (k : Int) = 8 := by omega
         obtain rfl : k = 8 := by omega
         rw [hk8]
         have h136 := cell_of_row wr r 136 _ _ _ hR.out
         have f136 := frozen_of_row wr r 136 _ _ hR.out
         rw [List.getElem?_toArray, mixL_all, show strLL (s.add t).list m hv al = strL (s.add t) m hv al from rfl, strL_have _ _ _ _ hm] at h136
         have hset := heap_set wr r 136 _ _ (.int .i64 0) hR.out
         rw [mixL_all, show strLL (s.add t).list m hv al = strL (s.add t) m hv al from rfl] at hset
         have hset2 := Lib.hid (hset.trans (congrArg (fun x => some (Obj.cells x 237 (0, 0))) (strL_noneWait (s.add t) m hv al hm 0)))
         have hG2 := Lib.hid (hG.out.trans (grown_set wr r 136 (.int .i64 0)))
         clear hset hk hkx hk8 hV hR hG
         go_wp2_with fail
         go_end0
         exact ⟨rfl, ⟨hm, by rw [hblk.out]; exact hset2.out⟩, hG2.out⟩
end Go.Proofs.Ythdjhbiigmcecaa
