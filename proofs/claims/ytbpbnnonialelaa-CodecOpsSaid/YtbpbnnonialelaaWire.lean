/- Contracts of package wire. -/
import Derived.Test.YtbpbnnonialelaaMem
import Derived.Test.YtbpbnnonialelaaShelf
import Derived.LoopN
import Derived.Handy
import Derived.Deep.QuietTactic
import Derived.BigQuiet
namespace Go.Proofs.Ytbpbnnonialelaa
open Go.RowKit

/-- a number's bytes, the highest first -/
def be : Nat → Nat → List UInt8
  | 0, _ => []
  | k + 1, n => be k (n / 256) ++ [UInt8.ofNat n]

theorem be_length (k n : Nat) : (be k n).length = k := by
  induction k generalizing n with
  | zero => rfl
  | succ k ih => simp [be, ih]
theorem byteV_of (n : Nat) : byteV (UInt8.ofNat n) = .int .u8 ((n % 256 : Nat) : Int) := by simp [byteV]

theorem info_u8 : (Try.prog.info? 5).map (fun i => (i.zero, i.size, i.bytes)) = some (some (.int .u8 0), 1, 1) := by kernel_rfl

set_option maxHeartbeats 800000 in
set_option maxRecDepth 100000 in
theorem put8 (n : Nat) (w : World) (hn : n < 18446744073709551616) : Calls Try.prog 107 #[.int .u64 n, .int .i64 8] w fun e w' => ∃ v, e = .returned (.tuple #[v, .int .i64 0]) ∧ Own w' w.heap.size v (be 8 n) ∧ Below w.heap.size w w' := by
  obtain ⟨i0, hi, hz0, hz1, hz2⟩ := info_parts info_u8
  go_enter Try.func107, Try.ntmps107
  go_wp2_with fail
  go_rounds 9
  go_quiet (fail)
  go_wp2_with fail
  refine (Try.bytes_Count_one _ _ 0 8 _ 0 1 [] 0 _ rfl (by intro i hi; omega) (by simp [cell_alloc, size_drewN])).mono ?_
  rintro e w' ⟨rfl, hw⟩
  subst hw
  go_wp2_with (at_builtin; refine wpList_append_bytes _ rfl (.const (.slice none 0 0)) (.tmp 39) _ rfl w.heap.size 5 i0 _ Try.underlying35 hi hz0 hz1 hz2 rfl (.slice none 0 0) [] rfl (Own.nil _ _) ⟨some ⟨w.heap.size, 0, none⟩, 8, 8⟩ (be 8 n) rfl ?_ ?_ ?_ ?_; rotate_left 3; intro v' w1 hown hg _)
  · go_ret2
    exact ⟨v', rfl, by simpa using hown, by (repeat' (first | (with_reducible exact Below.refl _ _) | (with_reducible assumption) | (with_reducible refine bel_trans (by assumption) ?_ ?_) | (with_reducible refine bel_grown (by assumption) ?_ ?_ ?_) | (with_reducible refine Below.alloc ?_ ?_ _) | (with_reducible refine Below.drew ?_) | (with_reducible refine below_drewN ?_ _) | (with_reducible refine Below.setCell ?_ ?_ _) | (with_reducible refine below_put ?_ ?_ _ _) | (with_reducible exact Nat.le_refl _) | omega | (with_reducible refine Nat.le_trans ?_ (Below.size (by assumption))) | (with_reducible refine Nat.le_trans ?_ (World.grownBy.size (by assumption))) | (simp only [World.size_alloc, World.size_setCell, World.size_drew, size_drewN]; omega) | (simp only [World.size_alloc, World.size_setCell, World.size_drew, size_drewN, size_put]; omega) | (intro k hk; simp [Value.ownBlock] at hk; done) | (intro k hk; simp [Value.ownBlock] at hk; omega) | (simp [size_drewN] at *; omega)))⟩
  · refine ⟨by simp [be_length], Nat.le_refl _, fun _ => ⟨w.heap.size, 0, rfl, fun i h => ?_⟩⟩
    have h8 : i < 8 := by simpa [be_length] using h
    have hh : i = 0 ∨ i = 1 ∨ i = 2 ∨ i = 3 ∨ i = 4 ∨ i = 5 ∨ i = 6 ∨ i = 7 := by omega
    rcases hh with rfl | rfl | rfl | rfl | rfl | rfl | rfl | rfl <;> simp [cell_alloc, size_drewN, cell_drewN, be, byteV_of] <;> omega
  · simp [be_length]
  · simp [size_drewN]; omega

set_option maxRecDepth 100000 in
set_option maxHeartbeats 800000 in
theorem put1 (n : Nat) (w : World) (hn : n < 256) : Calls Try.prog 107 #[.int .u64 n, .int .i64 1] w fun e w' => ∃ v, e = .returned (.tuple #[v, .int .i64 0]) ∧ Own w' w.heap.size v (be 1 n) ∧ Below w.heap.size w w' := by
  obtain ⟨i0, hi, hz0, hz1, hz2⟩ := info_parts info_u8
  have q1 : (n : Int) / 256 = 0 := by omega
  go_enter Try.func107, Try.ntmps107
  go_wp2_with fail
  go_rounds 9
  clear q1
  go_quiet (fail)
  go_wp2_with fail
  have e7 : ((Lib.countByte (Lib.bytesOf [0, 0, 0, 0, 0, 0, 0]) (0 : Int).toNat.toUInt8 : Nat) : Int) = 7 := by decide
  refine (Try.bytes_Count_one _ _ 7 8 _ 0 1 [0, 0, 0, 0, 0, 0, 0] 0 _ rfl (by
    intro i h
    have hh : i = 0 ∨ i = 1 ∨ i = 2 ∨ i = 3 ∨ i = 4 ∨ i = 5 ∨ i = 6 := by omega
    rcases hh with rfl | rfl | rfl | rfl | rfl | rfl | rfl <;> simp [cell_alloc, size_drewN, cell_drewN]) (by simp [cell_alloc, size_drewN])).mono ?_
  rintro e w' ⟨rfl, hw⟩
  subst hw
  rw [e7]
  clear e7
  go_wp2_with (at_builtin; refine wpList_append_bytes _ rfl (.const (.slice none 0 0)) (.tmp 39) _ rfl w.heap.size 5 i0 _ Try.underlying35 hi hz0 hz1 hz2 rfl (.slice none 0 0) [] rfl (Own.nil _ _) ⟨some ⟨w.heap.size, 7, none⟩, 1, 1⟩ (be 1 n) rfl ?_ ?_ ?_ ?_; rotate_left 3; intro v' w1 hown hg _)
  · go_ret2
    exact ⟨v', rfl, by simpa using hown, by (repeat' (first | (with_reducible exact Below.refl _ _) | (with_reducible assumption) | (with_reducible refine bel_trans (by assumption) ?_ ?_) | (with_reducible refine bel_grown (by assumption) ?_ ?_ ?_) | (with_reducible refine Below.alloc ?_ ?_ _) | (with_reducible refine Below.drew ?_) | (with_reducible refine below_drewN ?_ _) | (with_reducible refine Below.setCell ?_ ?_ _) | (with_reducible refine below_put ?_ ?_ _ _) | (with_reducible exact Nat.le_refl _) | omega | (with_reducible refine Nat.le_trans ?_ (Below.size (by assumption))) | (with_reducible refine Nat.le_trans ?_ (World.grownBy.size (by assumption))) | (simp only [World.size_alloc, World.size_setCell, World.size_drew, size_drewN]; omega) | (simp only [World.size_alloc, World.size_setCell, World.size_drew, size_drewN, size_put]; omega) | (intro k hk; simp [Value.ownBlock] at hk; done) | (intro k hk; simp [Value.ownBlock] at hk; omega) | (simp [size_drewN] at *; omega)))⟩
  · refine ⟨by simp [be_length], Nat.le_refl _, fun _ => ⟨w.heap.size, 7, rfl, fun i h => ?_⟩⟩
    obtain rfl : i = 0 := by simp [be_length] at h; omega
    simp [cell_alloc, size_drewN, cell_drewN, be, byteV_of]
    omega
  · simp [be_length]
  · simp [size_drewN]; omega

/-- the number that bytes are -/
def numOf (l : List UInt8) : Nat := l.foldl (fun n b => n * 256 + b.toNat) 0
theorem foldl_num (l : List UInt8) (a : Nat) : l.foldl (fun n (b : UInt8) => n * 256 + b.toNat) a = a * 256 ^ l.length + numOf l := by
  induction l generalizing a with
  | nil => simp [numOf]
  | cons x l ih =>
    simp only [List.foldl_cons, List.length_cons, numOf]
    rw [ih, ih (0 * 256 + x.toNat)]
    simp only [Nat.pow_succ, Nat.zero_mul, Nat.zero_add, Nat.add_mul]
    rw [Nat.mul_assoc a 256, Nat.mul_comm 256]
    omega
theorem numOf_cons (x : UInt8) (l : List UInt8) : numOf (x :: l) = x.toNat * 256 ^ l.length + numOf l := by
  have := foldl_num l (0 * 256 + x.toNat)
  simp only [Nat.zero_mul, Nat.zero_add] at this
  simpa [numOf] using this
theorem numOf_lt (l : List UInt8) : numOf l < 256 ^ l.length := by
  induction l with
  | nil => simp [numOf]
  | cons x l ih =>
    rw [numOf_cons, List.length_cons, Nat.pow_succ]
    have := x.toNat_lt
    have h2 : x.toNat * 256 ^ l.length ≤ 255 * 256 ^ l.length := Nat.mul_le_mul_right _ (by omega)
    omega
theorem drop_one (l : List UInt8) (k : Nat) (h : k < l.length) : l.drop (l.length - (k + 1)) = l[l.length - (k + 1)] :: l.drop (l.length - k) := by
  rw [List.drop_eq_getElem_cons (by omega)]
  congr 2
  omega

theorem or_step (k a c : Nat) (M : Int) (hM : M = ((2 ^ k : Nat) : Int)) (ha : a < 2 ^ k) (hb : c * 2 ^ k < 18446744073709551616) (hb' : a < 18446744073709551616) : bits .or .u64 (a : Int) ((c : Int) * M) = ((a + c * 2 ^ k : Nat) : Int) := by
  have e : (c : Int) * M = ((c * 2 ^ k : Nat) : Int) := by rw [hM]; simp
  rw [e, u64_or_nat a (c * 2 ^ k) hb' hb]
  have := Nat.shiftLeft_add_eq_or_of_lt (i := k) (b := a) ha c
  rw [Nat.shiftLeft_eq] at this
  rw [Nat.or_comm, ← this, Nat.add_comm]
theorem or_zero (a : Nat) (ha : a < 256) : bits .or .u64 0 (a : Int) = (a : Int) := by
  have := u64_or_nat 0 a (by omega) (by omega)
  simpa using this

set_option maxRecDepth 100000 in
set_option maxHeartbeats 800000 in
theorem get1 (b off cap : Nat) (x0 : UInt8) (w : World) (hn : 1 ≤ cap) (c0 : w.cell? ⟨b, off, none⟩ = some (.int .u8 (x0.toNat : Int))) :
    Calls Try.prog 99 #[.slice (some ⟨b, off, none⟩) 1 cap] w fun e w' => e = .returned (.tuple #[.int .u64 (numOf [x0]), .int .i64 0]) ∧ w = w' := by
  have h0 : (x0.toNat : Int) < 256 := by have := x0.toNat_lt; omega
  go_enter Try.func99, Try.ntmps99
  go_wp2_with fail
  go_rounds 2
  go_ret2
  refine ⟨?_, rfl⟩
  simp only [Array.getD_eq_getD_getElem?]
  simp
  (try rw [or_zero _ (by omega)])
  simp [numOf]
set_option maxRecDepth 100000 in
set_option maxHeartbeats 800000 in
theorem get2 (b off cap : Nat) (x0 x1 : UInt8) (w : World) (hn : 2 ≤ cap) (c0 : w.cell? ⟨b, off, none⟩ = some (.int .u8 (x0.toNat : Int))) (c1 : w.cell? ⟨b, off + 1, none⟩ = some (.int .u8 (x1.toNat : Int))) :
    Calls Try.prog 99 #[.slice (some ⟨b, off, none⟩) 2 cap] w fun e w' => e = .returned (.tuple #[.int .u64 (numOf [x0, x1]), .int .i64 0]) ∧ w = w' := by
  have h0 : (x0.toNat : Int) < 256 := by have := x0.toNat_lt; omega
  have h1 : (x1.toNat : Int) < 256 := by have := x1.toNat_lt; omega
  go_enter Try.func99, Try.ntmps99
  go_wp2_with fail
  go_rounds 3
  go_ret2
  refine ⟨?_, rfl⟩
  simp only [Array.getD_eq_getD_getElem?]
  simp
  rw [or_zero _ (by omega), or_step 8 _ _ 256 (by decide) (by omega) (by omega) (by omega)]
  simp [numOf]
  omega
set_option maxRecDepth 100000 in
set_option maxHeartbeats 1600000 in
theorem get8 (b off cap : Nat) (x0 x1 x2 x3 x4 x5 x6 x7 : UInt8) (w : World) (hn : 8 ≤ cap) (c0 : w.cell? ⟨b, off, none⟩ = some (.int .u8 (x0.toNat : Int))) (c1 : w.cell? ⟨b, off + 1, none⟩ = some (.int .u8 (x1.toNat : Int))) (c2 : w.cell? ⟨b, off + 2, none⟩ = some (.int .u8 (x2.toNat : Int))) (c3 : w.cell? ⟨b, off + 3, none⟩ = some (.int .u8 (x3.toNat : Int))) (c4 : w.cell? ⟨b, off + 4, none⟩ = some (.int .u8 (x4.toNat : Int))) (c5 : w.cell? ⟨b, off + 5, none⟩ = some (.int .u8 (x5.toNat : Int))) (c6 : w.cell? ⟨b, off + 6, none⟩ = some (.int .u8 (x6.toNat : Int))) (c7 : w.cell? ⟨b, off + 7, none⟩ = some (.int .u8 (x7.toNat : Int))) :
    Calls Try.prog 99 #[.slice (some ⟨b, off, none⟩) 8 cap] w fun e w' => e = .returned (.tuple #[.int .u64 (numOf [x0, x1, x2, x3, x4, x5, x6, x7]), .int .i64 0]) ∧ w = w' := by
  have h0 : (x0.toNat : Int) < 256 := by have := x0.toNat_lt; omega
  have h1 : (x1.toNat : Int) < 256 := by have := x1.toNat_lt; omega
  have h2 : (x2.toNat : Int) < 256 := by have := x2.toNat_lt; omega
  have h3 : (x3.toNat : Int) < 256 := by have := x3.toNat_lt; omega
  have h4 : (x4.toNat : Int) < 256 := by have := x4.toNat_lt; omega
  have h5 : (x5.toNat : Int) < 256 := by have := x5.toNat_lt; omega
  have h6 : (x6.toNat : Int) < 256 := by have := x6.toNat_lt; omega
  have h7 : (x7.toNat : Int) < 256 := by have := x7.toNat_lt; omega
  go_enter Try.func99, Try.ntmps99
  go_wp2_with fail
  go_rounds 9
  go_ret2
  refine ⟨?_, rfl⟩
  simp only [Array.getD_eq_getD_getElem?]
  simp
  rw [or_zero _ (by omega), or_step 8 _ _ 256 (by decide) (by omega) (by omega) (by omega), or_step 16 _ _ 65536 (by decide) (by omega) (by omega) (by omega), or_step 24 _ _ 16777216 (by decide) (by omega) (by omega) (by omega), or_step 32 _ _ 4294967296 (by decide) (by omega) (by omega) (by omega), or_step 40 _ _ 1099511627776 (by decide) (by omega) (by omega) (by omega), or_step 48 _ _ 281474976710656 (by decide) (by omega) (by omega) (by omega), or_step 56 _ _ 72057594037927936 (by decide) (by omega) (by omega) (by omega)]
  simp [numOf]
  omega
end Go.Proofs.Ytbpbnnonialelaa
