/- Texts of this proof, one behind the other: Read, ReadVote, ReadPoint, OrderPlain, Known09, Order, Ref01, RefGet, RefRd, RefNum, RefPoint, RefPof, RefJoin, RefVote. -/
import Derived.Test.YthdjhbiigmcecaaQB
import Derived.Test.YthdjhbiigmcecaaQA
import Derived.Laws.CopyOwn
import Derived.Deep.RegionHeld3
import Derived.Deep.RegionLaw
import Derived.Laws.IdiomStrings
import Derived.Lib.BufferRead
import Derived.Deep.QuietTactic
import Derived.BigQuiet
import Derived.Lib.ConvBytes
set_option linter.unusedVariables false
set_option linter.unusedSimpArgs false
/- Contracts: codec.hash, readPoint. -/
namespace Go.Proofs.Ythdjhbiigmcecaa
open Go.RowKit

theorem copy_at {W : World} {s : Sl} {l : List UInt8} (hs : BytesR W s l) (p : Addr) : 0 < (l.map byteV).length → some p = some p ∧ ∃ ad, s.a = some ad ∧ ∀ j v, (l.map byteV)[j]? = some v → W.cell? (ad.add j) = some v := by
  intro h
  obtain ⟨b, off, ha, hc⟩ := hs.2.2 (by intro e; subst e; simp at h)
  refine ⟨rfl, _, ha, fun j v hv => ?_⟩
  have hj : j < l.length := by
    rcases Nat.lt_or_ge j l.length with hj | hj
    · exact hj
    · rw [List.getElem?_eq_none (by simpa using hj)] at hv; cases hv
  have hadd : (⟨b, off, none⟩ : Addr).add j = ⟨b, off + j, none⟩ := by unfold Addr.add; split <;> simp_all
  rw [hadd, hc j hj]
  simpa [hj] using hv
end Go.Proofs.Ythdjhbiigmcecaa

/- Contracts: codec.readVote, read, PointOf, VoteOf. -/
namespace Go.Proofs.Ythdjhbiigmcecaa
open Go.RowKit

theorem VoteR.mk {w : World} {k : Int} {p q : Pt} {s : Sl} {l : List UInt8} (h : BytesR w s l) : VoteR w ⟨k, p, q, s⟩ ⟨k, p, q, l⟩ := ⟨rfl, rfl, rfl, h⟩
/-- a vote that lies in memory of the call's own -/
def VoteO (lo D : Nat) (w : World) (g : GVote) (v : Vote) : Prop := g.validator = v.validator ∧ g.source = v.source ∧ g.target = v.target ∧ BytesO w g.sig v.sig ∧ LowSl lo D g.sig v.sig
theorem VoteO.keep {lo D : Nat} {w w' : World} {g : GVote} {v : Vote} (h : VoteO lo D w g v) (hb : Below w.heap.size w w') : VoteO lo D w' g v := ⟨h.1, h.2.1, h.2.2.1, h.2.2.2.1.keep hb, h.2.2.2.2⟩
theorem VoteO.zero (lo D : Nat) (w : World) (a : Option Addr) (c : Nat) : VoteO lo D w ⟨0, zeroPt, zeroPt, ⟨a, 0, c⟩⟩ ⟨0, zeroPt, zeroPt, []⟩ := ⟨rfl, rfl, rfl, BytesO.nil _ _ _, LowSl.nil _ _ _⟩
theorem VoteO.mk {lo D : Nat} {w : World} {k : Int} {p q : Pt} {s : Sl} {l : List UInt8} (h : BytesO w s l) (hl : LowSl lo D s l) : VoteO lo D w ⟨k, p, q, s⟩ ⟨k, p, q, l⟩ := ⟨rfl, rfl, rfl, h, hl⟩
end Go.Proofs.Ythdjhbiigmcecaa

/- Contracts: codec.read at points; PointOf, VoteOf, VoteBytes, HeaderBytes. -/
namespace Go.Proofs.Ythdjhbiigmcecaa
open Go.RowKit

theorem hdrMay_out {h : Hdr} (hm : hdrMay h = true) : h.ops.length ≤ 16 ∧ h.ops.all opMay = true := by
  simp only [hdrMay, Bool.and_eq_true, decide_eq_true_eq] at hm
  exact ⟨hm.1.2, hm.2⟩
end Go.Proofs.Ythdjhbiigmcecaa

/- The order of checkpoints is the order of their bytes: plain Lean. -/
namespace Go.Proofs.Ythdjhbiigmcecaa
open Go.RowKit

end Go.Proofs.Ythdjhbiigmcecaa

/- Contract: landmarklaw09.known. -/
namespace Go.Proofs.Ythdjhbiigmcecaa
open Go.RowKit

end Go.Proofs.Ythdjhbiigmcecaa

/- The walk of landmarklaw09.CodecOrder. -/
namespace Go.Proofs.Ythdjhbiigmcecaa
open Go.RowKit

/-- three checkpoints in rows of their own -/
def Rows3 (B : Nat) (W : World) (a b c : Pt) : Prop := row? W B 0 33 = some (pointA a) ∧ row? W (B + 1) 0 33 = some (pointA b) ∧ row? W (B + 1 + 1) 0 33 = some (pointA c) ∧ B + 1 + 1 < W.heap.size
theorem Rows3.keep {B : Nat} {W W' : World} {a b c : Pt} (h : Rows3 B W a b c) (hb : Below W.heap.size W W') : Rows3 B W' a b c := by
  obtain ⟨h1, h2, h3, h4⟩ := h
  have := hb.size
  exact ⟨by rw [row?_below _ _ _ hb (by omega)]; exact h1, by rw [row?_below _ _ _ hb (by omega)]; exact h2, by rw [row?_below _ _ _ hb (by omega)]; exact h3, by omega⟩

end Go.Proofs.Ythdjhbiigmcecaa

/- Contracts of package landmarkref01: numbers. -/
namespace Go.Proofs.Ythdjhbiigmcecaa
open Go.RowKit

theorem pow_le7 (j : Nat) (h : j ≤ 7) : 256 ^ j ≤ 72057594037927936 := by
  have := Nat.pow_le_pow_right (show 0 < 256 by omega) h
  omega
theorem power_c (k : Nat) (w : World) (hk : k ≤ 7) : Calls Try.prog 198 #[.int .i64 k] w fun e w' => e = .returned (.int .u64 ((256 ^ k : Nat) : Int)) ∧ w' = w := by
  go_enter Try.func198, Try.ntmps198
  go_wp2_with fail
  go_loop [3, 4] (fun p i => ∃ j : Nat, j ≤ k ∧ p = .int .u64 ((256 ^ j : Nat) : Int) ∧ i = .int .i64 j) (fun _ i => k - (intOf i).toNat)
  case atStart => exact ⟨0, Nat.zero_le _, rfl, rfl⟩
  case round =>
    obtain ⟨j, hj, rfl, rfl⟩ := hrel
    have hle := pow_le7 j (by omega)
    have hs : 256 ^ (j + 1) = 256 ^ j * 256 := Nat.pow_succ ..
    have Hk := Lib.hid (show j = k → (256 ^ j : Nat) = 256 ^ k from fun h => by rw [h])
    by_cases hlt : j < k
    · have hle2 : 256 ^ j * 256 ≤ 72057594037927936 := by rw [← hs]; exact pow_le7 (j + 1) (by omega)
      generalize 256 ^ j = p at *
      have Hs := Lib.hid hs
      clear hs
      go_wp2_with fail
      go_round
      case rel => exact ⟨j + 1, by omega, by rw [Hs.out]; go_num, by go_num⟩
      case measure => simp [intOf]; omega
    · clear hs
      go_wp2_with fail
      go_ret
      obtain rfl : j = k := by omega
      exact ⟨by simp, rfl⟩
theorem power_i (i : Int) (w : World) (h0 : 0 ≤ i) (h7 : i ≤ 7) : Calls Try.prog 198 #[.int .i64 i] w fun e w' => e = .returned (.int .u64 ((256 ^ i.toNat : Nat) : Int)) ∧ w' = w := by
  obtain ⟨k, rfl⟩ := Int.eq_ofNat_of_zero_le h0
  exact power_c k w (by omega)

set_option maxRecDepth 100000 in
set_option maxHeartbeats 800000 in
theorem rput_c (size n : Nat) (w : World) (hs0 : 1 ≤ size) (hs : size ≤ 8) (hn : n < 18446744073709551616) :
    Calls Try.prog 152 #[.int .u64 n, .int .i64 size] w fun e w' => ∃ v, e = .returned v ∧ Own w' w.heap.size v (be size n) ∧ Below w.heap.size w w' := by
  obtain ⟨i0, hi, hy0, hy1, hy2⟩ := info_parts info_u8
  have hlen := be_length size n
  go_enter Try.func152, Try.ntmps152
  go_wp2_with fail
  go_loopw [5, 6] (fun u i w' => ∃ j : Nat, j ≤ size ∧ Own w' w.heap.size u ((be size n).take j) ∧ i = .int .i64 ((size : Int) - 1 - j) ∧ Below w.heap.size w w') (fun _ i _ => (intOf i + 1).toNat)
  case atStart => exact ⟨0, Nat.zero_le _, Own.nil _ _, by simp, Below.refl _ _⟩
  case round =>
    obtain ⟨j, hj, hown, rfl, hB⟩ := hrel
    have hz := hB.size
    by_cases hlt : j < size
    · have hts := be_take_succ size n j hlt
      have hp7 := pow_le7 (size - 1 - j) (by omega)
      have hp0 : 0 < 256 ^ (size - 1 - j) := Nat.pow_pos (by omega)
      have hbv := byteV_div n (256 ^ (size - 1 - j))
      have HC := fun W => power_i ((size : Int) - 1 - j) W (by omega) (by omega)
      rw [show ((size : Int) - 1 - j).toNat = size - 1 - j by omega] at HC
      have htl : ((be size n).take j).length + 1 ≤ 140737488355328 := by simp; omega
      generalize 256 ^ (size - 1 - j) = p at *
      have hd0 : (0 : Int) ≤ (n : Int) / (p : Int) := Int.ediv_nonneg (by omega) (by omega)
      have hd1 : (n : Int) / (p : Int) ≤ n := Int.ediv_le_self _ (by omega)
      have hpp : (0 : Int) < (p : Int) := by omega
      have Hts := Lib.hid hts
      have Hbv := Lib.hid hbv
      have Hown := Lib.hid hown
      clear hts hbv hown
      go_wp2_with (first
        | (go_at_call 198; (with_reducible refine (HC _).mono ?_); rintro e w1 ⟨rfl, rfl⟩)
        | (at_builtin; refine wpList_append_bytes _ rfl (.tmp 13) (.tmp 20) _ (by rfl) w.heap.size 5 i0 _ Try.underlying32 hi hy0 hy1 hy2 rfl _ _ (by rfl) (Hown.out.keep (bel_a _ _)) ⟨some ⟨_, 0, none⟩, 1, 1⟩ [UInt8.ofNat (n / p)] (by rfl) (BytesR.one _ _ _ _ _ rfl Hbv.out) htl (by simp; omega) ?_; intro v' w2 hown2 hg2 _))
      have hB2 : Below w.heap.size w w2 := bel_grown hg2 (hB.trans ((bel_a _ _).mono hz)) (by simp; omega) (fun k hk => (Hown.out.lt k hk).1)
      go_roundw
      case rel => exact ⟨j + 1, by omega, by rw [Hts.out]; exact hown2, by go_num, hB2⟩
      case measure => simp [intOf]; omega
    · have hfl : (be size n).take j = be size n := by rw [List.take_of_length_le (by omega)]
      rw [hfl] at hown
      clear hfl
      go_wp2_with fail
      go_ret
      exact ⟨_, rfl, hown, hB⟩
end Go.Proofs.Ythdjhbiigmcecaa

/- Contract of landmarkref01.Get. -/
namespace Go.Proofs.Ythdjhbiigmcecaa
open Go.RowKit

theorem numOf_snoc (l : List UInt8) (x : UInt8) : numOf (l ++ [x]) = numOf l * 256 + x.toNat := by
  simp [numOf, List.foldl_append]
theorem numOf_take_succ (l : List UInt8) (j : Nat) (h : j < l.length) : numOf (l.take (j + 1)) = numOf (l.take j) * 256 + l[j].toNat := by
  rw [List.take_succ_eq_append_getElem h, numOf_snoc]
theorem get_step (l : List UInt8) (j : Nat) (h : j < l.length) : numOf (l.take (j + 1)) * 256 ^ (l.length - (j + 1)) = numOf (l.take j) * 256 ^ (l.length - j) + l[j].toNat * 256 ^ (l.length - 1 - j) := by
  rw [numOf_take_succ l j h, show l.length - j = l.length - (j + 1) + 1 by omega, Nat.pow_succ, show l.length - 1 - j = l.length - (j + 1) by omega, Nat.add_mul]
  congr 1
  rw [Nat.mul_assoc, Nat.mul_comm 256]
theorem get_lt (l : List UInt8) (j : Nat) (h : j ≤ l.length) (h8 : l.length ≤ 8) : numOf (l.take j) * 256 ^ (l.length - j) < 18446744073709551616 := by
  have h1 := numOf_lt (l.take j)
  rw [List.length_take, Nat.min_eq_left h] at h1
  have h2 : 0 < 256 ^ (l.length - j) := Nat.pow_pos (by omega)
  have h3 := Nat.mul_lt_mul_of_pos_right h1 h2
  rw [← Nat.pow_add, show j + (l.length - j) = l.length by omega] at h3
  have h4 := Nat.pow_le_pow_right (show 0 < 256 by omega) h8
  omega

set_option maxRecDepth 100000 in
set_option maxHeartbeats 800000 in
theorem rget_c (s : Sl) (l : List UInt8) (w : World) (hs : BytesR w s l) (h8 : l.length ≤ 8) :
    Calls Try.prog 154 #[s.v] w fun e w' => e = .returned (.int .u64 (numOf l)) ∧ ∃ m, w' = w.drewN m := by
  obtain ⟨sa, sn, sc⟩ := s
  obtain rfl : sn = l.length := hs.1
  have Hs := Lib.hid hs
  clear hs
  show Calls Try.prog 154 #[.slice sa l.length sc] w _
  go_enter Try.func154, Try.ntmps154
  go_wp2_with fail
  go_loopw [3, 4] (fun p i w' => ∃ j : Nat, j ≤ l.length ∧ p = .int .u64 ((numOf (l.take j) * 256 ^ (l.length - j) : Nat) : Int) ∧ i = .int .i64 j ∧ ∃ m, w' = w.drewN m) (fun _ i _ => l.length - (intOf i).toNat)
  case atStart => exact ⟨0, Nat.zero_le _, by simp [numOf], rfl, 0, rfl⟩
  case round =>
    obtain ⟨j, hj, rfl, rfl, m, rfl⟩ := hrel
    by_cases hlt : j < l.length
    · obtain ⟨b, off, ha, hc⟩ := Hs.out.2.2 (by intro e; subst e; simp at hlt)
      simp only at ha
      subst ha
      obtain ⟨W, hW⟩ : ∃ W, W = w.drewN m := ⟨_, rfl⟩
      have hcj : ∀ n, (W.drewN n).cell? ⟨b, off + j, none⟩ = some (.int .u8 (l[j].toNat : Int)) := fun n => by rw [hW]; exact hc j hlt
      rw [← hW]
      have HW := Lib.hid hW
      clear hW
      have hst := get_step l j hlt
      have hg0 := get_lt l j (by omega) h8
      have hg1 := get_lt l (j + 1) hlt h8
      have hp7 := pow_le7 (l.length - 1 - j) (by omega)
      have hp0 : 0 < 256 ^ (l.length - 1 - j) := Nat.pow_pos (by omega)
      have hx := l[j].toNat_lt
      have HC := fun W => power_i ((l.length : Int) - 1 - j) W (by omega) (by omega)
      rw [show ((l.length : Int) - 1 - j).toNat = l.length - 1 - j by omega] at HC
      have hi0 : (0 : Int) ≤ (j : Int) := by omega
      have hi1 : (j : Int) < (l.length : Int) := by omega
      generalize hy : l[j].toNat = y at *
      generalize hn1 : numOf (l.take (j + 1)) * 256 ^ (l.length - (j + 1)) = n1 at *
      generalize hn0 : numOf (l.take j) * 256 ^ (l.length - j) = n0 at *
      generalize 256 ^ (l.length - 1 - j) = p at *
      have hyp : y * p < 18446744073709551616 := by omega
      have Hn := Lib.hid hn1
      clear hn1 hn0 hy hc
      go_wp2_with fail
      go_quiet ((go_at_call 198; exact Calls.quiet_of_same (HC _)))
      go_wp2_with fail
      go_roundw
      case rel => exact ⟨j + 1, by omega, by rw [Hn.out]; go_num, by go_num, _, by rw [HW.out, World.drewN_drewN]⟩
      case measure => simp [intOf]; omega
    · obtain rfl : j = l.length := by omega
      go_wp2_with fail
      go_ret
      exact ⟨by simp, m, rfl⟩
end Go.Proofs.Ythdjhbiigmcecaa

/- Contracts of landmarkref01.Reader. -/
namespace Go.Proofs.Ythdjhbiigmcecaa
open Go.RowKit

/-- where the document's reader stands: what is left; none: it has failed -/
def RfR (lo : Nat) (w : World) (r : Nat) : Option (List UInt8) → Prop
  | none => lo ≤ r ∧ ∃ x y, w.heap[r]? = some (.cells #[x, y, .bool true] 146 (0, 0))
  | some l => ∃ (s : Sl) (full : List UInt8) (k : Nat), w.heap[r]? = some (.cells #[s.v, .int .i64 k, .bool false] 146 (0, 0)) ∧
    BytesR w s full ∧ k ≤ full.length ∧ full.length ≤ 140737488355328 ∧ LowSl 0 lo s full ∧ lo ≤ r ∧ l = full.drop k

theorem RfR.lt {lo : Nat} {w : World} {r : Nat} {st : Option (List UInt8)} (h : RfR lo w r st) : r < w.heap.size := by
  obtain ⟨o, hg⟩ : ∃ o, w.heap[r]? = some o := by
    cases st with
    | none => obtain ⟨_, _, _, hg⟩ := h; exact ⟨_, hg⟩
    | some l => obtain ⟨_, _, _, hg, _⟩ := h; exact ⟨_, hg⟩
  rcases Nat.lt_or_ge r w.heap.size with hlt | hge
  · exact hlt
  · rw [Array.getElem?_eq_none hge] at hg; cases hg
theorem RfR.le {lo : Nat} {w : World} {r : Nat} {st : Option (List UInt8)} (h : RfR lo w r st) : lo ≤ r := by
  cases st with
  | none => exact h.1
  | some l => obtain ⟨_, _, _, _, _, _, _, _, h, _⟩ := h; exact h
theorem BytesR.keepLow {lo D : Nat} {w w' : World} {s : Sl} {l : List UInt8} (h : BytesR w s l) (hl : LowSl lo D s l) (hb : ∀ b, b < D → w'.heap[b]? = w.heap[b]?) : BytesR w' s l :=
  ⟨h.1, h.2.1, fun hne => by
    obtain ⟨b, off, ha, hc⟩ := h.2.2 hne
    exact ⟨b, off, ha, fun i hi => (World.cell?_of_block (a := ⟨b, off + i, none⟩) (hb b (hl hne ⟨b, off, none⟩ ha).2)).trans (hc i hi)⟩⟩
theorem LowSl.up {lo D D' : Nat} {s : Sl} {l : List UInt8} (h : LowSl lo D s l) (hD : D ≤ D') : LowSl lo D' s l := fun hne a ha => ⟨(h hne a ha).1, Nat.lt_of_lt_of_le (h hne a ha).2 hD⟩
theorem RfR.keepB {lo D : Nat} {w w' : World} {r : Nat} {st : Option (List UInt8)} (h : RfR lo w r st) (hr : r < D) (hb : Below D w w') : RfR lo w' r st := by
  cases st with
  | none => obtain ⟨hlr, x, y, hg⟩ := h; exact ⟨hlr, x, y, (hb.block r hr).trans hg⟩
  | some l => obtain ⟨s, full, k, hg, hs, h1, h2, hl, hlr, h3⟩ := h; exact ⟨s, full, k, (hb.block r hr).trans hg, hs.keepLow (hl.up (Nat.le_of_lt (Nat.lt_of_le_of_lt hlr hr))) (fun b hlt => hb.block b hlt), h1, h2, hl, hlr, h3⟩
theorem RfR.keep {lo : Nat} {w w' : World} {r : Nat} {st : Option (List UInt8)} (h : RfR lo w r st) (hb : Below w.heap.size w w') : RfR lo w' r st := h.keepB h.lt hb

/-- the reader's own cells anew -/
theorem RfR.fin {lo : Nat} {w w' : World} {r : Nat} {s : Sl} {full : List UInt8} (k : Nat) (hs : BytesR w s full) (hlow : LowSl 0 lo s full) (hlr : lo ≤ r) (hle : full.length ≤ 140737488355328) (hk : k ≤ full.length)
    (h1 : w'.heap[r]? = some (.cells #[s.v, .int .i64 k, .bool false] 146 (0, 0))) (h2 : ∀ b, b ≠ r → w'.heap[b]? = w.heap[b]?) : RfR lo w' r (some (full.drop k)) :=
  ⟨s, full, k, h1, hs.keepLow hlow (fun b hb => h2 b (Nat.ne_of_lt (Nat.lt_of_lt_of_le hb hlr))), hk, hle, hlow, hlr, rfl⟩
end Go.Proofs.Ythdjhbiigmcecaa

/- Contracts: Reader.Number, Blob; ref09.hash, point. -/
namespace Go.Proofs.Ythdjhbiigmcecaa
open Go.RowKit

end Go.Proofs.Ythdjhbiigmcecaa

/- Contracts: ref09.point, MayPoint, Point, PointLess. -/
namespace Go.Proofs.Ythdjhbiigmcecaa
open Go.RowKit

end Go.Proofs.Ythdjhbiigmcecaa

/- Contract: ref09.PointOf. -/
namespace Go.Proofs.Ythdjhbiigmcecaa
open Go.RowKit

theorem IsB.keepB {l : List UInt8} {v : Value} {w w' : World} (h : IsB l v w) (hb : Below w.heap.size w w') : IsB l v w' := by
  obtain ⟨s, hv, hs⟩ := h
  exact ⟨s, hv, hs.keep hb⟩
/-- a new reader -/
theorem RfR.new {w : World} {s : Sl} {l : List UInt8} (hs : BytesR w s l) (hl : l.length ≤ 140737488355328) (W : World) (hW : Below w.heap.size w W) (r : Nat) (hr : r = W.heap.size) :
    RfR w.heap.size (W.alloc (.cells #[s.v, .int .i64 0, .bool false] 146)) r (some l) := by
  subst hr
  refine ⟨s, l, 0, heap_alloc_new W _, (hs.keep hW).keep (bel_a _ _), Nat.zero_le _, hl, fun hne a ha => ⟨Nat.zero_le _, ?_⟩, hW.size, rfl⟩
  obtain ⟨b, off, ha', hc⟩ := hs.2.2 hne
  rw [ha] at ha'
  injection ha' with ha'
  subst ha'
  have h0 : 0 < l.length := by cases l <;> simp_all
  exact lt_of_cell (hc 0 h0)

end Go.Proofs.Ythdjhbiigmcecaa

/- Contracts: landmarkref01.Join, Blob, Reader.Blob. -/
namespace Go.Proofs.Ythdjhbiigmcecaa
open Go.RowKit

end Go.Proofs.Ythdjhbiigmcecaa

/- Contracts: ref09.MayVote, Vote, SameVote; Reader.Blob. -/
namespace Go.Proofs.Ythdjhbiigmcecaa
open Go.RowKit

theorem Pieces.keepB {ls : List (List UInt8)} {v : Value} {w w' : World} (h : Pieces ls v w) (hb : Below w.heap.size w w') : Pieces ls v w' := by
  obtain ⟨b, ss, h1, h2, h3, h4⟩ := h
  exact ⟨b, ss, h1, h2, fun i hi => (hb.cell (p := ⟨b, i, none⟩) (lt_of_cell (h3 i hi))).trans (h3 i hi), fun i hi hj => (h4 i hi hj).keep hb⟩

end Go.Proofs.Ythdjhbiigmcecaa
