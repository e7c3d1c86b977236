/- A header's bytes with one operation more: no program in sight. -/
import Derived.Test.YtbpbnnonialelaaHdrBytes
namespace Go.Proofs.Ytbpbnnonialelaa

/-- a header with nothing but one operation; one with one more -/
def loneH (o : Op) : Hdr := ⟨zeroHash, 0, [o]⟩
def moreH (h : Hdr) (o : Op) : Hdr := { h with ops := h.ops ++ [o] }
theorem opBytes_pos (o : Op) : 0 < (opBytes o).length := by
  unfold opBytes
  simp
theorem more_no {h : Hdr} {o : Op} (h1 : hdrMay h = true) (h2 : hdrMay (moreH h o) = false) (ho : opMay o = true) : h.ops.length = 16 := by
  unfold hdrMay at h1 h2
  simp only [moreH, Bool.and_eq_true, decide_eq_true_eq] at h1
  obtain ⟨⟨h3, h4⟩, h5⟩ := h1
  rw [show (moreH h o).epoch = h.epoch from rfl, decide_eq_true h3, Bool.true_and, show (moreH h o).ops = h.ops ++ [o] from rfl, List.all_append, h5, Bool.true_and] at h2
  simp only [List.all_cons, ho, List.all_nil, Bool.and_true, List.length_append, List.length_cons, List.length_nil, decide_eq_false_iff_not] at h2
  omega
theorem more_may {h : Hdr} {o : Op} (h2 : hdrMay (moreH h o) = true) : h.ops.length ≤ 15 ∧ opMay o = true := by
  unfold hdrMay at h2
  simp only [moreH, Bool.and_eq_true, decide_eq_true_eq, List.all_append, List.length_append, List.length_cons, List.length_nil, List.all_cons, List.all_nil, Bool.and_true] at h2
  exact ⟨by omega, h2.2.2⟩
theorem mid_more {α : Type} (p b x : List α) (a c : α) (hp : p.length = 40) :
    41 ≤ (p ++ [a] ++ b).length ∧ (p ++ [a] ++ b)[40]? = some a ∧ (p ++ [c] ++ b ++ x)[40]? = some c ∧ (p ++ [c] ++ b ++ x).take 40 = (p ++ [a] ++ b).take 40 ∧
      ((p ++ [c] ++ b ++ x).drop 41).take ((p ++ [a] ++ b).length - 41) = (p ++ [a] ++ b).drop 41 ∧ (p ++ [c] ++ b ++ x).drop (p ++ [a] ++ b).length = x := by
  have h1 : (p ++ [a]).length = 41 := by simp [hp]
  have h2 : (p ++ [c]).length = 41 := by simp [hp]
  refine ⟨by simp only [List.length_append, List.length_cons, List.length_nil]; omega, ?_, ?_, ?_, ?_, ?_⟩
  · rw [List.getElem?_append_left (by omega), List.getElem?_append_right (by omega)]
    simp [hp]
  · rw [List.getElem?_append_left (by rw [List.length_append]; omega), List.getElem?_append_left (by omega), List.getElem?_append_right (by omega)]
    simp [hp]
  · simp only [List.append_assoc]
    rw [List.take_left' hp, List.take_left' hp]
  · have e2 : (p ++ [c] ++ b ++ x).drop 41 = b ++ x := by
      rw [List.append_assoc (p ++ [c])]
      exact List.drop_left' h2
    rw [List.drop_left' h1, e2]
    refine List.take_left' ?_
    rw [List.length_append, h1]
    omega
  · refine List.drop_left' ?_
    simp [hp]
/-- what the law asks of the two headers' bytes -/
theorem more_bytes (h : Hdr) (o : Op) (hl : h.ops.length ≤ 15) : ∃ k : Nat, k ≤ 15 ∧ 41 ≤ (hdBytes h).length ∧ (hdBytes h).length < (hdBytes (moreH h o)).length ∧
    ((hdBytes h)[40]?).map byteV = some (.int .u8 (k : Int)) ∧ ((hdBytes (moreH h o))[40]?).map byteV = some (.int .u8 ((k : Int) + 1)) ∧
    (hdBytes (moreH h o)).take 40 = (hdBytes h).take 40 ∧ ((hdBytes (moreH h o)).drop 41).take ((hdBytes h).length - 41) = (hdBytes h).drop 41 ∧ (hdBytes (moreH h o)).drop (hdBytes h).length = opBytes o := by
  have e1 : hdBytes h = (h.parent.1 ++ be 8 h.epoch.toNat) ++ [UInt8.ofNat h.ops.length] ++ (h.ops.map opBytes).flatten := by rw [hdBytes_eq]; rfl
  have e2 : hdBytes (moreH h o) = (h.parent.1 ++ be 8 h.epoch.toNat) ++ [UInt8.ofNat (h.ops.length + 1)] ++ (h.ops.map opBytes).flatten ++ opBytes o := by
    rw [hdBytes_eq]
    simp [moreH, hdHead]
  obtain ⟨h1, h2, h3, h4, h5, h6⟩ := mid_more (h.parent.1 ++ be 8 h.epoch.toNat) (h.ops.map opBytes).flatten (opBytes o) (UInt8.ofNat h.ops.length) (UInt8.ofNat (h.ops.length + 1)) (by simp [be_length, h.parent.2])
  rw [← e1, ← e2] at h4 h5 h6
  rw [← e1] at h1 h2
  rw [← e2] at h3
  refine ⟨h.ops.length, hl, h1, ?_, ?_, ?_, h4, h5, h6⟩
  · have := opBytes_pos o
    rw [e1, e2]
    simp only [List.length_append, List.length_cons, List.length_nil]
    omega
  · rw [h2, Option.map_some, byteV_of, Nat.mod_eq_of_lt (by omega)]
  · rw [h3, Option.map_some, byteV_of, Nat.mod_eq_of_lt (by omega)]
    simp
end Go.Proofs.Ytbpbnnonialelaa
