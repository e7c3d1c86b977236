/- What is signed of two votes; a name's text: no program in sight. -/
import Derived.Test.YtbpbnnonialelaaRefHdr
import Derived.Test.YtbpbnnonialelaaOrderPlain
namespace Go.Proofs.Ytbpbnnonialelaa

theorem txBytes_length (v : Vote) : (txBytes v).length = 85 := by simp [txBytes, be_length, ptBytes_length]
theorem be1_inj {a b : Nat} (ha : a < 256) (hb : b < 256) (h : be 1 a = be 1 b) : a = b := by
  have h1 : UInt8.ofNat a = UInt8.ofNat b := by simpa [be] using h
  have h2 := congrArg UInt8.toNat h1
  simp at h2
  omega
theorem txBytes_eq {v u : Vote} (h1 : 1 ≤ v.validator) (h2 : v.validator ≤ 64) (k1 : 1 ≤ u.validator) (k2 : u.validator ≤ 64) :
    decide (txBytes v = txBytes u) = (decide (v.validator = u.validator) && decide (v.source = u.source) && decide (v.target = u.target)) := by
  rw [Bool.eq_iff_iff]
  simp only [decide_eq_true_eq, Bool.and_eq_true]
  constructor
  · intro h
    unfold txBytes at h
    obtain ⟨h, ht⟩ := List.append_inj' h (by simp [ptBytes_length])
    obtain ⟨h, hs⟩ := List.append_inj' h (by simp [ptBytes_length])
    obtain ⟨_, hv⟩ := List.append_inj' h (by simp [be_length])
    have := be1_inj (by omega) (by omega) hv
    exact ⟨⟨by omega, ptBytes_inj.1 hs⟩, ptBytes_inj.1 ht⟩
  · rintro ⟨⟨e1, e2⟩, e3⟩
    rw [txBytes, txBytes, e1, e2, e3]
theorem txBytes_ne (v : Vote) (h : Hdr) : (txBytes v == nmText h) = false := by
  rw [beq_eq_false_iff_ne]
  intro e
  have := congrArg (fun l => l[0]?) e
  simp [txBytes, nmText] at this
end Go.Proofs.Ytbpbnnonialelaa
