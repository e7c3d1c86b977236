/- Contract: codec.Text at any vote. -/
import Derived.Test.YtbpbnnonialelaaRefVov
import Derived.Test.YtbpbnnonialelaaTold9
namespace Go.Proofs.Ytbpbnnonialelaa
open Go.RowKit

theorem ctext_c (g : GVote) (v : Vote) (w : World) (hv : VoteR w g v) :
    Calls Try.prog 29 #[.agg (voteA g)] w fun e w' => ∃ s : Sl, e = toldV s (voteMay v) ∧ BytesR w' s (orNo (voteMay v) (txBytes v)) ∧ Below w.heap.size w w' := by
  have hm := hv.may
  cases h : voteMay v
  · rw [h] at hm
    refine (text_no g w hm).mono ?_
    rintro e w' ⟨rfl, hb⟩
    exact ⟨⟨none, 0, 0⟩, rfl, BytesR.nil _ _ _, hb⟩
  · rw [h] at hm
    obtain ⟨m1, m2, m3, m4, m5⟩ := voteMay_out h
    refine (text_c g v w hm hv.1 hv.2.1 hv.2.2.1 m1 m2).mono ?_
    rintro e w' ⟨s, rfl, hs, hb⟩
    exact ⟨s, rfl, hs, hb⟩
end Go.Proofs.Ytbpbnnonialelaa
