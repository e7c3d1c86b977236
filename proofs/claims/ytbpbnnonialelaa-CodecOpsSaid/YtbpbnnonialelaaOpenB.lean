/- A slice of bytes among the arguments, opened. -/
import Derived.Test.YtbpbnnonialelaaLaw
import Derived.Test.YtbpbnnonialelaaMem
import Derived.ChangeSlices
namespace Go.Proofs.Ytbpbnnonialelaa
open Go.ChangeShapes Go.WideShapes Go.ChangeAt Go.RowKit

theorem open_bslice {H : Type} {P : Program} {enc : TypeId × Value → H} {w : World} {base : Nat} {spare : Nat → Bool} {held : Bool} {t e : TypeId} (ht : P.underlying t = some (.slice e)) (he : P.underlying e = some (.int .u8)) (hc : P.cellsOf e = 1)
    {r : Reach} {b0 : Nat} {v : Value} {d : DataW H} {p : List MemPlace} (hv : Value.okWide P w r b0 t v) (h : DataW.Trod enc P w base spare held t v d p) : ∃ (s : Sl) (l : List UInt8), v = s.v ∧ BytesR w s l := by
  obtain ⟨a0, len, cap, rfl⟩ := okWide_slice ht hv
  obtain ⟨fuel, hf⟩ := h
  rcases open_ints ht he hc hf with ⟨hcs, _⟩ | ⟨a, len', cap', zs, hcs, _, hl, _, hz, _, hcell, hwz⟩
  · simp [Value.cells] at hcs
    obtain ⟨rfl, rfl, rfl⟩ := hcs
    exact ⟨⟨none, 0, 0⟩, [], rfl, BytesR.nil _ _ _⟩
  · simp [Value.cells] at hcs
    obtain ⟨rfl, rfl, rfl⟩ := hcs
    have hzl : len ≤ zs.length := by
      rw [hz]
      split <;> omega
    refine ⟨⟨some a, len, cap⟩, (zs.take len).map (fun n => UInt8.ofNat n.toNat), rfl, by simp [hzl], hl, fun hne => ?_⟩
    have h0 : 0 < len := by
      rcases Nat.eq_zero_or_pos len with h | h
      · subst h; simp at hne
      · exact h
    have hsp : a.spot = none := by
      have := World.cell?_spot (hcell 0 (by omega))
      unfold Addr.add at this
      split at this <;> simp_all
    refine ⟨a.block, a.off, ?_, fun i hi => ?_⟩
    · obtain ⟨b, o, sp⟩ := a
      simp only at hsp
      subst hsp
      rfl
    · have hi' : i < len := by simp at hi; omega
      have h1 := hcell i (by omega)
      have hadd : a.add i = ⟨a.block, a.off + i, none⟩ := by
        obtain ⟨b, o, sp⟩ := a
        simp only at hsp
        subst hsp
        unfold Addr.add
        split <;> simp_all
      rw [hadd] at h1
      rw [h1]
      have hg : zs.getD i 0 = zs[i]'(by omega) := by simp [List.getD_eq_getElem?_getD, List.getElem?_eq_getElem (show i < zs.length by omega)]
      have hw := hwz (zs[i]'(by omega)) (List.getElem_mem _)
      have hb : 0 ≤ zs[i]'(by omega) ∧ zs[i]'(by omega) ≤ 255 := by simpa [Lit.wf, IntKind.min, IntKind.max, IntKind.signed, IntKind.bits] using hw
      simp only [List.getElem_map, List.getElem_take, byteV]
      rw [hg]
      congr 2
      simp
      omega
end Go.Proofs.Ytbpbnnonialelaa
