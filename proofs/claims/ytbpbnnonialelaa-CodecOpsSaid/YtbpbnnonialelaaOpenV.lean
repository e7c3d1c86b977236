/- An api.Vote among the arguments, opened. -/
import Derived.Test.YtbpbnnonialelaaOpenB
import Derived.Test.YtbpbnnonialelaaData
namespace Go.Proofs.Ytbpbnnonialelaa
open Go.ChangeShapes Go.WideShapes Go.ChangeAt Go.RowKit

theorem bytes_of_ints {w : World} {a : Addr} {len cap : Nat} {zs : List Int} (hl : len ≤ cap) (hzl : len ≤ zs.length)
    (hcell : ∀ i, i < zs.length → w.cell? (a.add i) = some (.int .u8 (zs.getD i 0))) (hwz : ∀ n ∈ zs, (Lit.int .u8 n).wf = true) :
    BytesR w ⟨some a, len, cap⟩ ((zs.take len).map (fun n => UInt8.ofNat n.toNat)) := by
  refine ⟨by simp [hzl], hl, fun hne => ?_⟩
  have h0 : 0 < len := by
    rcases Nat.eq_zero_or_pos len with h | h
    · subst h; simp at hne
    · exact h
  have hsp : a.spot = none := by
    have := World.cell?_spot (hcell 0 (by omega))
    unfold Addr.add at this
    split at this <;> simp_all
  refine ⟨a.block, a.off, ?_, fun i hi => ?_⟩
  · obtain ⟨b, o, sp⟩ := a
    simp only at hsp
    subst hsp
    rfl
  · have hi' : i < len := by simp at hi; omega
    have h1 := hcell i (by omega)
    have hadd : a.add i = ⟨a.block, a.off + i, none⟩ := by
      obtain ⟨b, o, sp⟩ := a
      simp only at hsp
      subst hsp
      unfold Addr.add
      split <;> simp_all
    rw [hadd] at h1
    rw [h1]
    have hg : zs.getD i 0 = zs[i]'(by omega) := by simp [List.getD_eq_getElem?_getD, List.getElem?_eq_getElem (show i < zs.length by omega)]
    have hw := hwz (zs[i]'(by omega)) (List.getElem_mem _)
    have hb : 0 ≤ zs[i]'(by omega) ∧ zs[i]'(by omega) ≤ 255 := by simpa [Lit.wf, IntKind.min, IntKind.max, IntKind.signed, IntKind.bits] using hw
    simp only [List.getElem_map, List.getElem_take, byteV]
    rw [hg]
    congr 2
    simp
    omega
theorem open_bslice_l {H : Type} {P : Program} {enc : TypeId × Value → H} {w : World} {base : Nat} {spare : Nat → Bool} {held : Bool} {t e : TypeId} (ht : P.underlying t = some (.slice e)) (he : P.underlying e = some (.int .u8)) (hc : P.cellsOf e = 1)
    {fuel : Nat} {cs : List Value} {x : DataW H × List MemPlace} (hf : DataW.trod enc P w base spare held fuel t cs = some x) : ∃ (s : Sl) (l : List UInt8), cs = [s.v] ∧ BytesR w s l := by
  rcases open_ints ht he hc hf with ⟨hcs, _⟩ | ⟨a, len', cap', zs, hcs, _, hl, _, hz, _, hcell, hwz⟩
  · exact ⟨⟨none, 0, 0⟩, [], hcs, BytesR.nil _ _ _⟩
  · exact ⟨⟨some a, len', cap'⟩, _, hcs, bytes_of_ints hl (by rw [hz]; split <;> omega) hcell hwz⟩
theorem open_i64 {H : Type} {P : Program} {enc : TypeId × Value → H} {w : World} {base : Nat} {spare : Nat → Bool} {held : Bool} {t : TypeId} {fuel : Nat} {cs : List Value} {x : DataW H × List MemPlace} (ht : P.underlying t = some (.int .i64)) (h : DataW.trod enc P w base spare held fuel t cs = some x) : ∃ n : Int, cs = [.int .i64 n] := by
  obtain ⟨n, rfl, _, _⟩ := DataW.trod_int ht h
  exact ⟨n, rfl⟩

theorem vote_fields : (Try.prog.fieldsOf 61).toList.map (fun f => (f.name, f.type, f.offset)) = [("Validator", 3, 0), ("Source", 29, 1), ("Target", 29, 34), ("Sig", 35, 67)] := by kernel_rfl
theorem vote_under : Try.prog.underlying 61 = some (.struct (Try.prog.fieldsOf 61)) := by kernel_rfl
theorem int_cells : Try.prog.cellsOf 3 = 1 := by kernel_rfl
theorem bsl_cells : Try.prog.cellsOf 35 = 1 := by kernel_rfl
theorem vote_cells : Try.prog.cellsOf 61 = 68 := by kernel_rfl
theorem open_vote_l {H : Type} {enc : TypeId × Value → H} {w : World} {base : Nat} {spare : Nat → Bool} {held : Bool} {fuel : Nat} {cs : List Value} {x : DataW H × List MemPlace} (h : DataW.trod enc Try.prog w base spare held fuel 61 cs = some x) :
    ∃ (g : GVote) (v : Vote), cs = (voteA g).toList ∧ VoteR w g v := by
  obtain ⟨n, hl, hx⟩ := field_open vote_under vote_fields h
  obtain ⟨y0, h0⟩ := hx 0 _ _ _ rfl
  obtain ⟨y1, h1⟩ := hx 1 _ _ _ rfl
  obtain ⟨y2, h2⟩ := hx 2 _ _ _ rfl
  obtain ⟨y3, h3⟩ := hx 3 _ _ _ rfl
  rw [vote_cells] at hl
  rw [int_cells, List.drop_zero] at h0
  rw [point_cells] at h1 h2
  rw [bsl_cells, List.take_of_length_le (by rw [List.length_drop, hl]; decide)] at h3
  obtain ⟨k, c0⟩ := open_i64 Try.underlying3 h0
  obtain ⟨p, c1⟩ := open_point_l h1
  obtain ⟨q, c2⟩ := open_point_l h2
  obtain ⟨s, l, c3, hs⟩ := open_bslice_l Try.underlying35 Try.underlying5 u8_cells h3
  refine ⟨⟨k, p, q, s⟩, ⟨k, p, q, l⟩, ?_, rfl, rfl, rfl, hs⟩
  have e1 : cs = cs.take 1 ++ cs.drop 1 := (List.take_append_drop 1 cs).symm
  have e2 : cs.drop 1 = (cs.drop 1).take 33 ++ cs.drop 34 := by
    have := (List.take_append_drop 33 (cs.drop 1)).symm
    rwa [List.drop_drop] at this
  have e3 : cs.drop 34 = (cs.drop 34).take 33 ++ cs.drop 67 := by
    have := (List.take_append_drop 33 (cs.drop 34)).symm
    rwa [List.drop_drop] at this
  rw [e1, c0, e2, c1, e3, c2, c3]
  simp [voteA]
set_option maxRecDepth 100000 in
theorem open_vote {H : Type} {enc : TypeId × Value → H} {w : World} {base : Nat} {spare : Nat → Bool} {held : Bool} {r : Reach} {b0 : Nat} {v : Value} {d : DataW H} {p : List MemPlace} (hv : Value.okWide Try.prog w r b0 61 v) (h : DataW.Trod enc Try.prog w base spare held 61 v d p) :
    ∃ (g : GVote) (u : Vote), v = .agg (voteA g) ∧ VoteR w g u := by
  obtain ⟨cs, rfl, hsz⟩ := okWide_struct vote_under hv
  obtain ⟨fuel, hf⟩ := h
  obtain ⟨g, u, hp, hr⟩ := open_vote_l hf
  exact ⟨g, u, congrArg Value.agg (Array.ext' (by simpa [Value.cells] using hp)), hr⟩
end Go.Proofs.Ytbpbnnonialelaa
