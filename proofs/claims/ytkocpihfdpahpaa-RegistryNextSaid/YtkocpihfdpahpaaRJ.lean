/- Texts of this proof, one behind the other: OpenU. -/
import Derived.Test.YtkocpihfdpahpaaRC
import Derived.Test.YtkocpihfdpahpaaRE
set_option linter.unusedVariables false
set_option linter.unusedSimpArgs false
/- Numbers, slices of numbers, and registers among the arguments, opened. -/
namespace Go.Proofs.Ytkocpihfdpahpaa
open Go.ChangeShapes Go.WideShapes Go.ChangeAt Go.RowKit

set_option maxRecDepth 100000 in
theorem open_u {H : Type} {enc : TypeId × Value → H} {w : World} {base : Nat} {spare : Nat → Bool} {held : Bool} {r : Reach} {b0 : Nat} {v : Value} {d : DataW H} {p : List MemPlace} (hv : Value.okWide Try.prog w r b0 22 v) (h : DataW.Trod enc Try.prog w base spare held 22 v d p) : ∃ n : UInt64, v = .int .u64 (n.toNat : Int) := by
  obtain ⟨x, rfl, rfl, rfl, wx⟩ := open_int Try.underlying22 hv h
  have bx : 0 ≤ x ∧ x ≤ 18446744073709551615 := by simpa [Lit.wf, IntKind.min, IntKind.max, IntKind.signed, IntKind.bits] using wx
  refine ⟨UInt64.ofNat x.toNat, ?_⟩
  have : (UInt64.ofNat x.toNat).toNat = x.toNat := by simp; omega
  rw [this, Int.toNat_of_nonneg bx.1]
theorem mbr_under : Try.prog.underlying 123 = some (.struct (Try.prog.fieldsOf 123)) := by kernel_rfl
theorem mbr_cellsOf : Try.prog.cellsOf 123 = 35 := by kernel_rfl
theorem st_cellsOf : Try.prog.cellsOf 121 = 1 := by kernel_rfl
theorem bool_cellsOf : Try.prog.cellsOf 4 = 1 := by kernel_rfl
theorem mbrs_cellsOf : Try.prog.cellsOf 101 = 1 := by kernel_rfl
theorem ints_cellsOf : Try.prog.cellsOf 58 = 1 := by kernel_rfl
theorem reg_fields : (Try.prog.fieldsOf 103).toList.map (fun f => (f.name, f.type, f.offset)) = [("Members", 101, 0), ("Coming", 58, 1), ("Going", 58, 2), ("Churn", 22, 3)] := by kernel_rfl
theorem reg_under : Try.prog.underlying 103 = some (.struct (Try.prog.fieldsOf 103)) := by kernel_rfl
theorem reg_cellsOf : Try.prog.cellsOf 103 = 4 := by kernel_rfl
section
variable {H : Type} {enc : TypeId × Value → H} {w : World} {base : Nat} {spare : Nat → Bool} {held : Bool} {fuel : Nat} {cs : List Value} {x : DataW H × List MemPlace}
theorem open_mbr_l (h : DataW.trod enc Try.prog w base spare held fuel 123 cs = some x) : ∃ m : Mbr, cs = (mbrA m).toList := by
  obtain ⟨n, hl, hx⟩ := field_open mbr_under mbr_fields h
  obtain ⟨y0, h0⟩ := hx 0 _ _ _ rfl
  obtain ⟨y1, h1⟩ := hx 1 _ _ _ rfl
  obtain ⟨y2, h2⟩ := hx 2 _ _ _ rfl
  obtain ⟨y3, h3⟩ := hx 3 _ _ _ rfl
  rw [mbr_cellsOf] at hl
  rw [hash_cells, List.drop_zero] at h0
  rw [u64_cells] at h1
  rw [st_cellsOf] at h2
  rw [bool_cellsOf, List.take_of_length_le (by rw [List.length_drop, hl]; decide)] at h3
  obtain ⟨key, c0⟩ := open_hash Try.underlying24 Try.underlying5 u8_cells hash_cells h0
  obtain ⟨st, c1⟩ := open_u64 Try.underlying22 h1
  obtain ⟨s, c2⟩ := open_i64 Try.underlying121 h2
  obtain ⟨b, c3, _⟩ := DataW.trod_bool Try.underlying4 h3
  refine ⟨⟨key, st, s, b⟩, ?_⟩
  have e1 : cs = cs.take 32 ++ cs.drop 32 := (List.take_append_drop 32 cs).symm
  rw [e1, c0, drop_cut cs 32 1 33 rfl, c1, drop_cut cs 33 1 34 rfl, c2, c3]
  simp [mbrA]
theorem open_mbrs_l (h : DataW.trod enc Try.prog w base spare held fuel 101 cs = some x) : ∃ (s : Sl) (l : List Mbr), cs = [s.v] ∧ MbrsR w s l :=
  open_rows (R := fun cs m => cs = mbrA m) Try.underlying101 mbr_cellsOf (by decide) (fun fuel cs x h => by
    obtain ⟨m, hc⟩ := open_mbr_l h
    exact ⟨m, by rw [hc]⟩) h
theorem open_ints_l (h : DataW.trod enc Try.prog w base spare held fuel 58 cs = some x) : ∃ (s : Sl) (l : List Int), cs = [s.v] ∧ NumsR w s l :=
  open_rows (R := fun cs n => cs = intA n) Try.underlying58 int_cells (by decide) (fun fuel cs x h => by
    obtain ⟨n, hc⟩ := open_i64 Try.underlying3 h
    exact ⟨n, by rw [hc]; rfl⟩) h
theorem open_reg_l (h : DataW.trod enc Try.prog w base spare held fuel 103 cs = some x) : ∃ (g : GReg) (r : Reg), cs = (regA g).toList ∧ RegR w g r := by
  obtain ⟨n, hl, hx⟩ := field_open reg_under reg_fields h
  obtain ⟨y0, h0⟩ := hx 0 _ _ _ rfl
  obtain ⟨y1, h1⟩ := hx 1 _ _ _ rfl
  obtain ⟨y2, h2⟩ := hx 2 _ _ _ rfl
  obtain ⟨y3, h3⟩ := hx 3 _ _ _ rfl
  rw [reg_cellsOf] at hl
  rw [mbrs_cellsOf, List.drop_zero] at h0
  rw [ints_cellsOf] at h1 h2
  rw [u64_cells, List.take_of_length_le (by rw [List.length_drop, hl]; decide)] at h3
  obtain ⟨s0, l0, c0, r0⟩ := open_mbrs_l h0
  obtain ⟨s1, l1, c1, r1⟩ := open_ints_l h1
  obtain ⟨s2, l2, c2, r2⟩ := open_ints_l h2
  obtain ⟨ch, c3⟩ := open_u64 Try.underlying22 h3
  refine ⟨⟨s0, s1, s2, ch⟩, ⟨l0, l1, l2, ch⟩, ?_, r0, r1, r2, rfl⟩
  have e1 : cs = cs.take 1 ++ cs.drop 1 := (List.take_append_drop 1 cs).symm
  rw [e1, c0, drop_cut cs 1 1 2 rfl, c1, drop_cut cs 2 1 3 rfl, c2, c3]
  simp [regA]
end
set_option maxRecDepth 100000 in
theorem open_reg {H : Type} {enc : TypeId × Value → H} {w : World} {base : Nat} {spare : Nat → Bool} {held : Bool} {r : Reach} {b0 : Nat} {v : Value} {d : DataW H} {p : List MemPlace} (hv : Value.okWide Try.prog w r b0 103 v) (h : DataW.Trod enc Try.prog w base spare held 103 v d p) :
    ∃ (g : GReg) (a : Reg), v = .agg (regA g) ∧ RegR w g a := by
  obtain ⟨cs, rfl, hsz⟩ := okWide_struct reg_under hv
  obtain ⟨fuel, hf⟩ := h
  obtain ⟨g, u, hp, hr⟩ := open_reg_l hf
  exact ⟨g, u, congrArg Value.agg (Array.ext' (by simpa [Value.cells] using hp)), hr⟩
end Go.Proofs.Ytkocpihfdpahpaa
