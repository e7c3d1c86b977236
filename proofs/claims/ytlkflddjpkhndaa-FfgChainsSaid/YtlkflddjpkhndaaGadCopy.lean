/- Contracts: maps.Clone at maps of checkpoints; the gadget's Copy. -/
import Derived.Test.YtlkflddjpkhndaaGadAll
import Derived.Shelf.SlMaps.Clone
import Derived.Deep.QuietTactic
import Derived.Deep.RegionHeld3
namespace Go.Proofs.Ytlkflddjpkhndaa
open Go.RowKit

theorem assert_map (v : Value) (w : World) : (Instr.typeAssert (.iface 77 v) 77 77 false).run Try.prog w = .ok v w := run_typeAssert_map_sl w _ _ _ _ v Try.underlying77
set_option maxRecDepth 100000 in
theorem mclone_c {w : World} {b : Nat} {ks : List Pt} (h : MapPts w b ks) :
    Calls Try.prog 80 #[.map (some b)] w fun e w' => e = .returned (.map (some w.heap.size)) ∧ MapPts w' w.heap.size ks ∧ w.heap.size < w'.heap.size ∧ Below w.heap.size w w' := by
  obtain ⟨es, clock, hb, r1, r2, r3, r4⟩ := h
  have hq := fun w => run_eql_map_nil_sl (P := Try.prog) w 77 _ _ (some b) Try.underlying77
  have hnew : MapPts (w.alloc (.map es clock)) w.heap.size ks := ⟨es, clock, (MapKept.heap_alloc w _).1, r1, r2, r3, r4⟩
  go_enter Try.func80, Try.ntmps80
  go_wp2_with fail
  rw [run_callFunc_extern Try.func120 (by kernel_rfl) (by kernel_rfl) (by kernel_rfl) (e := Extern.MapsClone.clone) (by kernel_rfl), run_maps_clone_sl w _ hb]
  simp only [Result.andThen]
  rw [Oper.upon_value]
  go_wp2_with fail
  rw [run_typeAssert_map_sl _ _ _ _ _ _ Try.underlying77]
  simp only [Result.andThen]
  rw [Oper.upon_value]
  go_wp2_with fail
  go_ret
  exact ⟨rfl, hnew, by simp, bel_a w _⟩
set_option maxRecDepth 100000 in
set_option maxHeartbeats 4000000 in
theorem copy_c {w : World} {B r b1 b2 : Nat} {s : Sl} {ls : List Lnk} {js fs : List Pt} (h : Gad w B r b1 b2 s ls js fs) (hn : ls.length ≤ 100000) :
    Calls Try.prog 36 #[.pointer (some ⟨r, 0, none⟩)] w fun e w' => ∃ r' b1' b2' s', e = .returned (.pointer (some ⟨r', 0, none⟩)) ∧ Gad w' w.heap.size r' b1' b2' s' ls js fs ∧ Below w.heap.size w w' := by
  obtain ⟨c0, c1, c2, _⟩ := h.cells
  have HC := there_c c1
  have hlt := h.lt.1
  go_enter Try.func36, Try.ntmps36
  go_wp2_with fail
  refine HC.mono ?_
  rintro e w' ⟨rfl, hw⟩
  subst hw
  clear HC
  go_wp2_with fail
  have HG := h.drewN 1
  change Gad w'.drew _ _ _ _ _ _ _ _ at HG
  have HA := lclone_c HG.own hn
  clear h
  go_region_held3 (fun W => W.cell? ⟨r, 0, none⟩ = some s.v ∧ W.cell? ⟨r, 1, none⟩ = some (.map (some b1)) ∧ W.cell? ⟨r, 2, none⟩ = some (.map (some b2)))
    (first | go_keep | (with_reducible exact ⟨c0, c1, c2⟩) | (with_reducible exact ⟨d0, d1, d2⟩) | (with_reducible exact ⟨f0, f1, f2⟩) | (with_reducible exact ⟨g0, g1, g2⟩))
    (first
      | (go_simp; go_at_call 78; (with_reducible refine HA.mono ?_); rintro e w1 ⟨s1, rfl, ho1, hb1⟩; have HG1 := HG.keep hb1; obtain ⟨d0, d1, d2, _⟩ := HG1.cells)
      | (go_simp; go_at_call 80; (with_reducible refine (mclone_c HG1.j).mono ?_); rintro e w2 ⟨rfl, hm2, hz2, hb2⟩; have HG2 := HG1.keep hb2; obtain ⟨f0, f1, f2, _⟩ := HG2.cells)
      | (go_simp; go_at_call 80; (with_reducible refine (mclone_c HG2.f).mono ?_); rintro e w3 ⟨rfl, hm3, hz3, hb3⟩; have HG3 := HG2.keep hb3; obtain ⟨g0, g1, g2, _⟩ := HG3.cells))
  go_wp2_with fail
  go_ret
  have hz0 := hb1.size
  simp only [World.size_drew] at hz0 ho1
  have e2 := hb2
  have hz12 : w1.heap.size ≤ w2.heap.size := hb2.size
  have hz23 : w2.heap.size ≤ w3.heap.size := hb3.size
  have hA : Below w3.heap.size w3 (w3.alloc (.cells #[s1.v, .map (some w1.heap.size), .map (some w2.heap.size)] 79)) := bel_a w3 _
  have ho2 := (ho1.keep hb2).keep hb3
  have hm2' := hm2.keep hb3 hz2
  have hown := ho1.lt
  refine ⟨w3.heap.size, w1.heap.size, w2.heap.size, s1, rfl, ⟨heap_alloc_new w3 _, ho2.keep hA, hm2'.keep hA hm2'.lt, hm3.keep hA hm3.lt, by omega, by omega, by omega, fun g hg => ?_, by omega, by omega, by omega⟩, ?_⟩
  · have := hown g hg
    omega
  · have q1 : Below w'.heap.size w' w1 := undrew hb1
    exact ((q1.trans (hb2.mono hz0)).trans (hb3.mono (by omega))).trans (hA.mono (by omega))
end Go.Proofs.Ytlkflddjpkhndaa
