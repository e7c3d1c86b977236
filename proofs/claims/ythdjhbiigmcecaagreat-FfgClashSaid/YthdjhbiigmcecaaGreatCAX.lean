/- Texts of this proof, one behind the other: ChnN, ChnL, ShaF, ShaN, KnP10, Kn10. -/
import Derived.Test.YthdjhbiigmcecaaGreatCAO
import Derived.Test.YthdjhbiigmcecaaGreatCAW
import Derived.Test.YthdjhbiigmcecaaGreatCAV
import Derived.Test.YthdjhbiigmcecaaGreatShelf
import Derived.Deep.CutRange
import Derived.Test.YthdjhbiigmcecaaGreatCAB
import Derived.Test.YthdjhbiigmcecaaGreatCAL
set_option linter.unusedVariables false
set_option linter.unusedSimpArgs false
/- A chain, asked for a name that it has not: Path, Parent, Header, Children. -/
namespace Go.Proofs.YthdjhbiigmcecaaGreat
open Go.RowKit

section
variable {W : World} {cb ab ac mb : Nat} {G : List GB} {C : List Blk}
end
section
variable {B : Nat} {T : Nat → Nat} {W : World} {cb : Nat} {C : List Blk} (h : ChR B T W cb C) (hok : ChnOk C)
include h hok
theorem ChR.knows_c (p : Pt) : Calls Tryz.prog 24 #[ptrV cb, .agg (pointA p)] W fun e w' => e = .returned (.bool (chKnows C p)) ∧ Below W.heap.size W w' := by
 obtain ⟨sA, mb, G, hM⟩ := h
 obtain ⟨ab, -, -, hv⟩ := hM.view hok.pos
 exact chknows_c hv hok.pos p
end
end Go.Proofs.YthdjhbiigmcecaaGreat

/- (*Chain).Path: the checkpoints from the anchor on. -/
namespace Go.Proofs.YthdjhbiigmcecaaGreat
open Go.RowKit

abbrev PtsR (w : World) (s : Sl) (l : List Pt) : Prop := SlR 33 (fun cs p => cs = pointA p) w s l
theorem PtsR.keep' {w w' : World} {s : Sl} {l : List Pt} (h : PtsR w s l) (hb : Below w.heap.size w w') : PtsR w' s l := SlR.keep h hb fun _ _ h => h
abbrev OwnPt (w : World) (E : Nat) (v : Value) (l : List Pt) : Prop := OwnC w E 33 v l.length (flatC pointA l)
theorem ptA_size (p : Pt) : (pointA p).size = 33 := by simp
theorem ptA_one (x : Pt) : ∀ u ∈ (pointA x).toList, u.oneCell' = true := by
 have h := onePoint x
 intro u hu
 rw [Array.all_eq_true_iff_forall_mem] at h
 exact h u (Array.mem_toList_iff.1 hu)
theorem info_ptl : (Tryz.prog.info? 26).map (fun i => (i.zero, i.size, i.bytes)) = some (some (.agg (pointA zeroPt)), 33, 40) := by kernel_rfl
def bsPt (parts : Array (Nat × Value)) : Sem Value := Instr.buildSlice 49 1 parts
theorem fold_bsPt (parts : Array (Nat × Value)) : Instr.buildSlice 49 1 parts = bsPt parts := rfl
theorem bsPt_one (p : Pt) (w : World) : (bsPt #[(0, .agg (pointA p))]).run Tryz.prog w = .ok (.slice (some ⟨w.heap.size, 0, none⟩) 1 1) (w.alloc (.cells (pointA p) 26)) := by
 obtain ⟨i0, hi, hy0, hy1, hy2⟩ := info_parts info_ptl
 exact run_buildSlice_one (P := Tryz.prog) w (t := 49) (e := 26) (xs := pointA p) Tryz.underlying49 hi hy0 hy1 (by simp [Value.cells]) (by omega) (by omega) (by simp)
def appPt (args : Array Value) : Sem Value := Builtin.append_ #[49, 49] 49 args
theorem fold_appPt (args : Array Value) : Builtin.append_ #[49, 49] 49 args = appPt args := rfl
/-- one more, made on the spot -/
theorem run_appPt {W : World} {B : Nat} {s : Sl} {l : List Pt} (h : OwnPt W B s.v l) (hB : B ≤ W.heap.size) (hl : l.length ≤ 1000000) (x : Pt) : ∃ (s' : Sl) (W' : World), (appPt #[s.v, .slice (some ⟨W.heap.size, 0, none⟩) 1 1]).run Tryz.prog (W.alloc (.cells (pointA x) 26)) = .ok s'.v W' ∧ OwnPt W' B s'.v (l ++ [x]) ∧
  Below B W W' := by
 obtain ⟨i0, hi, hy0, hy1, hy2⟩ := info_parts info_ptl
 obtain ⟨s', W', h1, h2, h3, -⟩ := run_append_one pointA ptA_size (P := Tryz.prog) (W.alloc (.cells (pointA x) 26)) 49 ptA_one B 26 i0 _ 40 Tryz.underlying49 hi hy0 hy1 hy2 (by simp [Value.cells]) s.v l (h.keep (bel_a _ _)) W.heap.size 1 x (heap_alloc_new W _) hl (by omega) (by simp; omega)
 exact ⟨s', W', h1, h2, bel_grown h3 ((bel_a W _).mono hB) (by simp; omega) fun k hk => (OwnC.lt h k hk).1⟩
/-! slices.Reverse -/
def encPt (p : Pt) : List Value := (pointA p).toList
instance : Inhabited Pt := ⟨zeroPt⟩
theorem encPt_length (p : Pt) : (encPt p).length = 33 := by simp [encPt]
theorem flatPt_get (d : List Pt) (t : Nat) (h : t < d.length * 33) : (Go.Sort.flatK encPt 33 d.toArray)[t]? = (flatC pointA d)[t]? := by
 have h1 : t / 33 < d.length := by omega
 have h2 := flatC_get pointA ptA_size d (t / 33) (t % 33) h1 (by omega)
 rw [show t / 33 * 33 + t % 33 = t by omega] at h2
 rw [h2]
 have hs : t < (Go.Sort.flatK encPt 33 d.toArray).size := by simpa using h
 have h3 := Go.Sort.get_flatK encPt 33 d.toArray t (by simpa using h)
 have h5 : t % 33 < (pointA d[t / 33]).size := by simp; omega
 rw [Array.getElem!_eq_getD, Array.getD_eq_getD_getElem?, Array.getElem?_eq_getElem hs, Option.getD_some] at h3
 rw [Array.getElem?_eq_getElem hs, h3, Array.getElem?_eq_getElem h5]
 simp [encPt, h1]
 rw [Array.getElem?_eq_getElem h5, Option.getD_some]
theorem holds_pts {w : World} {B g n c : Nat} {d : List Pt} (h : OwnC w B 33 (.slice (some ⟨g, 0, none⟩) n c) d.length (flatC pointA d)) : Go.Sort.HoldsK encPt 33 w g 0 d.toArray := by
 rcases h.2 with ⟨e, _⟩ | ⟨g', cap, e, h1, h2, h3, h4, h5, h6, h7⟩
 ·cases e
 ·cases e
  intro t ht
  have ht' : t < d.length * 33 := by simpa using ht
  have hc : t < c * 33 := by omega
  rw [Nat.zero_add]
  refine ⟨h7 t _ ?_, h6 t hc⟩
  rw [← flatPt_get d t ht', Array.getElem!_eq_getD, Array.getD_eq_getD_getElem?, Array.getElem?_eq_getElem ht]
  rfl
theorem pts_of_holds {w : World} {g n c : Nat} {d : List Pt} (hn : n = d.length) (hc : n ≤ c) (h : Go.Sort.HoldsK encPt 33 w g 0 d.toArray) : PtsR w ⟨some ⟨g, 0, none⟩, n, c⟩ d := by
 refine ⟨hn, hc, fun _ => ⟨g, 0, rfl, fun i hi => ⟨_, row?_of_cells (by simp) (by decide) fun j hj => ?_, rfl⟩⟩⟩
 simp at hj
 have := (h.cell (i := i) (c := j) (by simpa using hi) hj).1
 rw [show 0 + i * 33 + j = 0 + i * 33 + j from rfl] at this
 rw [this]
 have hj' : j < (pointA d[i]).size := by simp; omega
 simp [encPt, hi]
 rw [Array.getElem?_eq_getElem hj', Option.getD_some]
attribute [local go_sem ↓] fold_bsPt fold_appPt
end Go.Proofs.YthdjhbiigmcecaaGreat

/- SHA-256 in lanes: names of headers without operations, many at once, by great numbers that the kernel reckons with. -/
namespace Go.Proofs.YthdjhbiigmcecaaGreat

/-! what the kernel reckons -/
/-- a number, reckoned now -/
@[reducible] def sq {α : Type} (x : Nat) (k : Nat → α) : α := bif Nat.beq x 0 then k 0 else k x
/-! a header without operations -/
end Go.Proofs.YthdjhbiigmcecaaGreat

/- Names of headers without operations: by words, and in lanes. -/
namespace Go.Proofs.YthdjhbiigmcecaaGreat

end Go.Proofs.YthdjhbiigmcecaaGreat

/- The names of landmarklaw10.known, reckoned. -/
namespace Go.Proofs.YthdjhbiigmcecaaGreat

def nm1H : Hash := ⟨1 :: List.replicate 31 0, by simp⟩
/-- the two headers -/
def hd1 : Hdr := ⟨nm1H, 7, []⟩
def hd2 : Hdr := ⟨hdName hd1, 9, []⟩
/-! the chain of both -/
end Go.Proofs.YthdjhbiigmcecaaGreat

/- Contract: landmarklaw10.known. -/
namespace Go.Proofs.YthdjhbiigmcecaaGreat
open Go.RowKit

def bldNm (parts : Array (Nat × Value)) : Sem Value := Instr.build 24 parts
theorem fold_bldNm (parts : Array (Nat × Value)) : Instr.build 24 parts = bldNm parts := rfl
def bldPt (parts : Array (Nat × Value)) : Sem Value := Instr.build 26 parts
theorem fold_bldPt (parts : Array (Nat × Value)) : Instr.build 26 parts = bldPt parts := rfl
def bldHd (parts : Array (Nat × Value)) : Sem Value := Instr.build 39 parts
theorem fold_bldHd (parts : Array (Nat × Value)) : Instr.build 39 parts = bldHd parts := rfl
attribute [local go_sem ↓] fold_bldNm fold_bldPt fold_bldHd
end Go.Proofs.YthdjhbiigmcecaaGreat
