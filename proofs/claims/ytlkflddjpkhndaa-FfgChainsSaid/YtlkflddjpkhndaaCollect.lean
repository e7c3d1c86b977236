/- slices.AppendSeq, slices.Collect at checkpoints, against whatever iterator. -/
import Derived.Test.YtlkflddjpkhndaaKeys
import Derived.Test.YtlkflddjpkhndaaStores
namespace Go.Proofs.Ytlkflddjpkhndaa
open Go.RowKit Go.Maps Go.MapKept Go.Shelf
attribute [local go_sem] Oper.semAt_some

/-- the checkpoints' cells, one behind the other -/
def ptCells (ps : List Pt) : List Value := (ps.map fun p => (pointA p).toList).flatten
theorem ptCells_cons (p : Pt) (ps : List Pt) : ptCells (p :: ps) = (pointA p).toList ++ ptCells ps := by simp [ptCells]
theorem ptCells_append (ps qs : List Pt) : ptCells (ps ++ qs) = ptCells ps ++ ptCells qs := by simp [ptCells]
theorem ptCells_one (p : Pt) : ptCells [p] = (pointA p).toList := by simp [ptCells]
theorem ptCells_length (ps : List Pt) : (ptCells ps).length = ps.length * 33 := by
  induction ps with
  | nil => rfl
  | cons g gs ih =>
    rw [ptCells_cons, List.length_append, ih]
    simp
    omega
theorem ptCells_get : ∀ (ps : List Pt) (i r : Nat) (hi : i < ps.length), r < 33 → (ptCells ps)[i * 33 + r]? = (pointA ps[i])[r]?
  | [], i, r, hi, _ => absurd hi (by simp)
  | g :: gs, 0, r, _, hr => by
    rw [ptCells_cons, List.getElem?_append_left (by simp; omega)]
    simp
  | g :: gs, i + 1, r, hi, hr => by
    have := ptCells_get gs i r (by simpa using hi) hr
    rw [ptCells_cons, List.getElem?_append_right (by simp; omega)]
    simp only [List.getElem_cons_succ]
    rw [← this]
    congr 1
    simp
    omega
theorem pointA_one (p : Pt) : ∀ u ∈ (pointA p).toList, u.oneCell' = true := by
  intro u hu
  simp only [pointA, hashA, Array.toList_append, List.mem_append, List.mem_cons, List.not_mem_nil, or_false, List.mem_map] at hu
  rcases hu with rfl | ⟨x, _, rfl⟩ <;> rfl

theorem fold_all (A B : Array Value) (n : Nat) (hn : B.size = n) (h : A.size = n) : Array.foldl (fun cs (x : Value × Nat) => cs.setIfInBounds x.2 x.1) A B.zipIdx 0 n = B := by
  have := fold_splice A B 0 n hn (by omega)
  simp only [Nat.zero_add] at this
  rw [this]
  exact splice_all A B (by omega)
attribute [go_sem] fold_all

/-- a checkpoint in a row of its own -/
def PtBox (W : World) (B : Nat) (p : Pt) : Prop := row? W B 0 33 = some (pointA p)
theorem PtBox.own {X Y : World} {row : Option Nat} {B : Nat} {p : Pt} (h : PtBox X B p) (hg : X.grownBy Y row) (hr : ∀ r, row = some r → ∃ o : Obj, X.heap[r]? = some o ∧ o.isCells = false) : PtBox Y B p := by
  obtain ⟨cs, t, fr, hb, _⟩ := row?_some h
  have hlt := (Array.getElem?_eq_some_iff.1 hb).1
  have hne : some B ≠ row := fun e => by
    obtain ⟨o, ho, hc⟩ := hr B e.symm
    rw [hb] at ho
    cases ho
    cases hc
  unfold PtBox row?
  rw [hg.block B hlt hne]
  exact h
theorem info_pt : (Try.prog.info? 26).map (fun i => (i.zero, i.size, i.bytes)) = some (some (.agg (pointA zeroPt)), 33, 40) := by kernel_rfl
theorem cell_pt_new (w : World) (p : Pt) (t : TypeId) : ∀ j u, (ptCells [p])[j]? = some u → (w.alloc (.cells (pointA p) t)).cell? ((⟨w.heap.size, 0, none⟩ : Addr).add j) = some u := by
  intro j u hj
  rw [ptCells_one] at hj
  have hadd : (⟨w.heap.size, 0, none⟩ : Addr).add j = ⟨w.heap.size, j, none⟩ := by unfold Addr.add; split <;> simp_all
  rw [hadd, cell_alloc, if_pos rfl]
  simpa using hj

theorem grown_box (w : World) (p : Pt) : w.grownBy (putRow (w.alloc (.cells (pointA zeroPt) 26)) w.heap.size 0 (pointA p)) none := by
  refine ⟨?_, ?_, ?_, ?_, fun k hk _ => ?_⟩
  · exact (setCells_misc _ _ _ _).1
  · exact (setCells_misc _ _ _ _).2.1
  · exact (setCells_misc _ _ _ _).2.2
  · rw [size_put]; simp
  · exact (setCells_far _ _ _ _ k (Nat.ne_of_lt hk)).trans (Below.heap_alloc _ _ k hk)
set_option maxRecDepth 100000 in
set_option maxHeartbeats 2000000 in
theorem appendSeq_in (F : Fence) (n : Nat) (hF : F.fn 158) (hro : F.round = none) (hn : 2 ≤ n) (g : Nat) (lb : Array Value) (hFg : F.fn g) (eg : ∀ args w, (callFunc g args).run Try.prog w = .ok (.enter g args) w)
    (S : List Pt → Prop) (N : Nat) (hN : N ≤ maxLen) (hNb : N * 40 ≤ 140737488355328) (w : World) (hseq : SeqStopsK F (n - 1) Try.prog g lb (fun p : Pt => #[ptV p]) KeepsWalks S (fun _ => True) N w) :
    CallsIn F n Try.prog 158 #[.slice none 0 0, .func (.func g) #[] lb] w fun e w' => ∃ (v : Value) (ss : List Pt), e = .returned v ∧ S ss ∧ w'.ownsRow w.heap.size 26 33 v ss.length (ptCells ss) ∧ Below w.heap.size w w' := by
  have h1 : 1 ≤ n := by omega
  obtain ⟨i0, hi, hz0, hz1, hz2⟩ := info_parts info_pt
  refine callsIn_of_wp_marks Try.func158 rfl hF ?_ hro
  simp only [Try.ntmps158, List.size_toArray, List.length_cons, List.length_nil, Nat.reduceAdd, Nat.reduceSub, Array.replicate_succ, Array.replicate_zero, List.push_toArray, List.append_toArray, List.nil_append, List.cons_append]
  gi_wp2
  have bO := Boxed.new w 49 (.slice none 0 0)
  have hB0 : Below w.heap.size w (w.alloc (.cells #[.slice none 0 0] 49)) := (Below.refl _ w).alloc (Nat.le_refl _) _
  have hseq' : SeqStopsK F (n - 1) Try.prog g lb (fun p : Pt => #[ptV p]) KeepsWalks S (fun _ => True) N (w.alloc (.cells #[.slice none 0 0] 49)) :=
    fun l J Jx W hW => hseq l J Jx W (hB0.trans (hW.mono (by simp)))
  have hown0 : Go.Own (fun (pre : List Pt) (W : World) => ∃ v, Boxed W w.heap.size 49 v ∧ W.ownsRow w.heap.size 26 33 v pre.length (ptCells pre) ∧ True) :=
    holdsRow_own (β := List Pt) w.heap.size w.heap.size 49 26 33 (fun pre => pre.length) (fun pre => ptCells pre) (fun _ _ => True)
  refine wpIn_rangeFunc_ownH hro h1 (gf := g) (lb := lb) rfl hFg eg (w0 := w.alloc (.cells #[.slice none 0 0] 49)) hseq' walksK_t walksK_b (Below.refl _ _) (fun _ => rfl)
    (fun pre W => (∃ v, Boxed W w.heap.size 49 v ∧ W.ownsRow w.heap.size 26 33 v pre.length (ptCells pre) ∧ True) ∧ Below w.heap.size w W)
    (fun _ _ _ => False)
    (OwnFrom.and (Go.Own.from hown0 _) (ownFrom_below (Nat.le_refl _) (by simp)))
    (fun _ _ _ _ _ hs _ _ => hs)
    ⟨⟨_, bO, World.ownsRow_nil _ _ _ _, trivial⟩, hB0⟩
    (fun x a' W => ∃ Bx, w.heap.size < Bx ∧ PtBox W Bx x ∧ a' = { tmps := #[.slice none 0 0, .func (.func g) #[] lb, .pointer (some ⟨w.heap.size, 0, none⟩), undef, .slice none 0 0, .pointer (some ⟨Bx, 0, none⟩), .func (.func g) #[] lb, ptV x, undef, undef, undef, undef, undef], defers := [] })
    (fun x a' _ X Y row hs hg hr => by obtain ⟨Bx, h1, h2, h3⟩ := hs; exact ⟨Bx, h1, h2.own hg (fun r e => (hr r e).2), h3⟩)
    ?assign ?body ?done ?stop
  case assign =>
    rintro l pre x W K ⟨⟨v, hv, hrow, _⟩, hB⟩ hK
    have hg := grown_box W x
    have hbx : PtBox (putRow (W.alloc (.cells (pointA zeroPt) 26)) W.heap.size 0 (pointA x)) W.heap.size x := by
      unfold PtBox
      go_simp
    unfold ptV
    gi_wp2
    generalize putRow (W.alloc (Obj.cells (pointA zeroPt) 26)) W.heap.size 0 (pointA x) = X at *
    have hko : KeepsOthers W X := KeepsOthers.of_grownBy hg (fun j o e => by cases e)
    exact hK _ _ (hko.from _) hko.walks ⟨⟨v, hv.kept hg (by simp), hrow.kept hg (Decidable.em (v.ownBlock = none)), trivial⟩, hB.grown hg hB.size (fun k e => by cases e)⟩ ⟨W.heap.size, hv.lt, hbx, rfl⟩
  case body =>
    rintro l pre x a' W hl ⟨r, hr⟩ ⟨⟨v, hv, hrow, _⟩, hB⟩ ⟨Bx, hBx, bX, rfl⟩ hlt
    have hc := hv.cell
    have hf := hv.frozen
    unfold PtBox at bX
    have hpl : pre.length + 1 ≤ N := hlt
    unfold ptV
    gi_wp2_with (gi_at_builtin; refine wpListIn_append_own _ rfl _ _ 49 rfl w.heap.size 26 i0 (.agg (pointA zeroPt)) 33 40 Try.underlying49 hi hz0 hz1 hz2 (by simp [Value.cells]) (by decide) _ _ _ rfl (hrow.alloc _) ⟨W.heap.size, 0, none⟩ 1 1 (ptCells [x]) rfl (by rw [ptCells_length]; rfl) (cell_pt_new _ _ _) (by rw [ptCells_one]; exact pointA_one x) (by omega) (by omega) (by have := hB.size; simp; omega) ?_; intro v' w1 hown' hgrow _; obtain ⟨g', cap', rfl⟩ := ownsRow_succ hown'; obtain ⟨hv1, hv2, hr2, hk2, hb2⟩ := hv.appended (by decide) hrow hB.size (Nat.le_refl _) hown' hgrow; have hc1 := hv1.cell; have hf1 := hv1.frozen)
    exact ⟨hk2.from _, hk2.walks, ⟨⟨_, hv2, by rw [ptCells_append, List.length_append]; exact hr2, trivial⟩, hB.trans hb2⟩⟩
  case done =>
    rintro D0 D W hD hS ⟨⟨v, hv, hrow, _⟩, hB⟩ hK
    have hc := hv.cell
    gi_wp2
    refine ⟨by simp, .inl ⟨_, _, rfl, run_takeDeferred hK, ?_⟩⟩
    exact ⟨_, results_tmp rfl _ _ _, v, D, rfl, hS, ownsRow_putObj hrow _ hK rfl, hB.trans (belowK_b (w := w) (Nat.le_refl _) W _ _ _ (by simp at hD; omega) hK rfl rfl)⟩
  case stop =>
    rintro D c pre W _ _ h _
    exact h.elim
end Go.Proofs.Ytlkflddjpkhndaa
