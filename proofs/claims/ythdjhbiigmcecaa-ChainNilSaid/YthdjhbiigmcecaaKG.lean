/- Texts of this proof, one behind the other: TenE, TenF, TenG, TenH, TenI, TenJ, TenK, TenL, TenM, Much, Acts. -/
import Derived.Test.YthdjhbiigmcecaaKD
import Derived.Test.YthdjhbiigmcecaaKF
import Derived.Test.YthdjhbiigmcecaaQE
import Derived.Test.YthdjhbiigmcecaaKA
import Derived.Test.YthdjhbiigmcecaaRB
import Derived.BigQuiet
import Derived.Deep.CutRange
import Derived.Test.YthdjhbiigmcecaaKB
import Derived.Test.YthdjhbiigmcecaaQB
import Derived.Test.YthdjhbiigmcecaaQA
set_option linter.unusedVariables false
set_option linter.unusedSimpArgs false
/- Contracts: landmarkref03.Sum, landmarkref10.Name. -/
namespace Go.Proofs.Ythdjhbiigmcecaa
open Go.RowKit

attribute [local go_sem] load_bg store_bg
attribute [local go_sem ↓] load_bg_s store_bg_s zero_bg
end Go.Proofs.Ythdjhbiigmcecaa

/- Contracts: landmarkref10's MayPoint, MayVote, MayOp, MayHeader. -/
namespace Go.Proofs.Ythdjhbiigmcecaa
open Go.RowKit

end Go.Proofs.Ythdjhbiigmcecaa

/- The document's chain in memory; landmarkref10.(*Chain).At. -/
namespace Go.Proofs.Ythdjhbiigmcecaa
open Go.RowKit

def parI : Option Nat → Int
  | none => -1
  | some j => (j : Int)
/-- a block of the document's -/
def rblkA (p : Pt) (g : GHeader) (o : Option Nat) : Array Value := pointA p ++ headerA g ++ #[.int .i64 (parI o)]
theorem rblkA_size (p : Pt) (g : GHeader) (o : Option Nat) : (rblkA p g o).size = 68 := by simp [rblkA]
theorem rblkA_point (p : Pt) (g : GHeader) (o : Option Nat) : (rblkA p g o).extract 0 33 = pointA p := by
  unfold rblkA
  rw [Array.append_assoc, Array.extract_append]
  simp [ext_self]
theorem rblkA_par (p : Pt) (g : GHeader) (o : Option Nat) : (rblkA p g o)[67]? = some (.int .i64 (parI o)) := by
  unfold rblkA
  rw [Array.getElem?_append_right (by simp)]
  simp
/-- the chain in memory: the box at cb, its rows from the head of block rb on; its headers lie in memory that was there in w0 -/
structure RefC (w0 W : World) (cb rb cap : Nat) (G : List GHeader) (C : List Blk) : Prop where
  bel : Below w0.heap.size w0 W
  cbl : w0.heap.size ≤ cb
  rbl : w0.heap.size ≤ rb
  ne : cb ≠ rb
  ob : W.heap[cb]? = some (.cells #[.slice (some ⟨rb, 0, none⟩) C.length cap] 69 (0, 0))
  lt : rb < W.heap.size
  cap : C.length ≤ cap
  len : G.length = C.length
  row : ∀ i x b, G[i]? = some x → C[i]? = some b → row? W rb (i * 68) 68 = some (rblkA b.p x b.par) ∧ HdrR w0 x b.h
section
variable {w0 W W' : World} {cb rb cap : Nat} {G : List GHeader} {C : List Blk}
theorem RefC.off (h : RefC w0 W cb rb cap G C) {M : Nat → Prop} (hb : Asd M W W') (hM : ∀ k, M k → w0.heap.size ≤ k) (h1 : ¬ M cb) (h2 : ¬ M rb) : RefC w0 W' cb rb cap G C := by
  have hc : cb < W.heap.size := (Array.getElem?_eq_some_iff.1 h.ob).1
  have hz := h.bel.size
  exact ⟨h.bel.trans (hb.below hz fun k _ hk => hM k hk), h.cbl, h.rbl, h.ne, (hb.block cb hc h1).trans h.ob, Nat.lt_of_lt_of_le h.lt hb.size, h.cap, h.len, fun i x b q1 q2 => ⟨hb.row h2 (h.row i x b q1 q2).1, (h.row i x b q1 q2).2⟩⟩
theorem RefC.keep (h : RefC w0 W cb rb cap G C) (hb : Below W.heap.size W W') : RefC w0 W' cb rb cap G C := by
  refine h.off (M := fun _ => False) (below_fresh hb _) (fun _ q => q.elim) (fun q => q) (fun q => q)
theorem RefC.cbW (h : RefC w0 W cb rb cap G C) : cb < W.heap.size := (Array.getElem?_eq_some_iff.1 h.ob).1
theorem RefC.c0 (h : RefC w0 W cb rb cap G C) : W.cell? ⟨cb, 0, none⟩ = some (.slice (some ⟨rb, 0, none⟩) C.length cap) := by
  rw [cell_of_row W cb 0 _ _ _ h.ob]
  rfl
theorem RefC.at (h : RefC w0 W cb rb cap G C) {i : Nat} (hi : i < C.length) : ∃ x, G[i]? = some x ∧ row? W rb (i * 68) 68 = some (rblkA C[i].p x C[i].par) ∧ HdrR w0 x C[i].h := by
  have hg : i < G.length := by rw [h.len]; exact hi
  obtain ⟨q1, q2⟩ := h.row i G[i] C[i] (List.getElem?_eq_getElem hg) (List.getElem?_eq_getElem hi)
  exact ⟨G[i], List.getElem?_eq_getElem hg, q1, q2⟩
end
theorem rblk_cells {W : World} {b o : Nat} {p : Pt} {g : GHeader} {q : Option Nat} (h : row? W b o 68 = some (rblkA p g q)) :
    row? W b o 33 = some (pointA p) ∧ row? W b (o + 1) 32 = some (hashA p.name) ∧ W.cell? ⟨b, o, none⟩ = some (.int .u64 (p.epoch.toNat : Int)) ∧ W.cell? ⟨b, o + 67, none⟩ = some (.int .i64 (parI q)) := by
  have h1 := row_part h 0 33 (by omega)
  rw [Nat.add_zero] at h1
  have e1 : (rblkA p g q).extract 0 33 = pointA p := rblkA_point p g q
  simp only [Nat.zero_add, e1] at h1
  have h2 := row_part h1 1 32 (by omega)
  have h3 := cell_of_row? h1 0 (by omega)
  have h4 := cell_of_row? h 67 (by omega)
  rw [rblkA_par] at h4
  refine ⟨h1, ?_, ?_, h4⟩
  · simpa using h2
  · simpa using h3
end Go.Proofs.Ythdjhbiigmcecaa

/- landmarkref10.New. -/
namespace Go.Proofs.Ythdjhbiigmcecaa
open Go.RowKit

attribute [simp] rblkA_size
def bldR (parts : Array (Nat × Value)) : Sem Value := Instr.build 71 parts
theorem fold_bldR (parts : Array (Nat × Value)) : Instr.build 71 parts = bldR parts := rfl
theorem info_rblk : (Try.prog.info? 71).map (fun i => (i.zero, i.size, i.bytes)) = some (some (.agg (rblkA zeroPt zeroG3 (some 0))), 68, 112) := by kernel_rfl
def bsR (parts : Array (Nat × Value)) : Sem Value := Instr.buildSlice 67 1 parts
theorem fold_bsR (parts : Array (Nat × Value)) : Instr.buildSlice 67 1 parts = bsR parts := rfl
attribute [local go_sem ↓] fold_bldR fold_bsR
end Go.Proofs.Ythdjhbiigmcecaa

/- landmarkref10.(*Chain).Check. -/
namespace Go.Proofs.Ythdjhbiigmcecaa
open Go.RowKit

/-- a point is made and stored into a box of its own -/
def HPt (W0 : World) (hp : Array Value) (L : List Bool) (V : List Value) (w : World) : Prop :=
  Below W0.heap.size W0 w ∧ (L.getD 1 false = true → ∃ b, V.getD 1 undef = ptrV b ∧ W0.heap.size ≤ b ∧ b < w.heap.size ∧ there w b 0 33 ∧ (L.getD 2 false = true → row? w b 0 33 = some hp))
section
variable {W0 w w' : World} {hp : Array Value} {l0 l1 l2 : Bool} {v0 v1 v2 : Value}
theorem HPt.grow (h : HPt W0 hp [l0, l1, l2] [v0, v1, v2] w) (hb : Below w.heap.size w w') {x : Value} : HPt W0 hp [true, l1, l2] [x, v1, v2] w' := by
  refine ⟨h.1.trans (hb.mono h.1.size), fun q => ?_⟩
  obtain ⟨b, q1, q2, q3, q4, q5⟩ := h.2 q
  exact ⟨b, q1, q2, Nat.lt_of_lt_of_le q3 hb.size, there_below hb q3 q4, fun q => (row?_below _ _ _ hb q3).trans (q5 q)⟩
theorem HPt.alloc (h : HPt W0 hp [l0, l1, l2] [v0, v1, v2] w) (h2 : l2 = false) : HPt W0 hp [l0, true, l2] [v0, ptrV w.heap.size, v2] (w.alloc (.cells (pointA zeroPt) 26)) := by
  subst h2
  exact ⟨h.1.trans ((bel_a _ _).mono h.1.size), fun _ => ⟨w.heap.size, rfl, h.1.size, by simp, there_new _ _ _ _ _ (by simp), fun q => by cases q⟩⟩
theorem HPt.put {p : Pt} {b : Nat} (h : HPt W0 (pointA p) [l0, l1, l2] [v0, v1, v2] w) (h1 : l1 = true) (e : v1 = ptrV b) : (storeAgg 26 (ptrV b) (.agg (pointA p))).run Try.prog w = .ok () (putRow w b 0 (pointA p)) ∧ HPt W0 (pointA p) [l0, l1, true] [v0, v1, undef] (putRow w b 0 (pointA p)) := by
  subst h1
  obtain ⟨b', q1, q2, q3, q4, -⟩ := h.2 rfl
  obtain rfl : b' = b := by
    have := q1.symm.trans e
    unfold ptrV at this
    injection this with this
    injection this with this
    injection this
  refine ⟨?_, below_put h.1 q2 _ _, fun _ => ⟨b', q1, q2, by rw [size_put]; exact q3, there_put _ _ _ _ _ _ _ q4, fun _ => row?_put_same _ _ _ _ _ (by simp) (by omega) q4⟩⟩
  unfold ptrV
  exact store_point w b' 0 _ (by simp) (onesPoint p) q4
end
end Go.Proofs.Ythdjhbiigmcecaa

/- landmarkref10.(*Chain).Path. -/
namespace Go.Proofs.Ythdjhbiigmcecaa
open Go.RowKit

def natV (n : Nat) : Value := .int .i64 (n : Int)
abbrev OwnN (w : World) (E : Nat) (v : Value) (l : List Nat) : Prop := OwnC w E 1 v l.length (l.map natV)
/-- a block and its ancestors; none of none -/
def pthO (C : List Blk) : Option Nat → List Nat
  | none => []
  | some j => pth C j
theorem pth_step {C : List Blk} (h : ChnOk C) (i : Nat) : pth C i = i :: pthO C (parAt C i) := by
  rw [pth]
  cases hp : parAt C i with
  | none => rfl
  | some j =>
    have hj := (parAt_some h hp).1
    simp only [pthO, dif_pos hj]
attribute [local go_sem ↓] fold_appN fold_bsN
end Go.Proofs.Ythdjhbiigmcecaa

/- landmarkref10.(*Chain).Under. -/
namespace Go.Proofs.Ythdjhbiigmcecaa
open Go.RowKit

theorem OwnN.at {w : World} {E : Nat} {s : Sl} {l : List Nat} (h : OwnN w E s.v l) (hl : 0 < l.length) : ∃ g cap, s = ⟨some ⟨g, 0, none⟩, l.length, cap⟩ ∧ E ≤ g ∧ g < w.heap.size ∧ ∀ (k : Nat) (hk : k < l.length), w.cell? ⟨g, k, none⟩ = some (.int .i64 (l[k] : Int)) := by
  rcases h.2 with ⟨_, hn⟩ | ⟨g, cap, hv, h2, h3, h4, h5, h6, h7, h8⟩
  · omega
  · obtain ⟨sa, sn, sc⟩ := s
    unfold Sl.v at hv
    simp only at hv
    injection hv with e1 e2 e3
    subst e1 e2 e3
    exact ⟨g, _, rfl, h2, h3, fun k hk => h8 k _ (by simp [natV, hk])⟩
end Go.Proofs.Ythdjhbiigmcecaa

/- landmarkref10's rows of blocks: copied, and one more. -/
namespace Go.Proofs.Ythdjhbiigmcecaa
open Go.RowKit

abbrev RB := Pt × GHeader × Option Nat
def rA (x : RB) : Array Value := rblkA x.1 x.2.1 x.2.2
theorem rA_size (x : RB) : (rA x).size = 68 := rblkA_size _ _ _
theorem rA_one (x : RB) : ∀ u ∈ (rA x).toList, u.oneCell' = true := by
  have h : (rA x).all (·.oneCell') = true := oneApp (oneApp (onePoint _) (oneHeader _)) (by simp [Value.oneCell'])
  intro u hu
  rw [Array.all_eq_true_iff_forall_mem] at h
  exact h u (Array.mem_toList_iff.1 hu)
def rowsOf (G : List GHeader) (C : List Blk) : List RB := List.zipWith (fun g b => (b.p, g, b.par)) G C
theorem rowsOf_length {G : List GHeader} {C : List Blk} (h : G.length = C.length) : (rowsOf G C).length = C.length := by simp [rowsOf, h]
theorem rowsSrc {α : Type} (A : α → Array Value) {k : Nat} (hk : ∀ x, (A x).size = k) (h0 : 0 < k) (h1 : ∀ x, ∀ u ∈ (A x).toList, u.oneCell' = true) {P : Program} {w : World} {s : Sl} {l : List α} (h : SlR k (fun cs x => cs = A x) w s l) (hne : l ≠ []) {t e : TypeId} (ht : P.underlying t = some (.slice e)) :
    Src P k t s.v l.length (flatC A l) w := by
  obtain ⟨b, off, ha, hc⟩ := h.2.2 hne
  obtain ⟨a, n, c⟩ := s
  simp only at ha
  subst ha
  obtain rfl : n = l.length := h.1
  refine Src.ofSlice w ht ⟨b, off, none⟩ l.length c (flatC A l) (flatC_length A hk l) (fun j u hu => ?_) (flatC_onecell A h1 l)
  have hj : j < l.length * k := by
    rw [← flatC_length A hk l]
    exact (List.getElem?_eq_some_iff.1 hu).1
  have hadd : (⟨b, off, none⟩ : Addr).add j = ⟨b, off + j, none⟩ := by unfold Addr.add; split <;> simp_all
  have hd : j / k < l.length := by rw [Nat.div_lt_iff_lt_mul h0]; exact hj
  have hm : j % k < k := Nat.mod_lt _ h0
  obtain ⟨cs, hr, rfl⟩ := hc (j / k) hd
  have h3 := cell_of_row? hr (j % k) hm
  have h4 := flatC_get A hk l (j / k) (j % k) hd hm
  have hj2 : j / k * k + j % k = j := by rw [Nat.mul_comm]; exact Nat.div_add_mod j k
  rw [hj2] at h4
  rw [hadd, show off + j = off + j / k * k + j % k by omega, h3, ← h4, hu]
def appR (args : Array Value) : Sem Value := Builtin.append_ #[67, 67] 67 args
theorem fold_appR (args : Array Value) : Builtin.append_ #[67, 67] 67 args = appR args := rfl
theorem run_copyR {W : World} {s : Sl} {l : List RB} (h : SlR 68 (fun cs x => cs = rA x) W s l) (hne : l ≠ []) (hl : l.length ≤ 1000000) :
    ∃ (s' : Sl) (w' : World), (appR #[.slice none 0 0, s.v]).run Try.prog W = .ok s'.v w' ∧ OwnC w' W.heap.size 68 s'.v l.length (flatC rA l) ∧ Below W.heap.size W w' := by
  obtain ⟨i0, hi, hy0, hy1, hy2⟩ := info_parts info_rblk
  obtain ⟨v', w', e1, e2, e3, e4⟩ := run_append_ownC (P := Try.prog) W W.heap.size 67 67 67 71 i0 _ 68 112 Try.underlying67 hi hy0 hy1 hy2 (by simp [Value.cells]) (.slice none 0 0) 0 [] (OwnC.nil _ _ _) s.v l.length (flatC rA l) (rowsSrc rA rA_size (by omega) rA_one h hne Try.underlying67) (by simp only [maxLen]; omega) (by omega) (Nat.le_refl _)
  rw [Nat.zero_add, List.nil_append] at e2
  obtain ⟨s', rfl⟩ := e2.slice
  exact ⟨s', w', e1, e2, (Below.refl _ _).grown e3 (Nat.le_refl _) (fun k hk => by simp [Value.ownBlock] at hk)⟩
theorem run_appR {W : World} {B : Nat} {s : Sl} {l : List RB} (h : OwnC W B 68 s.v l.length (flatC rA l)) (hB : B ≤ W.heap.size) (hl : l.length ≤ 1000000) (x : RB) (a : Nat) (ha : W.heap[a]? = some (.cells (rA x) 71 (0, 0))) :
    ∃ (s' : Sl) (W' : World), (appR #[s.v, .slice (some ⟨a, 0, none⟩) 1 1]).run Try.prog W = .ok s'.v W' ∧ OwnC W' B 68 s'.v (l ++ [x]).length (flatC rA (l ++ [x])) ∧ W.grownBy W' s.v.ownBlock := by
  obtain ⟨i0, hi, hy0, hy1, hy2⟩ := info_parts info_rblk
  obtain ⟨s', W', h1, h2, h3, -⟩ := run_append_one rA rA_size (P := Try.prog) W 67 rA_one B 71 i0 _ 112 Try.underlying67 hi hy0 hy1 hy2 (by simp [Value.cells]) s.v l h a 1 x ha hl (by omega) hB
  exact ⟨s', W', h1, h2, h3⟩
/-- a chain with one more block -/
theorem RefC.grow {w0 W W' : World} {cb rb cap : Nat} {G : List GHeader} {C : List Blk} (h : RefC w0 W cb rb cap G C) (hok : C.length ≤ 1000000) {s : Sl} {g : GHeader} {b : Blk} (hg : HdrR w0 g b.h) (hBW : Below w0.heap.size w0 W') (ho : OwnC W' W.heap.size 68 s.v (rowsOf G C ++ [(b.p, g, b.par)]).length (flatC rA (rowsOf G C ++ [(b.p, g, b.par)])))
    (hob : W'.heap[cb]? = some (.cells #[s.v] 69 (0, 0))) : ∃ rb' cap', W.heap.size ≤ rb' ∧ RefC w0 W' cb rb' cap' (G ++ [g]) (C ++ [b]) := by
  have hl : (rowsOf G C ++ [(b.p, g, b.par)]).length = C.length + 1 := by rw [List.length_append, rowsOf_length h.len]; rfl
  obtain ⟨hlen, hv | ⟨rb', cap', hv, h1, h2, h3, h4, h5, h6, h7⟩⟩ := ho
  · omega
  · have hrow : ∀ i (hi : i < (rowsOf G C ++ [(b.p, g, b.par)]).length), row? W' rb' (i * 68) 68 = some (rA (rowsOf G C ++ [(b.p, g, b.par)])[i]) := fun i hi => own_row rA rA_size (by omega) (B := W.heap.size) (c := cap') (n := (rowsOf G C ++ [(b.p, g, b.par)]).length) (w := W') (g := rb') ⟨hlen, .inr ⟨rb', cap', rfl, h1, h2, h3, h4, h5, h6, h7⟩⟩ i hi
    have hz := h.bel.size
    have hc := h.cbW
    refine ⟨rb', cap', h1, hBW, h.cbl, by omega, by omega, ?_, h2, by rw [List.length_append]; simp; omega, by simp [h.len], fun i x y hx hy => ?_⟩
    · rw [hob, hv, hl]
      simp
    · have hi : i < (C ++ [b]).length := (List.getElem?_eq_some_iff.1 hy).1
      have hi2 : i < (rowsOf G C ++ [(b.p, g, b.par)]).length := by rw [hl]; simpa using hi
      have hr := hrow i hi2
      by_cases hiC : i < C.length
      · rw [List.getElem?_append_left (by rw [h.len]; exact hiC)] at hx
        rw [List.getElem?_append_left hiC] at hy
        refine ⟨?_, (h.row i x y hx hy).2⟩
        rw [hr]
        have e1 := (List.getElem?_eq_some_iff.1 hx).2
        have e2 := (List.getElem?_eq_some_iff.1 hy).2
        rw [← e1, ← e2]
        rw [List.getElem_append_left (by rw [rowsOf_length h.len]; exact hiC)]
        simp [rowsOf, rA]
      · obtain rfl : i = C.length := by simp at hi; omega
        rw [List.getElem?_append_right (by rw [h.len]; exact Nat.le_refl _), h.len, Nat.sub_self] at hx
        rw [List.getElem?_append_right (Nat.le_refl _), Nat.sub_self] at hy
        simp only [List.getElem?_cons_zero, Option.some.injEq] at hx hy
        subst hx hy
        refine ⟨?_, hg⟩
        rw [hr, List.getElem_append_right (by rw [rowsOf_length h.len]; exact Nat.le_refl _)]
        simp [rA]
end Go.Proofs.Ythdjhbiigmcecaa

/- landmarkref10.(*Chain).Add. -/
namespace Go.Proofs.Ythdjhbiigmcecaa
open Go.RowKit

/-- a row of blocks is copied, one more is appended, the row is put into the chain's box -/
def HRad (W0 : World) (cb : Nat) (rows : List RB) (x : RB) (L : List Bool) (V : List Value) (w : World) : Prop :=
  (L.getD 4 false = true → ∃ (s : Sl) (w1 : World), Below W0.heap.size W0 w1 ∧ OwnC w1 W0.heap.size 68 s.v (rows ++ [x]).length (flatC rA (rows ++ [x])) ∧ w = w1.setCell ⟨cb, 0, none⟩ s.v) ∧
  (L.getD 4 false = false → Below W0.heap.size W0 w ∧
    (L.getD 0 false = true → L.getD 3 false = false → ∃ s : Sl, V.getD 0 undef = s.v ∧ OwnC w W0.heap.size 68 s.v rows.length (flatC rA rows)) ∧
    (L.getD 2 false = true → L.getD 3 false = false → ∃ b, V.getD 2 undef = .slice (some ⟨b, 0, none⟩) 1 1 ∧ w.heap[b]? = some (.cells (rA x) 71 (0, 0))) ∧
    (L.getD 3 false = true → ∃ s : Sl, V.getD 3 undef = s.v ∧ OwnC w W0.heap.size 68 s.v (rows ++ [x]).length (flatC rA (rows ++ [x]))))
section
variable {W0 w w' : World} {cb : Nat} {rows : List RB} {x : RB} {l0 l1 l2 l3 l4 : Bool} {v0 v1 v2 v3 v4 : Value}
theorem HRad.zero (V : List Value) : HRad W0 cb rows x [false, false, false, false, false] V W0.drew :=
  ⟨fun q => (by cases q), fun _ => ⟨(Below.refl _ _).drew, fun q => (by cases q), fun q => (by cases q), fun q => (by cases q)⟩⟩
theorem HRad.bel (h : HRad W0 cb rows x [l0, l1, l2, l3, l4] [v0, v1, v2, v3, v4] w) (h4 : l4 = false) : Below W0.heap.size W0 w := (h.2 h4).1
theorem HRad.call (h : HRad W0 cb rows x [l0, l1, l2, l3, l4] [v0, v1, v2, v3, v4] w) (h4 : l4 = false) (hb : Below w.heap.size w w') {v : Value} : HRad W0 cb rows x [l0, true, l2, l3, l4] [v0, v, v2, v3, v4] w' := by
  subst h4
  obtain ⟨q0, q1, q2, q3⟩ := h.2 rfl
  refine ⟨fun q => (by cases q), fun _ => ⟨q0.trans (hb.mono q0.size), fun a1 a2 => ?_, fun a1 a2 => ?_, fun a1 => ?_⟩⟩
  · obtain ⟨s, r1, r2⟩ := q1 a1 a2
    exact ⟨s, r1, r2.keep hb⟩
  · obtain ⟨b, r1, r2⟩ := q2 a1 a2
    exact ⟨b, r1, (hb.block b (Array.getElem?_eq_some_iff.1 r2).1).trans r2⟩
  · obtain ⟨s, r1, r2⟩ := q3 a1
    exact ⟨s, r1, r2.keep hb⟩
theorem HRad.copy (h : HRad W0 cb rows x [l0, l1, l2, l3, l4] [v0, v1, v2, v3, v4] w) (_h0 : l0 = false) (h3 : l3 = false) (h4 : l4 = false) {s : Sl} (hs : SlR 68 (fun cs x => cs = rA x) w s rows) (hne : rows ≠ []) (hl : rows.length ≤ 100000) :
    ∃ (s' : Sl) (w' : World), (appR #[.slice none 0 0, s.v]).run Try.prog w = .ok s'.v w' ∧ HRad W0 cb rows x [true, l1, l2, l3, l4] [s'.v, v1, v2, v3, v4] w' := by
  subst h3 h4
  obtain ⟨q0, q1, q2, q3⟩ := h.2 rfl
  obtain ⟨s', w', e1, e2, e3⟩ := run_copyR hs hne (by omega)
  refine ⟨s', w', e1, fun q => (by cases q), fun _ => ⟨q0.trans (e3.mono q0.size), fun _ _ => ⟨s', rfl, e2.more q0.size⟩, fun a1 a2 => ?_, fun q => (by cases q)⟩⟩
  obtain ⟨b, r1, r2⟩ := q2 a1 a2
  exact ⟨b, r1, (e3.block b (Array.getElem?_eq_some_iff.1 r2).1).trans r2⟩
theorem HRad.lit (h : HRad W0 cb rows x [l0, l1, l2, l3, l4] [v0, v1, v2, v3, v4] w) (h3 : l3 = false) (h4 : l4 = false) : HRad W0 cb rows x [l0, l1, true, l3, l4] [v0, v1, .slice (some ⟨w.heap.size, 0, none⟩) 1 1, v3, v4] (w.alloc (.cells (rA x) 71)) := by
  subst h3 h4
  obtain ⟨q0, q1, q2, q3⟩ := h.2 rfl
  refine ⟨fun q => (by cases q), fun _ => ⟨q0.trans ((bel_a _ _).mono q0.size), fun a1 a2 => ?_, fun _ _ => ⟨w.heap.size, rfl, heap_alloc_new w _⟩, fun q => (by cases q)⟩⟩
  obtain ⟨s, r1, r2⟩ := q1 a1 a2
  exact ⟨s, r1, r2.keep (bel_a _ _)⟩
theorem HRad.app (h : HRad W0 cb rows x [l0, l1, l2, l3, l4] [v0, v1, v2, v3, v4] w) (h0 : l0 = true) (h2 : l2 = true) (h3 : l3 = false) (h4 : l4 = false) (hl : rows.length ≤ 100000) {s : Sl} {b : Nat} (e0 : v0 = s.v) (e2 : v2 = .slice (some ⟨b, 0, none⟩) 1 1) :
    ∃ (s' : Sl) (w' : World), (appR #[s.v, .slice (some ⟨b, 0, none⟩) 1 1]).run Try.prog w = .ok s'.v w' ∧ HRad W0 cb rows x [l0, l1, l2, true, l4] [v0, v1, v2, s'.v, v4] w' := by
  subst h0 h2 h3 h4
  obtain ⟨q0, q1, q2, q3⟩ := h.2 rfl
  obtain ⟨s0, r1, r2⟩ := q1 rfl rfl
  obtain ⟨b0, r3, r4⟩ := q2 rfl rfl
  have r1' : v0 = s0.v := r1
  have r3' : v2 = .slice (some ⟨b0, 0, none⟩) 1 1 := r3
  rw [e0] at r1'
  rw [e2] at r3'
  have hb : b = b0 := by
    injection r3' with r3'
    injection r3' with r3'
    injection r3'
  subst hb
  rw [← r1'] at r2
  obtain ⟨s', w', f1, f2, f3⟩ := run_appR r2 q0.size (by omega) x b r4
  exact ⟨s', w', f1, fun q => (by cases q), fun _ => ⟨q0.grown f3 q0.size fun k hk => (OwnC.lt r2 k hk).1, fun _ q => (by cases q), fun _ q => (by cases q), fun _ => ⟨s', rfl, f2⟩⟩⟩
theorem HRad.put (h : HRad W0 cb rows x [l0, l1, l2, l3, l4] [v0, v1, v2, v3, v4] w) (h3 : l3 = true) (h4 : l4 = false) {s : Sl} (e : v3 = s.v) : HRad W0 cb rows x [l0, l1, l2, l3, true] [v0, v1, v2, v3, undef] (w.setCell ⟨cb, 0, none⟩ s.v) := by
  subst h3 h4
  obtain ⟨q0, q1, q2, q3⟩ := h.2 rfl
  obtain ⟨s0, r1, r2⟩ := q3 rfl
  have r1' : v3 = s0.v := r1
  rw [e] at r1'
  rw [← r1'] at r2
  exact ⟨fun _ => ⟨s, w, q0, r2, rfl⟩, fun q => (by cases q)⟩
end
attribute [local go_sem ↓] fold_bldR fold_bsR fold_appR
end Go.Proofs.Ythdjhbiigmcecaa

/- Contract: the document's Much (landmarkref10). -/
namespace Go.Proofs.Ythdjhbiigmcecaa
open Go.RowKit

end Go.Proofs.Ythdjhbiigmcecaa

/- Acts in memory; landmarklaw10.few. -/
namespace Go.Proofs.Ythdjhbiigmcecaa
open Go.RowKit

/-- a header that is added; under another one's, if under is true -/
structure Act where
  h : Hdr
  under : Bool
  n : Int
structure GAct where
  g : GHeader
  under : Bool
  n : Int
def actA (x : GAct) : Array Value := headerA x.g ++ #[.bool x.under, .int .i64 x.n]
def ActR (w : World) (x : GAct) (a : Act) : Prop := HdrR w x.g a.h ∧ x.under = a.under ∧ x.n = a.n
def ActC (w : World) (cs : Array Value) (a : Act) : Prop := ∃ x, cs = actA x ∧ ActR w x a
abbrev ActsR (w : World) (s : Sl) (l : List Act) : Prop := SlR 36 (ActC w) w s l
theorem ActsR.keep' {w w' : World} {s : Sl} {l : List Act} (h : ActsR w s l) (hb : Below w.heap.size w w') : ActsR w' s l :=
  SlR.keep h hb fun _ _ ⟨x, e, h1, h2⟩ => ⟨x, e, h1.keep' hb, h2⟩
end Go.Proofs.Ythdjhbiigmcecaa
