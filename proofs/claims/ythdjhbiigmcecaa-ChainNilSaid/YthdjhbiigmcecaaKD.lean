/- Texts of this proof, one behind the other: TenA, TenB, TenC, TenD. -/
import Derived.Test.YthdjhbiigmcecaaQC
import Derived.Test.YthdjhbiigmcecaaKA
import Derived.Test.YthdjhbiigmcecaaQA
import Derived.Test.YthdjhbiigmcecaaRB
import Derived.Deep.CutRange
import Derived.Test.YthdjhbiigmcecaaQE
import Derived.Test.YthdjhbiigmcecaaKB
set_option linter.unusedVariables false
set_option linter.unusedSimpArgs false
/- Contracts of package landmarkref10: numbers, checkpoints, votes. -/
namespace Go.Proofs.Ythdjhbiigmcecaa
open Go.RowKit

end Go.Proofs.Ythdjhbiigmcecaa

/- Appends of bytes in a row, in a region that draws its order: what is appended is made in any order. -/
namespace Go.Proofs.Ythdjhbiigmcecaa
open Go.RowKit

def appB (args : Array Value) : Sem Value := Builtin.append_ #[32, 32] 32 args
theorem fold_appB (args : Array Value) : Builtin.append_ #[32, 32] 32 args = appB args := rfl
theorem run_appB {W : World} {E : Nat} {s : Sl} {l : List UInt8} (h : Own W E s.v l) (hE : E ≤ W.heap.size) {t : Sl} {m : List UInt8} (ht : BytesR W t m) (hl : l.length + m.length ≤ 140737488355328) :
    ∃ (s' : Sl) (W' : World), (appB #[s.v, t.v]).run Try.prog W = .ok s'.v W' ∧ Own W' E s'.v (l ++ m) ∧ W.grownBy W' s.v.ownBlock ∧ (s'.v.ownBlock = s.v.ownBlock ∨ s'.v.ownBlock = some W.heap.size) := by
  obtain ⟨i0, hi, hy0, hy1, hy2⟩ := info_parts info_u8
  obtain ⟨v', W', h1, h2, h3, h4⟩ := run_append_ownC (P := Try.prog) W E 32 32 32 5 i0 _ 1 1 Try.underlying32 hi hy0 hy1 hy2 (by simp [Value.cells]) s.v l.length (l.map byteV) h t.v m.length (m.map byteV) (ht.src Try.underlying32) (by simp only [maxLen]; omega) (by omega) hE
  have h2' : Own W' E v' (l ++ m) := by
    unfold Own
    rw [List.length_append, List.map_append]
    exact h2
  obtain ⟨s', rfl⟩ := h2'.slice
  exact ⟨s', W', h1, h2', h3, h4⟩
theorem BytesR.keepR {w w' : World} {s : Sl} {l : List UInt8} {row : Option Nat} (h : BytesR w s l) (hg : w.grownBy w' row) (hne : l ≠ [] → ∀ b off, s.a = some ⟨b, off, none⟩ → row ≠ some b) : BytesR w' s l :=
  ⟨h.1, h.2.1, fun hl => by
    obtain ⟨b, off, ha, hc⟩ := h.2.2 hl
    refine ⟨b, off, ha, fun i hi => ?_⟩
    have h1 := hg.block b (lt_of_cell (hc i hi)) (hne hl b off ha).symm
    have h2 := hc i hi
    unfold World.cell? at h2 ⊢
    rw [h1]
    exact h2⟩
/-- a row of bytes that grows (cur, which holds cb), and what is to be appended to it: whether it is made, where, its bytes -/
structure AppS (E : Nat) (W0 : World) (c0 : Value) (w : World) (cur : Value) (cb : List UInt8) (srcs : List (Bool × Value × List UInt8)) : Prop where
  bel : Below E W0 w
  hE : E ≤ W0.heap.size
  far : W0.grownBy w c0.ownBlock
  orig : ∀ g, cur.ownBlock = some g → c0.ownBlock = some g ∨ W0.heap.size ≤ g
  own : ∃ s : Sl, cur = s.v ∧ Own w E s.v cb
  src : ∀ x ∈ srcs, x.1 = true → ∃ s : Sl, x.2.1 = s.v ∧ BytesR w s x.2.2 ∧ (x.2.2 ≠ [] → ∀ b off, s.a = some ⟨b, off, none⟩ → cur.ownBlock ≠ some b ∧ b < w.heap.size)
section
variable {E : Nat} {W0 w w' : World} {c0 cur : Value} {cb : List UInt8} {srcs : List (Bool × Value × List UInt8)}
theorem AppS.size (h : AppS E W0 c0 w cur cb srcs) : E ≤ w.heap.size := Nat.le_trans h.hE h.bel.size
theorem AppS.grow (h : AppS E W0 c0 w cur cb srcs) (hb : Below w.heap.size w w') : AppS E W0 c0 w' cur cb srcs := by
  refine ⟨h.bel.trans (hb.mono h.size), h.hE, ⟨hb.os.trans h.far.os, hb.tape.trans h.far.tape, hb.output.trans h.far.output, Nat.le_trans h.far.size hb.size, fun k hk hn => (hb.block k (Nat.lt_of_lt_of_le hk h.far.size)).trans (h.far.block k hk hn)⟩, h.orig, ?_, fun x hx hx1 => ?_⟩
  · obtain ⟨s, q1, q2⟩ := h.own
    exact ⟨s, q1, q2.keep hb⟩
  · obtain ⟨s, q1, q2, q3⟩ := h.src x hx hx1
    exact ⟨s, q1, q2.keep hb, fun hn b off e => ⟨(q3 hn b off e).1, Nat.lt_of_lt_of_le (q3 hn b off e).2 hb.size⟩⟩
theorem AppS.put {a b : List (Bool × Value × List UInt8)} {x : Bool × Value × List UInt8} (h : AppS E W0 c0 w cur cb (a ++ x :: b)) {s : Sl} {m : List UInt8} (ho : BytesR w s m) (hs : m ≠ [] → ∀ b off, s.a = some ⟨b, off, none⟩ → cur.ownBlock ≠ some b ∧ b < w.heap.size) : AppS E W0 c0 w cur cb (a ++ (true, s.v, m) :: b) := by
  refine ⟨h.bel, h.hE, h.far, h.orig, h.own, fun y hy hy1 => ?_⟩
  rcases List.mem_append.1 hy with hy | hy
  · exact h.src y (List.mem_append_left _ hy) hy1
  · rcases List.mem_cons.1 hy with rfl | hy
    · exact ⟨s, rfl, ho, hs⟩
    · exact h.src y (List.mem_append_right _ (List.mem_cons_of_mem _ hy)) hy1
/-- an append of bytes that are read -/
theorem AppS.app (h : AppS E W0 c0 w cur cb srcs) {t : Sl} {m : List UInt8} (ht : BytesR w t m) (hl : cb.length + m.length ≤ 140737488355328) : ∃ (s' : Sl) (w' : World), (appB #[cur, t.v]).run Try.prog w = .ok s'.v w' ∧ AppS E W0 c0 w' s'.v (cb ++ m) srcs := by
  obtain ⟨s, rfl, ho⟩ := h.own
  obtain ⟨s', w', h1, h2, h3, h4⟩ := run_appB ho h.size ht hl
  refine ⟨s', w', h1, ⟨h.bel.grown h3 h.size fun k hk => (OwnC.lt ho k hk).1, h.hE, ⟨h3.os.trans h.far.os, h3.tape.trans h.far.tape, h3.output.trans h.far.output, Nat.le_trans h.far.size h3.size, fun k hk hn => (h3.block k (Nat.lt_of_lt_of_le hk h.far.size) fun e => ?_).trans (h.far.block k hk hn)⟩, fun g hg => ?_, ⟨s', rfl, h2⟩, fun x hx hx1 => ?_⟩⟩
  · rcases h.orig k e.symm with q | q
    · exact hn q.symm
    · omega
  · rcases h4 with h4 | h4
    · rw [h4] at hg
      exact h.orig g hg
    · rw [h4] at hg
      injection hg with hg
      have := h.far.size
      omega
  obtain ⟨sx, q1, q2, q3⟩ := h.src x hx hx1
  refine ⟨sx, q1, q2.keepR h3 fun hn b off e => (q3 hn b off e).1, fun hn g off e => ?_⟩
  have hlt := (q3 hn g off e).2
  refine ⟨fun hg => ?_, Nat.lt_of_lt_of_le hlt h3.size⟩
  rcases h4 with h4 | h4
  · rw [h4] at hg
    exact (q3 hn g off e).1 hg
  · rw [h4] at hg
    injection hg with hg
    omega
end
/-- two appends: which sources are there, which appends are done -/
structure AppI (E : Nat) (W0 : World) (c0 : Value) (m0 m1 m2 : List UInt8) (L : List Bool) (V : List Value) (w : World) : Prop where
  s : AppS E W0 c0 w (if L.getD 3 false then V.getD 3 undef else if L.getD 1 false then V.getD 1 undef else c0) (if L.getD 3 false then m0 ++ m1 ++ m2 else if L.getD 1 false then m0 ++ m1 else m0) [(L.getD 0 false, V.getD 0 undef, m1), (L.getD 2 false, V.getD 2 undef, m2)]
  d : L.getD 4 false = true → V.getD 4 undef = V.getD 3 undef
section
variable {E : Nat} {W0 w w' : World} {c0 : Value} {m0 m1 m2 : List UInt8} {l0 l1 l2 l3 l4 : Bool} {v0 v1 v2 v3 v4 : Value}
theorem AppI.zero {c : Sl} (hE : E ≤ W0.heap.size) (ho : Own W0 E c.v m0) (V : List Value) : AppI E W0 c.v m0 m1 m2 [false, false, false, false, false] V W0.drew :=
  ⟨⟨(Below.refl _ _).drew, hE, ⟨rfl, rfl, rfl, Nat.le_refl _, fun _ _ _ => rfl⟩, fun g hg => .inl hg, ⟨c, rfl, ho.keep (Below.refl _ _).drew⟩, fun x hx hx1 => by
    simp at hx
    rcases hx with rfl | rfl <;> cases hx1⟩, fun q => (by cases q)⟩
theorem AppI.bel (h : AppI E W0 c0 m0 m1 m2 [l0, l1, l2, l3, l4] [v0, v1, v2, v3, v4] w) : Below E W0 w := h.s.bel
theorem AppI.far (h : AppI E W0 c0 m0 m1 m2 [l0, l1, l2, l3, l4] [v0, v1, v2, v3, v4] w) : W0.grownBy w c0.ownBlock := h.s.far
theorem AppI.out (h : AppI E W0 c0 m0 m1 m2 [true, true, true, true, true] [v0, v1, v2, v3, v4] w) : v4 = v3 ∧ ∃ s : Sl, v3 = s.v ∧ Own w E s.v (m0 ++ m1 ++ m2) := ⟨h.d rfl, h.s.own⟩
end
/-- three appends -/
structure AppJ (E : Nat) (W0 : World) (c0 : Value) (m0 m1 m2 m3 : List UInt8) (L : List Bool) (V : List Value) (w : World) : Prop where
  s : AppS E W0 c0 w (if L.getD 5 false then V.getD 5 undef else if L.getD 3 false then V.getD 3 undef else if L.getD 1 false then V.getD 1 undef else c0) (if L.getD 5 false then m0 ++ m1 ++ m2 ++ m3 else if L.getD 3 false then m0 ++ m1 ++ m2 else if L.getD 1 false then m0 ++ m1 else m0) [(L.getD 0 false, V.getD 0 undef, m1), (L.getD 2 false, V.getD 2 undef, m2), (L.getD 4 false, V.getD 4 undef, m3)]
  d : L.getD 6 false = true → V.getD 6 undef = V.getD 5 undef
section
variable {E : Nat} {W0 w w' : World} {c0 : Value} {m0 m1 m2 m3 : List UInt8} {l0 l1 l2 l3 l4 l5 l6 : Bool} {v0 v1 v2 v3 v4 v5 v6 : Value}
theorem AppJ.zero {c : Sl} (hE : E ≤ W0.heap.size) (ho : Own W0 E c.v m0) (V : List Value) : AppJ E W0 c.v m0 m1 m2 m3 [false, false, false, false, false, false, false] V W0.drew :=
  ⟨⟨(Below.refl _ _).drew, hE, ⟨rfl, rfl, rfl, Nat.le_refl _, fun _ _ _ => rfl⟩, fun g hg => .inl hg, ⟨c, rfl, ho.keep (Below.refl _ _).drew⟩, fun x hx hx1 => by
    simp at hx
    rcases hx with rfl | rfl | rfl <;> cases hx1⟩, fun q => (by cases q)⟩
theorem AppJ.bel (h : AppJ E W0 c0 m0 m1 m2 m3 [l0, l1, l2, l3, l4, l5, l6] [v0, v1, v2, v3, v4, v5, v6] w) : Below E W0 w := h.s.bel
theorem AppJ.far (h : AppJ E W0 c0 m0 m1 m2 m3 [l0, l1, l2, l3, l4, l5, l6] [v0, v1, v2, v3, v4, v5, v6] w) : W0.grownBy w c0.ownBlock := h.s.far
theorem AppJ.out (h : AppJ E W0 c0 m0 m1 m2 m3 [true, true, true, true, true, true, true] [v0, v1, v2, v3, v4, v5, v6] w) : v6 = v5 ∧ ∃ s : Sl, v5 = s.v ∧ Own w E s.v (m0 ++ m1 ++ m2 ++ m3) := ⟨h.d rfl, h.s.own⟩
end
/-- two pieces that are made in any order, and one appended to the other one -/
structure App2 (E : Nat) (W0 : World) (m0 m1 : List UInt8) (L : List Bool) (V : List Value) (w : World) : Prop where
  bel : Below E W0 w
  hE : E ≤ W0.heap.size
  a : L.getD 2 false = false → L.getD 0 false = true → ∃ s : Sl, V.getD 0 undef = s.v ∧ Own w E s.v m0
  b : L.getD 2 false = false → L.getD 1 false = true → ∃ s : Sl, V.getD 1 undef = s.v ∧ Own w E s.v m1
  c : L.getD 2 false = true → ∃ s : Sl, V.getD 2 undef = s.v ∧ Own w E s.v (m0 ++ m1)
  d : L.getD 3 false = true → V.getD 3 undef = V.getD 2 undef
section
variable {E : Nat} {W0 w w' : World} {m0 m1 : List UInt8} {l0 l1 l2 l3 : Bool} {v0 v1 v2 v3 : Value}
theorem App2.grow {L : List Bool} {V : List Value} (h : App2 E W0 m0 m1 L V w) (hb : Below w.heap.size w w') : App2 E W0 m0 m1 L V w' := by
  have hz := Nat.le_trans h.hE h.bel.size
  refine ⟨h.bel.trans (hb.mono hz), h.hE, fun q1 q2 => ?_, fun q1 q2 => ?_, fun q1 => ?_, h.d⟩
  · obtain ⟨s, e1, e2⟩ := h.a q1 q2
    exact ⟨s, e1, e2.keep hb⟩
  · obtain ⟨s, e1, e2⟩ := h.b q1 q2
    exact ⟨s, e1, e2.keep hb⟩
  · obtain ⟨s, e1, e2⟩ := h.c q1
    exact ⟨s, e1, e2.keep hb⟩
theorem App2.app (h : App2 E W0 m0 m1 [l0, l1, l2, l3] [v0, v1, v2, v3] w) (h0 : l0 = true) (h1 : l1 = true) (h2 : l2 = false) (h3 : l3 = false) (hl : m0.length + m1.length ≤ 140737488355328) :
    ∃ (s' : Sl) (w' : World), (appB #[v0, v1]).run Try.prog w = .ok s'.v w' ∧ App2 E W0 m0 m1 [l0, l1, true, l3] [v0, v1, s'.v, v3] w' := by
  subst h0 h1 h2 h3
  have hz := Nat.le_trans h.hE h.bel.size
  obtain ⟨s, e1, e2⟩ := h.a rfl rfl
  obtain ⟨t, f1, f2⟩ := h.b rfl rfl
  have e1' : v0 = s.v := e1
  have f1' : v1 = t.v := f1
  subst e1' f1'
  obtain ⟨s', w', q1, q2, q3, -⟩ := run_appB e2 hz f2.reads hl
  exact ⟨s', w', q1, ⟨h.bel.grown q3 hz fun k hk => (OwnC.lt e2 k hk).1, h.hE, fun q => (by cases q), fun q => (by cases q), fun _ => ⟨s', rfl, q2⟩, fun q => (by cases q)⟩⟩
end
theorem App2.zero {E : Nat} {W0 : World} (hE : E ≤ W0.heap.size) (m0 m1 : List UInt8) (V : List Value) : App2 E W0 m0 m1 [false, false, false, false] V W0.drew :=
  ⟨(Below.refl _ _).drew, hE, fun _ q => (by cases q), fun _ q => (by cases q), fun q => (by cases q), fun q => (by cases q)⟩
end Go.Proofs.Ythdjhbiigmcecaa

/- Contract: landmarkref10.VoteBytes. -/
namespace Go.Proofs.Ythdjhbiigmcecaa
open Go.RowKit

attribute [local go_sem ↓] fold_appB
end Go.Proofs.Ythdjhbiigmcecaa

/- Contract: landmarkref10.Text. -/
namespace Go.Proofs.Ythdjhbiigmcecaa
open Go.RowKit

attribute [local go_sem ↓] fold_appB
end Go.Proofs.Ythdjhbiigmcecaa
