/- Texts of this proof, one behind the other: ZfGadF. -/
import Derived.Test.YthdjhbiigmcecaaGreatCBA
import Derived.WalkMore
import Derived.ScopeJumps
set_option linter.unusedVariables false
set_option linter.unusedSimpArgs false
/- Contract: follow finds what follows. -/
namespace Go.Proofs.YthdjhbiigmcecaaGreat.F13
open Go.RowKit

/-- all else stays: only the blocks of S are written -/
structure Fr (S : List Nat) (w w' : World) : Prop where
 os : w'.os = w.os
 tape : w'.tape = w.tape
 output : w'.output = w.output
 size : w.heap.size ≤ w'.heap.size
 block : ∀ k, k < w.heap.size → k ∉ S → w'.heap[k]? = w.heap[k]?
theorem Fr.refl (S : List Nat) (w : World) : Fr S w w := ⟨rfl, rfl, rfl, Nat.le_refl _, fun _ _ _ => rfl⟩
theorem Fr.trans {S : List Nat} {w w1 w2 : World} (h : Fr S w w1) (h2 : Fr S w1 w2) : Fr S w w2 :=
 ⟨h2.os.trans h.os, h2.tape.trans h.tape, h2.output.trans h.output, Nat.le_trans h.size h2.size, fun k hk hs => (h2.block k (Nat.lt_of_lt_of_le hk h.size) hs).trans (h.block k hk hs)⟩
theorem Fr.of_below {S : List Nat} {w w' : World} (h : Below w.heap.size w w') : Fr S w w' := ⟨h.os, h.tape, h.output, h.size, fun k hk _ => h.block k hk⟩
theorem Fr.below {S : List Nat} {w w' w'' : World} (h : Fr S w w') (h2 : Below w'.heap.size w' w'') : Fr S w w'' := h.trans (Fr.of_below h2)
theorem Fr.grown {S : List Nat} {w w' w'' : World} {b : Nat} (h : Fr S w w') (h2 : w'.grownBy w'' (some b)) (hb : b ∈ S) : Fr S w w'' :=
 h.trans ⟨h2.os, h2.tape, h2.output, h2.size, fun k hk hs => h2.block k hk (fun e => hs (by cases e; exact hb))⟩
theorem Fr.under {S : List Nat} {w w' : World} {B : Nat} (h : Fr S w w') (hB : B ≤ w.heap.size) (hS : ∀ k ∈ S, B ≤ k) : Below B w w' :=
 ⟨h.os, h.tape, h.output, h.size, fun k hk => h.block k (by omega) (fun hs => by have := hS k hs; omega)⟩
theorem Fr.mono {S T : List Nat} {w w' : World} (h : Fr S w w') (hS : ∀ k ∈ S, k ∈ T ∨ w.heap.size ≤ k) : Fr T w w' :=
 ⟨h.os, h.tape, h.output, h.size, fun k hk hs => h.block k hk (fun hk' => (hS k hk').elim hs (fun hge => absurd hk (by omega)))⟩

noncomputable def updW (w : World) (b : Nat) (p : Pt) : World :=
 match (Instr.mapUpdate 82 (.map (some b)) (ptV p) yes).run Tryz.prog w with
 | .ok _ w' => w'
 | _ => w
theorem upd_w {w : World} {b : Nat} {ks : List Pt} (h : MapPts w b ks) (p : Pt) :
  (Instr.mapUpdate 82 (.map (some b)) (.agg (pointA p)) (.agg #[.bool true])).run Tryz.prog w = .ok () (updW w b p) ∧ MapPts (updW w b p) b (addPt ks p) ∧ w.grownBy (updW w b p) (some b) := by
 obtain ⟨w', h1, h2, h3⟩ := update_pts h p
 have e : updW w b p = w' := by unfold updW; rw [h1]
 rw [e]
 exact ⟨h1, h2, h3⟩
def msize (w : World) (b : Nat) : Nat := match w.heap[b]? with | some (.map es _) => es.size | _ => 0
theorem MapPts.msize {w : World} {b : Nat} {ks : List Pt} (h : MapPts w b ks) : msize w b = ks.length := by
 obtain ⟨es, c, h1, h2, _⟩ := h
 unfold Go.Proofs.YthdjhbiigmcecaaGreat.F13.msize
 rw [h1]
 have := congrArg List.length h2
 simpa using this

def zeroLnk : Lnk := ⟨zeroPt, zeroPt⟩
theorem zero_link : Tryz.zeroCells60 = linkA zeroLnk := by kernel_rfl
attribute [go_sem] zero_link
theorem lnkCells_length (ls : List Lnk) : (lnkCells ls).length = ls.length * 66 := by
 unfold lnkCells
 induction ls with
 | nil => rfl
 | cons l ls ih =>
  simp only [List.map_cons, List.flatten_cons, List.length_append, ih, List.length_cons, Array.length_toList, linkA_size]
  omega
theorem lnkCells_append (xs ys : List Lnk) : lnkCells (xs ++ ys) = lnkCells xs ++ lnkCells ys := by simp [lnkCells]
theorem lnkCells_one (x : Lnk) : lnkCells [x] = (linkA x).toList := by simp [lnkCells]
theorem lnkCells_get : ∀ (ls : List Lnk) (i r : Nat) (hi : i < ls.length), r < 66 → (lnkCells ls)[i * 66 + r]? = (linkA ls[i])[r]?
 | l :: ls, 0, r, _, hr => by
  have h : lnkCells (l :: ls) = (linkA l).toList ++ lnkCells ls := by simp [lnkCells]
  rw [h, Nat.zero_mul, Nat.zero_add, List.getElem?_append_left (by simpa using hr)]
  simp
 | l :: ls, i + 1, r, hi, hr => by
  have h : lnkCells (l :: ls) = (linkA l).toList ++ lnkCells ls := by simp [lnkCells]
  have ih := lnkCells_get ls i r (by simpa using hi) hr
  rw [h, List.getElem?_append_right (by simp; omega)]
  have e : (i + 1) * 66 + r - (linkA l).toList.length = i * 66 + r := by simp; omega
  rw [e, ih]
  simp
/-- the i-th link lies there -/
theorem lnk_row {w : World} {B n c g : Nat} {ls : List Lnk} (h : OwnC w B 66 (.slice (some ⟨g, 0, none⟩) n c) ls.length (lnkCells ls)) (i : Nat) (hi : i < ls.length) : row? w g (i * 66) 66 = some (linkA ls[i]) := by
 rcases h.2 with ⟨hv, _⟩ | ⟨g', cap, hv, h1, h2, h3, h4, h5, h6, h7⟩
 ·cases hv
 ·cases hv
  refine row?_of_cells (by simp) (by decide) fun j hj => h7 _ _ ?_
  simp at hj
  rw [lnkCells_get ls i j hi hj, Array.getElem?_eq_getElem (by simp; omega)]

theorem row?_sub {w : World} {b off n : Nat} {l : Array Value} (h : row? w b off n = some l) (i m : Nat) (hm : i + m ≤ n) : row? w b (off + i) m = some (l.extract i (i + m)) := by
 obtain ⟨cs, t, fr, hg, hle, rfl⟩ := row?_some h
 unfold row?
 rw [hg]
 simp only
 rw [if_pos (by omega), Array.extract_extract]
 congr 2
 ·omega
theorem row?_grownBy {w w' : World} {row : Option Nat} {b off n : Nat} (hg : w.grownBy w' row) (hlt : b < w.heap.size) (hne : some b ≠ row) : row? w' b off n = row? w b off n := by simp [row?, hg.block b hlt hne]
/-- what holds at each jump -/
structure FI (w0 : World) (B r b1 b2 : Nat) (s : Sl) (ls : List Lnk) (a : Pt) (js0 fs0 : List Pt) (w : World) (js fs : List Pt) : Prop where
 gad : Gad w B r b1 b2 s ls js fs
 fr : Fr [b1, b2] w0 w
 j : ∀ p ∈ js, Jus a ls p
 f : ∀ p ∈ fs, Fin a ls p
 aj : a ∈ js
 af : a ∈ fs
 j0 : ∀ p ∈ js0, p ∈ js
 jt : ∀ p ∈ js, p ∈ js0 ∨ ∃ l ∈ ls, l.target = p
theorem FI.len {w0 : World} {B r b1 b2 : Nat} {s : Sl} {ls : List Lnk} {a : Pt} {js0 fs0 : List Pt} {w : World} {js fs : List Pt} (h : FI w0 B r b1 b2 s ls a js0 fs0 w js fs) : js.length ≤ js0.length + ls.length := by
 have := nodup_sub_length (m := js0 ++ ls.map (·.target)) h.gad.j.nodup (fun p hp => by
  rcases h.jt p hp with h1 | ⟨l, hl, h1⟩
  ·exact List.mem_append_left _ h1
  ·exact List.mem_append_right _ (List.mem_map.2 ⟨l, hl, h1⟩))
 simpa using this
theorem FI.keep {w0 : World} {B r b1 b2 : Nat} {s : Sl} {ls : List Lnk} {a : Pt} {js0 fs0 : List Pt} {w w' : World} {js fs : List Pt} (h : FI w0 B r b1 b2 s ls a js0 fs0 w js fs) (hb : Below w.heap.size w w') : FI w0 B r b1 b2 s ls a js0 fs0 w' js fs :=
 { h with gad := h.gad.keep hb, fr := h.fr.below hb }
theorem Gad.setF {w w' : World} {B r b1 b2 : Nat} {s : Sl} {ls : List Lnk} {js fs fs' : List Pt} (h : Gad w B r b1 b2 s ls js fs) (hg : w.grownBy w' (some b2)) (hm : MapPts w' b2 fs') : Gad w' B r b1 b2 s ls js fs' :=
 { h with
  row := (hg.block r h.lt.1 (by simpa using h.n2)).trans h.row
  own := h.own.keepG hg (by
   cases e : s.v.ownBlock with
   | none => exact .inl rfl
   | some g => exact .inr (by simpa using (h.hs g e).2.2))
  j := h.j.of_block (hg.block b1 h.lt.2.1 (by simpa using h.ne))
  f := hm }
theorem Gad.setJ {w w' : World} {B r b1 b2 : Nat} {s : Sl} {ls : List Lnk} {js fs js' : List Pt} (h : Gad w B r b1 b2 s ls js fs) (hg : w.grownBy w' (some b1)) (hm : MapPts w' b1 js') : Gad w' B r b1 b2 s ls js' fs :=
 { h with
  row := (hg.block r h.lt.1 (by simpa using h.n1)).trans h.row
  own := h.own.keepG hg (by
   cases e : s.v.ownBlock with
   | none => exact .inl rfl
   | some g => exact .inr (by simpa using (h.hs g e).2.1))
  f := h.f.of_block (hg.block b2 h.lt.2.2.1 (by simpa using Ne.symm h.ne))
  j := hm }
theorem mem_addPt (ks : List Pt) (p q : Pt) : q ∈ addPt ks p ↔ q ∈ ks ∨ q = p := by
 unfold addPt
 split
 ·rename_i h
  exact ⟨.inl, fun e => e.elim id (fun e => by subst e; exact h)⟩
 ·simp
theorem FI.setF {w0 : World} {B r b1 b2 : Nat} {s : Sl} {ls : List Lnk} {a : Pt} {js0 fs0 : List Pt} {w w' : World} {js fs : List Pt} {p : Pt} (h : FI w0 B r b1 b2 s ls a js0 fs0 w js fs) (hg : w.grownBy w' (some b2)) (hm : MapPts w' b2 (addPt fs p)) (hp : Fin a ls p) :
  FI w0 B r b1 b2 s ls a js0 fs0 w' js (addPt fs p) :=
 { h with
  gad := h.gad.setF hg hm
  fr := h.fr.grown hg (by simp)
  f := fun q hq => ((mem_addPt fs p q).1 hq).elim (h.f q) (fun e => by subst e; exact hp)
  af := (mem_addPt fs p a).2 (.inl h.af) }
theorem FI.setJ {w0 : World} {B r b1 b2 : Nat} {s : Sl} {ls : List Lnk} {a : Pt} {js0 fs0 : List Pt} {w w' : World} {js fs : List Pt} {l : Lnk} (h : FI w0 B r b1 b2 s ls a js0 fs0 w js fs) (hg : w.grownBy w' (some b1)) (hm : MapPts w' b1 (addPt js l.target)) (hl : l ∈ ls) (hs : l.source ∈ js) :
  FI w0 B r b1 b2 s ls a js0 fs0 w' (addPt js l.target) fs :=
 { h with
  gad := h.gad.setJ hg hm
  fr := h.fr.grown hg (by simp)
  j := fun q hq => ((mem_addPt js _ q).1 hq).elim (h.j q) (fun e => by subst e; exact .step l hl (h.j _ hs))
  aj := (mem_addPt js _ a).2 (.inl h.aj)
  j0 := fun q hq => (mem_addPt js _ q).2 (.inl (h.j0 q hq))
  jt := fun q hq => ((mem_addPt js _ q).1 hq).elim (h.jt q) (fun e => .inr ⟨l, hl, e.symm⟩) }
/-- the first k links have been followed -/
def Done (ls : List Lnk) (k : Nat) (js fs : List Pt) : Prop := ∀ l ∈ ls.take k, l.source ∈ js → l.target ∈ js ∧ (Nxt l → l.source ∈ fs)
theorem Done.succ {ls : List Lnk} {k : Nat} {js fs fs' : List Pt} (h : Done ls k js fs) (hk : k < ls.length) (hf : ∀ p ∈ fs, p ∈ fs') (hl : ls[k].source ∈ js → ls[k].target ∈ js ∧ (Nxt ls[k] → ls[k].source ∈ fs')) : Done ls (k + 1) js fs' := by
 intro l hm hs
 rw [List.take_succ_eq_append_getElem hk, List.mem_append, List.mem_singleton] at hm
 rcases hm with hm | rfl
 ·exact ⟨(h l hm hs).1, fun hn => hf _ ((h l hm hs).2 hn)⟩
 ·exact hl hs
theorem FI.knows {w0 : World} {B r b1 b2 : Nat} {s : Sl} {ls : List Lnk} {a : Pt} {js0 fs0 : List Pt} {w : World} {js fs : List Pt} (h : FI w0 B r b1 b2 s ls a js0 fs0 w js fs) (hd : Done ls ls.length js fs) : Knows a ls js fs := by
 unfold Done at hd
 rw [List.take_length] at hd
 have hj : ∀ p, p ∈ js ↔ Jus a ls p := fun p => ⟨h.j p, Clo.jus (fun l hl hs => (hd l hl hs).1) h.aj⟩
 refine ⟨h.gad.j.nodup, h.gad.f.nodup, hj, fun p => ⟨h.f p, ?_⟩⟩
 rintro (e | ⟨l, hl, e, hp, hn⟩)
 ·subst e; exact h.af
 ·subst e
  exact (hd l hl ((hj _).2 hp)).2 hn
theorem nxt_true {l : Lnk} (h : Nxt l) : ((l.target.epoch.toNat : Int) == IntKind.u64.wrap ((l.source.epoch.toNat : Int) + 1)) = true := by
 unfold Nxt at h
 rw [h, UInt64.toNat_add]
 simp [IntKind.wrap, IntKind.bits, IntKind.signed]
theorem nxt_false {l : Lnk} (h : ¬ Nxt l) : ((l.target.epoch.toNat : Int) == IntKind.u64.wrap ((l.source.epoch.toNat : Int) + 1)) = false := by
 simp only [beq_eq_false_iff_ne, ne_eq]
 intro e
 apply h
 unfold Nxt
 apply UInt64.toNat_inj.1
 rw [UInt64.toNat_add]
 simp [IntKind.wrap, IntKind.bits, IntKind.signed] at e ⊢
 omega

set_option maxRecDepth 100000 in
set_option maxHeartbeats 1600000 in
theorem follow_c (a : Pt) {w0 : World} {B r b1 b2 : Nat} {s : Sl} {ls : List Lnk} {js0 fs0 : List Pt} (h : FI w0 B r b1 b2 s ls a js0 fs0 w0 js0 fs0) (hlen : ls.length ≤ 1000) :
  Calls Tryz.prog 29 #[.pointer (some ⟨r, 0, none⟩)] w0 fun e w' => e = .returned (.tuple #[]) ∧ ∃ js fs, Gad w' B r b1 b2 s ls js fs ∧ Knows a ls js fs ∧ Fr [b1, b2] w0 w' := by
 go_enter Tryz.func29, Tryz.ntmps29
 go_wp2_with fail
 refine wp_scope_jumps 0 (fun a' w' => ∃ js fs, FI w0 B r b1 b2 s ls a js0 fs0 w' js fs ∧ ∃ (u1 u2 u3 u4 u5 u6 u7 u8 u9 u10 u11 u12 u13 u14 u15 u16 u17 u18 u19 u20 u21 u22 u23 u24 u25 u26 u27 u28 u29 u30 u31 u32 u33 u34 u35 u36 u37 u38 u39 u40 u41 u42 u43 u44 u45 u46 u47 u48 u49 u50 u51 u52 u53 : Value), a' = { tmps := #[.pointer (some ⟨r, 0, none⟩), u1, u2, u3, u4, u5, u6, u7, u8, u9, u10, u11, u12, u13, u14, u15, u16, u17, u18, u19, u20, u21, u22, u23, u24, u25, u26, u27, u28, u29, u30, u31, u32, u33, u34, u35, u36, u37, u38, u39, u40, u41, u42, u43, u44, u45, u46, u47, u48, u49, u50, u51, u52, u53], defers := [] }) (fun _ w' => js0.length + ls.length - msize w' b1) rfl ?fst ?pss
 case' fst =>
  obtain ⟨c0, c1, c2, _⟩ := h.gad.cells
  obtain ⟨sa, sn, sc⟩ := s
  obtain ⟨hlt, hl1, hl2, _⟩ := h.gad.lt
  obtain ⟨w, hw⟩ : ∃ w, w = w0 := ⟨_, rfl⟩
  have HI : Hid (FI w0 B r b1 b2 ⟨sa, sn, sc⟩ ls a js0 fs0 w js0 fs0) := Lib.hid (by rw [hw]; exact h)
  obtain ⟨js, fs, HI, hj0⟩ : ∃ js fs, Hid (FI w0 B r b1 b2 ⟨sa, sn, sc⟩ ls a js0 fs0 w js fs) ∧ Hid (js = js) := ⟨_, _, HI, Lib.hid rfl⟩
  clear h
  go_wp2_with fail
  go_step3
  go_wp2_with fail
  rw [← hw]
  rw [← hw] at c0 c1 c2 hlt hl1 hl2
  replace hw := Lib.hid hw
 case' pss =>
  rintro a' w ⟨js, fs, hI, u1, u2, u3, u4, u5, u6, u7, u8, u9, u10, u11, u12, u13, u14, u15, u16, u17, u18, u19, u20, u21, u22, u23, u24, u25, u26, u27, u28, u29, u30, u31, u32, u33, u34, u35, u36, u37, u38, u39, u40, u41, u42, u43, u44, u45, u46, u47, u48, u49, u50, u51, u52, u53, rfl⟩
  obtain ⟨c0, c1, c2, _⟩ := hI.gad.cells
  obtain ⟨sa, sn, sc⟩ := s
  obtain ⟨hlt, hl1, hl2, _⟩ := hI.gad.lt
  have HI := Lib.hid hI
  have hj0 : Hid (js.length = msize w b1) := Lib.hid hI.gad.j.msize.symm
  clear hI h
  go_wp2_with fail
 all_goals
  have hsn : sn = ls.length := by
   rcases HI.out.gad.own.2 with ⟨e, h0⟩ | ⟨_, _, e, _⟩ <;> cases e
   ·exact h0.symm
   ·rfl
  subst hsn
  go_loopw [9] (fun i w' => ∃ (k : Nat) (fs' : List Pt), k ≤ ls.length ∧ i = .int .i64 k ∧ Hid (FI w0 B r b1 b2 ⟨sa, ls.length, sc⟩ ls a js0 fs0 w' js fs') ∧ Hid (Done ls k js fs')) (fun i _ => ls.length - (intOf i).toNat)
  case atStart => exact ⟨0, fs, Nat.zero_le _, rfl, HI, Lib.hid (fun l hl => by cases hl)⟩
  case round =>
   obtain ⟨k, fs', hk, rfl, hF, hD⟩ := hrel
   clear c0 c1 c2
   obtain ⟨_, c1, c2, _⟩ := hF.out.gad.cells
   obtain ⟨hlt, hl1, hl2, _⟩ := hF.out.gad.lt
   by_cases hkx : k < ls.length
   ·obtain ⟨g, rfl⟩ : ∃ g, sa = some ⟨g, 0, none⟩ := by
     rcases hF.out.gad.own.2 with ⟨e, h0⟩ | ⟨g, _, e, _⟩
     ·omega
     ·cases e; exact ⟨g, rfl⟩
    have hrow := lnk_row hF.out.gad.own k hkx
    have i0 : (0 : Int) ≤ (k : Int) := by omega
    have i1 : (k : Int) < (ls.length : Int) := by omega
    have hmem : ls[k] ∈ ls := List.getElem_mem _
    have HS := Lib.hid (fun fs'' => Done.succ (fs' := fs'') hD.out hkx)
    generalize ls[k] = l at *
    have hX : Below wr.heap.size wr (putRow (wr.alloc (.cells (linkA zeroLnk) 60)) wr.heap.size 0 (linkA l)) := below_put (bel_a wr _) (Nat.le_refl _) _ _
    have hXr : row? (putRow (wr.alloc (.cells (linkA zeroLnk) 60)) wr.heap.size 0 (linkA l)) wr.heap.size 0 66 = some (linkA l) := by go_simp
    have hXs : (putRow (wr.alloc (.cells (linkA zeroLnk) 60)) wr.heap.size 0 (linkA l)).heap.size = wr.heap.size + 1 := by rw [size_put]; simp
    dsimp only [Sl.v]
    go_wp2_with fail
    generalize putRow (wr.alloc (.cells (linkA zeroLnk) 60)) wr.heap.size 0 (linkA l) = X at *
    have hFX := Lib.hid (hF.out.keep hX)
    clear c1 c2
    obtain ⟨_, c1, c2, _⟩ := hFX.out.gad.cells
    have hm : r ≠ wr.heap.size := by omega
    have hXs1 : row? X wr.heap.size 0 33 = some (pointA l.source) := (row?_sub hXr 0 33 (by omega)).trans (by rw [linkA_source])
    have hXt1 : row? X wr.heap.size 33 33 = some (pointA l.target) := (row?_sub hXr 33 33 (by omega)).trans (by rw [linkA_target])
    have hXe0 : X.cell? ⟨wr.heap.size, 0, none⟩ = some (.int .u64 (l.source.epoch.toNat : Int)) := (cell_of_row? hXs1 0 (by omega)).trans (pointA_epoch _)
    have hXe1 : X.cell? ⟨wr.heap.size, 33, none⟩ = some (.int .u64 (l.target.epoch.toNat : Int)) := (cell_of_row? hXt1 0 (by omega)).trans (pointA_epoch _)
    clear hXr
    replace hX := Lib.hid hX
    by_cases hs : l.source ∈ js
    ·have HL := fun n => look_at (hFX.out.gad.drewN n).j l.source
     rw [decide_eq_true hs] at HL
     go_quiet (fail)
     clear HL
     have HFY : Hid (FI w0 B r b1 b2 ⟨some ⟨g, 0, none⟩, ls.length, sc⟩ ls a js0 fs0 (X.drewN nq) js fs') := Lib.hid (hFX.out.keep (by (repeat' (first | (with_reducible first | exact Below.refl _ _ | assumption | refine bel_trans (by assumption) ?_ ?_ | refine bel_grown (by assumption) ?_ ?_ ?_ | refine Below.alloc ?_ ?_ _ | refine Below.drew ?_ | refine below_drewN ?_ _ | refine Below.setCell ?_ ?_ _ | refine below_put ?_ ?_ _ _ | exact Nat.le_refl _) | omega | (with_reducible first | refine Nat.le_trans ?_ (Below.size (by assumption)) | refine Nat.le_trans ?_ (World.grownBy.size (by assumption))) | (simp only [World.size_alloc, World.size_setCell, World.size_drew, size_drewN]; omega) | (simp only [World.size_alloc, World.size_setCell, World.size_drew, size_drewN, size_put]; omega) | (intro k hk; simp [Value.ownBlock] at hk; first | done | omega) | (simp [size_drewN] at *; omega)))))
     have hYl : wr.heap.size < (X.drewN nq).heap.size := by rw [size_drewN, hXs]; omega
     have hYr : Below wr.heap.size wr (X.drewN nq) := below_drewN hX.out nq
     replace hXs1 : row? (X.drewN nq) wr.heap.size 0 33 = some (pointA l.source) := hXs1
     replace hXt1 : row? (X.drewN nq) wr.heap.size 33 33 = some (pointA l.target) := hXt1
     replace hXe0 : (X.drewN nq).cell? ⟨wr.heap.size, 0, none⟩ = some (.int .u64 (l.source.epoch.toNat : Int)) := hXe0
     replace hXe1 : (X.drewN nq).cell? ⟨wr.heap.size, 33, none⟩ = some (.int .u64 (l.target.epoch.toNat : Int)) := hXe1
     generalize X.drewN nq = Y at *
     clear c1 c2
     obtain ⟨_, c1, c2, _⟩ := HFY.out.gad.cells
     by_cases hn : Nxt l
     ·have d1 := nxt_true hn
      go_wp2_with fail
      obtain ⟨HU, hm2, hgr⟩ := upd_w (HFY.out.gad.drewN 1).f l.source
      replace HU : (Instr.mapUpdate 82 (.map (some b2)) (.agg (pointA l.source)) (.agg #[.bool true])).run Tryz.prog Y.drew = .ok () (updW (Y.drewN 1) b2 l.source) := HU
      go_region
      have HF2 : Hid (∃ fs2, FI w0 B r b1 b2 ⟨some ⟨g, 0, none⟩, ls.length, sc⟩ ls a js0 fs0 (updW (Y.drewN 1) b2 l.source) js fs2 ∧ (∀ p ∈ fs', p ∈ fs2) ∧ (Nxt l → l.source ∈ fs2)) :=
       Lib.hid ⟨_, (HFY.out.keep (below_drewN (Below.refl _ _) 1)).setF hgr hm2 (.inr ⟨l, hmem, rfl, HFY.out.j _ hs, hn⟩), fun p hp => (mem_addPt _ _ _).2 (.inl hp), fun _ => (mem_addPt _ _ _).2 (.inr rfl)⟩
      replace hXt1 : row? (updW (Y.drewN 1) b2 l.source) wr.heap.size 33 33 = some (pointA l.target) := (row?_grownBy hgr hYl (by simp; omega)).trans hXt1
      replace hYl : wr.heap.size < (updW (Y.drewN 1) b2 l.source).heap.size := Nat.lt_of_lt_of_le hYl hgr.size
      generalize updW (Y.drewN 1) b2 l.source = Z at *
      replace hn := Lib.hid hn
      clear HU hm2 hgr HFY d1 hYr c1 c2 hXe0 hXe1 hXs1
      go_wp2_with fail
      obtain ⟨fs2, HFZ, hsub, hnx⟩ := HF2.out
      replace HFZ := Lib.hid HFZ
      replace HS := Lib.hid (fun ht => HS.out fs2 hsub (fun _ => ⟨ht, hnx⟩))
      clear hsub hnx HF2
      obtain ⟨_, c1, c2, _⟩ := HFZ.out.gad.cells
      by_cases ht : l.target ∈ js
      ·have HL := fun n => look_at (HFZ.out.gad.drewN n).j l.target
       rw [decide_eq_true ht] at HL
       go_quiet (fail)
       clear HL
       go_wp2_with fail
       go_roundw
       case rel => exact ⟨k + 1, fs2, by omega, by go_num, Lib.hid (HFZ.out.keep (by (repeat' (first | (with_reducible first | exact Below.refl _ _ | assumption | refine bel_trans (by assumption) ?_ ?_ | refine bel_grown (by assumption) ?_ ?_ ?_ | refine Below.alloc ?_ ?_ _ | refine Below.drew ?_ | refine below_drewN ?_ _ | refine Below.setCell ?_ ?_ _ | refine below_put ?_ ?_ _ _ | exact Nat.le_refl _) | omega | (with_reducible first | refine Nat.le_trans ?_ (Below.size (by assumption)) | refine Nat.le_trans ?_ (World.grownBy.size (by assumption))) | (simp only [World.size_alloc, World.size_setCell, World.size_drew, size_drewN]; omega) | (simp only [World.size_alloc, World.size_setCell, World.size_drew, size_drewN, size_put]; omega) | (intro k hk; simp [Value.ownBlock] at hk; first | done | omega) | (simp [size_drewN] at *; omega))))), Lib.hid (HS.out ht)⟩
       case measure => simp [intOf]; omega
      ·have HL := fun n => look_at (HFZ.out.gad.drewN n).j l.target
       rw [decide_eq_false ht] at HL
       go_quiet (fail)
       clear HL
       obtain ⟨HU, hm2, hgr⟩ := upd_w ((HFZ.out.gad.drewN nq).drewN 1).j l.target
       have HF3 := Lib.hid ((HFZ.out.keep (below_drewN (below_drewN (Below.refl _ _) nq) 1)).setJ hgr hm2 hmem hs)
       rw [World.drewN_drewN] at *
       go_wp2_with fail
       go_region
       go_wp2_with fail
       go_step3
       show 0 = 0 ∧ _
       refine ⟨rfl, ?_⟩
       have hlen1 := HF3.out.len
       have hm3 := HF3.out.gad.j.msize
       have hap : (addPt js l.target).length = js.length + 1 := by unfold addPt; rw [if_neg ht]; simp
       first
        | exact ⟨_, _, HF3.out, ⟨_, _, _, _, _, _, _, _, _, _, _, _, _, _, _, _, _, _, _, _, _, _, _, _, _, _, _, _, _, _, _, _, _, _, _, _, _, _, _, _, _, _, _, _, _, _, _, _, _, _, _, _, _, rfl⟩⟩
        | exact ⟨⟨_, _, HF3.out, ⟨_, _, _, _, _, _, _, _, _, _, _, _, _, _, _, _, _, _, _, _, _, _, _, _, _, _, _, _, _, _, _, _, _, _, _, _, _, _, _, _, _, _, _, _, _, _, _, _, _, _, _, _, _, rfl⟩⟩, by rw [hm3, hap, ← hj0.out]; omega⟩
     ·have d1 := nxt_false hn
      go_wp2_with fail
      have HF2 : Hid (∃ fs2, FI w0 B r b1 b2 ⟨some ⟨g, 0, none⟩, ls.length, sc⟩ ls a js0 fs0 Y js fs2 ∧ (∀ p ∈ fs', p ∈ fs2) ∧ (Nxt l → l.source ∈ fs2)) :=
       Lib.hid ⟨_, HFY.out, fun p hp => hp, fun h => absurd h hn⟩
      generalize Y = Z at *
      replace hn := Lib.hid hn
      clear HFY d1 hYr c1 c2 hXe0 hXe1 hXs1
      obtain ⟨fs2, HFZ, hsub, hnx⟩ := HF2.out
      replace HFZ := Lib.hid HFZ
      replace HS := Lib.hid (fun ht => HS.out fs2 hsub (fun _ => ⟨ht, hnx⟩))
      clear hsub hnx HF2
      obtain ⟨_, c1, c2, _⟩ := HFZ.out.gad.cells
      by_cases ht : l.target ∈ js
      ·have HL := fun n => look_at (HFZ.out.gad.drewN n).j l.target
       rw [decide_eq_true ht] at HL
       go_quiet (fail)
       clear HL
       go_wp2_with fail
       go_roundw
       case rel => exact ⟨k + 1, fs2, by omega, by go_num, Lib.hid (HFZ.out.keep (by (repeat' (first | (with_reducible first | exact Below.refl _ _ | assumption | refine bel_trans (by assumption) ?_ ?_ | refine bel_grown (by assumption) ?_ ?_ ?_ | refine Below.alloc ?_ ?_ _ | refine Below.drew ?_ | refine below_drewN ?_ _ | refine Below.setCell ?_ ?_ _ | refine below_put ?_ ?_ _ _ | exact Nat.le_refl _) | omega | (with_reducible first | refine Nat.le_trans ?_ (Below.size (by assumption)) | refine Nat.le_trans ?_ (World.grownBy.size (by assumption))) | (simp only [World.size_alloc, World.size_setCell, World.size_drew, size_drewN]; omega) | (simp only [World.size_alloc, World.size_setCell, World.size_drew, size_drewN, size_put]; omega) | (intro k hk; simp [Value.ownBlock] at hk; first | done | omega) | (simp [size_drewN] at *; omega))))), Lib.hid (HS.out ht)⟩
       case measure => simp [intOf]; omega
      ·have HL := fun n => look_at (HFZ.out.gad.drewN n).j l.target
       rw [decide_eq_false ht] at HL
       go_quiet (fail)
       clear HL
       obtain ⟨HU, hm2, hgr⟩ := upd_w ((HFZ.out.gad.drewN nq).drewN 1).j l.target
       have HF3 := Lib.hid ((HFZ.out.keep (below_drewN (below_drewN (Below.refl _ _) nq) 1)).setJ hgr hm2 hmem hs)
       rw [World.drewN_drewN] at *
       go_wp2_with fail
       go_region
       go_wp2_with fail
       go_step3
       show 0 = 0 ∧ _
       refine ⟨rfl, ?_⟩
       have hlen1 := HF3.out.len
       have hm3 := HF3.out.gad.j.msize
       have hap : (addPt js l.target).length = js.length + 1 := by unfold addPt; rw [if_neg ht]; simp
       first
        | exact ⟨_, _, HF3.out, ⟨_, _, _, _, _, _, _, _, _, _, _, _, _, _, _, _, _, _, _, _, _, _, _, _, _, _, _, _, _, _, _, _, _, _, _, _, _, _, _, _, _, _, _, _, _, _, _, _, _, _, _, _, _, rfl⟩⟩
        | exact ⟨⟨_, _, HF3.out, ⟨_, _, _, _, _, _, _, _, _, _, _, _, _, _, _, _, _, _, _, _, _, _, _, _, _, _, _, _, _, _, _, _, _, _, _, _, _, _, _, _, _, _, _, _, _, _, _, _, _, _, _, _, _, rfl⟩⟩, by rw [hm3, hap, ← hj0.out]; omega⟩
    ·have HL := fun n => look_at (hFX.out.gad.drewN n).j l.source
     rw [decide_eq_false hs] at HL
     go_quiet (fail)
     go_wp2_with fail
     go_roundw
     case rel => exact ⟨k + 1, fs', by omega, by go_num, Lib.hid (hFX.out.keep (by (repeat' (first | (with_reducible first | exact Below.refl _ _ | assumption | refine bel_trans (by assumption) ?_ ?_ | refine bel_grown (by assumption) ?_ ?_ ?_ | refine Below.alloc ?_ ?_ _ | refine Below.drew ?_ | refine below_drewN ?_ _ | refine Below.setCell ?_ ?_ _ | refine below_put ?_ ?_ _ _ | exact Nat.le_refl _) | omega | (with_reducible first | refine Nat.le_trans ?_ (Below.size (by assumption)) | refine Nat.le_trans ?_ (World.grownBy.size (by assumption))) | (simp only [World.size_alloc, World.size_setCell, World.size_drew, size_drewN]; omega) | (simp only [World.size_alloc, World.size_setCell, World.size_drew, size_drewN, size_put]; omega) | (intro k hk; simp [Value.ownBlock] at hk; first | done | omega) | (simp [size_drewN] at *; omega))))), Lib.hid (HS.out fs' (fun _ h => h) (fun h => absurd h hs))⟩
     case measure => simp [intOf]; omega
   ·obtain rfl : k = ls.length := by omega
    go_wp2_with fail
    simp only [Exit.jump]
    go_end0
    exact ⟨rfl, js, fs', hF.out.gad, hF.out.knows hD.out, hF.out.fr⟩
end Go.Proofs.YthdjhbiigmcecaaGreat.F13
