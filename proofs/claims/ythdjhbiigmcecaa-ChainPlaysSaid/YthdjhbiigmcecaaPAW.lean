/- Texts of this proof, one behind the other: Law, OpenB, OpenV, OpenH, OpenQ. -/
import Derived.Test.YthdjhbiigmcecaaPAE
import Derived.ProofKit
import Derived.OpenShut
import Derived.Carry
import Derived.Below
import Derived.ChangeSame
import Derived.Test.YthdjhbiigmcecaaPAA
import Derived.ChangeSlices
import Derived.Deep.Slices
import Derived.Test.YthdjhbiigmcecaaPAR
set_option linter.unusedVariables false
set_option linter.unusedSimpArgs false
/- From a walk to the row: the arguments opened; behind the call they read as before. Over any program; then hashes and checkpoints. -/
namespace Go.Proofs.Ythdjhbiigmcecaa
open Go.ChangeShapes Go.WideShapes Go.ChangeAt Go.RowKit

section
variable {H : Type} {enc : TypeId × Value → H} {P : Program}
theorem post_below {f : Func} {s : ChangeSpec} {apart fresh handsOn again : Bool} {W W' : World} {args : Array Value} {v : Value} {ds gs : List (DataW H)} {before pa pv : List MemPlace}
  (hW : DataW.Whole enc P f.params.toList s.vars apart W args.toList ds gs before)
  (hres : ∀ (b : Nat) (sp : Nat → Bool) (hd : Bool), DataW.TrodAll enc P W' b sp hd f.resultTypes.toList (v.resultList f.resultTypes.size) (s.fn H (ds ++ gs)).results [])
  (hargs : ∀ sp : Nat → Bool, (∀ p ∈ before, sp p.block = true) → DataW.TrodAll enc P W' 0 sp true f.params.toList args.toList (s.fn H (ds ++ gs)).args pa)
  (hvars : ∀ sp : Nat → Bool, (∀ p ∈ before, sp p.block = true) → DataW.TrodVars enc P W' sp s.vars (s.fn H (ds ++ gs)).vars pv)
  (hps : before = pa ++ pv) (hb : Below W.heap.size W W')
  (hok : ∀ (j : Nat) (t : TypeId) (r : Value), f.resultTypes[j]? = some t → (v.resultList f.resultTypes.size)[j]? = some r → Value.okWide P W' .any 0 t r) :
  s.post enc P f apart fresh handsOn again W args v W' := by
 have hlt : ∀ p ∈ before, p.block < W.heap.size := fun p hp => hW.lt p hp
 have hold : ∀ p ∈ before, (fun b => decide (b < W.heap.size)) p.block = true := fun p hp => by simpa using hlt p hp
 refine ⟨ds, gs, before, [], pa, pv, hW, hres _ _ _, hargs _ hold, hvars _ hold, World.keptBut_mono (fun p hp => ⟨hp, ?_⟩) (hb.frame (· ∈ before)), fun _ => ?_⟩
 ·rw [hps, List.mem_append] at hp
  exact Or.inr hp
 ·obtain ⟨_, _, _, _, _, hz, hn⟩ := hW
  refine ⟨hok, _, _, ([] ++ pa) ++ pv, ⟨[] ++ pa, pv, trodAll_append (hargs _ (fun _ _ => rfl)) (hres _ _ _), hvars _ (fun _ _ => rfl), rfl, ?_, ?_⟩, ?_⟩
  ·intro b off hp
   have hin : MemPlace.cell b off ∈ before := by rw [hps]; simpa using hp
   rw [hb.frozen (hlt _ hin)]
   exact hz b off hin
  ·intro ha
   have := hn ha
   rw [hps] at this
   simpa using this
  ·intro p hp _
   rw [hps]
   simpa using hp

theorem keepAll (hl : laidOutB P = true) {W W' : World} (hb : Below W.heap.size W W') (sp : Nat → Bool) :
  ∀ (ts : List TypeId) (vs : List Value) (ds : List (DataW H)) (ps : List MemPlace), (ts.all fun t => P.readableRec t && decide (t < P.types.size)) = true → DataW.TrodAll enc P W 0 (fun _ => true) true ts vs ds ps →
   (∀ x ∈ ps, x.block < W.heap.size) → (∀ p ∈ ps, sp p.block = true) → DataW.TrodAll enc P W' 0 sp true ts vs ds ps
 | [], [], [], _, _, h, _, _ => h
 | [], [], _ :: _, _, _, h, _, _ => h.elim
 | [], _ :: _, _, _, _, h, _, _ => by cases ‹List (DataW H)› <;> exact h.elim
 | _ :: _, [], _, _, _, h, _, _ => by cases ‹List (DataW H)› <;> exact h.elim
 | _ :: _, _ :: _, [], _, _, h, _, _ => h.elim
 | t :: ts, v :: vs, d :: ds, ps, ht, h, hlt, hsp => by
  obtain ⟨p, q, h1, h2, rfl⟩ := h
  simp only [List.all_cons, Bool.and_eq_true, decide_eq_true_eq] at ht
  refine ⟨p, q, WideElems.Trod_stays hl ht.1.1 ht.1.2 h1 (fun x hx => hb.same (hlt x (List.mem_append_left _ hx))) (fun x hx => hsp x (List.mem_append_left _ hx)), ?_, rfl⟩
  exact keepAll hl hb sp ts vs ds q ht.2 h2 (fun x hx => hlt x (List.mem_append_right _ hx)) (fun x hx => hsp x (List.mem_append_right _ hx))

/-- a law that answers true, and leaves what was there: its row's post -/
theorem law_post {f : Func} {s : ChangeSpec} {W W' : World} {args : Array Value} {ds gs : List (DataW H)} {before : List MemPlace} (tb : TypeId)
  (hl : laidOutB P = true) (hts : (f.params.toList.all fun t => P.readableRec t && decide (t < P.types.size)) = true) (hrt : f.resultTypes = #[tb]) (htb : P.underlying tb = some .bool)
  (hvars : s.vars = []) (hW : DataW.Whole enc P f.params.toList s.vars false W args.toList ds gs before)
  (hres : (s.fn H ds).results = [.lit (.bool true)]) (hargs : (s.fn H ds).args = ds) (hvs : (s.fn H ds).vars = []) (hb : Below W.heap.size W W') :
  s.post enc P f false true false false W args (.bool true) W' := by
 have hW' := hW
 obtain ⟨p, q, hA, hV, rfl, _, _⟩ := hW
 rw [hvars] at hV
 obtain ⟨rfl, rfl⟩ := trodVars_none hV
 refine post_below (pa := p) (pv := []) hW' ?_ ?_ ?_ rfl hb ?_
 ·intro b sp hd
  rw [List.append_nil, hres, hrt]
  exact trodAll_cons_mk (shut_bool htb _) trodAll_mk0
 ·intro sp hsp
  rw [List.append_nil, hargs]
  exact keepAll hl hb sp _ _ _ _ hts hA (fun x hx => hW'.lt x (by simpa using hx)) (fun x hx => hsp x (by simpa using hx))
 ·intro sp hsp
  rw [List.append_nil, hvs, hvars]
  rfl
 ·exact ok_one hrt rfl (okWide_bool_mk htb _)

/-! arguments opened -/
variable {w : World} {base : Nat} {spare : Nat → Bool} {held : Bool}
theorem open_bytes : ∀ (cs : List Value), (∀ i, i < cs.length → ∃ n : Int, cs[i]? = some (.int .u8 n) ∧ 0 ≤ n ∧ n ≤ 255) → ∃ l : List UInt8, cs = l.map byteV
 | [], _ => ⟨[], rfl⟩
 | c :: cs, h => by
  obtain ⟨n, h1, h2, h3⟩ := h 0 (by simp)
  obtain ⟨l, rfl⟩ := open_bytes cs (fun i hi => by simpa using h (i + 1) (by simpa using hi))
  simp at h1
  subst h1
  refine ⟨UInt8.ofNat n.toNat :: l, ?_⟩
  simp only [List.map_cons, byteV]
  congr 2
  simp
  omega
theorem open_hash {t e : TypeId} {fuel : Nat} {cs : List Value} {x : DataW H × List MemPlace} (ht : P.underlying t = some (.array 32 e)) (he : P.underlying e = some (.int .u8)) (hce : P.cellsOf e = 1) (hct : P.cellsOf t = 32)
  (h : DataW.trod enc P w base spare held fuel t cs = some x) : ∃ n : Hash, cs = (hashA n).toList := by
 obtain ⟨xs, m, _, _, hl, hn, hx⟩ := DataW.trod_array ht h
 rw [hct] at hl
 obtain ⟨l, rfl⟩ := open_bytes cs (fun i hi => by
  have hi' : i < 32 := by omega
  have h1 := hx i hi'
  rw [hce, Nat.mul_one, List.getElem?_eq_getElem (by omega)] at h1
  obtain ⟨n, h2, _, h3⟩ := DataW.trod_int he h1
  have h4 : cs[i]? = some (.int .u8 n) := by
   have := congrArg (fun l : List Value => l[0]?) h2
   simpa [List.getElem?_take, List.getElem?_drop] using this
  refine ⟨n, h4, ?_⟩
  simpa [Lit.wf, IntKind.min, IntKind.max, IntKind.signed, IntKind.bits] using h3)
 exact ⟨⟨l, by simpa using hl⟩, by simp [hashA]⟩
theorem struct_open {fs : Array Field} {t : TypeId} {fuel : Nat} {cs : List Value} {x : DataW H × List MemPlace} (ht : P.underlying t = some (.struct fs)) (h : DataW.trod enc P w base spare held fuel t cs = some x) :
  ∃ n, cs.length = P.cellsOf t ∧ ∀ (i : Nat) (f : Field), fs[i]? = some f → ∃ y, DataW.trod enc P w base spare held n f.type ((cs.drop f.offset).take (P.cellsOf f.type)) = some y := by
 obtain ⟨xs, n, _, _, hl, hn, hx⟩ := DataW.trod_struct ht h
 refine ⟨n, hl, fun i f hf => ?_⟩
 have hi : i < fs.size := (Array.getElem?_eq_some_iff.1 hf).1
 exact ⟨xs[i]'(by omega), by rw [hx i f hf, List.getElem?_eq_getElem (by omega)]⟩
theorem field_at {t : TypeId} {l : List (String × TypeId × Nat)} (hf : (P.fieldsOf t).toList.map (fun f => (f.name, f.type, f.offset)) = l) (i : Nat) (n : String) (ti : TypeId) (o : Nat) (hi : l[i]? = some (n, ti, o)) :
  ∃ f, (P.fieldsOf t)[i]? = some f ∧ f.type = ti ∧ f.offset = o := by
 subst hf
 rw [List.getElem?_map] at hi
 cases hg : (P.fieldsOf t).toList[i]? with
 | none => rw [hg] at hi; cases hi
 | some f =>
  rw [hg] at hi
  simp only [Option.map_some, Option.some.injEq, Prod.mk.injEq] at hi
  exact ⟨f, by simpa using hg, hi.2.1, hi.2.2⟩
theorem field_open {t : TypeId} {fuel : Nat} {cs : List Value} {x : DataW H × List MemPlace} {l : List (String × TypeId × Nat)} (ht : P.underlying t = some (.struct (P.fieldsOf t))) (hf : (P.fieldsOf t).toList.map (fun f => (f.name, f.type, f.offset)) = l)
  (h : DataW.trod enc P w base spare held fuel t cs = some x) : ∃ n, cs.length = P.cellsOf t ∧ ∀ (i : Nat) (nm : String) (ti : TypeId) (o : Nat), l[i]? = some (nm, ti, o) → ∃ y, DataW.trod enc P w base spare held n ti ((cs.drop o).take (P.cellsOf ti)) = some y := by
 obtain ⟨n, hl, hx⟩ := struct_open ht h
 refine ⟨n, hl, fun i nm ti o hi => ?_⟩
 obtain ⟨f, h1, h2, h3⟩ := field_at hf i nm ti o hi
 subst h2
 subst h3
 exact hx i f h1
theorem open_u64 {t : TypeId} {fuel : Nat} {cs : List Value} {x : DataW H × List MemPlace} (ht : P.underlying t = some (.int .u64)) (h : DataW.trod enc P w base spare held fuel t cs = some x) : ∃ e : UInt64, cs = [.int .u64 (e.toNat : Int)] := by
 obtain ⟨n, rfl, _, hw⟩ := DataW.trod_int ht h
 have hb : 0 ≤ n ∧ n ≤ 18446744073709551615 := by simpa [Lit.wf, IntKind.min, IntKind.max, IntKind.signed, IntKind.bits] using hw
 refine ⟨UInt64.ofNat n.toNat, ?_⟩
 have : (UInt64.ofNat n.toNat).toNat = n.toNat := by simp; omega
 rw [this, Int.toNat_of_nonneg hb.1]
theorem open_point_cells {t tu th e : TypeId} {fuel : Nat} {cs : List Value} {x : DataW H × List MemPlace} {n0 n1 : String} (hf : (P.fieldsOf t).toList.map (fun f => (f.name, f.type, f.offset)) = [(n0, tu, 0), (n1, th, 1)]) (ht : P.underlying t = some (.struct (P.fieldsOf t)))
  (hu : P.underlying tu = some (.int .u64)) (hcu : P.cellsOf tu = 1) (hh : P.underlying th = some (.array 32 e)) (he : P.underlying e = some (.int .u8)) (hce : P.cellsOf e = 1) (hch : P.cellsOf th = 32) (hct : P.cellsOf t = 33)
  (h : DataW.trod enc P w base spare held fuel t cs = some x) : ∃ p : Pt, cs = (pointA p).toList := by
 obtain ⟨n, hl, hx⟩ := field_open ht hf h
 obtain ⟨y0, h0⟩ := hx 0 n0 tu 0 rfl
 obtain ⟨y1, h1⟩ := hx 1 n1 th 1 rfl
 rw [hcu, List.drop_zero] at h0
 rw [hch] at h1
 obtain ⟨ep, h2⟩ := open_u64 hu h0
 obtain ⟨nm, h3⟩ := open_hash hh he hce hch h1
 refine ⟨⟨ep, nm⟩, ?_⟩
 rw [List.take_of_length_le (by rw [List.length_drop, hl, hct]; decide)] at h3
 rw [← List.take_append_drop 1 cs, h2, h3]
 simp [pointA]
end
theorem laidOut : laidOutB Try.prog = true := by kernel_rfl
theorem u64_cells : Try.prog.cellsOf 22 = 1 := by kernel_rfl
theorem hash_cells : Try.prog.cellsOf 24 = 32 := by kernel_rfl
theorem point_cells : Try.prog.cellsOf 26 = 33 := by kernel_rfl
theorem point_under : Try.prog.underlying 26 = some (.struct (Try.prog.fieldsOf 26)) := by kernel_rfl
theorem open_point_l {H : Type} {enc : TypeId × Value → H} {w : World} {base : Nat} {spare : Nat → Bool} {held : Bool} {fuel : Nat} {cs : List Value} {x : DataW H × List MemPlace} (h : DataW.trod enc Try.prog w base spare held fuel 26 cs = some x) : ∃ p : Pt, cs = (pointA p).toList :=
 open_point_cells point_fields point_under Try.underlying22 u64_cells Try.underlying24 Try.underlying5 u8_cells hash_cells point_cells h
set_option maxRecDepth 100000 in
theorem open_point {H : Type} {enc : TypeId × Value → H} {w : World} {base : Nat} {spare : Nat → Bool} {held : Bool} {r : Reach} {b0 : Nat} {v : Value} {d : DataW H} {p : List MemPlace} (hv : Value.okWide Try.prog w r b0 26 v) (h : DataW.Trod enc Try.prog w base spare held 26 v d p) : ∃ p : Pt, v = .agg (pointA p) := by
 obtain ⟨cs, rfl, hsz⟩ := okWide_struct point_under hv
 obtain ⟨fuel, hf⟩ := h
 obtain ⟨p, hp⟩ := open_point_l hf
 exact ⟨p, congrArg Value.agg (Array.ext' (by simpa [Value.cells] using hp))⟩
end Go.Proofs.Ythdjhbiigmcecaa

/- A slice of bytes among the arguments, opened. -/
namespace Go.Proofs.Ythdjhbiigmcecaa
open Go.ChangeShapes Go.WideShapes Go.ChangeAt Go.RowKit

end Go.Proofs.Ythdjhbiigmcecaa

/- An api.Vote among the arguments, opened. -/
namespace Go.Proofs.Ythdjhbiigmcecaa
open Go.ChangeShapes Go.WideShapes Go.ChangeAt Go.RowKit

theorem bytes_of_ints {w : World} {a : Addr} {len cap : Nat} {zs : List Int} (hl : len ≤ cap) (hzl : len ≤ zs.length)
  (hcell : ∀ i, i < zs.length → w.cell? (a.add i) = some (.int .u8 (zs.getD i 0))) (hwz : ∀ n ∈ zs, (Lit.int .u8 n).wf = true) :
  BytesR w ⟨some a, len, cap⟩ ((zs.take len).map (fun n => UInt8.ofNat n.toNat)) := by
 refine ⟨by simp [hzl], hl, fun hne => ?_⟩
 have h0 : 0 < len := by
  rcases Nat.eq_zero_or_pos len with h | h
  ·subst h; simp at hne
  ·exact h
 have hsp : a.spot = none := by
  have := World.cell?_spot (hcell 0 (by omega))
  unfold Addr.add at this
  split at this <;> simp_all
 refine ⟨a.block, a.off, ?_, fun i hi => ?_⟩
 ·obtain ⟨b, o, sp⟩ := a
  simp only at hsp
  subst hsp
  rfl
 ·have hi' : i < len := by simp at hi; omega
  have h1 := hcell i (by omega)
  have hadd : a.add i = ⟨a.block, a.off + i, none⟩ := by
   obtain ⟨b, o, sp⟩ := a
   simp only at hsp
   subst hsp
   unfold Addr.add
   split <;> simp_all
  rw [hadd] at h1
  rw [h1]
  have hg : zs.getD i 0 = zs[i]'(by omega) := by simp [List.getD_eq_getElem?_getD, List.getElem?_eq_getElem (show i < zs.length by omega)]
  have hw := hwz (zs[i]'(by omega)) (List.getElem_mem _)
  have hb : 0 ≤ zs[i]'(by omega) ∧ zs[i]'(by omega) ≤ 255 := by simpa [Lit.wf, IntKind.min, IntKind.max, IntKind.signed, IntKind.bits] using hw
  simp only [List.getElem_map, List.getElem_take, byteV]
  rw [hg]
  congr 2
  simp
  omega
theorem open_bslice_l {H : Type} {P : Program} {enc : TypeId × Value → H} {w : World} {base : Nat} {spare : Nat → Bool} {held : Bool} {t e : TypeId} (ht : P.underlying t = some (.slice e)) (he : P.underlying e = some (.int .u8)) (hc : P.cellsOf e = 1)
  {fuel : Nat} {cs : List Value} {x : DataW H × List MemPlace} (hf : DataW.trod enc P w base spare held fuel t cs = some x) : ∃ (s : Sl) (l : List UInt8), cs = [s.v] ∧ BytesR w s l := by
 rcases open_ints ht he hc hf with ⟨hcs, _⟩ | ⟨a, len', cap', zs, hcs, _, hl, _, hz, _, hcell, hwz⟩
 ·exact ⟨⟨none, 0, 0⟩, [], hcs, BytesR.nil _ _ _⟩
 ·exact ⟨⟨some a, len', cap'⟩, _, hcs, bytes_of_ints hl (by rw [hz]; split <;> omega) hcell hwz⟩
theorem open_i64 {H : Type} {P : Program} {enc : TypeId × Value → H} {w : World} {base : Nat} {spare : Nat → Bool} {held : Bool} {t : TypeId} {fuel : Nat} {cs : List Value} {x : DataW H × List MemPlace} (ht : P.underlying t = some (.int .i64)) (h : DataW.trod enc P w base spare held fuel t cs = some x) : ∃ n : Int, cs = [.int .i64 n] := by
 obtain ⟨n, rfl, _, _⟩ := DataW.trod_int ht h
 exact ⟨n, rfl⟩

theorem vote_fields : (Try.prog.fieldsOf 99).toList.map (fun f => (f.name, f.type, f.offset)) = [("Validator", 3, 0), ("Source", 26, 1), ("Target", 26, 34), ("Sig", 32, 67)] := by kernel_rfl
theorem vote_under : Try.prog.underlying 99 = some (.struct (Try.prog.fieldsOf 99)) := by kernel_rfl
theorem int_cells : Try.prog.cellsOf 3 = 1 := by kernel_rfl
theorem bsl_cells : Try.prog.cellsOf 32 = 1 := by kernel_rfl
theorem vote_cells : Try.prog.cellsOf 99 = 68 := by kernel_rfl
theorem open_vote_l {H : Type} {enc : TypeId × Value → H} {w : World} {base : Nat} {spare : Nat → Bool} {held : Bool} {fuel : Nat} {cs : List Value} {x : DataW H × List MemPlace} (h : DataW.trod enc Try.prog w base spare held fuel 99 cs = some x) :
  ∃ (g : GVote) (v : Vote), cs = (voteA g).toList ∧ VoteR w g v := by
 obtain ⟨n, hl, hx⟩ := field_open vote_under vote_fields h
 obtain ⟨y0, h0⟩ := hx 0 _ _ _ rfl
 obtain ⟨y1, h1⟩ := hx 1 _ _ _ rfl
 obtain ⟨y2, h2⟩ := hx 2 _ _ _ rfl
 obtain ⟨y3, h3⟩ := hx 3 _ _ _ rfl
 rw [vote_cells] at hl
 rw [int_cells, List.drop_zero] at h0
 rw [point_cells] at h1 h2
 rw [bsl_cells, List.take_of_length_le (by rw [List.length_drop, hl]; decide)] at h3
 obtain ⟨k, c0⟩ := open_i64 Try.underlying3 h0
 obtain ⟨p, c1⟩ := open_point_l h1
 obtain ⟨q, c2⟩ := open_point_l h2
 obtain ⟨s, l, c3, hs⟩ := open_bslice_l Try.underlying32 Try.underlying5 u8_cells h3
 refine ⟨⟨k, p, q, s⟩, ⟨k, p, q, l⟩, ?_, rfl, rfl, rfl, hs⟩
 have e1 : cs = cs.take 1 ++ cs.drop 1 := (List.take_append_drop 1 cs).symm
 have e2 : cs.drop 1 = (cs.drop 1).take 33 ++ cs.drop 34 := by
  have := (List.take_append_drop 33 (cs.drop 1)).symm
  rwa [List.drop_drop] at this
 have e3 : cs.drop 34 = (cs.drop 34).take 33 ++ cs.drop 67 := by
  have := (List.take_append_drop 33 (cs.drop 34)).symm
  rwa [List.drop_drop] at this
 rw [e1, c0, e2, c1, e3, c2, c3]
 simp [voteA]
end Go.Proofs.Ythdjhbiigmcecaa

/- An api.Header among the arguments, opened: slices of structs, of any size. -/
namespace Go.Proofs.Ythdjhbiigmcecaa
open Go.ChangeShapes Go.WideShapes Go.ChangeAt Go.RowKit

theorem list_of {α : Type} {p : Nat → α → Prop} : ∀ (n : Nat), (∀ i, i < n → ∃ y, p i y) → ∃ l : List α, l.length = n ∧ ∀ (i : Nat) (h : i < l.length), p i l[i]
 | 0, _ => ⟨[], rfl, fun i h => absurd h (by simp)⟩
 | n + 1, h => by
  obtain ⟨l, hl, hp⟩ := list_of n (fun i hi => h i (by omega))
  obtain ⟨y, hy⟩ := h n (by omega)
  refine ⟨l ++ [y], by simp [hl], fun i hi => ?_⟩
  by_cases hi' : i < l.length
  ·rw [List.getElem_append_left hi']
   exact hp i hi'
  ·obtain rfl : i = l.length := by simp at hi; omega
   rw [List.getElem_append_right (Nat.le_refl _)]
   simp only [Nat.sub_self, List.getElem_cons_zero]
   rw [hl]
   exact hy

theorem add_none (a : Addr) (h : a.spot = none) (i : Nat) : a.add i = ⟨a.block, a.off + i, none⟩ := by
 obtain ⟨b, o, sp⟩ := a
 simp only at h
 subst h
 unfold Addr.add
 split <;> simp_all
theorem add_zero' (a : Addr) : a.add 0 = a := by unfold Addr.add; simp
theorem row_of_cells {w : World} {base : Nat} {a : Addr} {n : Nat} {cs : List Value} (h : w.cells? base a n = some cs) (h0 : 0 < n) : a.spot = none ∧ row? w a.block a.off n = some cs.toArray := by
 obtain ⟨_, hl, hc⟩ := World.cells?_some h
 have h1 := hc 0 h0
 rw [List.getElem?_eq_getElem (by omega), add_zero'] at h1
 have hs := World.cell?_spot h1
 refine ⟨hs, ?_⟩
 refine row?_of_cells (by simpa using hl) h0 (fun j hj => ?_)
 have h2 := hc j (by simp at hj; omega)
 rw [add_none a hs] at h2
 rw [h2]
 simp at hj
 simp [hj]

theorem open_rows {H : Type} {P : Program} {enc : TypeId × Value → H} {w : World} {base : Nat} {spare : Nat → Bool} {held : Bool} {t e : TypeId} {k : Nat} (ht : P.underlying t = some (.slice e)) (hk : P.cellsOf e = k) (h0 : 0 < k)
  {α : Type} {R : Array Value → α → Prop} (hR : ∀ fuel cs x, DataW.trod enc P w base spare held fuel e cs = some x → ∃ y, R cs.toArray y)
  {fuel : Nat} {cs : List Value} {x : DataW H × List MemPlace} (h : DataW.trod enc P w base spare held fuel t cs = some x) : ∃ (s : Sl) (l : List α), cs = [s.v] ∧ SlR k R w s l := by
 rcases Go.Deep.open_slice ht h with ⟨rfl, _⟩ | ⟨a, len, cap, m, n, D, Pl, rfl, _, hl, _, hm, _, hel⟩
 ·exact ⟨⟨none, 0, 0⟩, [], rfl, SlR.nil _ _ _ _ _⟩
 ·rw [hk] at hel
  have hlm : len ≤ m := by rw [hm]; split <;> omega
  have hsp : 0 < len → a.spot = none := fun hlen => by
   obtain ⟨cs', h1, _⟩ := hel 0 (by omega)
   rw [Nat.zero_mul, add_zero'] at h1
   exact (row_of_cells h1 h0).1
  obtain ⟨l, hll, hp⟩ := list_of (p := fun i y => ∃ cs', row? w a.block (a.off + i * k) k = some cs' ∧ R cs' y) len (fun i hi => by
   obtain ⟨cs', h1, h2⟩ := hel i (by omega)
   obtain ⟨_, h3⟩ := row_of_cells h1 h0
   obtain ⟨y, hy⟩ := hR _ _ _ h2
   refine ⟨y, cs'.toArray, ?_, hy⟩
   rw [add_none a (hsp (by omega))] at h3
   exact h3)
  refine ⟨⟨some a, len, cap⟩, l, rfl, hll.symm, hl, fun hne => ?_⟩
  have hlen : 0 < len := by
   rcases Nat.eq_zero_or_pos len with h | h
   ·subst h
    exact absurd (List.eq_nil_of_length_eq_zero hll) hne
   ·exact h
  have hs' := hsp hlen
  refine ⟨a.block, a.off, ?_, hp⟩
  obtain ⟨b, o, sp⟩ := a
  simp only at hs'
  subst hs'
  rfl

theorem op_fields : (Try.prog.fieldsOf 97).toList.map (fun f => (f.name, f.type, f.offset)) = [("Kind", 95, 0), ("Key", 24, 1), ("Stake", 22, 33), ("Validator", 3, 34), ("Evidence", 29, 35)] := by kernel_rfl
theorem op_under : Try.prog.underlying 97 = some (.struct (Try.prog.fieldsOf 97)) := by kernel_rfl
theorem header_fields : (Try.prog.fieldsOf 49).toList.map (fun f => (f.name, f.type, f.offset)) = [("Parent", 24, 0), ("Epoch", 22, 32), ("Ops", 47, 33)] := by kernel_rfl
theorem header_under : Try.prog.underlying 49 = some (.struct (Try.prog.fieldsOf 49)) := by kernel_rfl
theorem kind_cells : Try.prog.cellsOf 95 = 1 := by kernel_rfl
theorem evs_cells : Try.prog.cellsOf 29 = 1 := by kernel_rfl
theorem ops_cells : Try.prog.cellsOf 47 = 1 := by kernel_rfl
theorem op_cells : Try.prog.cellsOf 97 = 36 := by kernel_rfl
theorem header_cells : Try.prog.cellsOf 49 = 34 := by kernel_rfl

section
variable {H : Type} {enc : TypeId × Value → H} {w : World} {base : Nat} {spare : Nat → Bool} {held : Bool} {fuel : Nat} {cs : List Value} {x : DataW H × List MemPlace}
theorem drop_cut (cs : List Value) (a n b : Nat) (h : a + n = b) : cs.drop a = (cs.drop a).take n ++ cs.drop b := by
 have := (List.take_append_drop n (cs.drop a)).symm
 rwa [List.drop_drop, h] at this
theorem open_votes_l (h : DataW.trod enc Try.prog w base spare held fuel 29 cs = some x) : ∃ (s : Sl) (l : List Vote), cs = [s.v] ∧ VotesR w s l :=
 open_rows (R := VoteC w) Try.underlying29 vote_cells (by decide) (fun fuel cs x h => by
  obtain ⟨g, v, hc, hv⟩ := open_vote_l h
  exact ⟨v, g, by rw [hc], hv⟩) h
theorem open_op_l (h : DataW.trod enc Try.prog w base spare held fuel 97 cs = some x) : ∃ (g : GOp) (o : Op), cs = (opA g).toList ∧ OpR w g o := by
 obtain ⟨n, hl, hx⟩ := field_open op_under op_fields h
 obtain ⟨y0, h0⟩ := hx 0 _ _ _ rfl
 obtain ⟨y1, h1⟩ := hx 1 _ _ _ rfl
 obtain ⟨y2, h2⟩ := hx 2 _ _ _ rfl
 obtain ⟨y3, h3⟩ := hx 3 _ _ _ rfl
 obtain ⟨y4, h4⟩ := hx 4 _ _ _ rfl
 rw [op_cells] at hl
 rw [kind_cells, List.drop_zero] at h0
 rw [hash_cells] at h1
 rw [u64_cells] at h2
 rw [int_cells] at h3
 rw [evs_cells, List.take_of_length_le (by rw [List.length_drop, hl]; decide)] at h4
 obtain ⟨k, c0⟩ := open_i64 Try.underlying95 h0
 obtain ⟨key, c1⟩ := open_hash Try.underlying24 Try.underlying5 u8_cells hash_cells h1
 obtain ⟨st, c2⟩ := open_u64 Try.underlying22 h2
 obtain ⟨v, c3⟩ := open_i64 Try.underlying3 h3
 obtain ⟨s, l, c4, hs⟩ := open_votes_l h4
 refine ⟨⟨k, key, st, v, s⟩, ⟨k, key, st, v, l⟩, ?_, rfl, rfl, rfl, rfl, hs⟩
 have e1 : cs = cs.take 1 ++ cs.drop 1 := (List.take_append_drop 1 cs).symm
 rw [e1, c0, drop_cut cs 1 32 33 rfl, c1, drop_cut cs 33 1 34 rfl, c2, drop_cut cs 34 1 35 rfl, c3, c4]
 simp [opA]
theorem open_ops_l (h : DataW.trod enc Try.prog w base spare held fuel 47 cs = some x) : ∃ (s : Sl) (l : List Op), cs = [s.v] ∧ OpsR w s l :=
 open_rows (R := OpC w) Try.underlying47 op_cells (by decide) (fun fuel cs x h => by
  obtain ⟨g, v, hc, hv⟩ := open_op_l h
  exact ⟨v, g, by rw [hc], hv⟩) h
theorem open_header_l (h : DataW.trod enc Try.prog w base spare held fuel 49 cs = some x) : ∃ (g : GHeader) (o : Hdr), cs = (headerA g).toList ∧ HdrR w g o := by
 obtain ⟨n, hl, hx⟩ := field_open header_under header_fields h
 obtain ⟨y0, h0⟩ := hx 0 _ _ _ rfl
 obtain ⟨y1, h1⟩ := hx 1 _ _ _ rfl
 obtain ⟨y2, h2⟩ := hx 2 _ _ _ rfl
 rw [header_cells] at hl
 rw [hash_cells, List.drop_zero] at h0
 rw [u64_cells] at h1
 rw [ops_cells, List.take_of_length_le (by rw [List.length_drop, hl]; decide)] at h2
 obtain ⟨pa, c0⟩ := open_hash Try.underlying24 Try.underlying5 u8_cells hash_cells h0
 obtain ⟨ep, c1⟩ := open_u64 Try.underlying22 h1
 obtain ⟨s, l, c2, hs⟩ := open_ops_l h2
 refine ⟨⟨pa, ep, s⟩, ⟨pa, ep, l⟩, ?_, rfl, rfl, hs⟩
 have e1 : cs = cs.take 32 ++ cs.drop 32 := (List.take_append_drop 32 cs).symm
 rw [e1, c0, drop_cut cs 32 1 33 rfl, c1, c2]
 simp [headerA]
end
end Go.Proofs.Ythdjhbiigmcecaa

/- Acts, numbers and hashes among the arguments, opened. -/
namespace Go.Proofs.Ythdjhbiigmcecaa
open Go.ChangeShapes Go.WideShapes Go.ChangeAt Go.RowKit

theorem okWide_len {P : Program} {w : World} {r : Reach} {base : Nat} {t e : TypeId} (ht : P.underlying t = some (.slice e)) {s : Sl} (h : Value.okWide P w r base t s.v) : s.n ≤ 9223372036854775807 := by
 obtain ⟨a, n, c⟩ := s
 simp only [Value.okWide, ht, Cell.okWide, Sl.v] at h
 cases a with
 | none =>
  cases n with
  | zero => exact Nat.zero_le _
  | succ m => simp [Cell.ok, ht] at h
 | some a =>
  simp only [Cell.ok, ht] at h
  obtain ⟨h1, h2, -⟩ := h
  have h3 : (c : Int) ≤ 9223372036854775807 := by simpa [IntKind.max, IntKind.signed, IntKind.bits] using h2
  show n ≤ 9223372036854775807
  omega
theorem open_rowsQ {H : Type} {P : Program} {enc : TypeId × Value → H} {w : World} {base : Nat} {spare : Nat → Bool} {held : Bool} {t e : TypeId} {k : Nat} (ht : P.underlying t = some (.slice e)) (hk : P.cellsOf e = k) (h0 : 0 < k)
  {α : Type} {R : Array Value → α → Prop} (hR : ∀ fuel cs x, DataW.trod enc P w base spare held fuel e cs = some x → ∃ y, R cs.toArray y)
  {r : Reach} {b0 : Nat} {v : Value} {d : DataW H} {p : List MemPlace} (hv : Value.okWide P w r b0 t v) (h : DataW.Trod enc P w base spare held t v d p) : ∃ (s : Sl) (l : List α), v = s.v ∧ SlR k R w s l := by
 obtain ⟨a0, len0, cap0, rfl⟩ := okWide_slice ht hv
 obtain ⟨fuel, hf⟩ := h
 obtain ⟨s, l, hcs, hr⟩ := open_rows (R := R) ht hk h0 hR hf
 simp [Value.cells] at hcs
 obtain ⟨e1, e2, e3⟩ := hcs
 refine ⟨s, l, ?_, hr⟩
 obtain ⟨a, n, c⟩ := s
 simp only at e1 e2 e3
 subst e1 e2 e3
 rfl
theorem act_under : Try.prog.underlying 165 = some (.struct (Try.prog.fieldsOf 165)) := by kernel_rfl
theorem act_fields : (Try.prog.fieldsOf 165).toList.map (fun f => (f.name, f.type, f.offset)) = [("Header", 49, 0), ("Under", 4, 34), ("N", 3, 35)] := by kernel_rfl
theorem act_cellsOf : Try.prog.cellsOf 165 = 36 := by kernel_rfl
theorem boolq_cellsOf : Try.prog.cellsOf 4 = 1 := by kernel_rfl
section
variable {H : Type} {enc : TypeId × Value → H} {w : World} {base : Nat} {spare : Nat → Bool} {held : Bool}
theorem open_act_l {fuel : Nat} {cs : List Value} {x : DataW H × List MemPlace} (h : DataW.trod enc Try.prog w base spare held fuel 165 cs = some x) : ∃ a : Act, ActC w cs.toArray a := by
 obtain ⟨n, hl, hx⟩ := field_open act_under act_fields h
 obtain ⟨y0, h0⟩ := hx 0 _ _ _ rfl
 obtain ⟨y1, h1⟩ := hx 1 _ _ _ rfl
 obtain ⟨y2, h2⟩ := hx 2 _ _ _ rfl
 rw [act_cellsOf] at hl
 rw [header_cells, List.drop_zero] at h0
 rw [boolq_cellsOf] at h1
 rw [int_cells, List.take_of_length_le (by rw [List.length_drop, hl]; decide)] at h2
 obtain ⟨g, o, c0, r0⟩ := open_header_l h0
 obtain ⟨b, c1, _⟩ := DataW.trod_bool Try.underlying4 h1
 obtain ⟨k, c2⟩ := open_i64 Try.underlying3 h2
 refine ⟨⟨o, b, k⟩, ⟨g, b, k⟩, ?_, r0, rfl, rfl⟩
 have e1 : cs = cs.take 34 ++ cs.drop 34 := (List.take_append_drop 34 cs).symm
 rw [e1, c0, drop_cut cs 34 1 35 rfl, c1, c2]
 simp [actA]
set_option maxRecDepth 100000 in
theorem open_acts {r : Reach} {b0 : Nat} {v : Value} {d : DataW H} {p : List MemPlace} (hv : Value.okWide Try.prog w r b0 57 v) (h : DataW.Trod enc Try.prog w base spare held 57 v d p) :
  ∃ (s : Sl) (l : List Act), v = s.v ∧ ActsR w s l ∧ l.length ≤ 9223372036854775807 := by
 obtain ⟨s, l, rfl, hr⟩ := open_rowsQ (R := ActC w) Try.underlying57 act_cellsOf (by decide) (fun fuel cs x h => open_act_l h) hv h
 exact ⟨s, l, rfl, hr, by rw [← hr.1]; exact okWide_len Try.underlying57 hv⟩
set_option maxRecDepth 100000 in
theorem open_point_v {r : Reach} {b0 : Nat} {v : Value} {d : DataW H} {p : List MemPlace} (hv : Value.okWide Try.prog w r b0 26 v) (h : DataW.Trod enc Try.prog w base spare held 26 v d p) :
  ∃ k : Pt, v = .agg (pointA k) := open_point hv h
end
end Go.Proofs.Ythdjhbiigmcecaa
