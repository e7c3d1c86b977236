/- Texts of this proof, one behind the other: Law, OpenB, OpenV, OpenH, OpenQ, ClaW. -/
import Derived.Test.YthdjhbiigmcecaaGreatCAG
import Derived.ProofKit
import Derived.OpenShut
import Derived.Carry
import Derived.Below
import Derived.ChangeSame
import Derived.Test.YthdjhbiigmcecaaGreatCAB
import Derived.ChangeSlices
import Derived.Test.YthdjhbiigmcecaaGreatCAC
import Derived.Deep.Slices
import Derived.Test.YthdjhbiigmcecaaGreatCAV
import Derived.Test.YthdjhbiigmcecaaGreatCAY
import Derived.Test.YthdjhbiigmcecaaGreatCBD
set_option linter.unusedVariables false
set_option linter.unusedSimpArgs false
/- From a walk to the row: the arguments opened; behind the call they read as before. Over any program; then hashes and checkpoints. -/
namespace Go.Proofs.YthdjhbiigmcecaaGreat
open Go.ChangeShapes Go.WideShapes Go.ChangeAt Go.RowKit

section
variable {H : Type} {enc : TypeId × Value → H} {P : Program}
theorem post_below {f : Func} {s : ChangeSpec} {apart fresh handsOn again : Bool} {W W' : World} {args : Array Value} {v : Value} {ds gs : List (DataW H)} {before pa pv : List MemPlace}
  (hW : DataW.Whole enc P f.params.toList s.vars apart W args.toList ds gs before)
  (hres : ∀ (b : Nat) (sp : Nat → Bool) (hd : Bool), DataW.TrodAll enc P W' b sp hd f.resultTypes.toList (v.resultList f.resultTypes.size) (s.fn H (ds ++ gs)).results [])
  (hargs : ∀ sp : Nat → Bool, (∀ p ∈ before, sp p.block = true) → DataW.TrodAll enc P W' 0 sp true f.params.toList args.toList (s.fn H (ds ++ gs)).args pa)
  (hvars : ∀ sp : Nat → Bool, (∀ p ∈ before, sp p.block = true) → DataW.TrodVars enc P W' sp s.vars (s.fn H (ds ++ gs)).vars pv)
  (hps : before = pa ++ pv) (hb : Below W.heap.size W W')
  (hok : ∀ (j : Nat) (t : TypeId) (r : Value), f.resultTypes[j]? = some t → (v.resultList f.resultTypes.size)[j]? = some r → Value.okWide P W' .any 0 t r) :
  s.post enc P f apart fresh handsOn again W args v W' := by
 have hlt : ∀ p ∈ before, p.block < W.heap.size := fun p hp => hW.lt p hp
 have hold : ∀ p ∈ before, (fun b => decide (b < W.heap.size)) p.block = true := fun p hp => by simpa using hlt p hp
 refine ⟨ds, gs, before, [], pa, pv, hW, hres _ _ _, hargs _ hold, hvars _ hold, World.keptBut_mono (fun p hp => ⟨hp, ?_⟩) (hb.frame (· ∈ before)), fun _ => ?_⟩
 ·rw [hps, List.mem_append] at hp
  exact Or.inr hp
 ·obtain ⟨_, _, _, _, _, hz, hn⟩ := hW
  refine ⟨hok, _, _, ([] ++ pa) ++ pv, ⟨[] ++ pa, pv, trodAll_append (hargs _ (fun _ _ => rfl)) (hres _ _ _), hvars _ (fun _ _ => rfl), rfl, ?_, ?_⟩, ?_⟩
  ·intro b off hp
   have hin : MemPlace.cell b off ∈ before := by rw [hps]; simpa using hp
   rw [hb.frozen (hlt _ hin)]
   exact hz b off hin
  ·intro ha
   have := hn ha
   rw [hps] at this
   simpa using this
  ·intro p hp _
   rw [hps]
   simpa using hp

theorem keepAll (hl : laidOutB P = true) {W W' : World} (hb : Below W.heap.size W W') (sp : Nat → Bool) :
  ∀ (ts : List TypeId) (vs : List Value) (ds : List (DataW H)) (ps : List MemPlace), (ts.all fun t => P.readableRec t && decide (t < P.types.size)) = true → DataW.TrodAll enc P W 0 (fun _ => true) true ts vs ds ps →
   (∀ x ∈ ps, x.block < W.heap.size) → (∀ p ∈ ps, sp p.block = true) → DataW.TrodAll enc P W' 0 sp true ts vs ds ps
 | [], [], [], _, _, h, _, _ => h
 | [], [], _ :: _, _, _, h, _, _ => h.elim
 | [], _ :: _, _, _, _, h, _, _ => by cases ‹List (DataW H)› <;> exact h.elim
 | _ :: _, [], _, _, _, h, _, _ => by cases ‹List (DataW H)› <;> exact h.elim
 | _ :: _, _ :: _, [], _, _, h, _, _ => h.elim
 | t :: ts, v :: vs, d :: ds, ps, ht, h, hlt, hsp => by
  obtain ⟨p, q, h1, h2, rfl⟩ := h
  simp only [List.all_cons, Bool.and_eq_true, decide_eq_true_eq] at ht
  refine ⟨p, q, WideElems.Trod_stays hl ht.1.1 ht.1.2 h1 (fun x hx => hb.same (hlt x (List.mem_append_left _ hx))) (fun x hx => hsp x (List.mem_append_left _ hx)), ?_, rfl⟩
  exact keepAll hl hb sp ts vs ds q ht.2 h2 (fun x hx => hlt x (List.mem_append_right _ hx)) (fun x hx => hsp x (List.mem_append_right _ hx))

/-- a law that answers true, and leaves what was there: its row's post -/
theorem law_post {f : Func} {s : ChangeSpec} {W W' : World} {args : Array Value} {ds gs : List (DataW H)} {before : List MemPlace} (tb : TypeId)
  (hl : laidOutB P = true) (hts : (f.params.toList.all fun t => P.readableRec t && decide (t < P.types.size)) = true) (hrt : f.resultTypes = #[tb]) (htb : P.underlying tb = some .bool)
  (hvars : s.vars = []) (hW : DataW.Whole enc P f.params.toList s.vars false W args.toList ds gs before)
  (hres : (s.fn H ds).results = [.lit (.bool true)]) (hargs : (s.fn H ds).args = ds) (hvs : (s.fn H ds).vars = []) (hb : Below W.heap.size W W') :
  s.post enc P f false true false false W args (.bool true) W' := by
 have hW' := hW
 obtain ⟨p, q, hA, hV, rfl, _, _⟩ := hW
 rw [hvars] at hV
 obtain ⟨rfl, rfl⟩ := trodVars_none hV
 refine post_below (pa := p) (pv := []) hW' ?_ ?_ ?_ rfl hb ?_
 ·intro b sp hd
  rw [List.append_nil, hres, hrt]
  exact trodAll_cons_mk (shut_bool htb _) trodAll_mk0
 ·intro sp hsp
  rw [List.append_nil, hargs]
  exact keepAll hl hb sp _ _ _ _ hts hA (fun x hx => hW'.lt x (by simpa using hx)) (fun x hx => hsp x (by simpa using hx))
 ·intro sp hsp
  rw [List.append_nil, hvs, hvars]
  rfl
 ·exact ok_one hrt rfl (okWide_bool_mk htb _)

/-! arguments opened -/
variable {w : World} {base : Nat} {spare : Nat → Bool} {held : Bool}
theorem open_bytes : ∀ (cs : List Value), (∀ i, i < cs.length → ∃ n : Int, cs[i]? = some (.int .u8 n) ∧ 0 ≤ n ∧ n ≤ 255) → ∃ l : List UInt8, cs = l.map byteV
 | [], _ => ⟨[], rfl⟩
 | c :: cs, h => by
  obtain ⟨n, h1, h2, h3⟩ := h 0 (by simp)
  obtain ⟨l, rfl⟩ := open_bytes cs (fun i hi => by simpa using h (i + 1) (by simpa using hi))
  simp at h1
  subst h1
  refine ⟨UInt8.ofNat n.toNat :: l, ?_⟩
  simp only [List.map_cons, byteV]
  congr 2
  simp
  omega
theorem open_hash {t e : TypeId} {fuel : Nat} {cs : List Value} {x : DataW H × List MemPlace} (ht : P.underlying t = some (.array 32 e)) (he : P.underlying e = some (.int .u8)) (hce : P.cellsOf e = 1) (hct : P.cellsOf t = 32)
  (h : DataW.trod enc P w base spare held fuel t cs = some x) : ∃ n : Hash, cs = (hashA n).toList := by
 obtain ⟨xs, m, _, _, hl, hn, hx⟩ := DataW.trod_array ht h
 rw [hct] at hl
 obtain ⟨l, rfl⟩ := open_bytes cs (fun i hi => by
  have hi' : i < 32 := by omega
  have h1 := hx i hi'
  rw [hce, Nat.mul_one, List.getElem?_eq_getElem (by omega)] at h1
  obtain ⟨n, h2, _, h3⟩ := DataW.trod_int he h1
  have h4 : cs[i]? = some (.int .u8 n) := by
   have := congrArg (fun l : List Value => l[0]?) h2
   simpa [List.getElem?_take, List.getElem?_drop] using this
  refine ⟨n, h4, ?_⟩
  simpa [Lit.wf, IntKind.min, IntKind.max, IntKind.signed, IntKind.bits] using h3)
 exact ⟨⟨l, by simpa using hl⟩, by simp [hashA]⟩
theorem struct_open {fs : Array Field} {t : TypeId} {fuel : Nat} {cs : List Value} {x : DataW H × List MemPlace} (ht : P.underlying t = some (.struct fs)) (h : DataW.trod enc P w base spare held fuel t cs = some x) :
  ∃ n, cs.length = P.cellsOf t ∧ ∀ (i : Nat) (f : Field), fs[i]? = some f → ∃ y, DataW.trod enc P w base spare held n f.type ((cs.drop f.offset).take (P.cellsOf f.type)) = some y := by
 obtain ⟨xs, n, _, _, hl, hn, hx⟩ := DataW.trod_struct ht h
 refine ⟨n, hl, fun i f hf => ?_⟩
 have hi : i < fs.size := (Array.getElem?_eq_some_iff.1 hf).1
 exact ⟨xs[i]'(by omega), by rw [hx i f hf, List.getElem?_eq_getElem (by omega)]⟩
theorem field_at {t : TypeId} {l : List (String × TypeId × Nat)} (hf : (P.fieldsOf t).toList.map (fun f => (f.name, f.type, f.offset)) = l) (i : Nat) (n : String) (ti : TypeId) (o : Nat) (hi : l[i]? = some (n, ti, o)) :
  ∃ f, (P.fieldsOf t)[i]? = some f ∧ f.type = ti ∧ f.offset = o := by
 subst hf
 rw [List.getElem?_map] at hi
 cases hg : (P.fieldsOf t).toList[i]? with
 | none => rw [hg] at hi; cases hi
 | some f =>
  rw [hg] at hi
  simp only [Option.map_some, Option.some.injEq, Prod.mk.injEq] at hi
  exact ⟨f, by simpa using hg, hi.2.1, hi.2.2⟩
theorem field_open {t : TypeId} {fuel : Nat} {cs : List Value} {x : DataW H × List MemPlace} {l : List (String × TypeId × Nat)} (ht : P.underlying t = some (.struct (P.fieldsOf t))) (hf : (P.fieldsOf t).toList.map (fun f => (f.name, f.type, f.offset)) = l)
  (h : DataW.trod enc P w base spare held fuel t cs = some x) : ∃ n, cs.length = P.cellsOf t ∧ ∀ (i : Nat) (nm : String) (ti : TypeId) (o : Nat), l[i]? = some (nm, ti, o) → ∃ y, DataW.trod enc P w base spare held n ti ((cs.drop o).take (P.cellsOf ti)) = some y := by
 obtain ⟨n, hl, hx⟩ := struct_open ht h
 refine ⟨n, hl, fun i nm ti o hi => ?_⟩
 obtain ⟨f, h1, h2, h3⟩ := field_at hf i nm ti o hi
 subst h2
 subst h3
 exact hx i f h1
theorem open_u64 {t : TypeId} {fuel : Nat} {cs : List Value} {x : DataW H × List MemPlace} (ht : P.underlying t = some (.int .u64)) (h : DataW.trod enc P w base spare held fuel t cs = some x) : ∃ e : UInt64, cs = [.int .u64 (e.toNat : Int)] := by
 obtain ⟨n, rfl, _, hw⟩ := DataW.trod_int ht h
 have hb : 0 ≤ n ∧ n ≤ 18446744073709551615 := by simpa [Lit.wf, IntKind.min, IntKind.max, IntKind.signed, IntKind.bits] using hw
 refine ⟨UInt64.ofNat n.toNat, ?_⟩
 have : (UInt64.ofNat n.toNat).toNat = n.toNat := by simp; omega
 rw [this, Int.toNat_of_nonneg hb.1]
theorem open_point_cells {t tu th e : TypeId} {fuel : Nat} {cs : List Value} {x : DataW H × List MemPlace} {n0 n1 : String} (hf : (P.fieldsOf t).toList.map (fun f => (f.name, f.type, f.offset)) = [(n0, tu, 0), (n1, th, 1)]) (ht : P.underlying t = some (.struct (P.fieldsOf t)))
  (hu : P.underlying tu = some (.int .u64)) (hcu : P.cellsOf tu = 1) (hh : P.underlying th = some (.array 32 e)) (he : P.underlying e = some (.int .u8)) (hce : P.cellsOf e = 1) (hch : P.cellsOf th = 32) (hct : P.cellsOf t = 33)
  (h : DataW.trod enc P w base spare held fuel t cs = some x) : ∃ p : Pt, cs = (pointA p).toList := by
 obtain ⟨n, hl, hx⟩ := field_open ht hf h
 obtain ⟨y0, h0⟩ := hx 0 n0 tu 0 rfl
 obtain ⟨y1, h1⟩ := hx 1 n1 th 1 rfl
 rw [hcu, List.drop_zero] at h0
 rw [hch] at h1
 obtain ⟨ep, h2⟩ := open_u64 hu h0
 obtain ⟨nm, h3⟩ := open_hash hh he hce hch h1
 refine ⟨⟨ep, nm⟩, ?_⟩
 rw [List.take_of_length_le (by rw [List.length_drop, hl, hct]; decide)] at h3
 rw [← List.take_append_drop 1 cs, h2, h3]
 simp [pointA]
end
theorem laidOut : laidOutB Tryz.prog = true := by kernel_rfl
theorem u64_cells : Tryz.prog.cellsOf 22 = 1 := by kernel_rfl
theorem hash_cells : Tryz.prog.cellsOf 24 = 32 := by kernel_rfl
theorem point_cells : Tryz.prog.cellsOf 26 = 33 := by kernel_rfl
theorem point_under : Tryz.prog.underlying 26 = some (.struct (Tryz.prog.fieldsOf 26)) := by kernel_rfl
theorem open_point_l {H : Type} {enc : TypeId × Value → H} {w : World} {base : Nat} {spare : Nat → Bool} {held : Bool} {fuel : Nat} {cs : List Value} {x : DataW H × List MemPlace} (h : DataW.trod enc Tryz.prog w base spare held fuel 26 cs = some x) : ∃ p : Pt, cs = (pointA p).toList :=
 open_point_cells point_fields point_under Tryz.underlying22 u64_cells Tryz.underlying24 Tryz.underlying5 u8_cells hash_cells point_cells h
set_option maxRecDepth 100000 in
theorem open_point {H : Type} {enc : TypeId × Value → H} {w : World} {base : Nat} {spare : Nat → Bool} {held : Bool} {r : Reach} {b0 : Nat} {v : Value} {d : DataW H} {p : List MemPlace} (hv : Value.okWide Tryz.prog w r b0 26 v) (h : DataW.Trod enc Tryz.prog w base spare held 26 v d p) : ∃ p : Pt, v = .agg (pointA p) := by
 obtain ⟨cs, rfl, hsz⟩ := okWide_struct point_under hv
 obtain ⟨fuel, hf⟩ := h
 obtain ⟨p, hp⟩ := open_point_l hf
 exact ⟨p, congrArg Value.agg (Array.ext' (by simpa [Value.cells] using hp))⟩
end Go.Proofs.YthdjhbiigmcecaaGreat

/- A slice of bytes among the arguments, opened. -/
namespace Go.Proofs.YthdjhbiigmcecaaGreat
open Go.ChangeShapes Go.WideShapes Go.ChangeAt Go.RowKit

end Go.Proofs.YthdjhbiigmcecaaGreat

/- An api.Vote among the arguments, opened. -/
namespace Go.Proofs.YthdjhbiigmcecaaGreat
open Go.ChangeShapes Go.WideShapes Go.ChangeAt Go.RowKit

theorem bytes_of_ints {w : World} {a : Addr} {len cap : Nat} {zs : List Int} (hl : len ≤ cap) (hzl : len ≤ zs.length)
  (hcell : ∀ i, i < zs.length → w.cell? (a.add i) = some (.int .u8 (zs.getD i 0))) (hwz : ∀ n ∈ zs, (Lit.int .u8 n).wf = true) :
  BytesR w ⟨some a, len, cap⟩ ((zs.take len).map (fun n => UInt8.ofNat n.toNat)) := by
 refine ⟨by simp [hzl], hl, fun hne => ?_⟩
 have h0 : 0 < len := by
  rcases Nat.eq_zero_or_pos len with h | h
  ·subst h; simp at hne
  ·exact h
 have hsp : a.spot = none := by
  have := World.cell?_spot (hcell 0 (by omega))
  unfold Addr.add at this
  split at this <;> simp_all
 refine ⟨a.block, a.off, ?_, fun i hi => ?_⟩
 ·obtain ⟨b, o, sp⟩ := a
  simp only at hsp
  subst hsp
  rfl
 ·have hi' : i < len := by simp at hi; omega
  have h1 := hcell i (by omega)
  have hadd : a.add i = ⟨a.block, a.off + i, none⟩ := by
   obtain ⟨b, o, sp⟩ := a
   simp only at hsp
   subst hsp
   unfold Addr.add
   split <;> simp_all
  rw [hadd] at h1
  rw [h1]
  have hg : zs.getD i 0 = zs[i]'(by omega) := by simp [List.getD_eq_getElem?_getD, List.getElem?_eq_getElem (show i < zs.length by omega)]
  have hw := hwz (zs[i]'(by omega)) (List.getElem_mem _)
  have hb : 0 ≤ zs[i]'(by omega) ∧ zs[i]'(by omega) ≤ 255 := by simpa [Lit.wf, IntKind.min, IntKind.max, IntKind.signed, IntKind.bits] using hw
  simp only [List.getElem_map, List.getElem_take, byteV]
  rw [hg]
  congr 2
  simp
  omega
theorem open_bslice_l {H : Type} {P : Program} {enc : TypeId × Value → H} {w : World} {base : Nat} {spare : Nat → Bool} {held : Bool} {t e : TypeId} (ht : P.underlying t = some (.slice e)) (he : P.underlying e = some (.int .u8)) (hc : P.cellsOf e = 1)
  {fuel : Nat} {cs : List Value} {x : DataW H × List MemPlace} (hf : DataW.trod enc P w base spare held fuel t cs = some x) : ∃ (s : Sl) (l : List UInt8), cs = [s.v] ∧ BytesR w s l := by
 rcases open_ints ht he hc hf with ⟨hcs, _⟩ | ⟨a, len', cap', zs, hcs, _, hl, _, hz, _, hcell, hwz⟩
 ·exact ⟨⟨none, 0, 0⟩, [], hcs, BytesR.nil _ _ _⟩
 ·exact ⟨⟨some a, len', cap'⟩, _, hcs, bytes_of_ints hl (by rw [hz]; split <;> omega) hcell hwz⟩
theorem open_i64 {H : Type} {P : Program} {enc : TypeId × Value → H} {w : World} {base : Nat} {spare : Nat → Bool} {held : Bool} {t : TypeId} {fuel : Nat} {cs : List Value} {x : DataW H × List MemPlace} (ht : P.underlying t = some (.int .i64)) (h : DataW.trod enc P w base spare held fuel t cs = some x) : ∃ n : Int, cs = [.int .i64 n] := by
 obtain ⟨n, rfl, _, _⟩ := DataW.trod_int ht h
 exact ⟨n, rfl⟩

theorem vote_fields : (Tryz.prog.fieldsOf 76).toList.map (fun f => (f.name, f.type, f.offset)) = [("Validator", 3, 0), ("Source", 26, 1), ("Target", 26, 34), ("Sig", 74, 67)] := by kernel_rfl
theorem vote_under : Tryz.prog.underlying 76 = some (.struct (Tryz.prog.fieldsOf 76)) := by kernel_rfl
theorem int_cells : Tryz.prog.cellsOf 3 = 1 := by kernel_rfl
theorem bsl_cells : Tryz.prog.cellsOf 74 = 1 := by kernel_rfl
theorem vote_cells : Tryz.prog.cellsOf 76 = 68 := by kernel_rfl
theorem open_vote_l {H : Type} {enc : TypeId × Value → H} {w : World} {base : Nat} {spare : Nat → Bool} {held : Bool} {fuel : Nat} {cs : List Value} {x : DataW H × List MemPlace} (h : DataW.trod enc Tryz.prog w base spare held fuel 76 cs = some x) :
  ∃ (g : GVote) (v : Vote), cs = (voteA g).toList ∧ VoteR w g v := by
 obtain ⟨n, hl, hx⟩ := field_open vote_under vote_fields h
 obtain ⟨y0, h0⟩ := hx 0 _ _ _ rfl
 obtain ⟨y1, h1⟩ := hx 1 _ _ _ rfl
 obtain ⟨y2, h2⟩ := hx 2 _ _ _ rfl
 obtain ⟨y3, h3⟩ := hx 3 _ _ _ rfl
 rw [vote_cells] at hl
 rw [int_cells, List.drop_zero] at h0
 rw [point_cells] at h1 h2
 rw [bsl_cells, List.take_of_length_le (by rw [List.length_drop, hl]; decide)] at h3
 obtain ⟨k, c0⟩ := open_i64 Tryz.underlying3 h0
 obtain ⟨p, c1⟩ := open_point_l h1
 obtain ⟨q, c2⟩ := open_point_l h2
 obtain ⟨s, l, c3, hs⟩ := open_bslice_l Tryz.underlying74 Tryz.underlying5 u8_cells h3
 refine ⟨⟨k, p, q, s⟩, ⟨k, p, q, l⟩, ?_, rfl, rfl, rfl, hs⟩
 have e1 : cs = cs.take 1 ++ cs.drop 1 := (List.take_append_drop 1 cs).symm
 have e2 : cs.drop 1 = (cs.drop 1).take 33 ++ cs.drop 34 := by
  have := (List.take_append_drop 33 (cs.drop 1)).symm
  rwa [List.drop_drop] at this
 have e3 : cs.drop 34 = (cs.drop 34).take 33 ++ cs.drop 67 := by
  have := (List.take_append_drop 33 (cs.drop 34)).symm
  rwa [List.drop_drop] at this
 rw [e1, c0, e2, c1, e3, c2, c3]
 simp [voteA]
end Go.Proofs.YthdjhbiigmcecaaGreat

/- An api.Header among the arguments, opened: slices of structs, of any size. -/
namespace Go.Proofs.YthdjhbiigmcecaaGreat
open Go.ChangeShapes Go.WideShapes Go.ChangeAt Go.RowKit

theorem list_of {α : Type} {p : Nat → α → Prop} : ∀ (n : Nat), (∀ i, i < n → ∃ y, p i y) → ∃ l : List α, l.length = n ∧ ∀ (i : Nat) (h : i < l.length), p i l[i]
 | 0, _ => ⟨[], rfl, fun i h => absurd h (by simp)⟩
 | n + 1, h => by
  obtain ⟨l, hl, hp⟩ := list_of n (fun i hi => h i (by omega))
  obtain ⟨y, hy⟩ := h n (by omega)
  refine ⟨l ++ [y], by simp [hl], fun i hi => ?_⟩
  by_cases hi' : i < l.length
  ·rw [List.getElem_append_left hi']
   exact hp i hi'
  ·obtain rfl : i = l.length := by simp at hi; omega
   rw [List.getElem_append_right (Nat.le_refl _)]
   simp only [Nat.sub_self, List.getElem_cons_zero]
   rw [hl]
   exact hy

theorem add_none (a : Addr) (h : a.spot = none) (i : Nat) : a.add i = ⟨a.block, a.off + i, none⟩ := by
 obtain ⟨b, o, sp⟩ := a
 simp only at h
 subst h
 unfold Addr.add
 split <;> simp_all
theorem add_zero' (a : Addr) : a.add 0 = a := by unfold Addr.add; simp
theorem row_of_cells {w : World} {base : Nat} {a : Addr} {n : Nat} {cs : List Value} (h : w.cells? base a n = some cs) (h0 : 0 < n) : a.spot = none ∧ row? w a.block a.off n = some cs.toArray := by
 obtain ⟨_, hl, hc⟩ := World.cells?_some h
 have h1 := hc 0 h0
 rw [List.getElem?_eq_getElem (by omega), add_zero'] at h1
 have hs := World.cell?_spot h1
 refine ⟨hs, ?_⟩
 refine row?_of_cells (by simpa using hl) h0 (fun j hj => ?_)
 have h2 := hc j (by simp at hj; omega)
 rw [add_none a hs] at h2
 rw [h2]
 simp at hj
 simp [hj]

theorem open_rows {H : Type} {P : Program} {enc : TypeId × Value → H} {w : World} {base : Nat} {spare : Nat → Bool} {held : Bool} {t e : TypeId} {k : Nat} (ht : P.underlying t = some (.slice e)) (hk : P.cellsOf e = k) (h0 : 0 < k)
  {α : Type} {R : Array Value → α → Prop} (hR : ∀ fuel cs x, DataW.trod enc P w base spare held fuel e cs = some x → ∃ y, R cs.toArray y)
  {fuel : Nat} {cs : List Value} {x : DataW H × List MemPlace} (h : DataW.trod enc P w base spare held fuel t cs = some x) : ∃ (s : Sl) (l : List α), cs = [s.v] ∧ SlR k R w s l := by
 rcases Go.Deep.open_slice ht h with ⟨rfl, _⟩ | ⟨a, len, cap, m, n, D, Pl, rfl, _, hl, _, hm, _, hel⟩
 ·exact ⟨⟨none, 0, 0⟩, [], rfl, SlR.nil _ _ _ _ _⟩
 ·rw [hk] at hel
  have hlm : len ≤ m := by rw [hm]; split <;> omega
  have hsp : 0 < len → a.spot = none := fun hlen => by
   obtain ⟨cs', h1, _⟩ := hel 0 (by omega)
   rw [Nat.zero_mul, add_zero'] at h1
   exact (row_of_cells h1 h0).1
  obtain ⟨l, hll, hp⟩ := list_of (p := fun i y => ∃ cs', row? w a.block (a.off + i * k) k = some cs' ∧ R cs' y) len (fun i hi => by
   obtain ⟨cs', h1, h2⟩ := hel i (by omega)
   obtain ⟨_, h3⟩ := row_of_cells h1 h0
   obtain ⟨y, hy⟩ := hR _ _ _ h2
   refine ⟨y, cs'.toArray, ?_, hy⟩
   rw [add_none a (hsp (by omega))] at h3
   exact h3)
  refine ⟨⟨some a, len, cap⟩, l, rfl, hll.symm, hl, fun hne => ?_⟩
  have hlen : 0 < len := by
   rcases Nat.eq_zero_or_pos len with h | h
   ·subst h
    exact absurd (List.eq_nil_of_length_eq_zero hll) hne
   ·exact h
  have hs' := hsp hlen
  refine ⟨a.block, a.off, ?_, hp⟩
  obtain ⟨b, o, sp⟩ := a
  simp only at hs'
  subst hs'
  rfl

theorem op_fields : (Tryz.prog.fieldsOf 73).toList.map (fun f => (f.name, f.type, f.offset)) = [("Kind", 70, 0), ("Key", 24, 1), ("Stake", 22, 33), ("Validator", 3, 34), ("Evidence", 71, 35)] := by kernel_rfl
theorem op_under : Tryz.prog.underlying 73 = some (.struct (Tryz.prog.fieldsOf 73)) := by kernel_rfl
theorem header_fields : (Tryz.prog.fieldsOf 39).toList.map (fun f => (f.name, f.type, f.offset)) = [("Parent", 24, 0), ("Epoch", 22, 32), ("Ops", 37, 33)] := by kernel_rfl
theorem header_under : Tryz.prog.underlying 39 = some (.struct (Tryz.prog.fieldsOf 39)) := by kernel_rfl
theorem kind_cells : Tryz.prog.cellsOf 70 = 1 := by kernel_rfl
theorem evs_cells : Tryz.prog.cellsOf 71 = 1 := by kernel_rfl
theorem ops_cells : Tryz.prog.cellsOf 37 = 1 := by kernel_rfl
theorem op_cells : Tryz.prog.cellsOf 73 = 36 := by kernel_rfl
theorem header_cells : Tryz.prog.cellsOf 39 = 34 := by kernel_rfl

section
variable {H : Type} {enc : TypeId × Value → H} {w : World} {base : Nat} {spare : Nat → Bool} {held : Bool} {fuel : Nat} {cs : List Value} {x : DataW H × List MemPlace}
theorem drop_cut (cs : List Value) (a n b : Nat) (h : a + n = b) : cs.drop a = (cs.drop a).take n ++ cs.drop b := by
 have := (List.take_append_drop n (cs.drop a)).symm
 rwa [List.drop_drop, h] at this
theorem open_votes_l (h : DataW.trod enc Tryz.prog w base spare held fuel 71 cs = some x) : ∃ (s : Sl) (l : List Vote), cs = [s.v] ∧ VotesR w s l :=
 open_rows (R := VoteC w) Tryz.underlying71 vote_cells (by decide) (fun fuel cs x h => by
  obtain ⟨g, v, hc, hv⟩ := open_vote_l h
  exact ⟨v, g, by rw [hc], hv⟩) h
theorem open_op_l (h : DataW.trod enc Tryz.prog w base spare held fuel 73 cs = some x) : ∃ (g : GOp) (o : Op), cs = (opA g).toList ∧ OpR w g o := by
 obtain ⟨n, hl, hx⟩ := field_open op_under op_fields h
 obtain ⟨y0, h0⟩ := hx 0 _ _ _ rfl
 obtain ⟨y1, h1⟩ := hx 1 _ _ _ rfl
 obtain ⟨y2, h2⟩ := hx 2 _ _ _ rfl
 obtain ⟨y3, h3⟩ := hx 3 _ _ _ rfl
 obtain ⟨y4, h4⟩ := hx 4 _ _ _ rfl
 rw [op_cells] at hl
 rw [kind_cells, List.drop_zero] at h0
 rw [hash_cells] at h1
 rw [u64_cells] at h2
 rw [int_cells] at h3
 rw [evs_cells, List.take_of_length_le (by rw [List.length_drop, hl]; decide)] at h4
 obtain ⟨k, c0⟩ := open_i64 Tryz.underlying70 h0
 obtain ⟨key, c1⟩ := open_hash Tryz.underlying24 Tryz.underlying5 u8_cells hash_cells h1
 obtain ⟨st, c2⟩ := open_u64 Tryz.underlying22 h2
 obtain ⟨v, c3⟩ := open_i64 Tryz.underlying3 h3
 obtain ⟨s, l, c4, hs⟩ := open_votes_l h4
 refine ⟨⟨k, key, st, v, s⟩, ⟨k, key, st, v, l⟩, ?_, rfl, rfl, rfl, rfl, hs⟩
 have e1 : cs = cs.take 1 ++ cs.drop 1 := (List.take_append_drop 1 cs).symm
 rw [e1, c0, drop_cut cs 1 32 33 rfl, c1, drop_cut cs 33 1 34 rfl, c2, drop_cut cs 34 1 35 rfl, c3, c4]
 simp [opA]
theorem open_ops_l (h : DataW.trod enc Tryz.prog w base spare held fuel 37 cs = some x) : ∃ (s : Sl) (l : List Op), cs = [s.v] ∧ OpsR w s l :=
 open_rows (R := OpC w) Tryz.underlying37 op_cells (by decide) (fun fuel cs x h => by
  obtain ⟨g, v, hc, hv⟩ := open_op_l h
  exact ⟨v, g, by rw [hc], hv⟩) h
theorem open_header_l (h : DataW.trod enc Tryz.prog w base spare held fuel 39 cs = some x) : ∃ (g : GHeader) (o : Hdr), cs = (headerA g).toList ∧ HdrR w g o := by
 obtain ⟨n, hl, hx⟩ := field_open header_under header_fields h
 obtain ⟨y0, h0⟩ := hx 0 _ _ _ rfl
 obtain ⟨y1, h1⟩ := hx 1 _ _ _ rfl
 obtain ⟨y2, h2⟩ := hx 2 _ _ _ rfl
 rw [header_cells] at hl
 rw [hash_cells, List.drop_zero] at h0
 rw [u64_cells] at h1
 rw [ops_cells, List.take_of_length_le (by rw [List.length_drop, hl]; decide)] at h2
 obtain ⟨pa, c0⟩ := open_hash Tryz.underlying24 Tryz.underlying5 u8_cells hash_cells h0
 obtain ⟨ep, c1⟩ := open_u64 Tryz.underlying22 h1
 obtain ⟨s, l, c2, hs⟩ := open_ops_l h2
 refine ⟨⟨pa, ep, s⟩, ⟨pa, ep, l⟩, ?_, rfl, rfl, hs⟩
 have e1 : cs = cs.take 32 ++ cs.drop 32 := (List.take_append_drop 32 cs).symm
 rw [e1, c0, drop_cut cs 32 1 33 rfl, c1, c2]
 simp [headerA]
end
end Go.Proofs.YthdjhbiigmcecaaGreat

/- Acts, numbers and hashes among the arguments, opened. -/
namespace Go.Proofs.YthdjhbiigmcecaaGreat
open Go.ChangeShapes Go.WideShapes Go.ChangeAt Go.RowKit

theorem open_rowsQ {H : Type} {P : Program} {enc : TypeId × Value → H} {w : World} {base : Nat} {spare : Nat → Bool} {held : Bool} {t e : TypeId} {k : Nat} (ht : P.underlying t = some (.slice e)) (hk : P.cellsOf e = k) (h0 : 0 < k)
  {α : Type} {R : Array Value → α → Prop} (hR : ∀ fuel cs x, DataW.trod enc P w base spare held fuel e cs = some x → ∃ y, R cs.toArray y)
  {r : Reach} {b0 : Nat} {v : Value} {d : DataW H} {p : List MemPlace} (hv : Value.okWide P w r b0 t v) (h : DataW.Trod enc P w base spare held t v d p) : ∃ (s : Sl) (l : List α), v = s.v ∧ SlR k R w s l := by
 obtain ⟨a0, len0, cap0, rfl⟩ := okWide_slice ht hv
 obtain ⟨fuel, hf⟩ := h
 obtain ⟨s, l, hcs, hr⟩ := open_rows (R := R) ht hk h0 hR hf
 simp [Value.cells] at hcs
 obtain ⟨e1, e2, e3⟩ := hcs
 refine ⟨s, l, ?_, hr⟩
 obtain ⟨a, n, c⟩ := s
 simp only at e1 e2 e3
 subst e1 e2 e3
 rfl
section
variable {H : Type} {enc : TypeId × Value → H} {w : World} {base : Nat} {spare : Nat → Bool} {held : Bool}
set_option maxRecDepth 100000 in
theorem open_u {r : Reach} {b0 : Nat} {v : Value} {d : DataW H} {p : List MemPlace} (hv : Value.okWide Tryz.prog w r b0 22 v) (h : DataW.Trod enc Tryz.prog w base spare held 22 v d p) : ∃ n : UInt64, v = .int .u64 (n.toNat : Int) := by
 obtain ⟨x, rfl, rfl, rfl, wx⟩ := open_int Tryz.underlying22 hv h
 have bx : 0 ≤ x ∧ x ≤ 18446744073709551615 := by simpa [Lit.wf, IntKind.min, IntKind.max, IntKind.signed, IntKind.bits] using wx
 refine ⟨UInt64.ofNat x.toNat, ?_⟩
 have : (UInt64.ofNat x.toNat).toNat = x.toNat := by simp; omega
 rw [this, Int.toNat_of_nonneg bx.1]
set_option maxRecDepth 100000 in
theorem open_point_v {r : Reach} {b0 : Nat} {v : Value} {d : DataW H} {p : List MemPlace} (hv : Value.okWide Tryz.prog w r b0 26 v) (h : DataW.Trod enc Tryz.prog w base spare held 26 v d p) :
  ∃ k : Pt, v = .agg (pointA k) := open_point hv h
set_option maxRecDepth 100000 in
theorem open_is {r : Reach} {b0 : Nat} {v : Value} {d : DataW H} {p : List MemPlace} (hv : Value.okWide Tryz.prog w r b0 28 v) (h : DataW.Trod enc Tryz.prog w base spare held 28 v d p) :
  ∃ (s : Sl) (l : List Int), v = s.v ∧ SlR 1 (fun cs n => cs = #[.int .i64 n]) w s l :=
 open_rowsQ (R := fun cs n => cs = #[.int .i64 n]) Tryz.underlying28 int_cells (by decide) (fun fuel cs x h => by
  obtain ⟨n, hc⟩ := open_i64 Tryz.underlying3 h
  exact ⟨n, by rw [hc]⟩) hv h
end
end Go.Proofs.YthdjhbiigmcecaaGreat

/- The walk of FfgClash. -/
namespace Go.Proofs.YthdjhbiigmcecaaGreat
open Go.RowKit

def HdrD (w : World) (cs : Array Value) (h : Hdr) : Prop := ∃ g, cs = headerA g ∧ HdrR w g h
abbrev HdsR (w : World) (s : Sl) (l : List Hdr) : Prop := SlR 34 (HdrD w) w s l
theorem HdsR.keep' {w w' : World} {s : Sl} {l : List Hdr} (h : HdsR w s l) (hb : Below w.heap.size w w') : HdsR w' s l :=
 SlR.keep h hb fun _ _ ⟨g, e, hv⟩ => ⟨g, e, hv.keep' hb⟩
set_option maxRecDepth 100000 in
theorem open_hds {H : Type} {enc : TypeId × Value → H} {w : World} {base : Nat} {spare : Nat → Bool} {held : Bool} {r : Reach} {b0 : Nat} {v : Value} {d : DataW H} {p : List MemPlace} (hv : Value.okWide Tryz.prog w r b0 27 v) (h : DataW.Trod enc Tryz.prog w base spare held 27 v d p) :
  ∃ (s : Sl) (l : List Hdr), v = s.v ∧ HdsR w s l :=
 open_rowsQ (R := HdrD w) Tryz.underlying27 header_cells (by decide) (fun fuel cs x h => by
  obtain ⟨g, o, hc, hr⟩ := open_header_l h
  exact ⟨o, g, by rw [hc], hr⟩) hv h
abbrev NsR (w : World) (s : Sl) (l : List Int) : Prop := SlR 1 (fun cs n => cs = #[.int .i64 n]) w s l
/-- a box is made, a checkpoint put into it -/
structure HAl (W0 : World) (p : Pt) (L : List Bool) (V : List Value) (w : World) : Prop where
 bel : Below W0.heap.size W0 w
 box : L.getD 0 false = true → ∃ b, V.getD 0 undef = .pointer (some ⟨b, 0, none⟩) ∧ W0.heap.size ≤ b ∧ b < w.heap.size ∧ there w b 0 33 ∧ (L.getD 1 false = true → row? w b 0 33 = some (pointA p))
section
variable {W0 w w' : World} {p : Pt} {l1 l2 : Bool} {v1 v2 : Value}
theorem HAl.zero (V : List Value) : HAl W0 p [false, false] V W0.drew := ⟨(Below.refl _ _).drew, fun q => by cases q⟩
theorem HAl.alloc (h : HAl W0 p [l1, l2] [v1, v2] w) (h2 : l2 = false) (t : TypeId) : HAl W0 p [true, l2] [.pointer (some ⟨w.heap.size, 0, none⟩), v2] (w.alloc (.cells (pointA zeroPt) t)) := by
 refine ⟨h.bel.trans ((bel_a _ _).mono h.bel.size), fun _ => ⟨w.heap.size, rfl, h.bel.size, by simp, there_new _ _ _ _ _ (by simp), fun r => ?_⟩⟩
 rw [h2] at r
 cases r
theorem HAl.put (h : HAl W0 p [l1, l2] [v1, v2] w) (h1 : l1 = true) {b : Nat} (e : v1 = .pointer (some ⟨b, 0, none⟩)) : there w b 0 33 ∧ HAl W0 p [l1, true] [v1, undef] (putRow w b 0 (pointA p)) := by
 obtain ⟨b', q1, q2, q3, q4, q5⟩ := h.box h1
 have q1' : v1 = .pointer (some ⟨b', 0, none⟩) := q1
 rw [e] at q1'
 have hb : b = b' := by
  injection q1' with q1'
  injection q1' with q1'
  injection q1'
 subst hb
 refine ⟨q4, below_put h.bel q2 _ _, fun _ => ⟨b, q1, q2, by rw [size_put]; exact q3, by rw [there_put']; exact q4, fun _ => row?_put_same _ _ _ _ _ (by simp) (by omega) q4⟩⟩
end
theorem set_epoch_row {w : World} {b : Nat} {p : Pt} (h : row? w b 0 33 = some (pointA p)) (e : UInt64) : row? (w.setCell ⟨b, 0, none⟩ (.int .u64 (e.toNat : Int))) b 0 33 = some (pointA { p with epoch := e }) := by
 have h2 := splice_mid #[] #[.int .u64 (p.epoch.toNat : Int)] #[.int .u64 (e.toNat : Int)] (hashA p.name) 0 rfl rfl
 rw [Array.empty_append, Array.empty_append] at h2
 rw [row?_set_in' _ _ _ _ _ (by omega), h, Option.map_some]
 exact congrArg some h2
theorem two_pts (W : World) (p q : Pt) : ∃ W', W' = putRow (putRow ((W.alloc (.cells (pointA zeroPt) 26)).alloc (.cells (pointA zeroPt) 26)) W.heap.size 0 (pointA p)) (W.heap.size + 1) 0 (pointA q) ∧ row? W' W.heap.size 0 33 = some (pointA p) ∧ row? W' (W.heap.size + 1) 0 33 = some (pointA q) ∧ Below W.heap.size W W' ∧ W'.heap.size = W.heap.size + 2 := by
 have ht0 : there ((W.alloc (.cells (pointA zeroPt) 26)).alloc (.cells (pointA zeroPt) 26)) W.heap.size 0 33 := there_old _ _ _ _ _ (by simp) (there_new _ _ _ _ _ (by simp))
 have ht1 : there ((W.alloc (.cells (pointA zeroPt) 26)).alloc (.cells (pointA zeroPt) 26)) (W.heap.size + 1) 0 33 := by
  have := there_new (W.alloc (.cells (pointA zeroPt) 26)) (pointA zeroPt) 26 0 33 (by simp)
  simpa using this
 have hb : Below W.heap.size W ((W.alloc (.cells (pointA zeroPt) 26)).alloc (.cells (pointA zeroPt) 26)) := by (repeat' (first | (with_reducible first | exact Below.refl _ _ | assumption | refine bel_trans (by assumption) ?_ ?_ | refine bel_grown (by assumption) ?_ ?_ ?_ | refine Below.alloc ?_ ?_ _ | refine Below.drew ?_ | refine below_drewN ?_ _ | refine Below.setCell ?_ ?_ _ | refine below_put ?_ ?_ _ _ | exact Nat.le_refl _) | omega | (with_reducible first | refine Nat.le_trans ?_ (Below.size (by assumption)) | refine Nat.le_trans ?_ (World.grownBy.size (by assumption))) | (simp only [World.size_alloc, World.size_setCell, World.size_drew, size_drewN]; omega) | (simp only [World.size_alloc, World.size_setCell, World.size_drew, size_drewN, size_put]; omega) | (intro k hk; simp [Value.ownBlock] at hk; first | done | omega) | (simp [size_drewN] at *; omega)))
 refine ⟨_, rfl, (row?_put_far _ _ _ _ _ _ _ (by omega)).trans (row?_put_same _ _ _ _ _ (by simp) (by omega) ht0), row?_put_same _ _ _ _ _ (by simp) (by omega) (there_put _ _ _ _ _ _ _ ht1), below_put (below_put hb (Nat.le_refl _) _ _) (by omega) _ _, by rw [size_put, size_put]; simp⟩
theorem run_bldPtZ (W : World) : (bldPt #[]).run Tryz.prog W = .ok (.agg (pointA zeroPt)) W := by
 unfold bldPt
 go_simp
attribute [local go_sem ↓] fold_bldPt fold_bsPt fold_appPt
attribute [local go_sem] run_bldPtZ
set_option maxRecDepth 100000 in
set_option maxHeartbeats 6400000 in
theorem fclash_walk (p : Pt) (s : Sl) (l : List Hdr) (su : Sl) (us : List Int) (sp : Sl) (ps : List Int) (ep : UInt64) (w : World) (hs : HdsR w s l) (hu : NsR w su us) (hp : NsR w sp ps) :
  Calls Tryz.prog 3 #[.agg (pointA p), s.v, su.v, sp.v, .int .u64 (ep.toNat : Int)] w fun e w' => e = .returned (.bool true) ∧ Below w.heap.size w w' := by
 obtain ⟨w1, hw1⟩ : ∃ W, W = w.alloc (.cells (pointA p) 26) := ⟨_, rfl⟩
 have hB1 : Below w.heap.size w w1 := by rw [hw1]; exact bel_a _ _
 have hz1 : w1.heap.size = w.heap.size + 1 := by rw [hw1]; simp
 have hr5 : row? w1 w.heap.size 0 33 = some (pointA p) := by rw [hw1, row?_new]; simp
 have hs1 := Lib.hid (hs.keep' hB1)
 have hu1 := Lib.hid (show NsR w1 su us from SlR.keep hu hB1 fun _ _ h => h)
 have hp1 := Lib.hid (show NsR w1 sp ps from SlR.keep hp hB1 fun _ _ h => h)
 obtain ⟨sa, sn, sc⟩ := s
 obtain rfl : sn = l.length := hs.1
 obtain ⟨ua, un, uc⟩ := su
 obtain rfl : un = us.length := hu.1
 obtain ⟨ga, gn, gc⟩ := sp
 obtain rfl : gn = ps.length := hp.1
 obtain ⟨b5, hb5⟩ : ∃ b, b = w.heap.size := ⟨_, rfl⟩
 rw [← hb5] at hr5
 have hc5 := cell_of_row? hr5 0 (by omega)
 have hc5' : w1.cell? ⟨b5, 0, none⟩ = some (.int .u64 (p.epoch.toNat : Int)) := by simpa using hc5
 clear hc5 hs hu hp
 dsimp only [Sl.v]
 replace hb5 := Lib.hid hb5
 replace hz1 := Lib.hid hz1
 have hend := Lib.hid (show ∀ W, Below w.heap.size w W → Calls Tryz.prog 4 #[] W fun e w' => e = .returned (.bool true) ∧ Below w.heap.size w w' from fun W hW => (F13.known13_c W).mono fun e w' ⟨h1, h2⟩ => ⟨h1, hW.trans (h2.mono hW.size)⟩)
 have hKn := Lib.hid (fun W => F13.known13_c W)
 go_enter Tryz.func3, Tryz.ntmps3
 go_upto_region 1 with fail
 rw [← hw1, ← hb5.out]
 clear hw1
 by_cases h30 : 30 < l.length
 ·have h30i : (30 : Int) < (l.length : Int) := by omega
  have HE := hend.out w1 hB1
  go_wp2_with fail
  (with_reducible refine HE.mono ?_)
  rintro e w3 ⟨rfl, hb3⟩
  go_wp2_with fail
  go_ret
  exact ⟨rfl, hb3⟩
 have h30i : ¬ (30 : Int) < (l.length : Int) := by omega
 by_cases h10 : 10 < ps.length
 ·have h10i : (10 : Int) < (ps.length : Int) := by omega
  have HE := hend.out w1 hB1
  go_wp2_with fail
  (with_reducible refine HE.mono ?_)
  rintro e w3 ⟨rfl, hb3⟩
  go_wp2_with fail
  go_ret
  exact ⟨rfl, hb3⟩
 have h10i : ¬ (10 : Int) < (ps.length : Int) := by omega
 by_cases hep : 4611686018427387904 < p.epoch.toNat
 ·have hei : (4611686018427387904 : Int) < (p.epoch.toNat : Int) := by omega
  have HE := hend.out w1 hB1
  go_wp2_with fail
  (with_reducible refine HE.mono ?_)
  rintro e w3 ⟨rfl, hb3⟩
  go_wp2_with fail
  go_ret
  exact ⟨rfl, hb3⟩
 have hei : ¬ (4611686018427387904 : Int) < (p.epoch.toNat : Int) := by omega
 have HN := chnew_c p w1 (by omega)
 unfold ptrV at HN
 go_wp2_with fail
 (with_reducible refine HN.mono ?_)
 clear HN
 rintro e w2 ⟨cb, rfl, hcb, ⟨T0, hC0⟩, hb2⟩
 have hr52 := (row?_below _ _ _ hb2 (show b5 < w1.heap.size by have := hb5.out; have := hz1.out; omega)).trans hr5
 have HR := rnew_c w1 w2 hb2 p
 unfold ptrV at HR
 clear hr5 hc5'
 go_wp2_with fail
 (with_reducible refine HR.mono ?_)
 clear HR
 rintro e w3 ⟨cr, rb0, rfl, hcr, hrb, hR0, hb3⟩
 obtain ⟨T1, hB3⟩ := Both.start hC0 hb3 hR0 hcr hrb (Nat.le_refl _)
 have hok0 := Lib.hid (chNew_ok p)
 have hl0 : (chNew p).length ≤ 0 + 1 := by show (1 : Nat) ≤ 1; omega
 generalize chNew p = C0 at *
 obtain ⟨BB, hBB⟩ : ∃ B, B = w1.heap.size := ⟨_, rfl⟩
 have hB3' := Lib.hid (show Both w1 BB T1 w3 cb cr C0 C0 by rw [hBB]; exact hB3)
 clear hr52 hC0 hR0 hb2 hb3 hcb hcr hrb hei hep h30i h10i hB3 hBB
 replace h30 := Lib.hid h30
 replace h10 := Lib.hid h10
 go_wp2_with fail
 go_loopw [14] (fun x W' => ∃ (k : Nat) (T' : Nat → Nat) (D : List Blk), k ≤ l.length ∧ x = .int .i64 k ∧ Hid (Both w1 BB T' W' cb cr D D) ∧ Hid (ChnOk D) ∧ Hid (D.length ≤ k + 1)) (fun x _ => l.length - (intOf x).toNat)
 case atStart => exact ⟨0, T1, C0, Nat.zero_le _, rfl, hB3', hok0, Lib.hid hl0⟩
 case round =>
  clear hB3' hok0 hl0
  obtain ⟨k, Ta, D, hk, rfl, hba, hokD, hDl⟩ := hrel
  by_cases hkx : k < l.length
  ·obtain ⟨T1, hb1, hT0, -⟩ := hba.out.fresh
   have hb := Lib.hid hb1
   replace hT0 := Lib.hid hT0
   clear hba hb1
   obtain ⟨bl, off, e, hbs, hc⟩ := hs1.out.at (by omega)
   have e1 := congrArg Sl.a e
   simp only at e1
   subst e1
   clear e
   obtain ⟨cs, hcx0, g, rfl, hg0⟩ := hc k hkx
   clear hc
   have hbel := hb.out.bel
   have hcx := (row?_below _ _ _ hbel hbs).trans hcx0
   generalize l[k] = hh at *
   have k0 : (0 : Int) ≤ (k : Int) := by omega
   have k1 : (k : Int) < (l.length : Int) := by omega
   have HM := rmuch_c g hh wr (hg0.keep' hbel)
   obtain ⟨mu, hmu⟩ : ∃ m, m = rmuch hh := ⟨_, rfl⟩
   rw [← hmu] at HM
   have hkx2 := Lib.hid hkx
   have hkb : k ≤ 30 := by have := h30.out; omega
   go_wp2_with fail
   (with_reducible refine HM.mono ?_)
   clear HM
   rintro e w4 ⟨rfl, hb4⟩
   have hb4' := Lib.hid (hb.out.keep hb4)
   have hBw4 := Lib.hid (hB1.trans ((hbel.trans (hb4.mono hbel.size)).mono hB1.size))
   cases mu
   ·obtain ⟨hfit, hops⟩ := rmuch_out hmu.symm
    have hcx4 := (row?_below _ _ _ hb4 (Nat.lt_of_lt_of_le hbs hbel.size)).trans hcx
    have hz4 := hb4.size
    clear hcx hb4 hmu
    go_upto_region 13 with fail
    obtain ⟨w5, hw5, hrow15, hth15, hB5, hz5⟩ := box_row w4 (headerA ⟨zeroHash, 0, ⟨none, 0, 0⟩⟩) (headerA g) 39 34 (by omega) (by simp) (by simp)
    rw [← hw5]
    obtain ⟨b15, hb15⟩ : ∃ b, b = w4.heap.size := ⟨_, rfl⟩
    rw [← hb15] at hrow15 hth15 ⊢
    have hbw := Lib.hid (hb4'.out.keep hB5)
    have hb15w : b15 < w5.heap.size := by omega
    have ht15 := Lib.hid (hT0.out b15 (by omega))
    have hg := Lib.hid hg0
    have hBl5 := Lib.hid hbw.out.bel
    replace hb15 := Lib.hid hb15
    replace hz5 := Lib.hid hz5
    clear hw5 hB5 hcx4 hcx0 hbel hg0 hT0 hz4 hb hb4'
    generalize w5 = w3 at *
    go_upto_if 67 with fail
    go_cut [67] from 68 to 98 (fun _ W' => Hid (∃ (g' : GHeader) (h' : Hdr), row? W' b15 0 34 = some (headerA g') ∧ HdrR w1 g' h' ∧ h'.ops = hh.ops ∧ Both w1 BB T1 W' cb cr D D ∧ W'.heap.size = w3.heap.size))
    case first =>
     by_cases hku : k < us.length
     ·have hkui : (k : Int) < (us.length : Int) := by omega
      obtain ⟨ub, uo, e, hub, hcu⟩ := hu1.out.at (by omega)
      have e1 := congrArg Sl.a e
      simp only at e1
      subst e1
      clear e
      obtain ⟨cs, hcn0, rfl⟩ := hcu k hku
      clear hcu
      generalize us[k] = xn at *
      have hce := cell_of_row? hcn0 0 (by omega)
      have hcn3 : w3.cell? ⟨ub, uo + k, none⟩ = some (.int .i64 xn) := by
       rw [hBl5.out.cell (p := ⟨ub, uo + k, none⟩) hub]
       simpa using hce
      clear hce hcn0
      obtain ⟨rb, cap, G, hR, h0⟩ := hbw.out.doc
      have c0 := hR.c0
      have hDp := hokD.out.pos
      have hDl2 := hokD.out.len
      obtain ⟨i, hi⟩ : ∃ i, i = pickN xn D.length := ⟨_, rfl⟩
      have hiD : i < D.length := by rw [hi]; exact pickN_lt _ hDp
      obtain ⟨gx, -, hrwi, -⟩ := hR.at hiD
      have hnm := do_name hrwi
      generalize D[i].p.name = nm at *
      have hii := pickN_int xn hDp
      rw [← hi] at hii
      obtain ⟨j1, j2, j3, j4⟩ := pick_in xn D.length hDp (by omega)
      obtain ⟨r1, hr1⟩ : ∃ r, xn.tmod (D.length : Int) = r := ⟨_, rfl⟩
      rw [hr1] at hii j1 j2 j3 j4
      obtain ⟨r2, hr2⟩ : ∃ r, r1 + (D.length : Int) = r := ⟨_, rfl⟩
      rw [hr2] at hii j1 j2
      have hr3 : r2.tmod (D.length : Int) = (i : Int) := hii.symm
      have hne0 : ¬ (D.length : Int) = 0 := by omega
      have hDn : ¬ D = [] := by intro e; rw [e] at hDp; simp at hDp
      have hw1 : IntKind.i64.wrap r1 = r1 := IntWalk.i64_in _ (by omega)
      have hw2 : IntKind.i64.wrap r2 = r2 := IntWalk.i64_in _ (by omega)
      have hw3 : IntKind.i64.wrap (i : Int) = (i : Int) := IntWalk.i64_in _ (by omega)
      have hi0 : (0 : Int) ≤ (i : Int) := by omega
      have hi1 : (i : Int) < (D.length : Int) := by omega
      clear hii hrwi hi
      go_upto_region 14 with fail
      refine wp_region_freeI_l (by kernel_rfl) [68, 69, 70, 71, 72, 73, 74, 75, 76, 77, 78, 79, 80, 81, 82, 83, 84, 85, 86, 87, 88, 89, 90, 91, 92, 93, 94, 95, 96, 97, 98, 233]
       [(fun v => v = .pointer (some ⟨cr, 0, none⟩)), (fun v => v = .pointer (some ⟨cr, 0, none⟩)), (fun v => v = .pointer (some ⟨cr, 0, none⟩)), (fun v => v = .slice (some ⟨rb, 0, none⟩) D.length cap), (fun v => v = .slice (some ⟨ub, uo, none⟩) us.length uc), (fun v => v = .int .i64 (k : Int)), (fun v => v = .pointer (some ⟨ub, uo + k, none⟩)), (fun v => v = .int .i64 xn), (fun v => v = .pointer (some ⟨cr, 0, none⟩)), (fun v => v = .pointer (some ⟨cr, 0, none⟩)), (fun v => v = .pointer (some ⟨cr, 0, none⟩)), (fun v => v = .slice (some ⟨rb, 0, none⟩) D.length cap), (fun v => v = .int .i64 (D.length : Int)), (fun v => v = .int .i64 r1), (fun v => v = .pointer (some ⟨cr, 0, none⟩)), (fun v => v = .pointer (some ⟨cr, 0, none⟩)), (fun v => v = .pointer (some ⟨cr, 0, none⟩)), (fun v => v = .slice (some ⟨rb, 0, none⟩) D.length cap), (fun v => v = .int .i64 (D.length : Int)), (fun v => v = .int .i64 r2), (fun v => v = .pointer (some ⟨cr, 0, none⟩)), (fun v => v = .pointer (some ⟨cr, 0, none⟩)), (fun v => v = .pointer (some ⟨cr, 0, none⟩)), (fun v => v = .slice (some ⟨rb, 0, none⟩) D.length cap), (fun v => v = .int .i64 (D.length : Int)), (fun v => v = .int .i64 (i : Int)), (fun v => v = .pointer (some ⟨rb, i * 68, none⟩)), (fun v => v = .pointer (some ⟨rb, i * 68, none⟩)), (fun v => v = .pointer (some ⟨rb, i * 68 + 1, none⟩)), (fun v => v = .agg (hashA nm)), (fun v => v = .pointer (some ⟨b15, 0, none⟩)), (fun _ => True)]
       [31] (HDo7 w3 b15 nm) [[1, 2, 3, 26, 27, 28, 29, 31], [2, 3, 26, 27, 28, 29, 31], [3, 26, 27, 28, 29, 31], [26, 27, 28, 29, 31], [6, 7, 13, 19, 25, 26, 27, 28, 29, 31], [6, 7, 13, 19, 25, 26, 27, 28, 29, 31], [7, 13, 19, 25, 26, 27, 28, 29, 31], [13, 19, 25, 26, 27, 28, 29, 31], [9, 10, 11, 12, 13, 19, 25, 26, 27, 28, 29, 31], [10, 11, 12, 13, 19, 25, 26, 27, 28, 29, 31], [11, 12, 13, 19, 25, 26, 27, 28, 29, 31], [12, 13, 19, 25, 26, 27, 28, 29, 31], [13, 19, 25, 26, 27, 28, 29, 31], [19, 25, 26, 27, 28, 29, 31], [15, 16, 17, 18, 19, 25, 26, 27, 28, 29, 31], [16, 17, 18, 19, 25, 26, 27, 28, 29, 31], [17, 18, 19, 25, 26, 27, 28, 29, 31], [18, 19, 25, 26, 27, 28, 29, 31], [19, 25, 26, 27, 28, 29, 31], [25, 26, 27, 28, 29, 31], [21, 22, 23, 24, 25, 26, 27, 28, 29, 31], [22, 23, 24, 25, 26, 27, 28, 29, 31], [23, 24, 25, 26, 27, 28, 29, 31], [24, 25, 26, 27, 28, 29, 31], [25, 26, 27, 28, 29, 31], [26, 27, 28, 29, 31], [27, 28, 29, 31], [28, 29, 31], [29, 31], [31], [31], []] (by kernel_rfl) (by kernel_rfl) ?_ ?_ ?_
      ·show HDo7 w3 b15 nm [false] [_] _
       exact ⟨fun _ => rfl, fun q => (by cases q)⟩
      ·refine ⟨?_, ?_, ?_, ?_, ?_, ?_, ?_, ?_, ?_, ?_, ?_, ?_, ?_, ?_, ?_, ?_, ?_, ?_, ?_, ?_, ?_, ?_, ?_, ?_, ?_, ?_, ?_, ?_, ?_, ?_, ?_, ?_, trivial⟩
       ·intro L ax W hf hLi hno hd
        try simp [Region.binds] at hd
        have e13 : ax.tmps[13]?.getD undef = .pointer (some ⟨cr, 0, none⟩) := hf.out 13 (by decide) rfl
        refine ⟨fun _ => ?_, fun h => absurd trivial h⟩
        refine freeI_run (v := .pointer (some ⟨cr, 0, none⟩)) rfl hf (by decide) ?_ rfl
        go_simp
       ·intro L ax W hf hLi hno hd
        simp [Region.binds] at hd
        have e68 : ax.tmps[68]?.getD undef = .pointer (some ⟨cr, 0, none⟩) := slv (hf.got 0 (by decide) (by simp [hd]))
        refine ⟨fun _ => ?_, fun h => absurd trivial h⟩
        refine freeI_run (v := .pointer (some ⟨cr, 0, none⟩)) rfl hf (by decide) ?_ rfl
        go_simp
       ·intro L ax W hf hLi hno hd
        simp [Region.binds] at hd
        have e69 : ax.tmps[69]?.getD undef = .pointer (some ⟨cr, 0, none⟩) := slv (hf.got 1 (by decide) (by simp [hd]))
        refine ⟨fun _ => ?_, fun h => absurd trivial h⟩
        refine freeI_run (v := .pointer (some ⟨cr, 0, none⟩)) rfl hf (by decide) ?_ rfl
        go_simp
       ·intro L ax W hf hLi hno hd
        simp [Region.binds] at hd
        have e70 : ax.tmps[70]?.getD undef = .pointer (some ⟨cr, 0, none⟩) := slv (hf.got 2 (by decide) (by simp [hd]))
        refine ⟨fun _ => ?_, fun h => absurd trivial h⟩
        have hG : HDo7 w3 b15 nm [L 31] [sl ax 233] W := hf.glob
        have hW : W = w3.drew := hG.1 (hno 31 (by decide))
        subst hW
        have c0d : w3.drew.cell? ⟨cr, 0, none⟩ = _ := c0
        refine freeI_run (v := .slice (some ⟨rb, 0, none⟩) D.length cap) rfl hf (by decide) ?_ rfl
        go_simp
       ·intro L ax W hf hLi hno hd
        try simp [Region.binds] at hd
        have e2 : ax.tmps[2]?.getD undef = .slice (some ⟨ub, uo, none⟩) us.length uc := hf.out 2 (by decide) rfl
        refine ⟨fun _ => ?_, fun h => absurd trivial h⟩
        refine freeI_run (v := .slice (some ⟨ub, uo, none⟩) us.length uc) rfl hf (by decide) ?_ rfl
        go_simp
       ·intro L ax W hf hLi hno hd
        try simp [Region.binds] at hd
        have e14 : ax.tmps[14]?.getD undef = .int .i64 (k : Int) := hf.out 14 (by decide) rfl
        refine ⟨fun _ => ?_, fun h => absurd trivial h⟩
        refine freeI_run (v := .int .i64 (k : Int)) rfl hf (by decide) ?_ rfl
        go_simp
       ·intro L ax W hf hLi hno hd
        simp [Region.binds] at hd
        have e72 : ax.tmps[72]?.getD undef = .slice (some ⟨ub, uo, none⟩) us.length uc := slv (hf.got 4 (by decide) (by simp [hd]))
        have e73 : ax.tmps[73]?.getD undef = .int .i64 (k : Int) := slv (hf.got 5 (by decide) (by simp [hd]))
        refine ⟨fun _ => ?_, fun h => absurd trivial h⟩
        refine freeI_run (v := .pointer (some ⟨ub, uo + k, none⟩)) rfl hf (by decide) ?_ rfl
        go_simp
       ·intro L ax W hf hLi hno hd
        simp [Region.binds] at hd
        have e74 : ax.tmps[74]?.getD undef = .pointer (some ⟨ub, uo + k, none⟩) := slv (hf.got 6 (by decide) (by simp [hd]))
        refine ⟨fun _ => ?_, fun h => absurd trivial h⟩
        have hG : HDo7 w3 b15 nm [L 31] [sl ax 233] W := hf.glob
        have hW : W = w3.drew := hG.1 (hno 31 (by decide))
        subst hW
        have c1d : w3.drew.cell? ⟨ub, uo + k, none⟩ = _ := hcn3
        refine freeI_run (v := .int .i64 xn) rfl hf (by decide) ?_ rfl
        go_simp
       ·intro L ax W hf hLi hno hd
        try simp [Region.binds] at hd
        have e13 : ax.tmps[13]?.getD undef = .pointer (some ⟨cr, 0, none⟩) := hf.out 13 (by decide) rfl
        refine ⟨fun _ => ?_, fun h => absurd trivial h⟩
        refine freeI_run (v := .pointer (some ⟨cr, 0, none⟩)) rfl hf (by decide) ?_ rfl
        go_simp
       ·intro L ax W hf hLi hno hd
        simp [Region.binds] at hd
        have e76 : ax.tmps[76]?.getD undef = .pointer (some ⟨cr, 0, none⟩) := slv (hf.got 8 (by decide) (by simp [hd]))
        refine ⟨fun _ => ?_, fun h => absurd trivial h⟩
        refine freeI_run (v := .pointer (some ⟨cr, 0, none⟩)) rfl hf (by decide) ?_ rfl
        go_simp
       ·intro L ax W hf hLi hno hd
        simp [Region.binds] at hd
        have e77 : ax.tmps[77]?.getD undef = .pointer (some ⟨cr, 0, none⟩) := slv (hf.got 9 (by decide) (by simp [hd]))
        refine ⟨fun _ => ?_, fun h => absurd trivial h⟩
        refine freeI_run (v := .pointer (some ⟨cr, 0, none⟩)) rfl hf (by decide) ?_ rfl
        go_simp
       ·intro L ax W hf hLi hno hd
        simp [Region.binds] at hd
        have e78 : ax.tmps[78]?.getD undef = .pointer (some ⟨cr, 0, none⟩) := slv (hf.got 10 (by decide) (by simp [hd]))
        refine ⟨fun _ => ?_, fun h => absurd trivial h⟩
        have hG : HDo7 w3 b15 nm [L 31] [sl ax 233] W := hf.glob
        have hW : W = w3.drew := hG.1 (hno 31 (by decide))
        subst hW
        have c0d : w3.drew.cell? ⟨cr, 0, none⟩ = _ := c0
        refine freeI_run (v := .slice (some ⟨rb, 0, none⟩) D.length cap) rfl hf (by decide) ?_ rfl
        go_simp
       ·intro L ax W hf hLi hno hd
        simp [Region.binds] at hd
        have e79 : ax.tmps[79]?.getD undef = .slice (some ⟨rb, 0, none⟩) D.length cap := slv (hf.got 11 (by decide) (by simp [hd]))
        refine ⟨fun _ => ?_, fun h => absurd trivial h⟩
        refine freeI_run (v := .int .i64 (D.length : Int)) rfl hf (by decide) ?_ rfl
        go_simp
       ·intro L ax W hf hLi hno hd
        simp [Region.binds] at hd
        have e75 : ax.tmps[75]?.getD undef = .int .i64 xn := slv (hf.got 7 (by decide) (by simp [hd]))
        have e80 : ax.tmps[80]?.getD undef = .int .i64 (D.length : Int) := slv (hf.got 12 (by decide) (by simp [hd]))
        refine ⟨fun _ => ?_, fun h => absurd trivial h⟩
        refine freeI_run (v := .int .i64 r1) rfl hf (by decide) ?_ rfl
        go_simp
       ·intro L ax W hf hLi hno hd
        try simp [Region.binds] at hd
        have e13 : ax.tmps[13]?.getD undef = .pointer (some ⟨cr, 0, none⟩) := hf.out 13 (by decide) rfl
        refine ⟨fun _ => ?_, fun h => absurd trivial h⟩
        refine freeI_run (v := .pointer (some ⟨cr, 0, none⟩)) rfl hf (by decide) ?_ rfl
        go_simp
       ·intro L ax W hf hLi hno hd
        simp [Region.binds] at hd
        have e82 : ax.tmps[82]?.getD undef = .pointer (some ⟨cr, 0, none⟩) := slv (hf.got 14 (by decide) (by simp [hd]))
        refine ⟨fun _ => ?_, fun h => absurd trivial h⟩
        refine freeI_run (v := .pointer (some ⟨cr, 0, none⟩)) rfl hf (by decide) ?_ rfl
        go_simp
       ·intro L ax W hf hLi hno hd
        simp [Region.binds] at hd
        have e83 : ax.tmps[83]?.getD undef = .pointer (some ⟨cr, 0, none⟩) := slv (hf.got 15 (by decide) (by simp [hd]))
        refine ⟨fun _ => ?_, fun h => absurd trivial h⟩
        refine freeI_run (v := .pointer (some ⟨cr, 0, none⟩)) rfl hf (by decide) ?_ rfl
        go_simp
       ·intro L ax W hf hLi hno hd
        simp [Region.binds] at hd
        have e84 : ax.tmps[84]?.getD undef = .pointer (some ⟨cr, 0, none⟩) := slv (hf.got 16 (by decide) (by simp [hd]))
        refine ⟨fun _ => ?_, fun h => absurd trivial h⟩
        have hG : HDo7 w3 b15 nm [L 31] [sl ax 233] W := hf.glob
        have hW : W = w3.drew := hG.1 (hno 31 (by decide))
        subst hW
        have c0d : w3.drew.cell? ⟨cr, 0, none⟩ = _ := c0
        refine freeI_run (v := .slice (some ⟨rb, 0, none⟩) D.length cap) rfl hf (by decide) ?_ rfl
        go_simp
       ·intro L ax W hf hLi hno hd
        simp [Region.binds] at hd
        have e85 : ax.tmps[85]?.getD undef = .slice (some ⟨rb, 0, none⟩) D.length cap := slv (hf.got 17 (by decide) (by simp [hd]))
        refine ⟨fun _ => ?_, fun h => absurd trivial h⟩
        refine freeI_run (v := .int .i64 (D.length : Int)) rfl hf (by decide) ?_ rfl
        go_simp
       ·intro L ax W hf hLi hno hd
        simp [Region.binds] at hd
        have e81 : ax.tmps[81]?.getD undef = .int .i64 r1 := slv (hf.got 13 (by decide) (by simp [hd]))
        have e86 : ax.tmps[86]?.getD undef = .int .i64 (D.length : Int) := slv (hf.got 18 (by decide) (by simp [hd]))
        refine ⟨fun _ => ?_, fun h => absurd trivial h⟩
        refine freeI_run (v := .int .i64 r2) rfl hf (by decide) ?_ rfl
        go_simp
       ·intro L ax W hf hLi hno hd
        try simp [Region.binds] at hd
        have e13 : ax.tmps[13]?.getD undef = .pointer (some ⟨cr, 0, none⟩) := hf.out 13 (by decide) rfl
        refine ⟨fun _ => ?_, fun h => absurd trivial h⟩
        refine freeI_run (v := .pointer (some ⟨cr, 0, none⟩)) rfl hf (by decide) ?_ rfl
        go_simp
       ·intro L ax W hf hLi hno hd
        simp [Region.binds] at hd
        have e88 : ax.tmps[88]?.getD undef = .pointer (some ⟨cr, 0, none⟩) := slv (hf.got 20 (by decide) (by simp [hd]))
        refine ⟨fun _ => ?_, fun h => absurd trivial h⟩
        refine freeI_run (v := .pointer (some ⟨cr, 0, none⟩)) rfl hf (by decide) ?_ rfl
        go_simp
       ·intro L ax W hf hLi hno hd
        simp [Region.binds] at hd
        have e89 : ax.tmps[89]?.getD undef = .pointer (some ⟨cr, 0, none⟩) := slv (hf.got 21 (by decide) (by simp [hd]))
        refine ⟨fun _ => ?_, fun h => absurd trivial h⟩
        refine freeI_run (v := .pointer (some ⟨cr, 0, none⟩)) rfl hf (by decide) ?_ rfl
        go_simp
       ·intro L ax W hf hLi hno hd
        simp [Region.binds] at hd
        have e90 : ax.tmps[90]?.getD undef = .pointer (some ⟨cr, 0, none⟩) := slv (hf.got 22 (by decide) (by simp [hd]))
        refine ⟨fun _ => ?_, fun h => absurd trivial h⟩
        have hG : HDo7 w3 b15 nm [L 31] [sl ax 233] W := hf.glob
        have hW : W = w3.drew := hG.1 (hno 31 (by decide))
        subst hW
        have c0d : w3.drew.cell? ⟨cr, 0, none⟩ = _ := c0
        refine freeI_run (v := .slice (some ⟨rb, 0, none⟩) D.length cap) rfl hf (by decide) ?_ rfl
        go_simp
       ·intro L ax W hf hLi hno hd
        simp [Region.binds] at hd
        have e91 : ax.tmps[91]?.getD undef = .slice (some ⟨rb, 0, none⟩) D.length cap := slv (hf.got 23 (by decide) (by simp [hd]))
        refine ⟨fun _ => ?_, fun h => absurd trivial h⟩
        refine freeI_run (v := .int .i64 (D.length : Int)) rfl hf (by decide) ?_ rfl
        go_simp
       ·intro L ax W hf hLi hno hd
        simp [Region.binds] at hd
        have e87 : ax.tmps[87]?.getD undef = .int .i64 r2 := slv (hf.got 19 (by decide) (by simp [hd]))
        have e92 : ax.tmps[92]?.getD undef = .int .i64 (D.length : Int) := slv (hf.got 24 (by decide) (by simp [hd]))
        refine ⟨fun _ => ?_, fun h => absurd trivial h⟩
        refine freeI_run (v := .int .i64 (i : Int)) rfl hf (by decide) ?_ rfl
        go_simp
       ·intro L ax W hf hLi hno hd
        simp [Region.binds] at hd
        have e71 : ax.tmps[71]?.getD undef = .slice (some ⟨rb, 0, none⟩) D.length cap := slv (hf.got 3 (by decide) (by simp [hd]))
        have e93 : ax.tmps[93]?.getD undef = .int .i64 (i : Int) := slv (hf.got 25 (by decide) (by simp [hd]))
        refine ⟨fun _ => ?_, fun h => absurd trivial h⟩
        refine freeI_run (v := .pointer (some ⟨rb, i * 68, none⟩)) rfl hf (by decide) ?_ rfl
        go_simp
       ·intro L ax W hf hLi hno hd
        simp [Region.binds] at hd
        have e94 : ax.tmps[94]?.getD undef = .pointer (some ⟨rb, i * 68, none⟩) := slv (hf.got 26 (by decide) (by simp [hd]))
        refine ⟨fun _ => ?_, fun h => absurd trivial h⟩
        refine freeI_run (v := .pointer (some ⟨rb, i * 68, none⟩)) rfl hf (by decide) ?_ rfl
        go_simp
       ·intro L ax W hf hLi hno hd
        simp [Region.binds] at hd
        have e95 : ax.tmps[95]?.getD undef = .pointer (some ⟨rb, i * 68, none⟩) := slv (hf.got 27 (by decide) (by simp [hd]))
        refine ⟨fun _ => ?_, fun h => absurd trivial h⟩
        refine freeI_run (v := .pointer (some ⟨rb, i * 68 + 1, none⟩)) rfl hf (by decide) ?_ rfl
        go_simp
       ·intro L ax W hf hLi hno hd
        simp [Region.binds] at hd
        have e96 : ax.tmps[96]?.getD undef = .pointer (some ⟨rb, i * 68 + 1, none⟩) := slv (hf.got 28 (by decide) (by simp [hd]))
        refine ⟨fun _ => ?_, fun h => absurd trivial h⟩
        have hG : HDo7 w3 b15 nm [L 31] [sl ax 233] W := hf.glob
        have hW : W = w3.drew := hG.1 (hno 31 (by decide))
        subst hW
        have c2d : row? w3.drew rb (i * 68 + 1) 32 = _ := hnm
        refine freeI_run (v := .agg (hashA nm)) rfl hf (by decide) ?_ rfl
        go_simp
       ·intro L ax W hf hLi hno hd
        try simp [Region.binds] at hd
        have e15 : ax.tmps[15]?.getD undef = .pointer (some ⟨b15, 0, none⟩) := hf.out 15 (by decide) rfl
        refine ⟨fun _ => ?_, fun h => absurd trivial h⟩
        refine freeI_run (v := .pointer (some ⟨b15, 0, none⟩)) rfl hf (by decide) ?_ rfl
        go_simp
       ·intro L ax W hf hLi hno hd
        simp [Region.binds] at hd
        have e98 : ax.tmps[98]?.getD undef = .pointer (some ⟨b15, 0, none⟩) := slv (hf.got 30 (by decide) (by simp [hd]))
        have e97 : ax.tmps[97]?.getD undef = .agg (hashA nm) := slv (hf.got 29 (by decide) (by simp [hd]))
        refine ⟨fun _ => ?_, fun h => absurd trivial h⟩
        have hG : HDo7 w3 b15 nm [L 31] [sl ax 233] W := hf.glob
        have hW : W = w3.drew := hG.1 hLi
        subst hW
        have hthd : there w3.drew b15 0 32 := fun j hj => hth15 j (by omega)
        refine freeI_store (W' := putRow w3.drew b15 0 (hashA nm)) rfl ?_ trivial ⟨fun q => (by cases q), fun _ => rfl⟩
        go_simp
      ·intro vs w6 hl' hF hG
       obtain ⟨g', hg1, hg2⟩ := vs_litI vs hl' hF
       have hW4 : w6 = putRow w3.drew b15 0 (hashA nm) := hG.2 rfl
       have hB3d : Both w1 BB T1 w3.drew cb cr D D := hbw.out.keep ((Below.refl _ _).drew)
       obtain ⟨T3, hB4, hT4⟩ := hB3d.put (by omega) (b := b15) hb15w ht15.out 0 (hashA nm)
       have hB5 := hB4.retag (T' := T1) fun k hk => (hT4 k (by rw [size_put] at hk; exact hk)).symm
       rw [← hW4] at hB5
       have hrw4 : row? w6 b15 0 34 = some (headerA { g with parent := nm }) := by
        have hd8 : row? w3.drew b15 0 34 = some (headerA g) := hrow15
        rw [hW4, ← splice_header_parent, row?_put_in' _ _ _ _ _ (by simp) (by omega), hd8]
        rfl
       have hz6 : w6.heap.size = w3.heap.size := by rw [hW4]; exact size_put _ _ _ _
       have hx4 : HdrR w1 { g with parent := nm } { hh with parent := nm } := ⟨rfl, hg.out.2.1, hg.out.2.2⟩
       have hfin := Lib.hid (show ∃ (g' : GHeader) (h' : Hdr), row? w6 b15 0 34 = some (headerA g') ∧ HdrR w1 g' h' ∧ h'.ops = hh.ops ∧ Both w1 BB T1 w6 cb cr D D ∧ w6.heap.size = w3.heap.size from ⟨_, _, hrw4, hx4, rfl, hB5, hz6⟩)
       rw [hg1]
       simp only [List.length_cons, List.length_nil, Nat.reduceAdd, show List.range 32 = [0, 1, 2, 3, 4, 5, 6, 7, 8, 9, 10, 11, 12, 13, 14, 15, 16, 17, 18, 19, 20, 21, 22, 23, 24, 25, 26, 27, 28, 29, 30, 31] from rfl, List.map_cons, List.map_nil, slotsIn, putL, List.setIfInBounds_toArray, List.set_cons_succ, List.set_cons_zero, List.size_toArray, Nat.reduceLT, if_true, if_false]
       clear hg1 hg2 hG hF hl' hW4 hB3d hB4 hT4 hB5 hrw4 hz6 hx4
       go_wp2_with fail
       go_meet
       case rel => exact hfin
     ·have hkui : ¬ (k : Int) < (us.length : Int) := by omega
      go_wp2_with fail
      go_meet
      case rel => exact Lib.hid ⟨g, hh, hrow15, hg.out, rfl, hbw.out, rfl⟩
    case rest =>
     obtain ⟨g', hd, hrow, hgd, hops', hB, hzz⟩ := hcut.out
     have hfits : HdrFits hd := by
      unfold HdrFits at hfit ⊢
      rw [hops']
      exact hfit
     have hopd : hd.ops.length ≤ 1000000 := by rw [hops']; omega
     have hb15c : b15 < wc.heap.size := by omega
     have HR := hB.realAdd hokD.out (hgd.keep' hB.bel) hfits
     unfold ptrV at HR
     have hgd2 := Lib.hid hgd
     have hDl2 := Lib.hid (show D.length ≤ 100000 by have := hokD.out.len; omega)
     clear hcut hbw hrow15 hth15 hBl5 hgd hops'
     go_wp2_with fail
     (with_reducible refine HR.mono ?_)
     clear HR
     rintro e w9 ⟨rfl, ⟨T2, hB9, hT2⟩, hA9⟩
     have n15 : ¬ MutS T1 b15 := fun q => by
      have h1 := ht15.out
      have h2 := q.2
      omega
     have hrow9 := hA9.row n15 hrow
     have hlen2 : (chAdd D hd).length ≤ 100000 := by
      have h1 := chAdd_len D hd
      have h2 := hokD.out.len
      omega
     have HD := hB9.docAdd hlen2 hokD.out hgd2.out hopd
     unfold ptrV at HD
     clear hrow hB hA9 hB9 hT2 n15
     go_wp2_with fail
     (with_reducible refine HD.mono ?_)
     clear HD
     rintro e w11 ⟨rfl, ⟨T4, hB11, hT4⟩, hA11⟩
     have hok2 := Lib.hid (chAdd_ok hokD.out hd)
     have hln := Lib.hid (show (chAdd D hd).length ≤ k + 1 + 1 by have h1 := chAdd_len D hd; have := hDl.out; omega)
     replace hB11 := Lib.hid hB11
     clear hrow9 hA11 hT4 hlen2
     go_wp2_with fail
     go_roundw
     case rel => exact ⟨k + 1, T4, _, by have := hkx2.out; omega, by go_num, hB11, hok2, hln⟩
     case measure => have := hkx2.out; simp [intOf]; omega
   ·have HE := hend.out w4 hBw4.out
    clear hcx hb4 hmu
    go_wp2_with fail
    (with_reducible refine HE.mono ?_)
    rintro e w5 ⟨rfl, hb5⟩
    go_wp2_with fail
    go_ret
    exact ⟨rfl, hb5⟩
  ·have hkn : ¬ (k : Int) < (l.length : Int) := by omega
   have hCl : D.length ≤ 31 := by have := hDl.out; have := h30.out; omega
   obtain ⟨rb, cap, hDv⟩ := hba.out.view
   have hDo := Lib.hid hDv
   have hBel := Lib.hid hba.out.bel
   clear hDl hDv
   generalize D = C at *
   generalize wr = w6 at *
   go_wp2_with fail
   go_loopw [16, 17] (fun u x W' => ∃ (k : Nat) (s : Sl) (pts : List Pt), k ≤ ps.length ∧ pts.length = k ∧ x = .int .i64 k ∧ u = s.v ∧ Hid (OwnPt W' w6.heap.size s.v pts) ∧ Hid (Below w6.heap.size w6 W')) (fun _ x _ => ps.length - (intOf x).toNat)
   case atStart => exact ⟨0, ⟨none, 0, 0⟩, [], Nat.zero_le _, rfl, rfl, rfl, Lib.hid (OwnC.nil _ _ _), Lib.hid (Below.refl _ _)⟩
   case round =>
    obtain ⟨k, s, pts, hk, hpl, rfl, rfl, hown, hBk⟩ := hrel
    replace hpl := Lib.hid hpl
    have hkb : k ≤ 10 := by have := h10.out; omega
    by_cases hkx : k < ps.length
    ·have k0 : (0 : Int) ≤ (k : Int) := by omega
     have k1 : (k : Int) < (ps.length : Int) := by omega
     have hkx2 := Lib.hid hkx
     have hDk := hDo.out.keep hBk.out
     have c0q := hDk.c0
     have hcq := hDk.clt
     have hrq := hDk.lt
     have hCp := hokD.out.pos
     obtain ⟨gb, go, e, hgb, hcg⟩ := hp1.out.at (by omega)
     have e1 := congrArg Sl.a e
     simp only at e1
     subst e1
     clear e
     obtain ⟨cs, hcn0, rfl⟩ := hcg k hkx
     clear hcg
     generalize ps[k] = xn at *
     have hgq : gb < wr.heap.size := Nat.lt_of_lt_of_le hgb (Nat.le_trans hBel.out.size hBk.out.size)
     have hce := cell_of_row? hcn0 0 (by omega)
     have hcn : wr.cell? ⟨gb, go + k, none⟩ = some (.int .i64 xn) := by
      rw [(hBel.out.trans (hBk.out.mono hBel.out.size)).cell (p := ⟨gb, go + k, none⟩) hgb]
      simpa using hce
     clear hce hcn0
     obtain ⟨i, hi⟩ : ∃ i, i = pickN xn C.length := ⟨_, rfl⟩
     have hiD : i < C.length := by rw [hi]; exact pickN_lt _ hCp
     obtain ⟨hpq, -, -⟩ := hDk.at hiD
     generalize C[i].p = pq at *
     have hii := pickN_int xn hCp
     rw [← hi] at hii
     obtain ⟨j1, j2, j3, j4⟩ := pick_in xn C.length hCp (by omega)
     obtain ⟨r1, hr1⟩ : ∃ r, xn.tmod (C.length : Int) = r := ⟨_, rfl⟩
     rw [hr1] at hii j1 j2 j3 j4
     obtain ⟨r2, hr2⟩ : ∃ r, r1 + (C.length : Int) = r := ⟨_, rfl⟩
     rw [hr2] at hii j1 j2
     have hr3 : r2.tmod (C.length : Int) = (i : Int) := hii.symm
     have hne0 : ¬ (C.length : Int) = 0 := by omega
     have hDn : ¬ C = [] := by intro e; rw [e] at hCp; simp at hCp
     have hw1 : IntKind.i64.wrap r1 = r1 := IntWalk.i64_in _ (by omega)
     have hw2 : IntKind.i64.wrap r2 = r2 := IntWalk.i64_in _ (by omega)
     have hw3 : IntKind.i64.wrap (i : Int) = (i : Int) := IntWalk.i64_in _ (by omega)
     have hi0 : (0 : Int) ≤ (i : Int) := by omega
     have hi1 : (i : Int) < (C.length : Int) := by omega
     generalize wr = wq at *
     clear hii hi hDk
     go_upto_region 21 with fail
     refine wp_region_freeI_l (by kernel_rfl) [111, 112, 113, 114, 115, 116, 117, 118, 119, 120, 121, 122, 123, 124, 125, 126, 127, 128, 129, 130, 131, 132, 133, 134, 135, 136, 137, 138, 139, 18, 232]
      [(fun v => v = .pointer (some ⟨cr, 0, none⟩)), (fun v => v = .pointer (some ⟨cr, 0, none⟩)), (fun v => v = .pointer (some ⟨cr, 0, none⟩)), (fun v => v = .slice (some ⟨rb, 0, none⟩) C.length cap), (fun v => v = .slice (some ⟨gb, go, none⟩) ps.length gc), (fun v => v = .int .i64 (k : Int)), (fun v => v = .pointer (some ⟨gb, go + k, none⟩)), (fun v => v = .int .i64 xn), (fun v => v = .pointer (some ⟨cr, 0, none⟩)), (fun v => v = .pointer (some ⟨cr, 0, none⟩)), (fun v => v = .pointer (some ⟨cr, 0, none⟩)), (fun v => v = .slice (some ⟨rb, 0, none⟩) C.length cap), (fun v => v = .int .i64 (C.length : Int)), (fun v => v = .int .i64 r1), (fun v => v = .pointer (some ⟨cr, 0, none⟩)), (fun v => v = .pointer (some ⟨cr, 0, none⟩)), (fun v => v = .pointer (some ⟨cr, 0, none⟩)), (fun v => v = .slice (some ⟨rb, 0, none⟩) C.length cap), (fun v => v = .int .i64 (C.length : Int)), (fun v => v = .int .i64 r2), (fun v => v = .pointer (some ⟨cr, 0, none⟩)), (fun v => v = .pointer (some ⟨cr, 0, none⟩)), (fun v => v = .pointer (some ⟨cr, 0, none⟩)), (fun v => v = .slice (some ⟨rb, 0, none⟩) C.length cap), (fun v => v = .int .i64 (C.length : Int)), (fun v => v = .int .i64 (i : Int)), (fun v => v = .pointer (some ⟨rb, i * 68, none⟩)), (fun v => v = .pointer (some ⟨rb, i * 68, none⟩)), (fun v => v = .agg (pointA pq)), (fun v => ∃ b, v = .pointer (some ⟨b, 0, none⟩)), (fun _ => True)]
      [29, 30] (HAl wq pq) [[1, 2, 3, 26, 27, 28, 30], [2, 3, 26, 27, 28, 30], [3, 26, 27, 28, 30], [26, 27, 28, 30], [6, 7, 13, 19, 25, 26, 27, 28, 30], [6, 7, 13, 19, 25, 26, 27, 28, 30], [7, 13, 19, 25, 26, 27, 28, 30], [13, 19, 25, 26, 27, 28, 30], [9, 10, 11, 12, 13, 19, 25, 26, 27, 28, 30], [10, 11, 12, 13, 19, 25, 26, 27, 28, 30], [11, 12, 13, 19, 25, 26, 27, 28, 30], [12, 13, 19, 25, 26, 27, 28, 30], [13, 19, 25, 26, 27, 28, 30], [19, 25, 26, 27, 28, 30], [15, 16, 17, 18, 19, 25, 26, 27, 28, 30], [16, 17, 18, 19, 25, 26, 27, 28, 30], [17, 18, 19, 25, 26, 27, 28, 30], [18, 19, 25, 26, 27, 28, 30], [19, 25, 26, 27, 28, 30], [25, 26, 27, 28, 30], [21, 22, 23, 24, 25, 26, 27, 28, 30], [22, 23, 24, 25, 26, 27, 28, 30], [23, 24, 25, 26, 27, 28, 30], [24, 25, 26, 27, 28, 30], [25, 26, 27, 28, 30], [26, 27, 28, 30], [27, 28, 30], [28, 30], [30], [30], []] (by kernel_rfl) (by kernel_rfl) ?_ ?_ ?_
     ·show HAl wq pq [false, false] [_, _] _
      exact HAl.zero _
     ·refine ⟨?_, ?_, ?_, ?_, ?_, ?_, ?_, ?_, ?_, ?_, ?_, ?_, ?_, ?_, ?_, ?_, ?_, ?_, ?_, ?_, ?_, ?_, ?_, ?_, ?_, ?_, ?_, ?_, ?_, ?_, ?_, trivial⟩
      ·intro L ax W hf hLi hno hd
       try simp [Region.binds] at hd
       have e13 : ax.tmps[13]?.getD undef = .pointer (some ⟨cr, 0, none⟩) := hf.out 13 (by decide) rfl
       refine ⟨fun _ => ?_, fun h => absurd trivial h⟩
       refine freeI_run (v := .pointer (some ⟨cr, 0, none⟩)) rfl hf (by decide) ?_ rfl
       go_simp
      ·intro L ax W hf hLi hno hd
       simp [Region.binds] at hd
       have e111 : ax.tmps[111]?.getD undef = .pointer (some ⟨cr, 0, none⟩) := slv (hf.got 0 (by decide) (by simp [hd]))
       refine ⟨fun _ => ?_, fun h => absurd trivial h⟩
       refine freeI_run (v := .pointer (some ⟨cr, 0, none⟩)) rfl hf (by decide) ?_ rfl
       go_simp
      ·intro L ax W hf hLi hno hd
       simp [Region.binds] at hd
       have e112 : ax.tmps[112]?.getD undef = .pointer (some ⟨cr, 0, none⟩) := slv (hf.got 1 (by decide) (by simp [hd]))
       refine ⟨fun _ => ?_, fun h => absurd trivial h⟩
       refine freeI_run (v := .pointer (some ⟨cr, 0, none⟩)) rfl hf (by decide) ?_ rfl
       go_simp
      ·intro L ax W hf hLi hno hd
       simp [Region.binds] at hd
       have e113 : ax.tmps[113]?.getD undef = .pointer (some ⟨cr, 0, none⟩) := slv (hf.got 2 (by decide) (by simp [hd]))
       refine ⟨fun _ => ?_, fun h => absurd trivial h⟩
       have hG : HAl wq pq [L 29, L 30] [sl ax 18, sl ax 232] W := hf.glob
       have h1 := (hG.bel.cell (p := ⟨cr, 0, none⟩) hcq).trans c0q
       refine freeI_run (v := .slice (some ⟨rb, 0, none⟩) C.length cap) rfl hf (by decide) ?_ rfl
       go_simp
      ·intro L ax W hf hLi hno hd
       try simp [Region.binds] at hd
       have e3 : ax.tmps[3]?.getD undef = .slice (some ⟨gb, go, none⟩) ps.length gc := hf.out 3 (by decide) rfl
       refine ⟨fun _ => ?_, fun h => absurd trivial h⟩
       refine freeI_run (v := .slice (some ⟨gb, go, none⟩) ps.length gc) rfl hf (by decide) ?_ rfl
       go_simp
      ·intro L ax W hf hLi hno hd
       try simp [Region.binds] at hd
       have e17 : ax.tmps[17]?.getD undef = .int .i64 (k : Int) := hf.out 17 (by decide) rfl
       refine ⟨fun _ => ?_, fun h => absurd trivial h⟩
       refine freeI_run (v := .int .i64 (k : Int)) rfl hf (by decide) ?_ rfl
       go_simp
      ·intro L ax W hf hLi hno hd
       simp [Region.binds] at hd
       have e115 : ax.tmps[115]?.getD undef = .slice (some ⟨gb, go, none⟩) ps.length gc := slv (hf.got 4 (by decide) (by simp [hd]))
       have e116 : ax.tmps[116]?.getD undef = .int .i64 (k : Int) := slv (hf.got 5 (by decide) (by simp [hd]))
       refine ⟨fun _ => ?_, fun h => absurd trivial h⟩
       refine freeI_run (v := .pointer (some ⟨gb, go + k, none⟩)) rfl hf (by decide) ?_ rfl
       go_simp
      ·intro L ax W hf hLi hno hd
       simp [Region.binds] at hd
       have e117 : ax.tmps[117]?.getD undef = .pointer (some ⟨gb, go + k, none⟩) := slv (hf.got 6 (by decide) (by simp [hd]))
       refine ⟨fun _ => ?_, fun h => absurd trivial h⟩
       have hG : HAl wq pq [L 29, L 30] [sl ax 18, sl ax 232] W := hf.glob
       have h1 := (hG.bel.cell (p := ⟨gb, go + k, none⟩) hgq).trans hcn
       refine freeI_run (v := .int .i64 xn) rfl hf (by decide) ?_ rfl
       go_simp
      ·intro L ax W hf hLi hno hd
       try simp [Region.binds] at hd
       have e13 : ax.tmps[13]?.getD undef = .pointer (some ⟨cr, 0, none⟩) := hf.out 13 (by decide) rfl
       refine ⟨fun _ => ?_, fun h => absurd trivial h⟩
       refine freeI_run (v := .pointer (some ⟨cr, 0, none⟩)) rfl hf (by decide) ?_ rfl
       go_simp
      ·intro L ax W hf hLi hno hd
       simp [Region.binds] at hd
       have e119 : ax.tmps[119]?.getD undef = .pointer (some ⟨cr, 0, none⟩) := slv (hf.got 8 (by decide) (by simp [hd]))
       refine ⟨fun _ => ?_, fun h => absurd trivial h⟩
       refine freeI_run (v := .pointer (some ⟨cr, 0, none⟩)) rfl hf (by decide) ?_ rfl
       go_simp
      ·intro L ax W hf hLi hno hd
       simp [Region.binds] at hd
       have e120 : ax.tmps[120]?.getD undef = .pointer (some ⟨cr, 0, none⟩) := slv (hf.got 9 (by decide) (by simp [hd]))
       refine ⟨fun _ => ?_, fun h => absurd trivial h⟩
       refine freeI_run (v := .pointer (some ⟨cr, 0, none⟩)) rfl hf (by decide) ?_ rfl
       go_simp
      ·intro L ax W hf hLi hno hd
       simp [Region.binds] at hd
       have e121 : ax.tmps[121]?.getD undef = .pointer (some ⟨cr, 0, none⟩) := slv (hf.got 10 (by decide) (by simp [hd]))
       refine ⟨fun _ => ?_, fun h => absurd trivial h⟩
       have hG : HAl wq pq [L 29, L 30] [sl ax 18, sl ax 232] W := hf.glob
       have h1 := (hG.bel.cell (p := ⟨cr, 0, none⟩) hcq).trans c0q
       refine freeI_run (v := .slice (some ⟨rb, 0, none⟩) C.length cap) rfl hf (by decide) ?_ rfl
       go_simp
      ·intro L ax W hf hLi hno hd
       simp [Region.binds] at hd
       have e122 : ax.tmps[122]?.getD undef = .slice (some ⟨rb, 0, none⟩) C.length cap := slv (hf.got 11 (by decide) (by simp [hd]))
       refine ⟨fun _ => ?_, fun h => absurd trivial h⟩
       refine freeI_run (v := .int .i64 (C.length : Int)) rfl hf (by decide) ?_ rfl
       go_simp
      ·intro L ax W hf hLi hno hd
       simp [Region.binds] at hd
       have e118 : ax.tmps[118]?.getD undef = .int .i64 xn := slv (hf.got 7 (by decide) (by simp [hd]))
       have e123 : ax.tmps[123]?.getD undef = .int .i64 (C.length : Int) := slv (hf.got 12 (by decide) (by simp [hd]))
       refine ⟨fun _ => ?_, fun h => absurd trivial h⟩
       refine freeI_run (v := .int .i64 r1) rfl hf (by decide) ?_ rfl
       go_simp
      ·intro L ax W hf hLi hno hd
       try simp [Region.binds] at hd
       have e13 : ax.tmps[13]?.getD undef = .pointer (some ⟨cr, 0, none⟩) := hf.out 13 (by decide) rfl
       refine ⟨fun _ => ?_, fun h => absurd trivial h⟩
       refine freeI_run (v := .pointer (some ⟨cr, 0, none⟩)) rfl hf (by decide) ?_ rfl
       go_simp
      ·intro L ax W hf hLi hno hd
       simp [Region.binds] at hd
       have e125 : ax.tmps[125]?.getD undef = .pointer (some ⟨cr, 0, none⟩) := slv (hf.got 14 (by decide) (by simp [hd]))
       refine ⟨fun _ => ?_, fun h => absurd trivial h⟩
       refine freeI_run (v := .pointer (some ⟨cr, 0, none⟩)) rfl hf (by decide) ?_ rfl
       go_simp
      ·intro L ax W hf hLi hno hd
       simp [Region.binds] at hd
       have e126 : ax.tmps[126]?.getD undef = .pointer (some ⟨cr, 0, none⟩) := slv (hf.got 15 (by decide) (by simp [hd]))
       refine ⟨fun _ => ?_, fun h => absurd trivial h⟩
       refine freeI_run (v := .pointer (some ⟨cr, 0, none⟩)) rfl hf (by decide) ?_ rfl
       go_simp
      ·intro L ax W hf hLi hno hd
       simp [Region.binds] at hd
       have e127 : ax.tmps[127]?.getD undef = .pointer (some ⟨cr, 0, none⟩) := slv (hf.got 16 (by decide) (by simp [hd]))
       refine ⟨fun _ => ?_, fun h => absurd trivial h⟩
       have hG : HAl wq pq [L 29, L 30] [sl ax 18, sl ax 232] W := hf.glob
       have h1 := (hG.bel.cell (p := ⟨cr, 0, none⟩) hcq).trans c0q
       refine freeI_run (v := .slice (some ⟨rb, 0, none⟩) C.length cap) rfl hf (by decide) ?_ rfl
       go_simp
      ·intro L ax W hf hLi hno hd
       simp [Region.binds] at hd
       have e128 : ax.tmps[128]?.getD undef = .slice (some ⟨rb, 0, none⟩) C.length cap := slv (hf.got 17 (by decide) (by simp [hd]))
       refine ⟨fun _ => ?_, fun h => absurd trivial h⟩
       refine freeI_run (v := .int .i64 (C.length : Int)) rfl hf (by decide) ?_ rfl
       go_simp
      ·intro L ax W hf hLi hno hd
       simp [Region.binds] at hd
       have e124 : ax.tmps[124]?.getD undef = .int .i64 r1 := slv (hf.got 13 (by decide) (by simp [hd]))
       have e129 : ax.tmps[129]?.getD undef = .int .i64 (C.length : Int) := slv (hf.got 18 (by decide) (by simp [hd]))
       refine ⟨fun _ => ?_, fun h => absurd trivial h⟩
       refine freeI_run (v := .int .i64 r2) rfl hf (by decide) ?_ rfl
       go_simp
      ·intro L ax W hf hLi hno hd
       try simp [Region.binds] at hd
       have e13 : ax.tmps[13]?.getD undef = .pointer (some ⟨cr, 0, none⟩) := hf.out 13 (by decide) rfl
       refine ⟨fun _ => ?_, fun h => absurd trivial h⟩
       refine freeI_run (v := .pointer (some ⟨cr, 0, none⟩)) rfl hf (by decide) ?_ rfl
       go_simp
      ·intro L ax W hf hLi hno hd
       simp [Region.binds] at hd
       have e131 : ax.tmps[131]?.getD undef = .pointer (some ⟨cr, 0, none⟩) := slv (hf.got 20 (by decide) (by simp [hd]))
       refine ⟨fun _ => ?_, fun h => absurd trivial h⟩
       refine freeI_run (v := .pointer (some ⟨cr, 0, none⟩)) rfl hf (by decide) ?_ rfl
       go_simp
      ·intro L ax W hf hLi hno hd
       simp [Region.binds] at hd
       have e132 : ax.tmps[132]?.getD undef = .pointer (some ⟨cr, 0, none⟩) := slv (hf.got 21 (by decide) (by simp [hd]))
       refine ⟨fun _ => ?_, fun h => absurd trivial h⟩
       refine freeI_run (v := .pointer (some ⟨cr, 0, none⟩)) rfl hf (by decide) ?_ rfl
       go_simp
      ·intro L ax W hf hLi hno hd
       simp [Region.binds] at hd
       have e133 : ax.tmps[133]?.getD undef = .pointer (some ⟨cr, 0, none⟩) := slv (hf.got 22 (by decide) (by simp [hd]))
       refine ⟨fun _ => ?_, fun h => absurd trivial h⟩
       have hG : HAl wq pq [L 29, L 30] [sl ax 18, sl ax 232] W := hf.glob
       have h1 := (hG.bel.cell (p := ⟨cr, 0, none⟩) hcq).trans c0q
       refine freeI_run (v := .slice (some ⟨rb, 0, none⟩) C.length cap) rfl hf (by decide) ?_ rfl
       go_simp
      ·intro L ax W hf hLi hno hd
       simp [Region.binds] at hd
       have e134 : ax.tmps[134]?.getD undef = .slice (some ⟨rb, 0, none⟩) C.length cap := slv (hf.got 23 (by decide) (by simp [hd]))
       refine ⟨fun _ => ?_, fun h => absurd trivial h⟩
       refine freeI_run (v := .int .i64 (C.length : Int)) rfl hf (by decide) ?_ rfl
       go_simp
      ·intro L ax W hf hLi hno hd
       simp [Region.binds] at hd
       have e130 : ax.tmps[130]?.getD undef = .int .i64 r2 := slv (hf.got 19 (by decide) (by simp [hd]))
       have e135 : ax.tmps[135]?.getD undef = .int .i64 (C.length : Int) := slv (hf.got 24 (by decide) (by simp [hd]))
       refine ⟨fun _ => ?_, fun h => absurd trivial h⟩
       refine freeI_run (v := .int .i64 (i : Int)) rfl hf (by decide) ?_ rfl
       go_simp
      ·intro L ax W hf hLi hno hd
       simp [Region.binds] at hd
       have e114 : ax.tmps[114]?.getD undef = .slice (some ⟨rb, 0, none⟩) C.length cap := slv (hf.got 3 (by decide) (by simp [hd]))
       have e136 : ax.tmps[136]?.getD undef = .int .i64 (i : Int) := slv (hf.got 25 (by decide) (by simp [hd]))
       refine ⟨fun _ => ?_, fun h => absurd trivial h⟩
       refine freeI_run (v := .pointer (some ⟨rb, i * 68, none⟩)) rfl hf (by decide) ?_ rfl
       go_simp
      ·intro L ax W hf hLi hno hd
       simp [Region.binds] at hd
       have e137 : ax.tmps[137]?.getD undef = .pointer (some ⟨rb, i * 68, none⟩) := slv (hf.got 26 (by decide) (by simp [hd]))
       refine ⟨fun _ => ?_, fun h => absurd trivial h⟩
       refine freeI_run (v := .pointer (some ⟨rb, i * 68, none⟩)) rfl hf (by decide) ?_ rfl
       go_simp
      ·intro L ax W hf hLi hno hd
       simp [Region.binds] at hd
       have e138 : ax.tmps[138]?.getD undef = .pointer (some ⟨rb, i * 68, none⟩) := slv (hf.got 27 (by decide) (by simp [hd]))
       refine ⟨fun _ => ?_, fun h => absurd trivial h⟩
       have hG : HAl wq pq [L 29, L 30] [sl ax 18, sl ax 232] W := hf.glob
       have h1 := (row?_below _ _ _ hG.bel hrq).trans hpq
       refine freeI_run (v := .agg (pointA pq)) rfl hf (by decide) ?_ rfl
       go_simp
      ·intro L ax W hf hLi hno hd
       try simp [Region.binds] at hd
       refine ⟨fun _ => ?_, fun h => absurd trivial h⟩
       have hG : HAl wq pq [L 29, L 30] [sl ax 18, sl ax 232] W := hf.glob
       refine freeI_val (v := .pointer (some ⟨W.heap.size, 0, none⟩)) (W' := W.alloc (.cells (pointA zeroPt) 26)) rfl ?_ ⟨_, rfl⟩ (hG.alloc (hno 30 (by decide)) _)
       go_simp
      ·intro L ax W hf hLi hno hd
       simp [Region.binds] at hd
       have f18 : (fun v => ∃ b, v = .pointer (some ⟨b, 0, none⟩)) (sl ax 18) := hf.got 29 (by decide) (by simp [hd])
       have e139 : ax.tmps[139]?.getD undef = .agg (pointA pq) := slv (hf.got 28 (by decide) (by simp [hd]))
       refine ⟨fun _ => ?_, fun h => absurd trivial h⟩
       have hG : HAl wq pq [L 29, L 30] [sl ax 18, sl ax 232] W := hf.glob
       have hl : L 29 = true := by simp [hd]
       obtain ⟨b, e18⟩ := f18
       have e18' := slv e18
       obtain ⟨hth, hH⟩ := hG.put hl e18
       refine freeI_store (W' := putRow W b 0 (pointA pq)) rfl ?_ trivial hH
       go_simp
     ·intro vs w7 hl' hF hG
      obtain ⟨g', hg1, hg2⟩ := vs_litI vs hl' hF
      obtain ⟨b18, v18, hq18, hl18, hth18, hrow18⟩ := hG.box rfl
      replace hrow18 := hrow18 rfl
      have hB7 := hG.bel
      rw [hg1] at v18
      simp only [List.length_cons, List.length_nil, Nat.reduceAdd, List.map_cons, List.map_nil, show List.range 31 = [0, 1, 2, 3, 4, 5, 6, 7, 8, 9, 10, 11, 12, 13, 14, 15, 16, 17, 18, 19, 20, 21, 22, 23, 24, 25, 26, 27, 28, 29, 30] from rfl, List.getD_cons_zero, List.getD_cons_succ] at v18
      rw [hg1]
      simp only [List.length_cons, List.length_nil, Nat.reduceAdd, show List.range 31 = [0, 1, 2, 3, 4, 5, 6, 7, 8, 9, 10, 11, 12, 13, 14, 15, 16, 17, 18, 19, 20, 21, 22, 23, 24, 25, 26, 27, 28, 29, 30] from rfl, List.map_cons, List.map_nil, slotsIn, putL, List.setIfInBounds_toArray, List.set_cons_succ, List.set_cons_zero, v18, List.size_toArray, Nat.reduceLT, if_true, if_false]
      have hcn7 := (hB7.cell (p := ⟨gb, go + k, none⟩) hgq).trans hcn
      have hown7 := Lib.hid (hown.out.keep hB7)
      have hB7s := hB7.setCell (p := ⟨b18, 0, none⟩) hq18 (.int .u64 (ep.toNat : Int))
      have hset := Lib.hid (hown.out.keep hB7s)
      have hBset := Lib.hid (hBk.out.trans (hB7s.mono hBk.out.size))
      have hRset := Lib.hid (set_epoch_row hrow18 ep)
      obtain ⟨-, f18⟩ := hth18 0 (by omega)
      have c18 := cell_of_row? hrow18 0 (by omega)
      rw [Nat.add_zero] at c18 f18
      have c18' : w7.cell? ⟨b18, 0, none⟩ = some (.int .u64 (pq.epoch.toNat : Int)) := by simpa using c18
      have hBk7 := Lib.hid (hBk.out.trans (hB7.mono hBk.out.size))
      have hw67 := Nat.le_trans hBk.out.size hB7.size
      have hq618 : w6.heap.size ≤ b18 := Nat.le_trans hBk.out.size hq18
      clear hg1 hg2 hG hF hl' v18 hcn hpq c0q hown hBk hB7 hB7s hcq hrq c18 hth18
      go_upto_if 144 with fail
      go_cut [144] from 145 to 146 (fun _ W' => Hid (∃ q : Pt, row? W' b18 0 33 = some (pointA q) ∧ OwnPt W' w6.heap.size s.v pts ∧ Below w6.heap.size w6 W' ∧ w6.heap.size ≤ W'.heap.size))
      case first =>
       by_cases hneg : xn < 0
       ·go_wp2_with fail
        go_meet
        case rel => exact Lib.hid ⟨_, hRset.out, hset.out, hBset.out, by rw [size_setCell]; exact hw67⟩
       ·go_wp2_with fail
        go_meet
        case rel => exact Lib.hid ⟨_, hrow18, hown7.out, hBk7.out, hw67⟩
      case rest =>
       obtain ⟨q, hrq, hownc, hBc, hzc⟩ := hcut.out
       have hbs := bsPt_one q wc
       obtain ⟨s2, w8, hap, ho8, hB8⟩ := run_appPt (s := s) hownc hzc (by have := hpl.out; omega) q
       have ho8' := Lib.hid ho8
       have hB8' := Lib.hid (hBc.trans hB8)
       have hpl2 := Lib.hid (show (pts ++ [q]).length = k + 1 by simp [hpl.out])
       clear hownc ho8 hB8 hcut hown7 hBk7 hrow18 hBc
       go_wp2_with fail
       go_roundw
       case rel => exact ⟨k + 1, s2, _, by have := hkx2.out; omega, hpl2.out, by go_num, rfl, ho8', hB8'⟩
       case measure => have := hkx2.out; simp [intOf]; omega
    ·have hkn : ¬ (k : Int) < (ps.length : Int) := by omega
     have hpr := Lib.hid (show PtsR wr s pts from rows_of_own pointA ptA_size (by omega) hown.out)
     have hpt : pts.length ≤ 1000 := by have := hpl.out; omega
     obtain ⟨rbc, capc, Gc, hRc, -⟩ := (hba.out.keep hBk.out).doc
     have HC := rclash_c hRc hokD.out hpr.out hpt
     have hReal := Lib.hid ((hba.out.keep hBk.out).real)
     have hBw := Lib.hid (hB1.trans ((hBel.out.trans (hBk.out.mono hBel.out.size)).mono hB1.size))
     obtain ⟨ta, tn, tc⟩ := s
     obtain rfl : tn = pts.length := hpr.out.1
     dsimp only [Sl.v] at HC ⊢
     unfold ptrV at HC
     clear hown hRc hba hDo hBel
     go_wp2_with fail
     (with_reducible refine HC.mono ?_)
     clear HC
     rintro e w8 ⟨x, hx, rfl, hb8⟩
     have HF := fclash_c (hReal.out.keep hb8) hokD.out (PtsR.keep' hpr.out hb8) hpt
     dsimp only [Sl.v] at HF
     unfold ptrV at HF
     go_wp2_with fail
     (with_reducible refine HF.mono ?_)
     clear HF
     rintro e w9 ⟨y, hy, rfl, hb9⟩
     obtain rfl := hx.one hy
     have hx2 := Lib.hid hx
     have hb89 := hb8.trans (hb9.mono hb8.size)
     have hpr9 := Lib.hid (PtsR.keep' hpr.out hb89)
     have hBw9 := Lib.hid (hBw.out.trans (hb89.mono hBw.out.size))
     obtain ⟨a, haE⟩ : ∃ a, a = clFa pts x := ⟨_, rfl⟩
     obtain ⟨b, hbE⟩ : ∃ b, b = clFb pts x := ⟨_, rfl⟩
     rw [← haE, ← hbE]
     obtain ⟨w10, hw10, hr22, hr23, hb10, hz10⟩ := two_pts w9 a b
     have hBw10 := Lib.hid (hBw9.out.trans (hb10.mono hBw9.out.size))
     have hpr10 := Lib.hid (PtsR.keep' hpr9.out hb10)
     obtain ⟨b22, hb22⟩ : ∃ b, b = w9.heap.size := ⟨_, rfl⟩
     obtain ⟨b23, hb23⟩ : ∃ b, b = w9.heap.size + 1 := ⟨_, rfl⟩
     have hl22 : b22 < w10.heap.size := by omega
     have hl23 : b23 < w10.heap.size := by omega
     rw [← hb22] at hr22
     rw [← hb23] at hr23
     have hg := t10_point_guard
     have HKn := fun W (_ : Below w10.heap.size w10 W) => hKn.out W
     replace hb22 := Lib.hid hb22
     replace hb23 := Lib.hid hb23
     replace haE := Lib.hid haE
     replace hbE := Lib.hid hbE
     replace hz10 := Lib.hid hz10
     clear hx hy hb8 hb9 hb89 hb10 hReal
     cases x with
     | none =>
      obtain rfl : a = zeroPt := haE.out
      obtain rfl : b = zeroPt := hbE.out
      simp only [clFst, clSnd, Option.isSome]
      go_upto_region 27 with fail
      rw [← hw10, ← hb23.out, ← hb22.out]
      clear hw10
      go_upto_region 29 with fail
      refine wp_region_freeG_l (fun W W' => Below W.heap.size W W') (by kernel_rfl) [168, 169, 170, 171, 172, 173, 174, 175, 176, 177, 178, 179, 180, 181, 182, 183, 184, 185, 186, 187, 188, 189, 190, 191, 192, 193, 194, 195, 196, 197, 198, 199, 200, 201, 10]
       [Is (.bool false), Is (.bool true), Is (.bool true), Is (.agg (pointA zeroPt)), Is (.agg (pointA zeroPt)), Is (.bool true), Is (.bool true), Is (.bool true), Is (.agg (pointA zeroPt)), Is (.agg (pointA zeroPt)), Is (.bool true), Is (.bool true), Is (.bool true), Is (undef), Is (undef), Is (undef), Is (undef), Is (undef), Is (undef), Is (undef), Is (undef), Is (undef), Is (undef), Is (undef), Is (undef), Is (undef), Is (undef), Is (undef), Is (undef), Is (undef), Is (.bool true), Is (.bool true), Is (.bool true), Is (.bool true), Is (.bool true)]
       (by kernel_rfl) (fun W W' h hb => hb.trans (h.mono hb.size)) ?_ ?_ ?_
      ·intro f hf
       simp only [List.mem_cons, List.not_mem_nil, or_false] at hf
       rcases hf with rfl | rfl | rfl | rfl | rfl | rfl | rfl | rfl | rfl | rfl | rfl | rfl | rfl | rfl | rfl | rfl | rfl | rfl | rfl | rfl | rfl | rfl | rfl | rfl | rfl | rfl | rfl | rfl | rfl | rfl | rfl | rfl | rfl | rfl | rfl <;> intro x W W' h hr <;> first | exact h
      ·refine ⟨?_, ?_, ?_, ?_, ?_, ?_, ?_, ?_, ?_, ?_, ?_, ?_, ?_, ?_, ?_, ?_, ?_, ?_, ?_, ?_, ?_, ?_, ?_, ?_, ?_, ?_, ?_, ?_, ?_, ?_, ?_, ?_, ?_, ?_, ?_, trivial⟩
       ·intro L ax W hf hd
        try simp [Region.binds] at hd
        have e24 : ax.tmps[24]?.getD undef = .bool false := hf.out 24 (by decide) rfl
        refine ⟨fun _ => ?_, fun h => absurd trivial h⟩
        refine free_run (v := .bool false) (W' := W) rfl ?_ rfl (Below.refl _ _)
        go_simp
       ·intro L ax W hf hd
        simp [Region.binds] at hd
        have e168 : ax.tmps[168]?.getD undef = .bool false := slv (hf.got 0 (by decide) (by simp [hd]))
        refine ⟨fun _ => ?_, fun h => absurd trivial h⟩
        refine free_run (v := .bool true) (W' := W) rfl ?_ rfl (Below.refl _ _)
        go_simp
       ·intro L ax W hf hd
        simp [Region.binds] at hd
        have e169 : ax.tmps[169]?.getD undef = .bool true := slv (hf.got 1 (by decide) (by simp [hd]))
        refine ⟨fun _ => ?_, fun h => absurd trivial h⟩
        refine free_run (v := .bool true) (W' := W) rfl ?_ rfl (Below.refl _ _)
        go_simp
       ·intro L ax W hf hd
        simp [Region.binds] at hd
        have e22 : ax.tmps[22]?.getD undef = .pointer (some ⟨b22, 0, none⟩) := hf.out 22 (by decide) rfl
        have g0 : sl ax 170 = .bool true := hf.got 2 (by decide) (by simp [hd])
        refine ⟨fun hh => ?_, fun hh => ?_⟩
        ·first
          | (exact absurd (g0.symm.trans hh) (undef_ne _))
          | (exact absurd (g0.symm.trans hh) (bool_ne (by decide)))
          | (exfalso; revert hh; simp [Held, g0, *]; done)
          | ((have h1 := (row?_below _ _ _ hf.below hl22).trans hr22); refine free_run (v := .agg (pointA zeroPt)) (W' := W) rfl ?_ rfl (Below.refl _ _); go_simp)
        ·first
          | (exact absurd g0 hh)
          | (exfalso; revert hh; simp [Held, g0, *]; done)
          | (show undef = _; first | rfl | (simp [*]; done))
       ·intro L ax W hf hd
        simp [Region.binds] at hd
        have g0 : sl ax 170 = .bool true := hf.got 2 (by decide) (by simp [hd])
        refine ⟨fun hh => ?_, fun hh => ?_⟩
        ·first
          | (exact absurd (g0.symm.trans hh) (undef_ne _))
          | (exact absurd (g0.symm.trans hh) (bool_ne (by decide)))
          | (exfalso; revert hh; simp [Held, g0, *]; done)
          | ((have h2 := run_bldPtZ W); refine free_run (v := .agg (pointA zeroPt)) (W' := W) rfl ?_ rfl (Below.refl _ _); go_simp)
        ·first
          | (exact absurd g0 hh)
          | (exfalso; revert hh; simp [Held, g0, *]; done)
          | (show undef = _; first | rfl | (simp [*]; done))
       ·intro L ax W hf hd
        simp [Region.binds] at hd
        have e171 : ax.tmps[171]?.getD undef = .agg (pointA zeroPt) := slv (hf.got 3 (by decide) (by simp [hd]))
        have e172 : ax.tmps[172]?.getD undef = .agg (pointA zeroPt) := slv (hf.got 4 (by decide) (by simp [hd]))
        have g0 : sl ax 170 = .bool true := hf.got 2 (by decide) (by simp [hd])
        refine ⟨fun hh => ?_, fun hh => ?_⟩
        ·first
          | (exact absurd (g0.symm.trans hh) (undef_ne _))
          | (exact absurd (g0.symm.trans hh) (bool_ne (by decide)))
          | (exfalso; revert hh; simp [Held, g0, *]; done)
          | (refine free_run (v := .bool true) (W' := W) rfl ?_ rfl (Below.refl _ _); go_simp)
        ·first
          | (exact absurd g0 hh)
          | (exfalso; revert hh; simp [Held, g0, *]; done)
          | (show undef = _; first | rfl | (simp [*]; done))
       ·intro L ax W hf hd
        simp [Region.binds] at hd
        have e170 : ax.tmps[170]?.getD undef = .bool true := slv (hf.got 2 (by decide) (by simp [hd]))
        have e173 : ax.tmps[173]?.getD undef = .bool true := slv (hf.got 5 (by decide) (by simp [hd]))
        refine ⟨fun _ => ?_, fun h => absurd trivial h⟩
        refine free_run (v := .bool true) (W' := W) rfl ?_ rfl (Below.refl _ _)
        go_simp
       ·intro L ax W hf hd
        simp [Region.binds] at hd
        have e174 : ax.tmps[174]?.getD undef = .bool true := slv (hf.got 6 (by decide) (by simp [hd]))
        refine ⟨fun _ => ?_, fun h => absurd trivial h⟩
        refine free_run (v := .bool true) (W' := W) rfl ?_ rfl (Below.refl _ _)
        go_simp
       ·intro L ax W hf hd
        simp [Region.binds] at hd
        have e23 : ax.tmps[23]?.getD undef = .pointer (some ⟨b23, 0, none⟩) := hf.out 23 (by decide) rfl
        have g0 : sl ax 175 = .bool true := hf.got 7 (by decide) (by simp [hd])
        refine ⟨fun hh => ?_, fun hh => ?_⟩
        ·first
          | (exact absurd (g0.symm.trans hh) (undef_ne _))
          | (exact absurd (g0.symm.trans hh) (bool_ne (by decide)))
          | (exfalso; revert hh; simp [Held, g0, *]; done)
          | ((have h1 := (row?_below _ _ _ hf.below hl23).trans hr23); refine free_run (v := .agg (pointA zeroPt)) (W' := W) rfl ?_ rfl (Below.refl _ _); go_simp)
        ·first
          | (exact absurd g0 hh)
          | (exfalso; revert hh; simp [Held, g0, *]; done)
          | (show undef = _; first | rfl | (simp [*]; done))
       ·intro L ax W hf hd
        simp [Region.binds] at hd
        have g0 : sl ax 175 = .bool true := hf.got 7 (by decide) (by simp [hd])
        refine ⟨fun hh => ?_, fun hh => ?_⟩
        ·first
          | (exact absurd (g0.symm.trans hh) (undef_ne _))
          | (exact absurd (g0.symm.trans hh) (bool_ne (by decide)))
          | (exfalso; revert hh; simp [Held, g0, *]; done)
          | ((have h2 := run_bldPtZ W); refine free_run (v := .agg (pointA zeroPt)) (W' := W) rfl ?_ rfl (Below.refl _ _); go_simp)
        ·first
          | (exact absurd g0 hh)
          | (exfalso; revert hh; simp [Held, g0, *]; done)
          | (show undef = _; first | rfl | (simp [*]; done))
       ·intro L ax W hf hd
        simp [Region.binds] at hd
        have e176 : ax.tmps[176]?.getD undef = .agg (pointA zeroPt) := slv (hf.got 8 (by decide) (by simp [hd]))
        have e177 : ax.tmps[177]?.getD undef = .agg (pointA zeroPt) := slv (hf.got 9 (by decide) (by simp [hd]))
        have g0 : sl ax 175 = .bool true := hf.got 7 (by decide) (by simp [hd])
        refine ⟨fun hh => ?_, fun hh => ?_⟩
        ·first
          | (exact absurd (g0.symm.trans hh) (undef_ne _))
          | (exact absurd (g0.symm.trans hh) (bool_ne (by decide)))
          | (exfalso; revert hh; simp [Held, g0, *]; done)
          | (refine free_run (v := .bool true) (W' := W) rfl ?_ rfl (Below.refl _ _); go_simp)
        ·first
          | (exact absurd g0 hh)
          | (exfalso; revert hh; simp [Held, g0, *]; done)
          | (show undef = _; first | rfl | (simp [*]; done))
       ·intro L ax W hf hd
        simp [Region.binds] at hd
        have e175 : ax.tmps[175]?.getD undef = .bool true := slv (hf.got 7 (by decide) (by simp [hd]))
        have e178 : ax.tmps[178]?.getD undef = .bool true := slv (hf.got 10 (by decide) (by simp [hd]))
        refine ⟨fun _ => ?_, fun h => absurd trivial h⟩
        refine free_run (v := .bool true) (W' := W) rfl ?_ rfl (Below.refl _ _)
        go_simp
       ·intro L ax W hf hd
        simp [Region.binds] at hd
        have e179 : ax.tmps[179]?.getD undef = .bool true := slv (hf.got 11 (by decide) (by simp [hd]))
        refine ⟨fun _ => ?_, fun h => absurd trivial h⟩
        refine free_run (v := .bool true) (W' := W) rfl ?_ rfl (Below.refl _ _)
        go_simp
       ·intro L ax W hf hd
        simp [Region.binds] at hd
        have e24 : ax.tmps[24]?.getD undef = .bool false := hf.out 24 (by decide) rfl
        have g0 : sl ax 180 = .bool true := hf.got 12 (by decide) (by simp [hd])
        refine ⟨fun hh => ?_, fun hh => ?_⟩
        ·first
          | (exact absurd (g0.symm.trans hh) (undef_ne _))
          | (exact absurd (g0.symm.trans hh) (bool_ne (by decide)))
          | (exfalso; revert hh; simp [Held, g0, *]; done)
          | (refine free_run (v := undef) (W' := W) rfl ?_ rfl (Below.refl _ _); go_simp)
        ·first
          | (exact absurd g0 hh)
          | (exfalso; revert hh; simp [Held, g0, *]; done)
          | (show undef = _; first | rfl | (simp [*]; done))
       ·intro L ax W hf hd
        simp [Region.binds] at hd
        have e181 : ax.tmps[181]?.getD undef = undef := slv (hf.got 13 (by decide) (by simp [hd]))
        have g0 : sl ax 180 = .bool true := hf.got 12 (by decide) (by simp [hd])
        refine ⟨fun hh => ?_, fun hh => ?_⟩
        ·first
          | (exact absurd (g0.symm.trans hh) (undef_ne _))
          | (exact absurd (g0.symm.trans hh) (bool_ne (by decide)))
          | (exfalso; revert hh; simp [Held, g0, *]; done)
          | (refine free_run (v := undef) (W' := W) rfl ?_ rfl (Below.refl _ _); go_simp)
        ·first
          | (exact absurd g0 hh)
          | (exfalso; revert hh; simp [Held, g0, *]; done)
          | (show undef = _; first | rfl | (simp [*]; done))
       ·intro L ax W hf hd
        simp [Region.binds] at hd
        have e22 : ax.tmps[22]?.getD undef = .pointer (some ⟨b22, 0, none⟩) := hf.out 22 (by decide) rfl
        have g0 : sl ax 182 = undef := hf.got 14 (by decide) (by simp [hd])
        refine ⟨fun hh => ?_, fun hh => ?_⟩
        ·first
          | (exact absurd (g0.symm.trans hh) (undef_ne _))
          | (exact absurd (g0.symm.trans hh) (bool_ne (by decide)))
          | (exfalso; revert hh; simp [Held, g0, *]; done)
          | (refine free_run (v := undef) (W' := W) rfl ?_ rfl (Below.refl _ _); go_simp)
        ·first
          | (exact absurd g0 hh)
          | (exfalso; revert hh; simp [Held, g0, *]; done)
          | (show undef = _; first | rfl | (simp [*]; done))
       ·intro L ax W hf hd
        simp [Region.binds] at hd
        have e16 : ax.tmps[16]?.getD undef = .slice ta pts.length tc := hf.out 16 (by decide) rfl
        have g0 : sl ax 182 = undef := hf.got 14 (by decide) (by simp [hd])
        refine ⟨fun hh => ?_, fun hh => ?_⟩
        ·first
          | (exact absurd (g0.symm.trans hh) (undef_ne _))
          | (exact absurd (g0.symm.trans hh) (bool_ne (by decide)))
          | (exfalso; revert hh; simp [Held, g0, *]; done)
          | (refine free_run (v := undef) (W' := W) rfl ?_ rfl (Below.refl _ _); go_simp)
        ·first
          | (exact absurd g0 hh)
          | (exfalso; revert hh; simp [Held, g0, *]; done)
          | (show undef = _; first | rfl | (simp [*]; done))
       ·intro L ax W hf hd
        simp [Region.binds] at hd
        have e19 : ax.tmps[19]?.getD undef = .int .i64 0 := hf.out 19 (by decide) rfl
        have g0 : sl ax 182 = undef := hf.got 14 (by decide) (by simp [hd])
        refine ⟨fun hh => ?_, fun hh => ?_⟩
        ·first
          | (exact absurd (g0.symm.trans hh) (undef_ne _))
          | (exact absurd (g0.symm.trans hh) (bool_ne (by decide)))
          | (exfalso; revert hh; simp [Held, g0, *]; done)
          | (refine free_run (v := undef) (W' := W) rfl ?_ rfl (Below.refl _ _); go_simp)
        ·first
          | (exact absurd g0 hh)
          | (exfalso; revert hh; simp [Held, g0, *]; done)
          | (show undef = _; first | rfl | (simp [*]; done))
       ·intro L ax W hf hd
        simp [Region.binds] at hd
        have e184 : ax.tmps[184]?.getD undef = undef := slv (hf.got 16 (by decide) (by simp [hd]))
        have e185 : ax.tmps[185]?.getD undef = undef := slv (hf.got 17 (by decide) (by simp [hd]))
        have g0 : sl ax 182 = undef := hf.got 14 (by decide) (by simp [hd])
        refine ⟨fun hh => ?_, fun hh => ?_⟩
        ·first
          | (exact absurd (g0.symm.trans hh) (undef_ne _))
          | (exact absurd (g0.symm.trans hh) (bool_ne (by decide)))
          | (exfalso; revert hh; simp [Held, g0, *]; done)
          | (refine free_run (v := undef) (W' := W) rfl ?_ rfl (Below.refl _ _); go_simp)
        ·first
          | (exact absurd g0 hh)
          | (exfalso; revert hh; simp [Held, g0, *]; done)
          | (show undef = _; first | rfl | (simp [*]; done))
       ·intro L ax W hf hd
        simp [Region.binds] at hd
        have e186 : ax.tmps[186]?.getD undef = undef := slv (hf.got 18 (by decide) (by simp [hd]))
        have g0 : sl ax 182 = undef := hf.got 14 (by decide) (by simp [hd])
        refine ⟨fun hh => ?_, fun hh => ?_⟩
        ·first
          | (exact absurd (g0.symm.trans hh) (undef_ne _))
          | (exact absurd (g0.symm.trans hh) (bool_ne (by decide)))
          | (exfalso; revert hh; simp [Held, g0, *]; done)
          | (refine free_run (v := undef) (W' := W) rfl ?_ rfl (Below.refl _ _); go_simp)
        ·first
          | (exact absurd g0 hh)
          | (exfalso; revert hh; simp [Held, g0, *]; done)
          | (show undef = _; first | rfl | (simp [*]; done))
       ·intro L ax W hf hd
        simp [Region.binds] at hd
        have e183 : ax.tmps[183]?.getD undef = undef := slv (hf.got 15 (by decide) (by simp [hd]))
        have e187 : ax.tmps[187]?.getD undef = undef := slv (hf.got 19 (by decide) (by simp [hd]))
        have g0 : sl ax 182 = undef := hf.got 14 (by decide) (by simp [hd])
        refine ⟨fun hh => ?_, fun hh => ?_⟩
        ·first
          | (exact absurd (g0.symm.trans hh) (undef_ne _))
          | (exact absurd (g0.symm.trans hh) (bool_ne (by decide)))
          | (exfalso; revert hh; simp [Held, g0, *]; done)
          | (refine free_run (v := undef) (W' := W) rfl ?_ rfl (Below.refl _ _); go_simp)
        ·first
          | (exact absurd g0 hh)
          | (exfalso; revert hh; simp [Held, g0, *]; done)
          | (show undef = _; first | rfl | (simp [*]; done))
       ·intro L ax W hf hd
        simp [Region.binds] at hd
        have e182 : ax.tmps[182]?.getD undef = undef := slv (hf.got 14 (by decide) (by simp [hd]))
        have e188 : ax.tmps[188]?.getD undef = undef := slv (hf.got 20 (by decide) (by simp [hd]))
        have g0 : sl ax 180 = .bool true := hf.got 12 (by decide) (by simp [hd])
        refine ⟨fun hh => ?_, fun hh => ?_⟩
        ·first
          | (exact absurd (g0.symm.trans hh) (undef_ne _))
          | (exact absurd (g0.symm.trans hh) (bool_ne (by decide)))
          | (exfalso; revert hh; simp [Held, g0, *]; done)
          | (refine free_run (v := undef) (W' := W) rfl ?_ rfl (Below.refl _ _); go_simp)
        ·first
          | (exact absurd g0 hh)
          | (exfalso; revert hh; simp [Held, g0, *]; done)
          | (show undef = _; first | rfl | (simp [*]; done))
       ·intro L ax W hf hd
        simp [Region.binds] at hd
        have e189 : ax.tmps[189]?.getD undef = undef := slv (hf.got 21 (by decide) (by simp [hd]))
        have g0 : sl ax 180 = .bool true := hf.got 12 (by decide) (by simp [hd])
        refine ⟨fun hh => ?_, fun hh => ?_⟩
        ·first
          | (exact absurd (g0.symm.trans hh) (undef_ne _))
          | (exact absurd (g0.symm.trans hh) (bool_ne (by decide)))
          | (exfalso; revert hh; simp [Held, g0, *]; done)
          | (refine free_run (v := undef) (W' := W) rfl ?_ rfl (Below.refl _ _); go_simp)
        ·first
          | (exact absurd g0 hh)
          | (exfalso; revert hh; simp [Held, g0, *]; done)
          | (show undef = _; first | rfl | (simp [*]; done))
       ·intro L ax W hf hd
        simp [Region.binds] at hd
        have e23 : ax.tmps[23]?.getD undef = .pointer (some ⟨b23, 0, none⟩) := hf.out 23 (by decide) rfl
        have g0 : sl ax 190 = undef := hf.got 22 (by decide) (by simp [hd])
        refine ⟨fun hh => ?_, fun hh => ?_⟩
        ·first
          | (exact absurd (g0.symm.trans hh) (undef_ne _))
          | (exact absurd (g0.symm.trans hh) (bool_ne (by decide)))
          | (exfalso; revert hh; simp [Held, g0, *]; done)
          | (refine free_run (v := undef) (W' := W) rfl ?_ rfl (Below.refl _ _); go_simp)
        ·first
          | (exact absurd g0 hh)
          | (exfalso; revert hh; simp [Held, g0, *]; done)
          | (show undef = _; first | rfl | (simp [*]; done))
       ·intro L ax W hf hd
        simp [Region.binds] at hd
        have e16 : ax.tmps[16]?.getD undef = .slice ta pts.length tc := hf.out 16 (by decide) rfl
        have g0 : sl ax 190 = undef := hf.got 22 (by decide) (by simp [hd])
        refine ⟨fun hh => ?_, fun hh => ?_⟩
        ·first
          | (exact absurd (g0.symm.trans hh) (undef_ne _))
          | (exact absurd (g0.symm.trans hh) (bool_ne (by decide)))
          | (exfalso; revert hh; simp [Held, g0, *]; done)
          | (refine free_run (v := undef) (W' := W) rfl ?_ rfl (Below.refl _ _); go_simp)
        ·first
          | (exact absurd g0 hh)
          | (exfalso; revert hh; simp [Held, g0, *]; done)
          | (show undef = _; first | rfl | (simp [*]; done))
       ·intro L ax W hf hd
        simp [Region.binds] at hd
        have e20 : ax.tmps[20]?.getD undef = .int .i64 0 := hf.out 20 (by decide) rfl
        have g0 : sl ax 190 = undef := hf.got 22 (by decide) (by simp [hd])
        refine ⟨fun hh => ?_, fun hh => ?_⟩
        ·first
          | (exact absurd (g0.symm.trans hh) (undef_ne _))
          | (exact absurd (g0.symm.trans hh) (bool_ne (by decide)))
          | (exfalso; revert hh; simp [Held, g0, *]; done)
          | (refine free_run (v := undef) (W' := W) rfl ?_ rfl (Below.refl _ _); go_simp)
        ·first
          | (exact absurd g0 hh)
          | (exfalso; revert hh; simp [Held, g0, *]; done)
          | (show undef = _; first | rfl | (simp [*]; done))
       ·intro L ax W hf hd
        simp [Region.binds] at hd
        have e192 : ax.tmps[192]?.getD undef = undef := slv (hf.got 24 (by decide) (by simp [hd]))
        have e193 : ax.tmps[193]?.getD undef = undef := slv (hf.got 25 (by decide) (by simp [hd]))
        have g0 : sl ax 190 = undef := hf.got 22 (by decide) (by simp [hd])
        refine ⟨fun hh => ?_, fun hh => ?_⟩
        ·first
          | (exact absurd (g0.symm.trans hh) (undef_ne _))
          | (exact absurd (g0.symm.trans hh) (bool_ne (by decide)))
          | (exfalso; revert hh; simp [Held, g0, *]; done)
          | (refine free_run (v := undef) (W' := W) rfl ?_ rfl (Below.refl _ _); go_simp)
        ·first
          | (exact absurd g0 hh)
          | (exfalso; revert hh; simp [Held, g0, *]; done)
          | (show undef = _; first | rfl | (simp [*]; done))
       ·intro L ax W hf hd
        simp [Region.binds] at hd
        have e194 : ax.tmps[194]?.getD undef = undef := slv (hf.got 26 (by decide) (by simp [hd]))
        have g0 : sl ax 190 = undef := hf.got 22 (by decide) (by simp [hd])
        refine ⟨fun hh => ?_, fun hh => ?_⟩
        ·first
          | (exact absurd (g0.symm.trans hh) (undef_ne _))
          | (exact absurd (g0.symm.trans hh) (bool_ne (by decide)))
          | (exfalso; revert hh; simp [Held, g0, *]; done)
          | (refine free_run (v := undef) (W' := W) rfl ?_ rfl (Below.refl _ _); go_simp)
        ·first
          | (exact absurd g0 hh)
          | (exfalso; revert hh; simp [Held, g0, *]; done)
          | (show undef = _; first | rfl | (simp [*]; done))
       ·intro L ax W hf hd
        simp [Region.binds] at hd
        have e191 : ax.tmps[191]?.getD undef = undef := slv (hf.got 23 (by decide) (by simp [hd]))
        have e195 : ax.tmps[195]?.getD undef = undef := slv (hf.got 27 (by decide) (by simp [hd]))
        have g0 : sl ax 190 = undef := hf.got 22 (by decide) (by simp [hd])
        refine ⟨fun hh => ?_, fun hh => ?_⟩
        ·first
          | (exact absurd (g0.symm.trans hh) (undef_ne _))
          | (exact absurd (g0.symm.trans hh) (bool_ne (by decide)))
          | (exfalso; revert hh; simp [Held, g0, *]; done)
          | (refine free_run (v := undef) (W' := W) rfl ?_ rfl (Below.refl _ _); go_simp)
        ·first
          | (exact absurd g0 hh)
          | (exfalso; revert hh; simp [Held, g0, *]; done)
          | (show undef = _; first | rfl | (simp [*]; done))
       ·intro L ax W hf hd
        simp [Region.binds] at hd
        have e190 : ax.tmps[190]?.getD undef = undef := slv (hf.got 22 (by decide) (by simp [hd]))
        have e196 : ax.tmps[196]?.getD undef = undef := slv (hf.got 28 (by decide) (by simp [hd]))
        have g0 : sl ax 180 = .bool true := hf.got 12 (by decide) (by simp [hd])
        refine ⟨fun hh => ?_, fun hh => ?_⟩
        ·first
          | (exact absurd (g0.symm.trans hh) (undef_ne _))
          | (exact absurd (g0.symm.trans hh) (bool_ne (by decide)))
          | (exfalso; revert hh; simp [Held, g0, *]; done)
          | (refine free_run (v := undef) (W' := W) rfl ?_ rfl (Below.refl _ _); go_simp)
        ·first
          | (exact absurd g0 hh)
          | (exfalso; revert hh; simp [Held, g0, *]; done)
          | (show undef = _; first | rfl | (simp [*]; done))
       ·intro L ax W hf hd
        simp [Region.binds] at hd
        have e180 : ax.tmps[180]?.getD undef = .bool true := slv (hf.got 12 (by decide) (by simp [hd]))
        have e197 : ax.tmps[197]?.getD undef = undef := slv (hf.got 29 (by decide) (by simp [hd]))
        refine ⟨fun _ => ?_, fun h => absurd trivial h⟩
        refine free_run (v := .bool true) (W' := W) rfl ?_ rfl (Below.refl _ _)
        go_simp
       ·intro L ax W hf hd
        simp [Region.binds] at hd
        have e198 : ax.tmps[198]?.getD undef = .bool true := slv (hf.got 30 (by decide) (by simp [hd]))
        refine ⟨fun _ => ?_, fun h => absurd trivial h⟩
        refine free_run (v := .bool true) (W' := W) rfl ?_ rfl (Below.refl _ _)
        go_simp
       ·intro L ax W hf hd
        simp [Region.binds] at hd
        have g0 : sl ax 199 = .bool true := hf.got 31 (by decide) (by simp [hd])
        refine ⟨fun hh => ?_, fun hh => ?_⟩
        ·first
          | (exact absurd (g0.symm.trans hh) (undef_ne _))
          | (exact absurd (g0.symm.trans hh) (bool_ne (by decide)))
          | (exfalso; revert hh; simp [Held, g0, *]; done)
          | (refine free_call (f := 4) (args := #[]) rfl (by go_simp) ?_; refine (HKn W hf.below).mono ?_; rintro e w' ⟨rfl, hb⟩; exact ⟨_, rfl, rfl, hb⟩)
        ·first
          | (exact absurd g0 hh)
          | (exfalso; revert hh; simp [Held, g0, *]; done)
          | (show undef = _; first | rfl | (simp [*]; done))
       ·intro L ax W hf hd
        simp [Region.binds] at hd
        have e199 : ax.tmps[199]?.getD undef = .bool true := slv (hf.got 31 (by decide) (by simp [hd]))
        have e200 : ax.tmps[200]?.getD undef = .bool true := slv (hf.got 32 (by decide) (by simp [hd]))
        refine ⟨fun _ => ?_, fun h => absurd trivial h⟩
        refine free_run (v := .bool true) (W' := W) rfl ?_ rfl (Below.refl _ _)
        go_simp
       ·intro L ax W hf hd
        simp [Region.binds] at hd
        have e201 : ax.tmps[201]?.getD undef = .bool true := slv (hf.got 33 (by decide) (by simp [hd]))
        refine ⟨fun _ => ?_, fun h => absurd trivial h⟩
        refine free_run (v := .bool true) (W' := W) rfl ?_ rfl (Below.refl _ _)
        go_simp
      ·intro vs w' hl' hF hb
       obtain ⟨g', hg1, hg2⟩ := vs_lit vs hl' hF
       have e34 : g' 34 = .bool true := hg2 34 (by decide)
       rw [hg1]
       simp only [List.length_cons, List.length_nil, Nat.reduceAdd, show List.range 35 = [0, 1, 2, 3, 4, 5, 6, 7, 8, 9, 10, 11, 12, 13, 14, 15, 16, 17, 18, 19, 20, 21, 22, 23, 24, 25, 26, 27, 28, 29, 30, 31, 32, 33, 34] from rfl, List.map_cons, List.map_nil, putL, List.zip_cons_cons, List.zip_nil_right, List.setIfInBounds_toArray, List.set_cons_succ, List.set_cons_zero, e34]
       have hBf := Lib.hid (hBw10.out.trans (hb.mono hBw10.out.size))
       clear hF hg1 hg2 hl' hb hr22 hr23 HKn
       go_wp2_with fail
       go_ret
       exact ⟨rfl, hBf.out⟩
     | some x =>
      obtain ⟨i, k⟩ := x
      obtain ⟨hik, hkl, -, -⟩ := hx2.out
      simp only at hik hkl
      have hil : i < pts.length := by omega
      obtain ⟨tb, tq, e, htw, htr⟩ := SlR.at hpr10.out (by omega)
      have e1 := congrArg Sl.a e
      simp only at e1
      subst e1
      clear e
      obtain ⟨cs, hti, e2⟩ := htr i hil
      subst e2
      obtain ⟨cs, htk, e2⟩ := htr k hkl
      subst e2
      rw [show pts[i] = a by rw [haE.out]; exact (ptD hil).symm] at hti
      rw [show pts[k] = b by rw [hbE.out]; exact (ptD hkl).symm] at htk
      have i0 : (0 : Int) ≤ (i : Int) := by omega
      have i1 : (i : Int) < (pts.length : Int) := by omega
      have k0 : (0 : Int) ≤ (k : Int) := by omega
      have k1 : (k : Int) < (pts.length : Int) := by omega
      replace hik := Lib.hid hik
      simp only [clFst, clSnd, Option.isSome]
      clear htr
      go_upto_region 27 with fail
      rw [← hw10, ← hb23.out, ← hb22.out]
      clear hw10
      go_upto_region 29 with fail
      refine wp_region_freeG_l (fun W W' => Below W.heap.size W W') (by kernel_rfl) [168, 169, 170, 171, 172, 173, 174, 175, 176, 177, 178, 179, 180, 181, 182, 183, 184, 185, 186, 187, 188, 189, 190, 191, 192, 193, 194, 195, 196, 197, 198, 199, 200, 201, 10]
       [Is (.bool true), Is (.bool false), Is (.bool false), Is (undef), Is (undef), Is (undef), Is (.bool false), Is (.bool false), Is (undef), Is (undef), Is (undef), Is (.bool false), Is (.bool false), Is (.bool true), Is (.bool true), Is (.agg (pointA a)), Is (.slice (some ⟨tb, tq, none⟩) pts.length tc), Is (.int .i64 (i : Int)), Is (.pointer (some ⟨tb, tq + i * 33, none⟩)), Is (.agg (pointA a)), Is (.bool true), Is (.bool true), Is (.bool true), Is (.agg (pointA b)), Is (.slice (some ⟨tb, tq, none⟩) pts.length tc), Is (.int .i64 (k : Int)), Is (.pointer (some ⟨tb, tq + k * 33, none⟩)), Is (.agg (pointA b)), Is (.bool true), Is (.bool true), Is (.bool true), Is (.bool true), Is (.bool true), Is (.bool true), Is (.bool true)]
       (by kernel_rfl) (fun W W' h hb => hb.trans (h.mono hb.size)) ?_ ?_ ?_
      ·intro f hf
       simp only [List.mem_cons, List.not_mem_nil, or_false] at hf
       rcases hf with rfl | rfl | rfl | rfl | rfl | rfl | rfl | rfl | rfl | rfl | rfl | rfl | rfl | rfl | rfl | rfl | rfl | rfl | rfl | rfl | rfl | rfl | rfl | rfl | rfl | rfl | rfl | rfl | rfl | rfl | rfl | rfl | rfl | rfl | rfl <;> intro x W W' h hr <;> first | exact h
      ·refine ⟨?_, ?_, ?_, ?_, ?_, ?_, ?_, ?_, ?_, ?_, ?_, ?_, ?_, ?_, ?_, ?_, ?_, ?_, ?_, ?_, ?_, ?_, ?_, ?_, ?_, ?_, ?_, ?_, ?_, ?_, ?_, ?_, ?_, ?_, ?_, trivial⟩
       ·intro L ax W hf hd
        try simp [Region.binds] at hd
        have e24 : ax.tmps[24]?.getD undef = .bool true := hf.out 24 (by decide) rfl
        refine ⟨fun _ => ?_, fun h => absurd trivial h⟩
        refine free_run (v := .bool true) (W' := W) rfl ?_ rfl (Below.refl _ _)
        go_simp
       ·intro L ax W hf hd
        simp [Region.binds] at hd
        have e168 : ax.tmps[168]?.getD undef = .bool true := slv (hf.got 0 (by decide) (by simp [hd]))
        refine ⟨fun _ => ?_, fun h => absurd trivial h⟩
        refine free_run (v := .bool false) (W' := W) rfl ?_ rfl (Below.refl _ _)
        go_simp
       ·intro L ax W hf hd
        simp [Region.binds] at hd
        have e169 : ax.tmps[169]?.getD undef = .bool false := slv (hf.got 1 (by decide) (by simp [hd]))
        refine ⟨fun _ => ?_, fun h => absurd trivial h⟩
        refine free_run (v := .bool false) (W' := W) rfl ?_ rfl (Below.refl _ _)
        go_simp
       ·intro L ax W hf hd
        simp [Region.binds] at hd
        have e22 : ax.tmps[22]?.getD undef = .pointer (some ⟨b22, 0, none⟩) := hf.out 22 (by decide) rfl
        have g0 : sl ax 170 = .bool false := hf.got 2 (by decide) (by simp [hd])
        refine ⟨fun hh => ?_, fun hh => ?_⟩
        ·first
          | (exact absurd (g0.symm.trans hh) (undef_ne _))
          | (exact absurd (g0.symm.trans hh) (bool_ne (by decide)))
          | (exfalso; revert hh; simp [Held, g0, *]; done)
          | (refine free_run (v := undef) (W' := W) rfl ?_ rfl (Below.refl _ _); go_simp)
        ·first
          | (exact absurd g0 hh)
          | (exfalso; revert hh; simp [Held, g0, *]; done)
          | (show undef = _; first | rfl | (simp [*]; done))
       ·intro L ax W hf hd
        simp [Region.binds] at hd
        have g0 : sl ax 170 = .bool false := hf.got 2 (by decide) (by simp [hd])
        refine ⟨fun hh => ?_, fun hh => ?_⟩
        ·first
          | (exact absurd (g0.symm.trans hh) (undef_ne _))
          | (exact absurd (g0.symm.trans hh) (bool_ne (by decide)))
          | (exfalso; revert hh; simp [Held, g0, *]; done)
          | (refine free_run (v := undef) (W' := W) rfl ?_ rfl (Below.refl _ _); go_simp)
        ·first
          | (exact absurd g0 hh)
          | (exfalso; revert hh; simp [Held, g0, *]; done)
          | (show undef = _; first | rfl | (simp [*]; done))
       ·intro L ax W hf hd
        simp [Region.binds] at hd
        have e171 : ax.tmps[171]?.getD undef = undef := slv (hf.got 3 (by decide) (by simp [hd]))
        have e172 : ax.tmps[172]?.getD undef = undef := slv (hf.got 4 (by decide) (by simp [hd]))
        have g0 : sl ax 170 = .bool false := hf.got 2 (by decide) (by simp [hd])
        refine ⟨fun hh => ?_, fun hh => ?_⟩
        ·first
          | (exact absurd (g0.symm.trans hh) (undef_ne _))
          | (exact absurd (g0.symm.trans hh) (bool_ne (by decide)))
          | (exfalso; revert hh; simp [Held, g0, *]; done)
          | (refine free_run (v := undef) (W' := W) rfl ?_ rfl (Below.refl _ _); go_simp)
        ·first
          | (exact absurd g0 hh)
          | (exfalso; revert hh; simp [Held, g0, *]; done)
          | (show undef = _; first | rfl | (simp [*]; done))
       ·intro L ax W hf hd
        simp [Region.binds] at hd
        have e170 : ax.tmps[170]?.getD undef = .bool false := slv (hf.got 2 (by decide) (by simp [hd]))
        have e173 : ax.tmps[173]?.getD undef = undef := slv (hf.got 5 (by decide) (by simp [hd]))
        refine ⟨fun _ => ?_, fun h => absurd trivial h⟩
        refine free_run (v := .bool false) (W' := W) rfl ?_ rfl (Below.refl _ _)
        go_simp
       ·intro L ax W hf hd
        simp [Region.binds] at hd
        have e174 : ax.tmps[174]?.getD undef = .bool false := slv (hf.got 6 (by decide) (by simp [hd]))
        refine ⟨fun _ => ?_, fun h => absurd trivial h⟩
        refine free_run (v := .bool false) (W' := W) rfl ?_ rfl (Below.refl _ _)
        go_simp
       ·intro L ax W hf hd
        simp [Region.binds] at hd
        have e23 : ax.tmps[23]?.getD undef = .pointer (some ⟨b23, 0, none⟩) := hf.out 23 (by decide) rfl
        have g0 : sl ax 175 = .bool false := hf.got 7 (by decide) (by simp [hd])
        refine ⟨fun hh => ?_, fun hh => ?_⟩
        ·first
          | (exact absurd (g0.symm.trans hh) (undef_ne _))
          | (exact absurd (g0.symm.trans hh) (bool_ne (by decide)))
          | (exfalso; revert hh; simp [Held, g0, *]; done)
          | (refine free_run (v := undef) (W' := W) rfl ?_ rfl (Below.refl _ _); go_simp)
        ·first
          | (exact absurd g0 hh)
          | (exfalso; revert hh; simp [Held, g0, *]; done)
          | (show undef = _; first | rfl | (simp [*]; done))
       ·intro L ax W hf hd
        simp [Region.binds] at hd
        have g0 : sl ax 175 = .bool false := hf.got 7 (by decide) (by simp [hd])
        refine ⟨fun hh => ?_, fun hh => ?_⟩
        ·first
          | (exact absurd (g0.symm.trans hh) (undef_ne _))
          | (exact absurd (g0.symm.trans hh) (bool_ne (by decide)))
          | (exfalso; revert hh; simp [Held, g0, *]; done)
          | (refine free_run (v := undef) (W' := W) rfl ?_ rfl (Below.refl _ _); go_simp)
        ·first
          | (exact absurd g0 hh)
          | (exfalso; revert hh; simp [Held, g0, *]; done)
          | (show undef = _; first | rfl | (simp [*]; done))
       ·intro L ax W hf hd
        simp [Region.binds] at hd
        have e176 : ax.tmps[176]?.getD undef = undef := slv (hf.got 8 (by decide) (by simp [hd]))
        have e177 : ax.tmps[177]?.getD undef = undef := slv (hf.got 9 (by decide) (by simp [hd]))
        have g0 : sl ax 175 = .bool false := hf.got 7 (by decide) (by simp [hd])
        refine ⟨fun hh => ?_, fun hh => ?_⟩
        ·first
          | (exact absurd (g0.symm.trans hh) (undef_ne _))
          | (exact absurd (g0.symm.trans hh) (bool_ne (by decide)))
          | (exfalso; revert hh; simp [Held, g0, *]; done)
          | (refine free_run (v := undef) (W' := W) rfl ?_ rfl (Below.refl _ _); go_simp)
        ·first
          | (exact absurd g0 hh)
          | (exfalso; revert hh; simp [Held, g0, *]; done)
          | (show undef = _; first | rfl | (simp [*]; done))
       ·intro L ax W hf hd
        simp [Region.binds] at hd
        have e175 : ax.tmps[175]?.getD undef = .bool false := slv (hf.got 7 (by decide) (by simp [hd]))
        have e178 : ax.tmps[178]?.getD undef = undef := slv (hf.got 10 (by decide) (by simp [hd]))
        refine ⟨fun _ => ?_, fun h => absurd trivial h⟩
        refine free_run (v := .bool false) (W' := W) rfl ?_ rfl (Below.refl _ _)
        go_simp
       ·intro L ax W hf hd
        simp [Region.binds] at hd
        have e179 : ax.tmps[179]?.getD undef = .bool false := slv (hf.got 11 (by decide) (by simp [hd]))
        refine ⟨fun _ => ?_, fun h => absurd trivial h⟩
        refine free_run (v := .bool false) (W' := W) rfl ?_ rfl (Below.refl _ _)
        go_simp
       ·intro L ax W hf hd
        simp [Region.binds] at hd
        have e24 : ax.tmps[24]?.getD undef = .bool true := hf.out 24 (by decide) rfl
        have g0 : sl ax 180 = .bool false := hf.got 12 (by decide) (by simp [hd])
        refine ⟨fun hh => ?_, fun hh => ?_⟩
        ·first
          | (exact absurd (g0.symm.trans hh) (undef_ne _))
          | (exact absurd (g0.symm.trans hh) (bool_ne (by decide)))
          | (exfalso; revert hh; simp [Held, g0, *]; done)
          | (refine free_run (v := .bool true) (W' := W) rfl ?_ rfl (Below.refl _ _); go_simp)
        ·first
          | (exact absurd g0 hh)
          | (exfalso; revert hh; simp [Held, g0, *]; done)
          | (show undef = _; first | rfl | (simp [*]; done))
       ·intro L ax W hf hd
        simp [Region.binds] at hd
        have e181 : ax.tmps[181]?.getD undef = .bool true := slv (hf.got 13 (by decide) (by simp [hd]))
        have g0 : sl ax 180 = .bool false := hf.got 12 (by decide) (by simp [hd])
        refine ⟨fun hh => ?_, fun hh => ?_⟩
        ·first
          | (exact absurd (g0.symm.trans hh) (undef_ne _))
          | (exact absurd (g0.symm.trans hh) (bool_ne (by decide)))
          | (exfalso; revert hh; simp [Held, g0, *]; done)
          | (refine free_run (v := .bool true) (W' := W) rfl ?_ rfl (Below.refl _ _); go_simp)
        ·first
          | (exact absurd g0 hh)
          | (exfalso; revert hh; simp [Held, g0, *]; done)
          | (show undef = _; first | rfl | (simp [*]; done))
       ·intro L ax W hf hd
        simp [Region.binds] at hd
        have e22 : ax.tmps[22]?.getD undef = .pointer (some ⟨b22, 0, none⟩) := hf.out 22 (by decide) rfl
        have g0 : sl ax 182 = .bool true := hf.got 14 (by decide) (by simp [hd])
        refine ⟨fun hh => ?_, fun hh => ?_⟩
        ·first
          | (exact absurd (g0.symm.trans hh) (undef_ne _))
          | (exact absurd (g0.symm.trans hh) (bool_ne (by decide)))
          | (exfalso; revert hh; simp [Held, g0, *]; done)
          | ((have h1 := (row?_below _ _ _ hf.below hl22).trans hr22); refine free_run (v := .agg (pointA a)) (W' := W) rfl ?_ rfl (Below.refl _ _); go_simp)
        ·first
          | (exact absurd g0 hh)
          | (exfalso; revert hh; simp [Held, g0, *]; done)
          | (show undef = _; first | rfl | (simp [*]; done))
       ·intro L ax W hf hd
        simp [Region.binds] at hd
        have e16 : ax.tmps[16]?.getD undef = .slice (some ⟨tb, tq, none⟩) pts.length tc := hf.out 16 (by decide) rfl
        have g0 : sl ax 182 = .bool true := hf.got 14 (by decide) (by simp [hd])
        refine ⟨fun hh => ?_, fun hh => ?_⟩
        ·first
          | (exact absurd (g0.symm.trans hh) (undef_ne _))
          | (exact absurd (g0.symm.trans hh) (bool_ne (by decide)))
          | (exfalso; revert hh; simp [Held, g0, *]; done)
          | (refine free_run (v := .slice (some ⟨tb, tq, none⟩) pts.length tc) (W' := W) rfl ?_ rfl (Below.refl _ _); go_simp)
        ·first
          | (exact absurd g0 hh)
          | (exfalso; revert hh; simp [Held, g0, *]; done)
          | (show undef = _; first | rfl | (simp [*]; done))
       ·intro L ax W hf hd
        simp [Region.binds] at hd
        have e19 : ax.tmps[19]?.getD undef = .int .i64 (i : Int) := hf.out 19 (by decide) rfl
        have g0 : sl ax 182 = .bool true := hf.got 14 (by decide) (by simp [hd])
        refine ⟨fun hh => ?_, fun hh => ?_⟩
        ·first
          | (exact absurd (g0.symm.trans hh) (undef_ne _))
          | (exact absurd (g0.symm.trans hh) (bool_ne (by decide)))
          | (exfalso; revert hh; simp [Held, g0, *]; done)
          | (refine free_run (v := .int .i64 (i : Int)) (W' := W) rfl ?_ rfl (Below.refl _ _); go_simp)
        ·first
          | (exact absurd g0 hh)
          | (exfalso; revert hh; simp [Held, g0, *]; done)
          | (show undef = _; first | rfl | (simp [*]; done))
       ·intro L ax W hf hd
        simp [Region.binds] at hd
        have e184 : ax.tmps[184]?.getD undef = .slice (some ⟨tb, tq, none⟩) pts.length tc := slv (hf.got 16 (by decide) (by simp [hd]))
        have e185 : ax.tmps[185]?.getD undef = .int .i64 (i : Int) := slv (hf.got 17 (by decide) (by simp [hd]))
        have g0 : sl ax 182 = .bool true := hf.got 14 (by decide) (by simp [hd])
        refine ⟨fun hh => ?_, fun hh => ?_⟩
        ·first
          | (exact absurd (g0.symm.trans hh) (undef_ne _))
          | (exact absurd (g0.symm.trans hh) (bool_ne (by decide)))
          | (exfalso; revert hh; simp [Held, g0, *]; done)
          | (refine free_run (v := .pointer (some ⟨tb, tq + i * 33, none⟩)) (W' := W) rfl ?_ rfl (Below.refl _ _); go_simp)
        ·first
          | (exact absurd g0 hh)
          | (exfalso; revert hh; simp [Held, g0, *]; done)
          | (show undef = _; first | rfl | (simp [*]; done))
       ·intro L ax W hf hd
        simp [Region.binds] at hd
        have e186 : ax.tmps[186]?.getD undef = .pointer (some ⟨tb, tq + i * 33, none⟩) := slv (hf.got 18 (by decide) (by simp [hd]))
        have g0 : sl ax 182 = .bool true := hf.got 14 (by decide) (by simp [hd])
        refine ⟨fun hh => ?_, fun hh => ?_⟩
        ·first
          | (exact absurd (g0.symm.trans hh) (undef_ne _))
          | (exact absurd (g0.symm.trans hh) (bool_ne (by decide)))
          | (exfalso; revert hh; simp [Held, g0, *]; done)
          | ((have h1 := (row?_below _ _ _ hf.below htw).trans hti); refine free_run (v := .agg (pointA a)) (W' := W) rfl ?_ rfl (Below.refl _ _); go_simp)
        ·first
          | (exact absurd g0 hh)
          | (exfalso; revert hh; simp [Held, g0, *]; done)
          | (show undef = _; first | rfl | (simp [*]; done))
       ·intro L ax W hf hd
        simp [Region.binds] at hd
        have e183 : ax.tmps[183]?.getD undef = .agg (pointA a) := slv (hf.got 15 (by decide) (by simp [hd]))
        have e187 : ax.tmps[187]?.getD undef = .agg (pointA a) := slv (hf.got 19 (by decide) (by simp [hd]))
        have g0 : sl ax 182 = .bool true := hf.got 14 (by decide) (by simp [hd])
        refine ⟨fun hh => ?_, fun hh => ?_⟩
        ·first
          | (exact absurd (g0.symm.trans hh) (undef_ne _))
          | (exact absurd (g0.symm.trans hh) (bool_ne (by decide)))
          | (exfalso; revert hh; simp [Held, g0, *]; done)
          | (refine free_run (v := .bool true) (W' := W) rfl ?_ rfl (Below.refl _ _); go_simp)
        ·first
          | (exact absurd g0 hh)
          | (exfalso; revert hh; simp [Held, g0, *]; done)
          | (show undef = _; first | rfl | (simp [*]; done))
       ·intro L ax W hf hd
        simp [Region.binds] at hd
        have e182 : ax.tmps[182]?.getD undef = .bool true := slv (hf.got 14 (by decide) (by simp [hd]))
        have e188 : ax.tmps[188]?.getD undef = .bool true := slv (hf.got 20 (by decide) (by simp [hd]))
        have g0 : sl ax 180 = .bool false := hf.got 12 (by decide) (by simp [hd])
        refine ⟨fun hh => ?_, fun hh => ?_⟩
        ·first
          | (exact absurd (g0.symm.trans hh) (undef_ne _))
          | (exact absurd (g0.symm.trans hh) (bool_ne (by decide)))
          | (exfalso; revert hh; simp [Held, g0, *]; done)
          | (refine free_run (v := .bool true) (W' := W) rfl ?_ rfl (Below.refl _ _); go_simp)
        ·first
          | (exact absurd g0 hh)
          | (exfalso; revert hh; simp [Held, g0, *]; done)
          | (show undef = _; first | rfl | (simp [*]; done))
       ·intro L ax W hf hd
        simp [Region.binds] at hd
        have e189 : ax.tmps[189]?.getD undef = .bool true := slv (hf.got 21 (by decide) (by simp [hd]))
        have g0 : sl ax 180 = .bool false := hf.got 12 (by decide) (by simp [hd])
        refine ⟨fun hh => ?_, fun hh => ?_⟩
        ·first
          | (exact absurd (g0.symm.trans hh) (undef_ne _))
          | (exact absurd (g0.symm.trans hh) (bool_ne (by decide)))
          | (exfalso; revert hh; simp [Held, g0, *]; done)
          | (refine free_run (v := .bool true) (W' := W) rfl ?_ rfl (Below.refl _ _); go_simp)
        ·first
          | (exact absurd g0 hh)
          | (exfalso; revert hh; simp [Held, g0, *]; done)
          | (show undef = _; first | rfl | (simp [*]; done))
       ·intro L ax W hf hd
        simp [Region.binds] at hd
        have e23 : ax.tmps[23]?.getD undef = .pointer (some ⟨b23, 0, none⟩) := hf.out 23 (by decide) rfl
        have g0 : sl ax 190 = .bool true := hf.got 22 (by decide) (by simp [hd])
        refine ⟨fun hh => ?_, fun hh => ?_⟩
        ·first
          | (exact absurd (g0.symm.trans hh) (undef_ne _))
          | (exact absurd (g0.symm.trans hh) (bool_ne (by decide)))
          | (exfalso; revert hh; simp [Held, g0, *]; done)
          | ((have h1 := (row?_below _ _ _ hf.below hl23).trans hr23); refine free_run (v := .agg (pointA b)) (W' := W) rfl ?_ rfl (Below.refl _ _); go_simp)
        ·first
          | (exact absurd g0 hh)
          | (exfalso; revert hh; simp [Held, g0, *]; done)
          | (show undef = _; first | rfl | (simp [*]; done))
       ·intro L ax W hf hd
        simp [Region.binds] at hd
        have e16 : ax.tmps[16]?.getD undef = .slice (some ⟨tb, tq, none⟩) pts.length tc := hf.out 16 (by decide) rfl
        have g0 : sl ax 190 = .bool true := hf.got 22 (by decide) (by simp [hd])
        refine ⟨fun hh => ?_, fun hh => ?_⟩
        ·first
          | (exact absurd (g0.symm.trans hh) (undef_ne _))
          | (exact absurd (g0.symm.trans hh) (bool_ne (by decide)))
          | (exfalso; revert hh; simp [Held, g0, *]; done)
          | (refine free_run (v := .slice (some ⟨tb, tq, none⟩) pts.length tc) (W' := W) rfl ?_ rfl (Below.refl _ _); go_simp)
        ·first
          | (exact absurd g0 hh)
          | (exfalso; revert hh; simp [Held, g0, *]; done)
          | (show undef = _; first | rfl | (simp [*]; done))
       ·intro L ax W hf hd
        simp [Region.binds] at hd
        have e20 : ax.tmps[20]?.getD undef = .int .i64 (k : Int) := hf.out 20 (by decide) rfl
        have g0 : sl ax 190 = .bool true := hf.got 22 (by decide) (by simp [hd])
        refine ⟨fun hh => ?_, fun hh => ?_⟩
        ·first
          | (exact absurd (g0.symm.trans hh) (undef_ne _))
          | (exact absurd (g0.symm.trans hh) (bool_ne (by decide)))
          | (exfalso; revert hh; simp [Held, g0, *]; done)
          | (refine free_run (v := .int .i64 (k : Int)) (W' := W) rfl ?_ rfl (Below.refl _ _); go_simp)
        ·first
          | (exact absurd g0 hh)
          | (exfalso; revert hh; simp [Held, g0, *]; done)
          | (show undef = _; first | rfl | (simp [*]; done))
       ·intro L ax W hf hd
        simp [Region.binds] at hd
        have e192 : ax.tmps[192]?.getD undef = .slice (some ⟨tb, tq, none⟩) pts.length tc := slv (hf.got 24 (by decide) (by simp [hd]))
        have e193 : ax.tmps[193]?.getD undef = .int .i64 (k : Int) := slv (hf.got 25 (by decide) (by simp [hd]))
        have g0 : sl ax 190 = .bool true := hf.got 22 (by decide) (by simp [hd])
        refine ⟨fun hh => ?_, fun hh => ?_⟩
        ·first
          | (exact absurd (g0.symm.trans hh) (undef_ne _))
          | (exact absurd (g0.symm.trans hh) (bool_ne (by decide)))
          | (exfalso; revert hh; simp [Held, g0, *]; done)
          | (refine free_run (v := .pointer (some ⟨tb, tq + k * 33, none⟩)) (W' := W) rfl ?_ rfl (Below.refl _ _); go_simp)
        ·first
          | (exact absurd g0 hh)
          | (exfalso; revert hh; simp [Held, g0, *]; done)
          | (show undef = _; first | rfl | (simp [*]; done))
       ·intro L ax W hf hd
        simp [Region.binds] at hd
        have e194 : ax.tmps[194]?.getD undef = .pointer (some ⟨tb, tq + k * 33, none⟩) := slv (hf.got 26 (by decide) (by simp [hd]))
        have g0 : sl ax 190 = .bool true := hf.got 22 (by decide) (by simp [hd])
        refine ⟨fun hh => ?_, fun hh => ?_⟩
        ·first
          | (exact absurd (g0.symm.trans hh) (undef_ne _))
          | (exact absurd (g0.symm.trans hh) (bool_ne (by decide)))
          | (exfalso; revert hh; simp [Held, g0, *]; done)
          | ((have h1 := (row?_below _ _ _ hf.below htw).trans htk); refine free_run (v := .agg (pointA b)) (W' := W) rfl ?_ rfl (Below.refl _ _); go_simp)
        ·first
          | (exact absurd g0 hh)
          | (exfalso; revert hh; simp [Held, g0, *]; done)
          | (show undef = _; first | rfl | (simp [*]; done))
       ·intro L ax W hf hd
        simp [Region.binds] at hd
        have e191 : ax.tmps[191]?.getD undef = .agg (pointA b) := slv (hf.got 23 (by decide) (by simp [hd]))
        have e195 : ax.tmps[195]?.getD undef = .agg (pointA b) := slv (hf.got 27 (by decide) (by simp [hd]))
        have g0 : sl ax 190 = .bool true := hf.got 22 (by decide) (by simp [hd])
        refine ⟨fun hh => ?_, fun hh => ?_⟩
        ·first
          | (exact absurd (g0.symm.trans hh) (undef_ne _))
          | (exact absurd (g0.symm.trans hh) (bool_ne (by decide)))
          | (exfalso; revert hh; simp [Held, g0, *]; done)
          | (refine free_run (v := .bool true) (W' := W) rfl ?_ rfl (Below.refl _ _); go_simp)
        ·first
          | (exact absurd g0 hh)
          | (exfalso; revert hh; simp [Held, g0, *]; done)
          | (show undef = _; first | rfl | (simp [*]; done))
       ·intro L ax W hf hd
        simp [Region.binds] at hd
        have e190 : ax.tmps[190]?.getD undef = .bool true := slv (hf.got 22 (by decide) (by simp [hd]))
        have e196 : ax.tmps[196]?.getD undef = .bool true := slv (hf.got 28 (by decide) (by simp [hd]))
        have g0 : sl ax 180 = .bool false := hf.got 12 (by decide) (by simp [hd])
        refine ⟨fun hh => ?_, fun hh => ?_⟩
        ·first
          | (exact absurd (g0.symm.trans hh) (undef_ne _))
          | (exact absurd (g0.symm.trans hh) (bool_ne (by decide)))
          | (exfalso; revert hh; simp [Held, g0, *]; done)
          | (refine free_run (v := .bool true) (W' := W) rfl ?_ rfl (Below.refl _ _); go_simp)
        ·first
          | (exact absurd g0 hh)
          | (exfalso; revert hh; simp [Held, g0, *]; done)
          | (show undef = _; first | rfl | (simp [*]; done))
       ·intro L ax W hf hd
        simp [Region.binds] at hd
        have e180 : ax.tmps[180]?.getD undef = .bool false := slv (hf.got 12 (by decide) (by simp [hd]))
        have e197 : ax.tmps[197]?.getD undef = .bool true := slv (hf.got 29 (by decide) (by simp [hd]))
        refine ⟨fun _ => ?_, fun h => absurd trivial h⟩
        refine free_run (v := .bool true) (W' := W) rfl ?_ rfl (Below.refl _ _)
        go_simp
       ·intro L ax W hf hd
        simp [Region.binds] at hd
        have e198 : ax.tmps[198]?.getD undef = .bool true := slv (hf.got 30 (by decide) (by simp [hd]))
        refine ⟨fun _ => ?_, fun h => absurd trivial h⟩
        refine free_run (v := .bool true) (W' := W) rfl ?_ rfl (Below.refl _ _)
        go_simp
       ·intro L ax W hf hd
        simp [Region.binds] at hd
        have g0 : sl ax 199 = .bool true := hf.got 31 (by decide) (by simp [hd])
        refine ⟨fun hh => ?_, fun hh => ?_⟩
        ·first
          | (exact absurd (g0.symm.trans hh) (undef_ne _))
          | (exact absurd (g0.symm.trans hh) (bool_ne (by decide)))
          | (exfalso; revert hh; simp [Held, g0, *]; done)
          | (refine free_call (f := 4) (args := #[]) rfl (by go_simp) ?_; refine (HKn W hf.below).mono ?_; rintro e w' ⟨rfl, hb⟩; exact ⟨_, rfl, rfl, hb⟩)
        ·first
          | (exact absurd g0 hh)
          | (exfalso; revert hh; simp [Held, g0, *]; done)
          | (show undef = _; first | rfl | (simp [*]; done))
       ·intro L ax W hf hd
        simp [Region.binds] at hd
        have e199 : ax.tmps[199]?.getD undef = .bool true := slv (hf.got 31 (by decide) (by simp [hd]))
        have e200 : ax.tmps[200]?.getD undef = .bool true := slv (hf.got 32 (by decide) (by simp [hd]))
        refine ⟨fun _ => ?_, fun h => absurd trivial h⟩
        refine free_run (v := .bool true) (W' := W) rfl ?_ rfl (Below.refl _ _)
        go_simp
       ·intro L ax W hf hd
        simp [Region.binds] at hd
        have e201 : ax.tmps[201]?.getD undef = .bool true := slv (hf.got 33 (by decide) (by simp [hd]))
        refine ⟨fun _ => ?_, fun h => absurd trivial h⟩
        refine free_run (v := .bool true) (W' := W) rfl ?_ rfl (Below.refl _ _)
        go_simp
      ·intro vs w' hl' hF hb
       obtain ⟨g', hg1, hg2⟩ := vs_lit vs hl' hF
       have e34 : g' 34 = .bool true := hg2 34 (by decide)
       rw [hg1]
       simp only [List.length_cons, List.length_nil, Nat.reduceAdd, show List.range 35 = [0, 1, 2, 3, 4, 5, 6, 7, 8, 9, 10, 11, 12, 13, 14, 15, 16, 17, 18, 19, 20, 21, 22, 23, 24, 25, 26, 27, 28, 29, 30, 31, 32, 33, 34] from rfl, List.map_cons, List.map_nil, putL, List.zip_cons_cons, List.zip_nil_right, List.setIfInBounds_toArray, List.set_cons_succ, List.set_cons_zero, e34]
       have hBf := Lib.hid (hBw10.out.trans (hb.mono hBw10.out.size))
       clear hF hg1 hg2 hl' hb hr22 hr23 HKn
       go_wp2_with fail
       go_ret
       exact ⟨rfl, hBf.out⟩
end Go.Proofs.YthdjhbiigmcecaaGreat
