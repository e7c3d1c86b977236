/- From a walk to the row: the arguments opened; behind the call they read as before. Over any program; then hashes and checkpoints. -/
import Derived.Test.YtlkflddjpkhndaaEq
import Derived.ProofKit
import Derived.OpenShut
import Derived.Carry
import Derived.Below
import Derived.ChangeSame
namespace Go.Proofs.Ytlkflddjpkhndaa
open Go.ChangeShapes Go.WideShapes Go.ChangeAt Go.RowKit

section
variable {H : Type} {enc : TypeId × Value → H} {P : Program}
theorem post_below {f : Func} {s : ChangeSpec} {apart fresh handsOn again : Bool} {W W' : World} {args : Array Value} {v : Value} {ds gs : List (DataW H)} {before pa pv : List MemPlace}
    (hW : DataW.Whole enc P f.params.toList s.vars apart W args.toList ds gs before)
    (hres : ∀ (b : Nat) (sp : Nat → Bool) (hd : Bool), DataW.TrodAll enc P W' b sp hd f.resultTypes.toList (v.resultList f.resultTypes.size) (s.fn H (ds ++ gs)).results [])
    (hargs : ∀ sp : Nat → Bool, (∀ p ∈ before, sp p.block = true) → DataW.TrodAll enc P W' 0 sp true f.params.toList args.toList (s.fn H (ds ++ gs)).args pa)
    (hvars : ∀ sp : Nat → Bool, (∀ p ∈ before, sp p.block = true) → DataW.TrodVars enc P W' sp s.vars (s.fn H (ds ++ gs)).vars pv)
    (hps : before = pa ++ pv) (hb : Below W.heap.size W W')
    (hok : ∀ (j : Nat) (t : TypeId) (r : Value), f.resultTypes[j]? = some t → (v.resultList f.resultTypes.size)[j]? = some r → Value.okWide P W' .any 0 t r) :
    s.post enc P f apart fresh handsOn again W args v W' := by
  have hlt : ∀ p ∈ before, p.block < W.heap.size := fun p hp => hW.lt p hp
  have hold : ∀ p ∈ before, (fun b => decide (b < W.heap.size)) p.block = true := fun p hp => by simpa using hlt p hp
  refine ⟨ds, gs, before, [], pa, pv, hW, hres _ _ _, hargs _ hold, hvars _ hold, World.keptBut_mono (fun p hp => ⟨hp, ?_⟩) (hb.frame (· ∈ before)), fun _ => ?_⟩
  · rw [hps, List.mem_append] at hp
    exact Or.inr hp
  · obtain ⟨_, _, _, _, _, hz, hn⟩ := hW
    refine ⟨hok, _, _, ([] ++ pa) ++ pv, ⟨[] ++ pa, pv, trodAll_append (hargs _ (fun _ _ => rfl)) (hres _ _ _), hvars _ (fun _ _ => rfl), rfl, ?_, ?_⟩, ?_⟩
    · intro b off hp
      have hin : MemPlace.cell b off ∈ before := by rw [hps]; simpa using hp
      rw [hb.frozen (hlt _ hin)]
      exact hz b off hin
    · intro ha
      have := hn ha
      rw [hps] at this
      simpa using this
    · intro p hp _
      rw [hps]
      simpa using hp

theorem keepAll (hl : laidOutB P = true) {W W' : World} (hb : Below W.heap.size W W') (sp : Nat → Bool) :
    ∀ (ts : List TypeId) (vs : List Value) (ds : List (DataW H)) (ps : List MemPlace), (ts.all fun t => P.readableRec t && decide (t < P.types.size)) = true → DataW.TrodAll enc P W 0 (fun _ => true) true ts vs ds ps →
      (∀ x ∈ ps, x.block < W.heap.size) → (∀ p ∈ ps, sp p.block = true) → DataW.TrodAll enc P W' 0 sp true ts vs ds ps
  | [], [], [], _, _, h, _, _ => h
  | [], [], _ :: _, _, _, h, _, _ => h.elim
  | [], _ :: _, _, _, _, h, _, _ => by cases ‹List (DataW H)› <;> exact h.elim
  | _ :: _, [], _, _, _, h, _, _ => by cases ‹List (DataW H)› <;> exact h.elim
  | _ :: _, _ :: _, [], _, _, h, _, _ => h.elim
  | t :: ts, v :: vs, d :: ds, ps, ht, h, hlt, hsp => by
    obtain ⟨p, q, h1, h2, rfl⟩ := h
    simp only [List.all_cons, Bool.and_eq_true, decide_eq_true_eq] at ht
    refine ⟨p, q, WideElems.Trod_stays hl ht.1.1 ht.1.2 h1 (fun x hx => hb.same (hlt x (List.mem_append_left _ hx))) (fun x hx => hsp x (List.mem_append_left _ hx)), ?_, rfl⟩
    exact keepAll hl hb sp ts vs ds q ht.2 h2 (fun x hx => hlt x (List.mem_append_right _ hx)) (fun x hx => hsp x (List.mem_append_right _ hx))

/-- a law that answers true, and leaves what was there: its row's post -/
theorem law_post {f : Func} {s : ChangeSpec} {W W' : World} {args : Array Value} {ds gs : List (DataW H)} {before : List MemPlace} (tb : TypeId)
    (hl : laidOutB P = true) (hts : (f.params.toList.all fun t => P.readableRec t && decide (t < P.types.size)) = true) (hrt : f.resultTypes = #[tb]) (htb : P.underlying tb = some .bool)
    (hvars : s.vars = []) (hW : DataW.Whole enc P f.params.toList s.vars false W args.toList ds gs before)
    (hres : (s.fn H ds).results = [.lit (.bool true)]) (hargs : (s.fn H ds).args = ds) (hvs : (s.fn H ds).vars = []) (hb : Below W.heap.size W W') :
    s.post enc P f false true false false W args (.bool true) W' := by
  have hW' := hW
  obtain ⟨p, q, hA, hV, rfl, _, _⟩ := hW
  rw [hvars] at hV
  obtain ⟨rfl, rfl⟩ := trodVars_none hV
  refine post_below (pa := p) (pv := []) hW' ?_ ?_ ?_ rfl hb ?_
  · intro b sp hd
    rw [List.append_nil, hres, hrt]
    exact trodAll_cons_mk (shut_bool htb _) trodAll_mk0
  · intro sp hsp
    rw [List.append_nil, hargs]
    exact keepAll hl hb sp _ _ _ _ hts hA (fun x hx => hW'.lt x (by simpa using hx)) (fun x hx => hsp x (by simpa using hx))
  · intro sp hsp
    rw [List.append_nil, hvs, hvars]
    rfl
  · exact ok_one hrt rfl (okWide_bool_mk htb _)

/-! arguments opened -/
variable {w : World} {base : Nat} {spare : Nat → Bool} {held : Bool}
theorem open_bytes : ∀ (cs : List Value), (∀ i, i < cs.length → ∃ n : Int, cs[i]? = some (.int .u8 n) ∧ 0 ≤ n ∧ n ≤ 255) → ∃ l : List UInt8, cs = l.map byteV
  | [], _ => ⟨[], rfl⟩
  | c :: cs, h => by
    obtain ⟨n, h1, h2, h3⟩ := h 0 (by simp)
    obtain ⟨l, rfl⟩ := open_bytes cs (fun i hi => by simpa using h (i + 1) (by simpa using hi))
    simp at h1
    subst h1
    refine ⟨UInt8.ofNat n.toNat :: l, ?_⟩
    simp only [List.map_cons, byteV]
    congr 2
    simp
    omega
theorem open_hash {t e : TypeId} {fuel : Nat} {cs : List Value} {x : DataW H × List MemPlace} (ht : P.underlying t = some (.array 32 e)) (he : P.underlying e = some (.int .u8)) (hce : P.cellsOf e = 1) (hct : P.cellsOf t = 32)
    (h : DataW.trod enc P w base spare held fuel t cs = some x) : ∃ n : Hash, cs = (hashA n).toList := by
  obtain ⟨xs, m, _, _, hl, hn, hx⟩ := DataW.trod_array ht h
  rw [hct] at hl
  obtain ⟨l, rfl⟩ := open_bytes cs (fun i hi => by
    have hi' : i < 32 := by omega
    have h1 := hx i hi'
    rw [hce, Nat.mul_one, List.getElem?_eq_getElem (by omega)] at h1
    obtain ⟨n, h2, _, h3⟩ := DataW.trod_int he h1
    have h4 : cs[i]? = some (.int .u8 n) := by
      have := congrArg (fun l : List Value => l[0]?) h2
      simpa [List.getElem?_take, List.getElem?_drop] using this
    refine ⟨n, h4, ?_⟩
    simpa [Lit.wf, IntKind.min, IntKind.max, IntKind.signed, IntKind.bits] using h3)
  exact ⟨⟨l, by simpa using hl⟩, by simp [hashA]⟩
theorem struct_open {fs : Array Field} {t : TypeId} {fuel : Nat} {cs : List Value} {x : DataW H × List MemPlace} (ht : P.underlying t = some (.struct fs)) (h : DataW.trod enc P w base spare held fuel t cs = some x) :
    ∃ n, cs.length = P.cellsOf t ∧ ∀ (i : Nat) (f : Field), fs[i]? = some f → ∃ y, DataW.trod enc P w base spare held n f.type ((cs.drop f.offset).take (P.cellsOf f.type)) = some y := by
  obtain ⟨xs, n, _, _, hl, hn, hx⟩ := DataW.trod_struct ht h
  refine ⟨n, hl, fun i f hf => ?_⟩
  have hi : i < fs.size := (Array.getElem?_eq_some_iff.1 hf).1
  exact ⟨xs[i]'(by omega), by rw [hx i f hf, List.getElem?_eq_getElem (by omega)]⟩
theorem field_at {t : TypeId} {l : List (String × TypeId × Nat)} (hf : (P.fieldsOf t).toList.map (fun f => (f.name, f.type, f.offset)) = l) (i : Nat) (n : String) (ti : TypeId) (o : Nat) (hi : l[i]? = some (n, ti, o)) :
    ∃ f, (P.fieldsOf t)[i]? = some f ∧ f.type = ti ∧ f.offset = o := by
  subst hf
  rw [List.getElem?_map] at hi
  cases hg : (P.fieldsOf t).toList[i]? with
  | none => rw [hg] at hi; cases hi
  | some f =>
    rw [hg] at hi
    simp only [Option.map_some, Option.some.injEq, Prod.mk.injEq] at hi
    exact ⟨f, by simpa using hg, hi.2.1, hi.2.2⟩
theorem field_open {t : TypeId} {fuel : Nat} {cs : List Value} {x : DataW H × List MemPlace} {l : List (String × TypeId × Nat)} (ht : P.underlying t = some (.struct (P.fieldsOf t))) (hf : (P.fieldsOf t).toList.map (fun f => (f.name, f.type, f.offset)) = l)
    (h : DataW.trod enc P w base spare held fuel t cs = some x) : ∃ n, cs.length = P.cellsOf t ∧ ∀ (i : Nat) (nm : String) (ti : TypeId) (o : Nat), l[i]? = some (nm, ti, o) → ∃ y, DataW.trod enc P w base spare held n ti ((cs.drop o).take (P.cellsOf ti)) = some y := by
  obtain ⟨n, hl, hx⟩ := struct_open ht h
  refine ⟨n, hl, fun i nm ti o hi => ?_⟩
  obtain ⟨f, h1, h2, h3⟩ := field_at hf i nm ti o hi
  subst h2
  subst h3
  exact hx i f h1
theorem open_u64 {t : TypeId} {fuel : Nat} {cs : List Value} {x : DataW H × List MemPlace} (ht : P.underlying t = some (.int .u64)) (h : DataW.trod enc P w base spare held fuel t cs = some x) : ∃ e : UInt64, cs = [.int .u64 (e.toNat : Int)] := by
  obtain ⟨n, rfl, _, hw⟩ := DataW.trod_int ht h
  have hb : 0 ≤ n ∧ n ≤ 18446744073709551615 := by simpa [Lit.wf, IntKind.min, IntKind.max, IntKind.signed, IntKind.bits] using hw
  refine ⟨UInt64.ofNat n.toNat, ?_⟩
  have : (UInt64.ofNat n.toNat).toNat = n.toNat := by simp; omega
  rw [this, Int.toNat_of_nonneg hb.1]
theorem open_point_cells {t tu th e : TypeId} {fuel : Nat} {cs : List Value} {x : DataW H × List MemPlace} {n0 n1 : String} (hf : (P.fieldsOf t).toList.map (fun f => (f.name, f.type, f.offset)) = [(n0, tu, 0), (n1, th, 1)]) (ht : P.underlying t = some (.struct (P.fieldsOf t)))
    (hu : P.underlying tu = some (.int .u64)) (hcu : P.cellsOf tu = 1) (hh : P.underlying th = some (.array 32 e)) (he : P.underlying e = some (.int .u8)) (hce : P.cellsOf e = 1) (hch : P.cellsOf th = 32) (hct : P.cellsOf t = 33)
    (h : DataW.trod enc P w base spare held fuel t cs = some x) : ∃ p : Pt, cs = (pointA p).toList := by
  obtain ⟨n, hl, hx⟩ := field_open ht hf h
  obtain ⟨y0, h0⟩ := hx 0 n0 tu 0 rfl
  obtain ⟨y1, h1⟩ := hx 1 n1 th 1 rfl
  rw [hcu, List.drop_zero] at h0
  rw [hch] at h1
  obtain ⟨ep, h2⟩ := open_u64 hu h0
  obtain ⟨nm, h3⟩ := open_hash hh he hce hch h1
  refine ⟨⟨ep, nm⟩, ?_⟩
  rw [List.take_of_length_le (by rw [List.length_drop, hl, hct]; decide)] at h3
  rw [← List.take_append_drop 1 cs, h2, h3]
  simp [pointA]
end
theorem laidOut : laidOutB Try.prog = true := by kernel_rfl
theorem u64_cells : Try.prog.cellsOf 22 = 1 := by kernel_rfl
theorem hash_cells : Try.prog.cellsOf 24 = 32 := by kernel_rfl
theorem point_cells : Try.prog.cellsOf 26 = 33 := by kernel_rfl
theorem point_under : Try.prog.underlying 26 = some (.struct (Try.prog.fieldsOf 26)) := by kernel_rfl
theorem open_point_l {H : Type} {enc : TypeId × Value → H} {w : World} {base : Nat} {spare : Nat → Bool} {held : Bool} {fuel : Nat} {cs : List Value} {x : DataW H × List MemPlace} (h : DataW.trod enc Try.prog w base spare held fuel 26 cs = some x) : ∃ p : Pt, cs = (pointA p).toList :=
  open_point_cells point_fields point_under Try.underlying22 u64_cells Try.underlying24 Try.underlying5 u8_cells hash_cells point_cells h
set_option maxRecDepth 100000 in
theorem open_point {H : Type} {enc : TypeId × Value → H} {w : World} {base : Nat} {spare : Nat → Bool} {held : Bool} {r : Reach} {b0 : Nat} {v : Value} {d : DataW H} {p : List MemPlace} (hv : Value.okWide Try.prog w r b0 26 v) (h : DataW.Trod enc Try.prog w base spare held 26 v d p) : ∃ p : Pt, v = .agg (pointA p) := by
  obtain ⟨cs, rfl, hsz⟩ := okWide_struct point_under hv
  obtain ⟨fuel, hf⟩ := h
  obtain ⟨p, hp⟩ := open_point_l hf
  exact ⟨p, congrArg Value.agg (Array.ext' (by simpa [Value.cells] using hp))⟩
end Go.Proofs.Ytlkflddjpkhndaa
