/- Maps from checkpoints to struct{is bool}{true}: lookup, store, range. -/
import Derived.Test.YtlkflddjpkhndaaStores
import Derived.Test.YtlkflddjpkhndaaEq
import Derived.DeepKeys3
import Derived.WideKeyRuns
namespace Go.Proofs.Ytlkflddjpkhndaa
open Go.RowKit

/-- {true} -/
def yes : Value := .agg #[.bool true]
def ptV (p : Pt) : Value := .agg (pointA p)
/-- block b is a map that has these, each once -/
def MapPts (w : World) (b : Nat) (ks : List Pt) : Prop := ∃ es clock, w.heap[b]? = some (.map es clock) ∧ es.toList.map (fun e => (e.key, e.val)) = ks.map (fun p => (ptV p, yes)) ∧ ks.Nodup ∧ (es.toList.map (·.born)).Nodup ∧ ∀ e ∈ es.toList, e.born < clock
theorem pointA_inj {p q : Pt} (h : pointA p = pointA q) : p = q := by
  have h0 := congrArg (fun a => a[0]?) h
  have h1 := congrArg (fun a => a.extract 1 33) h
  simp only [pointA_epoch, pointA_name] at h0 h1
  cases p; cases q
  simp only [Pt.mk.injEq]
  refine ⟨UInt64.toNat_inj.1 (by simp at h0; omega), Subtype.ext ?_⟩
  have := congrArg Array.toList h1
  simp only [hashA] at this
  exact List.map_inj_right (f := byteV) (fun a b h => by simp [byteV] at h; exact UInt8.toNat_inj.1 (by omega)) |>.1 this
theorem ptV_inj {p q : Pt} (h : ptV p = ptV q) : p = q := pointA_inj (by injection h)
theorem MapPts.lt {w : World} {b : Nat} {ks : List Pt} (h : MapPts w b ks) : b < w.heap.size := by
  obtain ⟨es, clock, hb, _⟩ := h
  exact (Array.getElem?_eq_some_iff.1 hb).1
theorem MapPts.of_block {w w' : World} {b : Nat} {ks : List Pt} (h : MapPts w b ks) (hb : w'.heap[b]? = w.heap[b]?) : MapPts w' b ks := by
  obtain ⟨es, clock, h1, r⟩ := h
  exact ⟨es, clock, hb.trans h1, r⟩
theorem MapPts.keep {B : Nat} {w w' : World} {b : Nat} {ks : List Pt} (h : MapPts w b ks) (hb : Below B w w') (hl : b < B) : MapPts w' b ks := h.of_block (hb.block b hl)
theorem MapPts.new (w : World) : MapPts (w.alloc (.map #[] 0)) w.heap.size [] := ⟨#[], 0, (MapKept.heap_alloc w _).1, rfl, List.nodup_nil, by simp, by simp⟩

theorem eqv_point (w : World) (p q : Pt) : (Op.equal 26 (ptV p) (ptV q)).run Try.prog w = .ok (decide (p = q)) w := eq_point w p q
theorem find_pts (w : World) (p : Pt) : ∀ (es : List MapEntry) (ks : List Pt) (i : Nat), es.map (fun e => (e.key, e.val)) = ks.map (fun p => (ptV p, yes)) →
    (p ∉ ks ∧ (Instr.findAsking 26 (ptV p) es i).run Try.prog w = .ok none w) ∨ (∃ j, ks[j]? = some p ∧ (Instr.findAsking 26 (ptV p) es i).run Try.prog w = .ok (some (i + j, yes)) w)
  | [], [], i, _ => .inl ⟨by simp, by simp [Instr.findAsking]⟩
  | [], _ :: _, _, h => by simp at h
  | _ :: _, [], _, h => by simp at h
  | e :: es, q :: ks, i, h => by
    simp only [List.map_cons, List.cons.injEq, Prod.mk.injEq] at h
    obtain ⟨⟨h1, h2⟩, h3⟩ := h
    have he := eqv_point w p q
    by_cases hpq : p = q
    · right
      refine ⟨0, by simp [hpq], ?_⟩
      rw [hpq] at he ⊢
      simp [Instr.findAsking, h1, he, h2]
    · rcases find_pts w p es ks (i + 1) h3 with ⟨a, b⟩ | ⟨j, a, b⟩
      · left
        exact ⟨by simp [hpq, a], by simp [Instr.findAsking, h1, he, hpq, b]⟩
      · right
        exact ⟨j + 1, by simpa using a, by simp [Instr.findAsking, h1, he, hpq, b, Nat.add_assoc, Nat.add_comm 1 j]⟩
theorem findKey_pts (w : World) (p : Pt) (es : List MapEntry) (ks : List Pt) (h : es.map (fun e => (e.key, e.val)) = ks.map (fun p => (ptV p, yes))) :
    (p ∉ ks ∧ (Instr.findKey 26 (ptV p) es).run Try.prog w = .ok none w) ∨ (∃ j, ks[j]? = some p ∧ (Instr.findKey 26 (ptV p) es).run Try.prog w = .ok (some (j, yes)) w) := by
  rw [run_findKey_eq (P := Try.prog) w (k := 26) (by rw [Try.underlying26])]
  have := find_pts w p es ks 0 h
  simpa using this

theorem key_plain {P : Program} {t : TypeId} {k : IntKind} (n : Nat) (e : Bool) (x : Int) (ht : P.underlying t = some (.int k)) (w : World) : (Instr.checkKey e (n + 1) t (.int k x)).run P w = .ok () w := by
  simp [Instr.checkKey, run_underlying ht]
theorem forIn_ok {P : Program} {α : Type} (w : World) (f : α → PUnit → Sem (ForInStep PUnit)) : ∀ (l : List α), (∀ a ∈ l, (f a ⟨⟩).run P w = .ok (.yield ⟨⟩) w) → (forIn l PUnit.unit f).run P w = .ok ⟨⟩ w
  | [], _ => by simp
  | a :: l, h => by
    rw [List.forIn_cons]
    simp only [Sem.run_bind, h a (by simp), Result.andThen_ok]
    exact forIn_ok w f l (fun b hb => h b (by simp [hb]))
theorem forIn_ok' {P : Program} {α : Type} (w : World) (f : α → PUnit → Sem (ForInStep PUnit)) (l : List α) (h : ∀ a ∈ l, (f a ⟨⟩).run P w = .ok (.yield ⟨⟩) w) : (((forIn l PUnit.unit f).run P w).andThen fun _ w' => Sem.run P (pure ()) w') = .ok () w := by
  rw [forIn_ok w f l h]; simp
theorem key_hash {P : Program} {t e : TypeId} (n : Nat) (em : Bool) (h : Hash) (ht : P.underlying t = some (.array 32 e)) (he : P.underlying e = some (.int .u8)) (hs : ∀ w, (Go.sizeOf e).run P w = .ok 1 w) (w : World) : (Instr.checkKey em (n + 2) t (.agg (hashA h))).run P w = .ok () w := by
  rw [Instr.checkKey]
  simp only [Sem.run_bind, run_underlying ht, Result.andThen_ok]
  simp only [Std.Legacy.Range.forIn_eq_forIn_range', Std.Legacy.Range.size, Nat.sub_zero, Nat.add_one_sub_one, Nat.div_one]
  refine forIn_ok' w _ _ fun i hi => ?_
  have hi' : i < 32 := by simpa using hi
  have hx : (hashA h)[i * 1]? = some (.int .u8 ((h.1[i]'(by rw [h.2]; exact hi')).toNat : Int)) := getElem_bytes h.1 i (by rw [h.2]; exact hi')
  have hA : ∀ w, (isAgg e).run P w = .ok false w := fun _ => by simp [isAgg, run_underlying he]
  simp only [Sem.run_bind, hs, Result.andThen_ok, part_one w hA _ _ _ hx, key_plain n em _ he, Sem.run_pure]
theorem u8_size : ∀ w, (Go.sizeOf 5).run Try.prog w = .ok 1 w := fun w => by
  obtain ⟨i, hi⟩ := u8_info
  rw [run_sizeOf w hi, u8_cells]
theorem fields_eq : Try.prog.underlying 26 = some (.struct (Try.prog.fieldsOf 26)) := by kernel_rfl
theorem key_point (em : Bool) (p : Pt) (w : World) : (Instr.checkKey em 10000 26 (ptV p)).run Try.prog w = .ok () w := by
  obtain ⟨f0, f1, hf, h0, h1, t0, t1, o0, o1⟩ := fields2 point_fields
  rw [show (10000 : Nat) = 9997 + 3 from rfl, Instr.checkKey]
  unfold ptV
  simp only [Sem.run_bind, run_underlying fields_eq, Result.andThen_ok]
  rw [← Array.forIn_toList, hf]
  refine forIn_ok' w _ _ fun f hm => ?_
  simp only [List.mem_cons, List.not_mem_nil, or_false] at hm
  have hA : ∀ w, (isAgg 22).run Try.prog w = .ok false w := fun _ => by simp [isAgg, run_underlying Try.underlying22]
  rcases hm with rfl | rfl
  · have hp := part_one (P := Try.prog) w hA (pointA p) 0 _ (pointA_epoch p)
    simp only [h0, t0, o0]
    rw [if_pos (by decide)]
    simp only [Sem.run_bind, Sem.run_pure]
    rw [hp, Result.andThen_ok, key_plain 9998 em _ Try.underlying22]
    rfl
  · have hp := part_agg (P := Try.prog) w Try.isAgg24 Try.sizeOf24 (pointA p) (off := 1) (by simp)
    simp only [Nat.reduceAdd, pointA_name] at hp
    simp only [h1, t1, o1]
    rw [if_pos (by decide)]
    simp only [Sem.run_bind, Sem.run_pure]
    rw [hp, Result.andThen_ok, key_hash 9997 em p.name Try.underlying24 Try.underlying5 u8_size]
    rfl

theorem elem_zero (w : World) : (zeroValue 110).run Try.prog w = .ok (.agg #[.bool false]) w := by
  obtain ⟨i, hi, hz, _⟩ := info_parts (show (Try.prog.info? 110).map (fun i => (i.zero, i.size, i.bytes)) = some (some (.agg #[.bool false]), 1, 1) by kernel_rfl)
  simp [zeroValue, typeInfo, hi, hz]
theorem look_pts {w : World} {b : Nat} {ks : List Pt} (h : MapPts w b ks) (p : Pt) :
    (Instr.lookup 77 (.map (some b)) (ptV p) false).run Try.prog w = .ok (.agg #[.bool (decide (p ∈ ks))]) w := by
  obtain ⟨es, clock, hb, hes, hnd, _, _⟩ := h
  have hk := key_point es.isEmpty p w
  have hf := findKey_pts w p es.toList ks hes
  unfold Instr.lookup
  simp only [Sem.run_bind, run_underlying Try.underlying77, Result.andThen_ok, Go.MapKept.run_getObj_map hb, Sem.run_pure]
  rw [hk]
  simp only [Result.andThen_ok]
  rcases hf with ⟨hn, hr⟩ | ⟨j, hj, hr⟩
  · rw [hr]
    simp [elem_zero, hn]
  · rw [hr]
    have : p ∈ ks := List.mem_of_getElem? hj
    simp [this, yes]

/-- block b anew -/
def putB (w : World) (b : Nat) (o : Obj) : World := { w with heap := w.heap.setIfInBounds b o }
theorem putB_at {w : World} {b : Nat} {o o' : Obj} (h : w.heap[b]? = some o) : (putB w b o').heap[b]? = some o' := by
  have := (Array.getElem?_eq_some_iff.1 h).1
  simp [putB, this]
theorem putB_far (w : World) (b : Nat) (o : Obj) (k : Nat) (h : k ≠ b) : (putB w b o).heap[k]? = w.heap[k]? := by
  simp [putB, Array.getElem?_setIfInBounds_ne (Ne.symm h)]
theorem putB_grown (w : World) (b : Nat) (o : Obj) : w.grownBy (putB w b o) (some b) := ⟨rfl, rfl, rfl, by simp [putB], fun k _ hk => putB_far w b o k (fun e => hk (by rw [e]))⟩
theorem sameBits_pt (p : Pt) : Instr.sameBits 10000 (ptV p) (ptV p) = true := by
  have key : ∀ v ∈ (pointA p).toList, Instr.sameBits 9999 v v = true := by
    intro v hv
    obtain ⟨i, hi, rfl⟩ := List.mem_iff_getElem.1 hv
    by_cases h0 : i = 0
    · subst h0
      simp [pointA, Instr.sameBits]
    · have : (pointA p).toList = .int .u64 (p.epoch.toNat : Int) :: p.name.1.map byteV := by simp [pointA, hashA]
      simp only [this]
      obtain ⟨j, rfl⟩ : ∃ j, i = j + 1 := ⟨i - 1, by omega⟩
      simp [byteV, Instr.sameBits]
  show Instr.sameBits (9999 + 1) (.agg (pointA p)) (.agg (pointA p)) = true
  simp only [Instr.sameBits, beq_self_eq_true, Bool.true_and, List.all_eq_true]
  intro x hx
  obtain ⟨i, hi, rfl⟩ := List.mem_iff_getElem.1 hx
  simp only [List.getElem_zip]
  exact key _ (List.getElem_mem _)
def addPt (ks : List Pt) (p : Pt) : List Pt := if p ∈ ks then ks else ks ++ [p]
theorem update_pts {w : World} {b : Nat} {ks : List Pt} (h : MapPts w b ks) (p : Pt) :
    ∃ w', (Instr.mapUpdate 77 (.map (some b)) (ptV p) yes).run Try.prog w = .ok () w' ∧ MapPts w' b (addPt ks p) ∧ w.grownBy w' (some b) := by
  obtain ⟨es, clock, hb, hes, hnd, hborn, hclock⟩ := h
  have hk := key_point false p w
  have hf := findKey_pts w p es.toList ks hes
  rcases hf with ⟨hn, hr⟩ | ⟨j, hj, hr⟩
  · refine ⟨putB w b (.map (es.push { key := ptV p, val := yes, born := clock }) (clock + 1)), ?_, ⟨_, _, putB_at hb, ?_, ?_, ?_, ?_⟩, putB_grown _ _ _⟩
    · unfold Instr.mapUpdate
      simp only [Sem.run_bind, run_underlying Try.underlying77, Result.andThen_ok, Go.MapKept.run_getObj_map hb, Sem.run_pure]
      rw [hk]
      simp only [Result.andThen_ok]
      rw [hr]
      simp [Go.MapKept.run_setObj_map _ hb, putB]
    · simp [addPt, hn, hes]
    · simp only [addPt, hn, if_false]
      exact List.nodup_append.2 ⟨hnd, by simp, fun a ha c hc e => by (simp at hc; subst hc; subst e; exact hn ha)⟩
    · simp only [Array.toList_push, List.map_append, List.map_cons, List.map_nil]
      refine List.nodup_append.2 ⟨hborn, by simp, ?_⟩
      intro a ha c hc e
      obtain ⟨m, hm, rfl⟩ := List.mem_map.1 ha
      simp at hc
      have := hclock m hm
      omega
    · intro e he
      simp only [Array.toList_push, List.mem_append, List.mem_singleton] at he
      rcases he with he | rfl
      · have := hclock e he; omega
      · simp
  · have hp : p ∈ ks := List.mem_of_getElem? hj
    have hlen : es.toList.length = ks.length := by have := congrArg List.length hes; simpa using this
    have hjl : j < es.toList.length := by rw [hlen]; exact (List.getElem?_eq_some_iff.1 hj).1
    have hej : (es.toList[j].key, es.toList[j].val) = (ptV p, yes) := by
      have h1 := congrArg (fun l => l[j]?) hes
      simp only [List.getElem?_map, hj, List.getElem?_eq_getElem hjl, Option.map_some, Option.some.injEq] at h1
      exact h1
    have hmod : (es.modify j fun e => { e with key := ptV p, val := yes }) = es := by
      apply Array.ext'
      rw [Array.toList_modify]
      apply List.ext_getElem?
      intro i
      rw [List.getElem?_modify]
      by_cases hij : j = i
      · subst hij
        rw [List.getElem?_eq_getElem hjl]
        simp only [Prod.mk.injEq] at hej
        rw [← hej.1, ← hej.2]
        simp
      · simp [hij]
    refine ⟨putB w b (.map es clock), ?_, ⟨es, clock, putB_at hb, ?_, ?_, hborn, hclock⟩, putB_grown _ _ _⟩
    · unfold Instr.mapUpdate
      simp only [Sem.run_bind, run_underlying Try.underlying77, Result.andThen_ok, Go.MapKept.run_getObj_map hb, Sem.run_pure]
      rw [hk]
      simp only [Result.andThen_ok]
      rw [hr]
      have hg : (Option.map (·.key) es[j]?).getD (ptV p) = ptV p := by
        rw [← Array.getElem?_toList, List.getElem?_eq_getElem hjl]
        simp only [Prod.mk.injEq] at hej
        simpa using hej.1
      simp only [hg, Instr.keyThatStays, sameBits_pt, if_true, Sem.run_pure, Result.andThen_ok, Sem.run_bind]
      rw [hmod]
      exact Go.MapKept.run_setObj_map _ hb
    · simp [addPt, hp, hes]
    · simp [addPt, hp, hnd]
end Go.Proofs.Ytlkflddjpkhndaa
