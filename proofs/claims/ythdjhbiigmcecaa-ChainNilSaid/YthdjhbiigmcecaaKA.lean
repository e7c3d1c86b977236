/- Texts of this proof, one behind the other: MapHs, MapHv, Asd, ChnP, ChnM, FreeI, ChnA, ChnB, ChnC. -/
import Derived.Test.YthdjhbiigmcecaaQA
import Derived.DeepKeys3
import Derived.WideKeyRuns
import Derived.WideKeyEntry
import Derived.Test.YthdjhbiigmcecaaQU
import Derived.Test.YthdjhbiigmcecaaRB
import Derived.Deep.QuietTactic
import Derived.BigQuiet
import Derived.Deep.CutRange
import Derived.LaidEqlPtr
set_option linter.unusedVariables false
set_option linter.unusedSimpArgs false
/- Maps from keys to struct{is bool}{true}: lookup, store. -/
namespace Go.Proofs.Ythdjhbiigmcecaa
open Go.RowKit

/-- {true} -/
def yes : Value := .agg #[.bool true]
def hsV (p : Hash) : Value := .agg (hashA p)
/-- block b is a map that has these, each once -/
def MapHs (w : World) (b : Nat) (ks : List Hash) : Prop := ∃ es clock, w.heap[b]? = some (.map es clock) ∧ es.toList.map (fun e => (e.key, e.val)) = ks.map (fun p => (hsV p, yes)) ∧ ks.Nodup ∧ (es.toList.map (·.born)).Nodup ∧ ∀ e ∈ es.toList, e.born < clock
theorem MapHs.lt {w : World} {b : Nat} {ks : List Hash} (h : MapHs w b ks) : b < w.heap.size := by
  obtain ⟨es, clock, hb, _⟩ := h
  exact (Array.getElem?_eq_some_iff.1 hb).1
theorem MapHs.of_block {w w' : World} {b : Nat} {ks : List Hash} (h : MapHs w b ks) (hb : w'.heap[b]? = w.heap[b]?) : MapHs w' b ks := by
  obtain ⟨es, clock, h1, r⟩ := h
  exact ⟨es, clock, hb.trans h1, r⟩
theorem MapHs.keep {B : Nat} {w w' : World} {b : Nat} {ks : List Hash} (h : MapHs w b ks) (hb : Below B w w') (hl : b < B) : MapHs w' b ks := h.of_block (hb.block b hl)
theorem MapHs.new (w : World) : MapHs (w.alloc (.map #[] 0)) w.heap.size [] := ⟨#[], 0, (MapKept.heap_alloc w _).1, rfl, List.nodup_nil, by simp, by simp⟩

theorem eqv_hsh (w : World) (p q : Hash) : (Op.equal 24 (hsV p) (hsV q)).run Try.prog w = .ok (decide (p = q)) w := eq_hash w p q
theorem key_plain {P : Program} {t : TypeId} {k : IntKind} (n : Nat) (e : Bool) (x : Int) (ht : P.underlying t = some (.int k)) (w : World) : (Instr.checkKey e (n + 1) t (.int k x)).run P w = .ok () w := by
  simp [Instr.checkKey, run_underlying ht]
theorem forIn_ok {P : Program} {α : Type} (w : World) (f : α → PUnit → Sem (ForInStep PUnit)) : ∀ (l : List α), (∀ a ∈ l, (f a ⟨⟩).run P w = .ok (.yield ⟨⟩) w) → (forIn l PUnit.unit f).run P w = .ok ⟨⟩ w
  | [], _ => by simp
  | a :: l, h => by
    rw [List.forIn_cons]
    simp only [Sem.run_bind, h a (by simp), Result.andThen_ok]
    exact forIn_ok w f l (fun b hb => h b (by simp [hb]))
theorem forIn_ok' {P : Program} {α : Type} (w : World) (f : α → PUnit → Sem (ForInStep PUnit)) (l : List α) (h : ∀ a ∈ l, (f a ⟨⟩).run P w = .ok (.yield ⟨⟩) w) : (((forIn l PUnit.unit f).run P w).andThen fun _ w' => Sem.run P (pure ()) w') = .ok () w := by
  rw [forIn_ok w f l h]; simp
theorem key_hash {P : Program} {t e : TypeId} (n : Nat) (em : Bool) (h : Hash) (ht : P.underlying t = some (.array 32 e)) (he : P.underlying e = some (.int .u8)) (hs : ∀ w, (Go.sizeOf e).run P w = .ok 1 w) (w : World) : (Instr.checkKey em (n + 2) t (.agg (hashA h))).run P w = .ok () w := by
  rw [Instr.checkKey]
  simp only [Sem.run_bind, run_underlying ht, Result.andThen_ok]
  simp only [Std.Legacy.Range.forIn_eq_forIn_range', Std.Legacy.Range.size, Nat.sub_zero, Nat.add_one_sub_one, Nat.div_one]
  refine forIn_ok' w _ _ fun i hi => ?_
  have hi' : i < 32 := by simpa using hi
  have hx : (hashA h)[i * 1]? = some (.int .u8 ((h.1[i]'(by rw [h.2]; exact hi')).toNat : Int)) := getElem_bytes h.1 i (by rw [h.2]; exact hi')
  have hA : ∀ w, (isAgg e).run P w = .ok false w := fun _ => by simp [isAgg, run_underlying he]
  simp only [Sem.run_bind, hs, Result.andThen_ok, part_one w hA _ _ _ hx, key_plain n em _ he, Sem.run_pure]
theorem u8_size : ∀ w, (Go.sizeOf 5).run Try.prog w = .ok 1 w := fun w => by
  obtain ⟨i, hi⟩ := u8_info
  rw [run_sizeOf w hi, u8_cells]
theorem key_hsh (em : Bool) (p : Hash) (w : World) : (Instr.checkKey em 10000 24 (hsV p)).run Try.prog w = .ok () w :=
  key_hash 9998 em p Try.underlying24 Try.underlying5 u8_size w

/-- block b anew -/
def putB (w : World) (b : Nat) (o : Obj) : World := { w with heap := w.heap.setIfInBounds b o }
theorem putB_at {w : World} {b : Nat} {o o' : Obj} (h : w.heap[b]? = some o) : (putB w b o').heap[b]? = some o' := by
  have := (Array.getElem?_eq_some_iff.1 h).1
  simp [putB, this]
theorem putB_far (w : World) (b : Nat) (o : Obj) (k : Nat) (h : k ≠ b) : (putB w b o).heap[k]? = w.heap[k]? := by
  simp [putB, Array.getElem?_setIfInBounds_ne (Ne.symm h)]
theorem putB_grown (w : World) (b : Nat) (o : Obj) : w.grownBy (putB w b o) (some b) := ⟨rfl, rfl, rfl, by simp [putB], fun k _ hk => putB_far w b o k (fun e => hk (by rw [e]))⟩
end Go.Proofs.Ythdjhbiigmcecaa

/- Maps whose keys are hashes, and whose values are anything: lookup, store of a new key. -/
namespace Go.Proofs.Ythdjhbiigmcecaa
open Go.RowKit

/-- block b is a map that has these, each key once -/
def MapHv (w : World) (b : Nat) (ks : List (Hash × Value)) : Prop := ∃ es clock, w.heap[b]? = some (.map es clock) ∧ es.toList.map (fun e => (e.key, e.val)) = ks.map (fun p => (hsV p.1, p.2)) ∧ (ks.map (·.1)).Nodup ∧ (es.toList.map (·.born)).Nodup ∧ ∀ e ∈ es.toList, e.born < clock
theorem MapHv.lt {w : World} {b : Nat} {ks : List (Hash × Value)} (h : MapHv w b ks) : b < w.heap.size := by
  obtain ⟨es, clock, hb, _⟩ := h
  exact (Array.getElem?_eq_some_iff.1 hb).1
theorem MapHv.of_block {w w' : World} {b : Nat} {ks : List (Hash × Value)} (h : MapHv w b ks) (hb : w'.heap[b]? = w.heap[b]?) : MapHv w' b ks := by
  obtain ⟨es, clock, h1, r⟩ := h
  exact ⟨es, clock, hb.trans h1, r⟩
theorem MapHv.keep {B : Nat} {w w' : World} {b : Nat} {ks : List (Hash × Value)} (h : MapHv w b ks) (hb : Below B w w') (hl : b < B) : MapHv w' b ks := h.of_block (hb.block b hl)
theorem MapHv.new (w : World) : MapHv (w.alloc (.map #[] 0)) w.heap.size [] := ⟨#[], 0, (MapKept.heap_alloc w _).1, rfl, List.nodup_nil, by simp, by simp⟩
/-- what a key has -/
def valOf (ks : List (Hash × Value)) (p : Hash) : Option Value := (ks.find? fun x => decide (x.1 = p)).map (·.2)
theorem valOf_none {ks : List (Hash × Value)} {p : Hash} (h : p ∉ ks.map (·.1)) : valOf ks p = none := by
  unfold valOf
  rw [List.find?_eq_none.2 (fun x hx => by
    have : x.1 ≠ p := fun e => h (List.mem_map.2 ⟨x, hx, e⟩)
    simpa using this)]
  rfl
theorem valOf_some {ks : List (Hash × Value)} {p : Hash} {v : Value} {j : Nat} (hn : (ks.map (·.1)).Nodup) (h : ks[j]? = some (p, v)) : valOf ks p = some v := by
  unfold valOf
  induction ks generalizing j with
  | nil => simp at h
  | cons x ks ih =>
    rw [List.find?_cons]
    by_cases hx : x.1 = p
    · simp only [hx, decide_true, Option.map_some]
      cases j with
      | zero => simp at h; rw [h]
      | succ j =>
        exfalso
        simp only [List.getElem?_cons_succ] at h
        rw [List.map_cons, List.nodup_cons] at hn
        exact hn.1 (by rw [hx]; exact List.mem_map.2 ⟨_, List.mem_of_getElem? h, rfl⟩)
    · simp only [hx, decide_false]
      cases j with
      | zero => simp at h; rw [h] at hx; exact absurd rfl hx
      | succ j =>
        rw [List.map_cons, List.nodup_cons] at hn
        exact ih hn.2 (by simpa using h)
theorem find_hv (w : World) (p : Hash) : ∀ (es : List MapEntry) (ks : List (Hash × Value)) (i : Nat), es.map (fun e => (e.key, e.val)) = ks.map (fun p => (hsV p.1, p.2)) →
    (p ∉ ks.map (·.1) ∧ (Instr.findAsking 24 (hsV p) es i).run Try.prog w = .ok none w) ∨ (∃ j v, ks[j]? = some (p, v) ∧ (Instr.findAsking 24 (hsV p) es i).run Try.prog w = .ok (some (i + j, v)) w)
  | [], [], i, _ => .inl ⟨by simp, by simp [Instr.findAsking]⟩
  | [], _ :: _, _, h => by simp at h
  | _ :: _, [], _, h => by simp at h
  | e :: es, q :: ks, i, h => by
    simp only [List.map_cons, List.cons.injEq, Prod.mk.injEq] at h
    obtain ⟨⟨h1, h2⟩, h3⟩ := h
    have he := eqv_hsh w p q.1
    by_cases hpq : p = q.1
    · right
      refine ⟨0, q.2, by simp [hpq], ?_⟩
      rw [hpq] at he ⊢
      simp [Instr.findAsking, h1, he, h2]
    · rcases find_hv w p es ks (i + 1) h3 with ⟨a, b⟩ | ⟨j, v, a, b⟩
      · left
        exact ⟨by rw [List.map_cons, List.mem_cons]; exact fun h => h.elim hpq a, by simp [Instr.findAsking, h1, he, hpq, b]⟩
      · right
        exact ⟨j + 1, v, by simpa using a, by simp [Instr.findAsking, h1, he, hpq, b, Nat.add_assoc, Nat.add_comm 1 j]⟩
theorem findKey_hv (w : World) (p : Hash) (es : List MapEntry) (ks : List (Hash × Value)) (h : es.map (fun e => (e.key, e.val)) = ks.map (fun p => (hsV p.1, p.2))) :
    (p ∉ ks.map (·.1) ∧ (Instr.findKey 24 (hsV p) es).run Try.prog w = .ok none w) ∨ (∃ j v, ks[j]? = some (p, v) ∧ (Instr.findKey 24 (hsV p) es).run Try.prog w = .ok (some (j, v)) w) := by
  rw [run_findKey_eq (P := Try.prog) w (k := 24) (by rw [Try.underlying24])]
  have := find_hv w p es ks 0 h
  simpa using this
section
variable {t e : TypeId} {z : Value} (ht : Try.prog.underlying t = some (.map 24 e)) (hz : ∀ w, (zeroValue e).run Try.prog w = .ok z w)
include ht hz
theorem look_hv {w : World} {b : Nat} {ks : List (Hash × Value)} (h : MapHv w b ks) (p : Hash) :
    (Instr.lookup t (.map (some b)) (hsV p) false).run Try.prog w = .ok ((valOf ks p).getD z) w := by
  obtain ⟨es, clock, hb, hes, hnd, _, _⟩ := h
  have hk := key_hsh es.isEmpty p w
  have hf := findKey_hv w p es.toList ks hes
  unfold Instr.lookup
  simp only [Sem.run_bind, run_underlying ht, Result.andThen_ok, Go.MapKept.run_getObj_map hb, Sem.run_pure]
  rw [hk]
  simp only [Result.andThen_ok]
  rcases hf with ⟨hn, hr⟩ | ⟨j, v, hj, hr⟩
  · rw [hr, valOf_none hn]
    simp [hz]
  · rw [hr, valOf_some hnd hj]
    simp
theorem look_hv_ok {w : World} {b : Nat} {ks : List (Hash × Value)} (h : MapHv w b ks) (p : Hash) :
    (Instr.lookup t (.map (some b)) (hsV p) true).run Try.prog w = .ok (.tuple #[(valOf ks p).getD z, .bool (valOf ks p).isSome]) w := by
  obtain ⟨es, clock, hb, hes, hnd, _, _⟩ := h
  have hk := key_hsh es.isEmpty p w
  have hf := findKey_hv w p es.toList ks hes
  unfold Instr.lookup
  simp only [Sem.run_bind, run_underlying ht, Result.andThen_ok, Go.MapKept.run_getObj_map hb, Sem.run_pure]
  rw [hk]
  simp only [Result.andThen_ok]
  rcases hf with ⟨hn, hr⟩ | ⟨j, v, hj, hr⟩
  · rw [hr, valOf_none hn]
    simp [hz]
  · rw [hr, valOf_some hnd hj]
    simp
omit ht hz in
theorem MapHv.push {w' : World} {p : Hash} {v : Value} {b : Nat} {ks : List (Hash × Value)} {es : Array MapEntry} {clock : Nat} (hb : w'.heap[b]? = some (.map (es.push { key := hsV p, val := v, born := clock }) (clock + 1)))
    (hes : es.toList.map (fun e => (e.key, e.val)) = ks.map (fun p => (hsV p.1, p.2))) (hnd : (ks.map (·.1)).Nodup) (hborn : (es.toList.map (·.born)).Nodup) (hclock : ∀ e ∈ es.toList, e.born < clock) (hn : p ∉ ks.map (·.1)) : MapHv w' b (ks ++ [(p, v)]) := by
  refine ⟨_, _, hb, ?_, ?_, ?_, ?_⟩
  · simp [hes]
  · rw [List.map_append]
    exact List.nodup_append.2 ⟨hnd, by simp, fun a ha c hc e => by (simp at hc; subst hc; subst e; exact hn ha)⟩
  · simp only [Array.toList_push, List.map_append, List.map_cons, List.map_nil]
    refine List.nodup_append.2 ⟨hborn, by simp, ?_⟩
    intro a ha c hc e
    obtain ⟨m, hm, rfl⟩ := List.mem_map.1 ha
    simp at hc
    have := hclock m hm
    omega
  · intro e he
    simp only [Array.toList_push, List.mem_append, List.mem_singleton] at he
    rcases he with he | rfl
    · have := hclock e he; omega
    · simp
omit hz in
/-- a literal's entry of a new key -/
theorem insert_hv {w : World} {b : Nat} {ks : List (Hash × Value)} (h : MapHv w b ks) (p : Hash) (v : Value) (hn : p ∉ ks.map (·.1)) :
    ∃ w', (Instr.mapUpdate t (.map (some b)) (hsV p) v).run Try.prog w = .ok () w' ∧ MapHv w' b (ks ++ [(p, v)]) ∧ w.grownBy w' (some b) := by
  obtain ⟨es, clock, hb, hes, hnd, hborn, hclock⟩ := h
  have hk := key_hsh false p w
  have hf := findKey_hv w p es.toList ks hes
  rcases hf with ⟨_, hr⟩ | ⟨j, v', hj, hr⟩
  · refine ⟨putB w b (.map (es.push { key := hsV p, val := v, born := clock }) (clock + 1)), ?_, MapHv.push (putB_at hb) hes hnd hborn hclock hn, putB_grown _ _ _⟩
    unfold Instr.mapUpdate
    simp only [Sem.run_bind, run_underlying ht, Result.andThen_ok, Go.MapKept.run_getObj_map hb, Sem.run_pure]
    rw [hk]
    simp only [Result.andThen_ok]
    rw [hr]
    simp [Go.MapKept.run_setObj_map _ hb, putB]
  · exact absurd (List.mem_map.2 ⟨_, List.mem_of_getElem? hj, rfl⟩) hn
/-- a map with an entry of a new key whose value is still to come -/
def MapEnt (w : World) (b : Nat) (ks : List (Hash × Value)) (p : Hash) (st : Nat) : Prop := ∃ (es : Array MapEntry) (v : Value), w.heap[b]? = some (.map (es.push { key := hsV p, val := v, born := st }) (st + 1)) ∧ es.toList.map (fun e => (e.key, e.val)) = ks.map (fun p => (hsV p.1, p.2)) ∧ (ks.map (·.1)).Nodup ∧ (es.toList.map (·.born)).Nodup ∧ (∀ e ∈ es.toList, e.born < st) ∧ p ∉ ks.map (·.1)
omit ht hz in
theorem MapEnt.of_block {w w' : World} {b : Nat} {ks : List (Hash × Value)} {p : Hash} {st : Nat} (h : MapEnt w b ks p st) (hb : w'.heap[b]? = w.heap[b]?) : MapEnt w' b ks p st := by
  obtain ⟨es, v, h1, r⟩ := h
  exact ⟨es, v, hb.trans h1, r⟩
theorem entry_hv {w : World} {b : Nat} {ks : List (Hash × Value)} (h : MapHv w b ks) (p : Hash) (hn : p ∉ ks.map (·.1)) :
    ∃ (st : Nat) (w' : World), (Instr.mapEntry t (.map (some b)) (hsV p)).run Try.prog w = .ok (.tuple #[z, .int .i64 (st : Int)]) w' ∧ MapEnt w' b ks p st ∧ w.grownBy w' (some b) := by
  obtain ⟨es, clock, hb, hes, hnd, hborn, hclock⟩ := h
  have hk := key_hsh false p w
  have hf := findKey_hv w p es.toList ks hes
  rcases hf with ⟨_, hr⟩ | ⟨j, v', hj, hr⟩
  · refine ⟨clock, putB w b (.map (es.push { key := hsV p, val := z, born := clock }) (clock + 1)), ?_, ⟨es, z, putB_at hb, hes, hnd, hborn, hclock, hn⟩, putB_grown _ _ _⟩
    unfold Instr.mapEntry
    simp only [Sem.run_bind, run_underlying ht, Result.andThen_ok, Go.MapKept.run_getObj_map hb, Sem.run_pure]
    rw [hk]
    simp only [Result.andThen_ok]
    rw [hr]
    simp [hz, Go.MapKept.run_setObj_map _ hb, putB, goInt]
  · exact absurd (List.mem_map.2 ⟨_, List.mem_of_getElem? hj, rfl⟩) hn
omit ht hz in
theorem entryStore_hv {w : World} {b : Nat} {ks : List (Hash × Value)} {p : Hash} {st : Nat} (h : MapEnt w b ks p st) (v : Value) :
    ∃ w', (Instr.entryStore t (.map (some b)) (.int .i64 (st : Int)) v).run Try.prog w = .ok () w' ∧ MapHv w' b (ks ++ [(p, v)]) ∧ w.grownBy w' (some b) := by
  obtain ⟨es, v0, hb, hes, hnd, hborn, hclock, hn⟩ := h
  have hidx : (es.push { key := hsV p, val := v0, born := st }).findIdx? (fun e => ((e.born : Nat) : Int) == ((st : Nat) : Int)) = some es.size := by
    have h1 := Go.WideElems.findIdx_born (l := (es.push { key := hsV p, val := v0, born := st }).toList) (j := es.size) (e0 := { key := hsV p, val := v0, born := st }) (by
      simp only [Array.toList_push, List.map_append, List.map_cons, List.map_nil]
      refine List.nodup_append.2 ⟨hborn, by simp, fun a ha c hc e1 => ?_⟩
      obtain ⟨m, hm, rfl⟩ := List.mem_map.1 ha
      simp at hc
      have := hclock m hm
      omega) (by simp)
    rw [Go.WideElems.findIdx_arr]
    exact h1
  have hmod : (es.push { key := hsV p, val := v0, born := st }).modify es.size (fun e => { e with val := v }) = es.push { key := hsV p, val := v, born := st } := by
    apply Array.ext'
    rw [Array.toList_modify, Array.toList_push, Array.toList_push, show es.size = es.toList.length by simp, Go.WideElems.modify_last]
  refine ⟨putB w b (.map (es.push { key := hsV p, val := v, born := st }) (st + 1)), ?_, MapHv.push (putB_at hb) hes hnd hborn hclock hn, putB_grown _ _ _⟩
  unfold Instr.entryStore
  simp only [Sem.run_bind, Result.andThen_ok, Go.MapKept.run_getObj_map hb, Sem.run_pure, asInt, asIntOf]
  rw [hidx]
  simp only
  rw [hmod]
  exact Go.MapKept.run_setObj_map _ hb
end
end Go.Proofs.Ythdjhbiigmcecaa

/- What changes in blocks of a set alone; what holds whatever is changed in them. Over any program. -/
namespace Go.Proofs.Ythdjhbiigmcecaa
open Go.RowKit

/-- only blocks of M have changed, and blocks have been made -/
structure Asd (M : Nat → Prop) (W W' : World) : Prop where
  os : W'.os = W.os
  tape : W'.tape = W.tape
  output : W'.output = W.output
  size : W.heap.size ≤ W'.heap.size
  block : ∀ k, k < W.heap.size → ¬ M k → W'.heap[k]? = W.heap[k]?
theorem Asd.refl (M : Nat → Prop) (W : World) : Asd M W W := ⟨rfl, rfl, rfl, Nat.le_refl _, fun _ _ _ => rfl⟩
theorem Asd.trans {M : Nat → Prop} {W W1 W2 : World} (h : Asd M W W1) (k : Asd M W1 W2) : Asd M W W2 :=
  ⟨k.os.trans h.os, k.tape.trans h.tape, k.output.trans h.output, Nat.le_trans h.size k.size, fun i hi hm => (k.block i (Nat.lt_of_lt_of_le hi h.size) hm).trans (h.block i hi hm)⟩
theorem Asd.mono {M M' : Nat → Prop} {W W' : World} (h : Asd M W W') (hM : ∀ k, k < W.heap.size → M k → M' k) : Asd M' W W' :=
  ⟨h.os, h.tape, h.output, h.size, fun k hk hm => h.block k hk fun e => hm (hM k hk e)⟩
theorem Asd.trans' {M M' : Nat → Prop} {W W1 W2 : World} (h : Asd M W W1) (k : Asd M' W1 W2) (hM : ∀ k, k < W.heap.size → M' k → M k) : Asd M W W2 :=
  ⟨k.os.trans h.os, k.tape.trans h.tape, k.output.trans h.output, Nat.le_trans h.size k.size, fun i hi hm => (k.block i (Nat.lt_of_lt_of_le hi h.size) fun e => hm (hM i hi e)).trans (h.block i hi hm)⟩
theorem below_off {B : Nat} {W W' : World} (h : Below B W W') {M : Nat → Prop} (hM : ∀ k, k < W.heap.size → B ≤ k → M k) : Asd M W W' :=
  ⟨h.os, h.tape, h.output, h.size, fun k hk hm => h.block k (Nat.lt_of_not_le fun e => hm (hM k hk e))⟩
theorem below_fresh {W W' : World} (h : Below W.heap.size W W') (M : Nat → Prop) : Asd M W W' := below_off h fun _ hk he => absurd hk (Nat.not_lt.2 he)
theorem Asd.below {M : Nat → Prop} {W W' : World} (h : Asd M W W') {B : Nat} (hB : B ≤ W.heap.size) (hM : ∀ k, k < W.heap.size → M k → B ≤ k) : Below B W W' :=
  ⟨h.os, h.tape, h.output, h.size, fun k hk => h.block k (Nat.lt_of_lt_of_le hk hB) fun e => absurd hk (Nat.not_lt.2 (hM k (Nat.lt_of_lt_of_le hk hB) e))⟩
theorem Asd.drew {M : Nat → Prop} {W W' : World} (h : Asd M W W') : Asd M W W'.drew := ⟨h.os, h.tape, h.output, h.size, h.block⟩
theorem asd_grown {W W' : World} {row : Option Nat} (h : W.grownBy W' row) : Asd (fun k => row = some k) W W' := ⟨h.os, h.tape, h.output, h.size, fun k hk hm => h.block k hk fun e => hm e.symm⟩
theorem asd_put (W : World) (b off : Nat) (xs : Array Value) : Asd (fun k => k = b) W (putRow W b off xs) := by
  obtain ⟨h1, h2, h3⟩ := setCells_misc b xs.toList off W
  exact ⟨h1, h2, h3, by unfold putRow; rw [setCells_size]; exact Nat.le_refl _, fun k _ hk => setCells_far _ _ _ _ k hk⟩
theorem asd_set (W : World) (a : Addr) (u : Value) : Asd (fun k => k = a.block) W (W.setCell a u) := ⟨rfl, rfl, rfl, by simp [World.setCell], fun k _ hk => Below.heap_setCell _ _ _ _ hk⟩
section
variable {M : Nat → Prop} {W W' : World} (h : Asd M W W') {b : Nat} (hm : ¬ M b)
include h hm
theorem Asd.row {off n : Nat} {l : Array Value} (hr : row? W b off n = some l) : row? W' b off n = some l := by
  have := h.block b (lt_of_row hr) hm
  unfold row? at hr ⊢
  rw [this]
  exact hr
theorem Asd.cell {off : Nat} {v : Value} (hr : W.cell? ⟨b, off, none⟩ = some v) : W'.cell? ⟨b, off, none⟩ = some v :=
  (World.cell?_of_block (a := ⟨b, off, none⟩) (h.block b (lt_of_cell hr) hm)).trans hr
theorem Asd.there {off n : Nat} (hb : b < W.heap.size) (ht : Proofs.Ythdjhbiigmcecaa.there W b off n) : Proofs.Ythdjhbiigmcecaa.there W' b off n := by
  have e := h.block b hb hm
  intro j hj
  have := ht j hj
  rw [World.cell?_of_block (a := ⟨b, off + j, none⟩) e, World.frozen?_of_block (a := ⟨b, off + j, none⟩) e]
  exact this
end
theorem OwnC.off {M : Nat → Prop} {w w' : World} {base k n : Nat} {v : Value} {xs : List Value} (h : OwnC w base k v n xs) (hb : Asd M w w') (hm : ∀ g, v.ownBlock = some g → ¬ M g) : OwnC w' base k v n xs := by
  refine ⟨h.1, ?_⟩
  rcases h.2 with h2 | ⟨g, cap, rfl, h1, hlt, hn, hm', hc, hf, hx⟩
  · exact .inl h2
  · have e := hb.block g hlt (hm g (by simp [Value.ownBlock]))
    have e1 := fun j => World.cell?_of_block (a := ⟨g, j, none⟩) e
    have e2 := fun j => World.frozen?_of_block (a := ⟨g, j, none⟩) e
    exact .inr ⟨g, cap, rfl, h1, Nat.lt_of_lt_of_le hlt hb.size, hn, hm', fun j hj => by rw [e1]; exact hc j hj, fun j hj => by rw [e2]; exact hf j hj, fun j u hu => by rw [e1]; exact hx j u hu⟩

/-- P holds, whatever changes in the blocks of M -/
def Safe (M : Nat → Prop) (W : World) (P : World → Prop) : Prop := ∀ W2, Asd M W W2 → P W2
theorem Safe.now {M : Nat → Prop} {W : World} {P : World → Prop} (h : Safe M W P) : P W := h W (Asd.refl M W)
theorem Safe.step {M M' : Nat → Prop} {W W' : World} {P : World → Prop} (h : Safe M W P) (hb : Asd M W W') (hM : ∀ k, k < W.heap.size → M' k → M k) : Safe M' W' P := fun W2 h2 => h W2 (hb.trans' h2 fun k hk hm => hM k hk hm)
theorem Safe.keep {M : Nat → Prop} {W W' : World} {P : World → Prop} (h : Safe M W P) (hb : Below W.heap.size W W') : Safe M W' P := h.step (below_fresh hb M) fun _ _ h => h
end Go.Proofs.Ythdjhbiigmcecaa

/- Chains of headers, plainly: names, parents, ancestors of 1, 2, 4, .. steps, what stands at an epoch. -/
namespace Go.Proofs.Ythdjhbiigmcecaa

/-- a header, with its checkpoint, and its parent's place -/
structure Blk where
  p : Pt
  h : Hdr
  par : Option Nat
def zeroHdr : Hdr := ⟨zeroHash, 0, []⟩
def chNew (p : Pt) : List Blk := [⟨p, zeroHdr, none⟩]
def chAt (C : List Blk) (n : Hash) : Option Nat := C.findIdx? fun b => decide (b.p.name = n)
def epAt (C : List Blk) (i : Nat) : Nat := ((C[i]?).map fun b => b.p.epoch.toNat).getD 0
def parAt (C : List Blk) (i : Nat) : Option Nat := (C[i]?).bind (·.par)
/-- what comes of a header: its checkpoint, and an error -/
def chCheck (C : List Blk) (h : Hdr) : Pt × Int :=
  if hdrMay h then
    match chAt C (hdName h) with
    | some _ => (zeroPt, 11)
    | none =>
      match chAt C h.parent with
      | none => (zeroPt, 12)
      | some i => if h.epoch.toNat ≤ epAt C i then (zeroPt, 13) else if 4096 < C.length then (zeroPt, 5) else (⟨h.epoch, hdName h⟩, 0)
  else (zeroPt, 2)
def chAdd (C : List Blk) (h : Hdr) : List Blk := if (chCheck C h).2 = 0 then C ++ [⟨(chCheck C h).1, h, chAt C h.parent⟩] else C
/-- a block and its ancestors, up to the anchor -/
def pth (C : List Blk) (i : Nat) : List Nat := i :: match parAt C i with | none => [] | some j => if _h : j < i then pth C j else []
termination_by i
/-- what a new block of a parent keeps: its ancestors of 1, 2, 4, .. steps -/
def climb (U : List (List Nat)) (i k : Nat) : List Nat := i :: match (U[i]?).bind (·[k]?) with | none => [] | some j => if _h : j < i then climb U j (k + 1) else []
termination_by i
def upStep (U : List (List Nat)) (b : Blk) : List (List Nat) := U ++ [match b.par with | none => [] | some i => climb U i 0]
def ups (C : List Blk) : List (List Nat) := C.foldl upStep []
def chs (C : List Blk) (i : Nat) : List Nat := (List.range C.length).filter fun j => decide (parAt C j = some i)
/-- a block, or its ancestor, of the greatest epoch that is at most e (the anchor, if there is none) -/
def bk (C : List Blk) (e : Nat) (i : Nat) : Nat := if epAt C i ≤ e then i else match parAt C i with | none => i | some j => if _h : j < i then bk C e j else i
termination_by i

structure ChnOk (C : List Blk) : Prop where
  pos : 0 < C.length
  len : C.length ≤ 4097
  root : parAt C 0 = none
  par : ∀ i b, C[i]? = some b → 0 < i → ∃ j c, b.par = some j ∧ j < i ∧ C[j]? = some c ∧ c.p.epoch.toNat < b.p.epoch.toNat ∧ b.h.parent = c.p.name
  names : (C.map (·.p.name)).Nodup
  hdr : ∀ i b, C[i]? = some b → 0 < i → b.p = ⟨b.h.epoch, hdName b.h⟩ ∧ hdrMay b.h = true

theorem epAt_of {C : List Blk} {i : Nat} {b : Blk} (h : C[i]? = some b) : epAt C i = b.p.epoch.toNat := by simp [epAt, h]
theorem parAt_of {C : List Blk} {i : Nat} {b : Blk} (h : C[i]? = some b) : parAt C i = b.par := by simp [parAt, h]
theorem chNew_ok (p : Pt) : ChnOk (chNew p) := by
  refine ⟨by simp [chNew], by simp [chNew], rfl, fun i b hb hi => ?_, by simp [chNew], fun i b hb hi => ?_⟩
  · have : i < 1 := (List.getElem?_eq_some_iff.1 hb).1
    omega
  · have : i < 1 := (List.getElem?_eq_some_iff.1 hb).1
    omega
theorem parAt_some {C : List Blk} (h : ChnOk C) {i j : Nat} (hj : parAt C i = some j) : j < i ∧ i < C.length ∧ epAt C j < epAt C i := by
  unfold parAt at hj
  cases hb : C[i]? with
  | none => rw [hb] at hj; cases hj
  | some b =>
    have hi : 0 < i := by
      rcases Nat.eq_zero_or_pos i with rfl | h0
      · have := h.root
        unfold parAt at this
        rw [hj] at this
        cases this
      · exact h0
    obtain ⟨j', c, e1, e2, e3, e4, _⟩ := h.par i b hb hi
    rw [hb] at hj
    simp only [Option.bind_some] at hj
    rw [e1] at hj
    cases hj
    exact ⟨e2, (List.getElem?_eq_some_iff.1 hb).1, by rw [epAt_of e3, epAt_of hb]; exact e4⟩
theorem parAt_none {C : List Blk} (h : ChnOk C) {i : Nat} (hi : i < C.length) (hj : parAt C i = none) : i = 0 := by
  rcases Nat.eq_zero_or_pos i with h0 | h0
  · exact h0
  · obtain ⟨j', c, e1, _⟩ := h.par i _ (List.getElem?_eq_getElem hi) h0
    rw [parAt_of (List.getElem?_eq_getElem hi), e1] at hj
    cases hj
theorem pth_root {C : List Blk} {i : Nat} (hj : parAt C i = none) : pth C i = [i] := by rw [pth, hj]
theorem pth_par {C : List Blk} (h : ChnOk C) {i j : Nat} (hj : parAt C i = some j) : pth C i = i :: pth C j := by
  rw [pth, hj]
  simp only [(parAt_some h hj).1, dite_true]
theorem pth_self (C : List Blk) (i : Nat) : i ∈ pth C i := by rw [pth]; exact List.mem_cons_self ..
theorem pth_le {C : List Blk} : ∀ (i a : Nat), a ∈ pth C i → a ≤ i := by
  intro i
  induction i using Nat.strongRecOn with
  | ind i ih =>
    intro a ha
    rw [pth] at ha
    rcases List.mem_cons.1 ha with rfl | ha
    · exact Nat.le_refl _
    · split at ha
      · cases ha
      · split at ha
        · rename_i j _ hlt
          exact Nat.le_trans (ih j hlt a ha) (Nat.le_of_lt hlt)
        · cases ha
theorem pth_trans {C : List Blk} {a b : Nat} : ∀ (c : Nat), a ∈ pth C b → b ∈ pth C c → a ∈ pth C c := by
  intro c
  induction c using Nat.strongRecOn with
  | ind c ih =>
    intro hab hbc
    rw [pth] at hbc
    rcases List.mem_cons.1 hbc with rfl | hbc
    · exact hab
    · rw [pth]
      refine List.mem_cons_of_mem _ ?_
      split at hbc
      · cases hbc
      · split at hbc
        · rename_i j hj hlt
          simp only [hlt, dite_true]
          exact ih j hlt hab hbc
        · cases hbc
theorem pth_epoch {C : List Blk} (h : ChnOk C) {a : Nat} : ∀ (c : Nat), a ∈ pth C c → a ≠ c → epAt C a < epAt C c := by
  intro c
  induction c using Nat.strongRecOn with
  | ind c ih =>
    intro hac hne
    cases hj : parAt C c with
    | none =>
      rw [pth_root hj] at hac
      exact absurd (List.mem_singleton.1 hac) hne
    | some j =>
      obtain ⟨h1, _, h3⟩ := parAt_some h hj
      rw [pth_par h hj] at hac
      rcases List.mem_cons.1 hac with rfl | hac
      · exact absurd rfl hne
      · by_cases haj : a = j
        · rw [haj]; exact h3
        · exact Nat.lt_trans (ih j h1 hac haj) h3
theorem bk_le {C : List Blk} {e i : Nat} (h : epAt C i ≤ e) : bk C e i = i := by rw [bk, if_pos h]
theorem bk_root {C : List Blk} {e i : Nat} (h : parAt C i = none) : bk C e i = i := by rw [bk, h]; simp
theorem bk_par {C : List Blk} (h : ChnOk C) {e i j : Nat} (hj : parAt C i = some j) (he : e < epAt C i) : bk C e i = bk C e j := by
  rw [bk, if_neg (by omega), hj]
  simp only [(parAt_some h hj).1, dite_true]
theorem bk_skip {C : List Blk} (h : ChnOk C) {e a : Nat} (ha : e < epAt C a) : ∀ (i : Nat), a ∈ pth C i → bk C e i = bk C e a := by
  intro i
  induction i using Nat.strongRecOn with
  | ind i ih =>
    intro hm
    by_cases hai : a = i
    · rw [hai]
    · have he := pth_epoch h i hm hai
      cases hj : parAt C i with
      | none =>
        rw [pth_root hj] at hm
        exact absurd (List.mem_singleton.1 hm) hai
      | some j =>
        rw [pth_par h hj] at hm
        rcases List.mem_cons.1 hm with rfl | hm
        · exact absurd rfl hai
        · rw [bk_par h hj (by omega)]
          exact ih j (parAt_some h hj).1 hm
theorem bk_mem {C : List Blk} (e : Nat) : ∀ (i : Nat), bk C e i ∈ pth C i := by
  intro i
  induction i using Nat.strongRecOn with
  | ind i ih =>
    rw [bk]
    split
    · exact pth_self C i
    · split
      · exact pth_self C i
      · split
        · rename_i j hj hlt
          rw [pth, hj]
          simp only [hlt, dite_true]
          exact List.mem_cons_of_mem _ (ih j hlt)
        · exact pth_self C i
theorem bk_fold {C : List Blk} (h : ChnOk C) {e : Nat} : ∀ (i : Nat), i < C.length → (pth C i).foldr (fun n w => if epAt C n ≤ e then n else w) 0 = bk C e i := by
  intro i
  induction i using Nat.strongRecOn with
  | ind i ih =>
    intro hi
    cases hj : parAt C i with
    | none =>
      obtain rfl := parAt_none h hi hj
      rw [pth_root hj, bk_root hj]
      simp
    | some j =>
      have hji := (parAt_some h hj).1
      rw [pth_par h hj, List.foldr_cons, ih j hji (by omega)]
      by_cases he : epAt C i ≤ e
      · rw [if_pos he, bk_le he]
      · rw [if_neg he, bk_par h hj (by omega)]
theorem pth_lt {C : List Blk} {i a : Nat} (hi : i < C.length) (ha : a ∈ pth C i) : a < C.length := Nat.lt_of_le_of_lt (pth_le i a ha) hi
theorem ups_snoc (C : List Blk) (b : Blk) : ups (C ++ [b]) = ups C ++ [match b.par with | none => [] | some i => climb (ups C) i 0] := by
  unfold ups
  rw [List.foldl_append]
  rfl
theorem ups_length (C : List Blk) : (ups C).length = C.length := by
  suffices ∀ (C : List Blk) (U : List (List Nat)), (C.foldl upStep U).length = U.length + C.length by simpa [ups] using this C []
  intro C
  induction C with
  | nil => intro U; simp
  | cons b C ih =>
    intro U
    rw [List.foldl_cons, ih, upStep]
    simp
    omega
theorem climb_app {U V : List (List Nat)} : ∀ (i k : Nat), i < U.length → climb (U ++ V) i k = climb U i k := by
  intro i
  induction i using Nat.strongRecOn with
  | ind i ih =>
    intro k hi
    rw [climb, climb, List.getElem?_append_left hi]
    congr 1
    cases hx : (U[i]?).bind (·[k]?) with
    | none => rfl
    | some j =>
      simp only
      by_cases hlt : j < i
      · simp only [hlt, dite_true]
        exact ih j hlt _ (by omega)
      · simp only [hlt, dite_false]
theorem parAt_old {C : List Blk} {b : Blk} {i : Nat} (hi : i < C.length) : parAt (C ++ [b]) i = parAt C i := by unfold parAt; rw [List.getElem?_append_left hi]
theorem parAt_new (C : List Blk) (b : Blk) : parAt (C ++ [b]) C.length = b.par := by unfold parAt; simp
/-- what each block keeps -/
theorem ups_at {C : List Blk} (h : ∀ i j, parAt C i = some j → j < i) : ∀ i, i < C.length → (ups C)[i]? = some (match parAt C i with | none => [] | some j => climb (ups C) j 0) := by
  suffices ∀ (D : List Blk), (∀ i j, parAt D i = some j → j < i) → ∀ i, i < D.length → (ups D)[i]? = some (match parAt D i with | none => [] | some j => climb (ups D) j 0) from this C h
  intro D
  obtain ⟨n, hn⟩ : ∃ n, n = D.length := ⟨_, rfl⟩
  induction n generalizing D with
  | zero => intro _ i hi; omega
  | succ n ihn =>
    obtain rfl | ⟨D, b, rfl⟩ := List.eq_nil_or_concat D
    · simp at hn
    rw [List.concat_eq_append] at hn ⊢
    have ih := ihn D (by simp at hn; omega)
    intro hD i hi
    rw [ups_snoc]
    have hl := ups_length D
    by_cases hid : i < D.length
    · rw [List.getElem?_append_left (by omega), ih (fun i j hj => hD i j (by
        have hi2 : i < D.length := by
          unfold parAt at hj
          cases hx : D[i]? with
          | none => rw [hx] at hj; cases hj
          | some _ => exact (List.getElem?_eq_some_iff.1 hx).1
        rw [parAt_old hi2]; exact hj)) i hid, parAt_old hid]
      cases hj : parAt D i with
      | none => rfl
      | some j =>
        have hlt := hD i j (by rw [parAt_old hid]; exact hj)
        simp only
        rw [climb_app j 0 (by omega)]
    · have hi' : i = D.length := by simp at hi; omega
      subst hi'
      rw [List.getElem?_append_right (by omega), hl, Nat.sub_self, parAt_new]
      cases hj : b.par with
      | none => rfl
      | some j =>
        have hlt := hD D.length j (by rw [parAt_new]; exact hj)
        simp only [List.getElem?_cons_zero]
        rw [climb_app j 0 (by omega)]
theorem climb_mem {C : List Blk} (h : ChnOk C) : ∀ (i k x : Nat), i < C.length → x ∈ climb (ups C) i k → x ∈ pth C i := by
  have hp : ∀ i j, parAt C i = some j → j < i := fun i j hj => (parAt_some h hj).1
  intro i
  induction i using Nat.strongRecOn with
  | ind i ih =>
    intro k x hi hx
    rw [climb] at hx
    rcases List.mem_cons.1 hx with rfl | hx
    · exact pth_self C x
    · split at hx
      · cases hx
      · split at hx
        · rename_i j hj hlt
          have hxj := ih j hlt (k + 1) x (by omega) hx
          rw [ups_at hp i hi] at hj
          simp only [Option.bind_some] at hj
          cases hpar : parAt C i with
          | none => rw [hpar] at hj; simp at hj
          | some q =>
            rw [hpar] at hj
            simp only at hj
            have hqi := hp i q hpar
            have hjq := ih q hqi 0 j (by omega) (List.mem_of_getElem? hj)
            rw [pth_par h hpar]
            exact List.mem_cons_of_mem _ (pth_trans q hxj hjq)
        · cases hx
/-- each of them is an ancestor -/
theorem ups_mem {C : List Blk} (h : ChnOk C) {i k j : Nat} {u : List Nat} (hu : (ups C)[i]? = some u) (hj : u[k]? = some j) : j ∈ pth C i ∧ j < i := by
  have hp : ∀ i j, parAt C i = some j → j < i := fun i j hj => (parAt_some h hj).1
  have hi : i < C.length := by rw [← ups_length C]; exact (List.getElem?_eq_some_iff.1 hu).1
  rw [ups_at hp i hi] at hu
  injection hu with hu
  cases hpar : parAt C i with
  | none => rw [hpar] at hu; simp only at hu; subst hu; simp at hj
  | some q =>
    rw [hpar] at hu
    simp only at hu
    subst hu
    have hqi := hp i q hpar
    have hm := climb_mem h q 0 j (by omega) (List.mem_of_getElem? hj)
    exact ⟨by rw [pth_par h hpar]; exact List.mem_cons_of_mem _ hm, Nat.lt_of_le_of_lt (pth_le q j hm) hqi⟩
/-- the first of them is the parent -/
theorem ups_zero {C : List Blk} (h : ChnOk C) {i : Nat} {u : List Nat} (hu : (ups C)[i]? = some u) : u[0]? = parAt C i := by
  have hp : ∀ i j, parAt C i = some j → j < i := fun i j hj => (parAt_some h hj).1
  have hi : i < C.length := by rw [← ups_length C]; exact (List.getElem?_eq_some_iff.1 hu).1
  rw [ups_at hp i hi] at hu
  injection hu with hu
  subst hu
  cases hpar : parAt C i with
  | none => rfl
  | some q => simp only; rw [climb]; rfl
theorem climb_length {U : List (List Nat)} : ∀ (i k : Nat), (climb U i k).length ≤ i + 1 := by
  intro i
  induction i using Nat.strongRecOn with
  | ind i ih =>
    intro k
    rw [climb, List.length_cons]
    split
    · simp
    · split
      · rename_i j _ hlt
        have := ih j hlt (k + 1)
        omega
      · simp
theorem ups_le {C : List Blk} (h : ChnOk C) {i : Nat} {u : List Nat} (hu : (ups C)[i]? = some u) : u.length ≤ i := by
  have hp : ∀ i j, parAt C i = some j → j < i := fun i j hj => (parAt_some h hj).1
  have hi : i < C.length := by rw [← ups_length C]; exact (List.getElem?_eq_some_iff.1 hu).1
  rw [ups_at hp i hi] at hu
  injection hu with hu
  subst hu
  cases hpar : parAt C i with
  | none => exact Nat.zero_le _
  | some q =>
    have := hp i q hpar
    have := climb_length (U := ups C) q 0
    simp only
    omega

theorem chs_old {C : List Blk} {b : Blk} (hb : ∀ j, b.par = some j → j < C.length) (hok : ∀ i j, parAt C i = some j → j < i) (i : Nat) : chs (C ++ [b]) i = chs C i ++ (if b.par = some i then [C.length] else []) := by
  unfold chs
  rw [List.length_append, List.length_singleton, List.range_succ, List.filter_append]
  congr 1
  · refine List.filter_congr fun j hj => ?_
    rw [parAt_old (List.mem_range.1 hj)]
  · rw [List.filter_cons, List.filter_nil, parAt_new]
    by_cases h : b.par = some i
    · simp [h]
    · simp [h]
theorem chs_length (C : List Blk) (i : Nat) : (chs C i).length ≤ C.length := by
  have := List.length_filter_le (fun j => decide (parAt C j = some i)) (List.range C.length)
  simpa [chs] using this
theorem chs_mem {C : List Blk} {i j : Nat} : j ∈ chs C i ↔ parAt C j = some i := by
  unfold chs
  rw [List.mem_filter, List.mem_range, decide_eq_true_iff]
  refine ⟨fun h => h.2, fun h => ⟨?_, h⟩⟩
  unfold parAt at h
  cases hx : C[j]? with
  | none => rw [hx] at h; cases h
  | some _ => exact (List.getElem?_eq_some_iff.1 hx).1

theorem chAt_some {C : List Blk} {n : Hash} {i : Nat} (h : chAt C n = some i) : ∃ b, C[i]? = some b ∧ b.p.name = n := by
  obtain ⟨hlt, hp, _⟩ := List.findIdx?_eq_some_iff_getElem.1 h
  exact ⟨_, List.getElem?_eq_getElem hlt, of_decide_eq_true hp⟩
theorem chAt_none {C : List Blk} {n : Hash} (h : chAt C n = none) : ∀ b ∈ C, b.p.name ≠ n := by
  intro b hb
  have := List.findIdx?_eq_none_iff.1 h b hb
  simpa using this
theorem chAt_lt {C : List Blk} {n : Hash} {i : Nat} (h : chAt C n = some i) : i < C.length := by
  obtain ⟨b, hb, _⟩ := chAt_some h
  exact (List.getElem?_eq_some_iff.1 hb).1
/-- a header that was added -/
theorem check_ok {C : List Blk} {h : Hdr} (hc : (chCheck C h).2 = 0) : hdrMay h = true ∧ chAt C (hdName h) = none ∧ (∃ i, chAt C h.parent = some i ∧ epAt C i < h.epoch.toNat) ∧ C.length ≤ 4096 ∧ (chCheck C h).1 = ⟨h.epoch, hdName h⟩ := by
  unfold chCheck at hc ⊢
  split at hc
  · rename_i hm
    rw [if_pos hm]
    refine ⟨hm, ?_⟩
    cases h1 : chAt C (hdName h) with
    | some _ => rw [h1] at hc; simp at hc
    | none =>
      rw [h1] at hc
      cases h2 : chAt C h.parent with
      | none => rw [h2] at hc; simp at hc
      | some i =>
        rw [h2] at hc
        simp only at hc ⊢
        split at hc
        · simp at hc
        · rename_i h3
          rw [if_neg h3]
          split at hc
          · simp at hc
          · rename_i h4
            rw [if_neg h4]
            exact ⟨trivial, ⟨i, rfl, by omega⟩, by omega, rfl⟩
  · simp at hc
theorem chAdd_ok {C : List Blk} (h : ChnOk C) (x : Hdr) : ChnOk (chAdd C x) := by
  unfold chAdd
  split
  · rename_i hc
    obtain ⟨hm, hn, ⟨i, hi, hep⟩, hl, hp⟩ := check_ok hc
    rw [hp, hi]
    have hil := chAt_lt hi
    obtain ⟨c, hc1, hc2⟩ := chAt_some hi
    refine ⟨by simp, by simp; omega, by rw [parAt_old h.pos]; exact h.root, fun k b hb hk => ?_, ?_, fun k b hb hk => ?_⟩
    · by_cases hkl : k < C.length
      · rw [List.getElem?_append_left hkl] at hb
        obtain ⟨j, c, e1, e2, e3, e4, e5⟩ := h.par k b hb hk
        exact ⟨j, c, e1, e2, by rw [List.getElem?_append_left (by omega)]; exact e3, e4, e5⟩
      · have hk' : k = C.length := by
          have := (List.getElem?_eq_some_iff.1 hb).1
          simp at this
          omega
        subst hk'
        rw [List.getElem?_append_right (Nat.le_refl _), Nat.sub_self] at hb
        injection hb with hb
        subst hb
        refine ⟨i, c, rfl, hil, by rw [List.getElem?_append_left hil]; exact hc1, ?_, hc2.symm⟩
        rw [epAt_of hc1] at hep
        exact hep
    · rw [List.map_append, List.nodup_append]
      refine ⟨h.names, by simp, fun a ha b hb => ?_⟩
      simp only [List.map_cons, List.map_nil, List.mem_singleton] at hb
      subst hb
      obtain ⟨y, hy, rfl⟩ := List.mem_map.1 ha
      exact chAt_none hn y hy
    · by_cases hkl : k < C.length
      · rw [List.getElem?_append_left hkl] at hb
        exact h.hdr k b hb hk
      · have hk' : k = C.length := by
          have := (List.getElem?_eq_some_iff.1 hb).1
          simp at this
          omega
        subst hk'
        rw [List.getElem?_append_right (Nat.le_refl _), Nat.sub_self] at hb
        injection hb with hb
        subst hb
        exact ⟨rfl, hm⟩
  · exact h
end Go.Proofs.Ythdjhbiigmcecaa

/- A chain in memory: its box, the list of its blocks' boxes, its map of names, each block's header, ancestors and children. -/
namespace Go.Proofs.Ythdjhbiigmcecaa
open Go.RowKit

def natA (n : Nat) : Array Value := #[.int .i64 (n : Int)]
theorem natA_size (n : Nat) : (natA n).size = 1 := rfl
theorem natA_one (n : Nat) : ∀ u ∈ (natA n).toList, u.oneCell' = true := by simp [natA, Value.oneCell']
abbrev IntsR (w : World) (s : Sl) (l : List Nat) : Prop := SlR 1 (fun cs n => cs = natA n) w s l
/-- what a block keeps in memory: its box, its header, its lists -/
structure GB where
  b : Nat
  g : GHeader
  u : Sl
  c : Sl
def ptrV (b : Nat) : Value := .pointer (some ⟨b, 0, none⟩)
def ptrA (x : GB) : Array Value := #[ptrV x.b]
theorem ptrA_size (x : GB) : (ptrA x).size = 1 := rfl
theorem ptrA_one (x : GB) : ∀ u ∈ (ptrA x).toList, u.oneCell' = true := by simp [ptrA, ptrV, Value.oneCell']
def blkA (p : Pt) (x : GB) : Array Value := pointA p ++ headerA x.g ++ #[x.u.v, x.c.v]
@[simp] theorem blkA_size (p : Pt) (x : GB) : (blkA p x).size = 69 := by simp [blkA]
theorem blkA_pt (p : Pt) (x : GB) : (blkA p x).extract 0 33 = pointA p := by
  simp [blkA, Array.extract_append, ext_self, ext_none]
theorem blkA_name (p : Pt) (x : GB) : (blkA p x).extract 1 33 = hashA p.name := by
  simp [blkA, Array.extract_append, ext_self, ext_none]
theorem blkA_hdr (p : Pt) (x : GB) : (blkA p x).extract 33 67 = headerA x.g := by
  simp [blkA, Array.extract_append, ext_self, ext_none]
theorem blkA_epoch (p : Pt) (x : GB) : (blkA p x)[0]? = some (.int .u64 (p.epoch.toNat : Int)) := by
  simp [blkA, Array.getElem?_append]
theorem blkA_tail (p : Pt) (x : GB) (i : Nat) : (blkA p x)[67 + i]? = #[x.u.v, x.c.v][i]? := by
  rw [blkA, Array.getElem?_append_right (by simp)]
  simp
/-- the map's entries: a name's place -/
def idxs (N : List Hash) : List (Hash × Value) := N.zipIdx.map fun p => (p.1, .int .i64 (p.2 : Int))
theorem idxs_keys (N : List Hash) : (idxs N).map (·.1) = N := by
  simp [idxs, List.map_map, Function.comp_def]
theorem idxs_snoc (N : List Hash) (n : Hash) : idxs (N ++ [n]) = idxs N ++ [(n, .int .i64 (N.length : Int))] := by
  simp [idxs, List.zipIdx_append]
theorem valOf_from (n : Hash) : ∀ (N : List Hash) (k : Nat), valOf ((N.zipIdx k).map fun p => (p.1, Value.int .i64 (p.2 : Int))) n = (N.findIdx? fun m => decide (m = n)).map fun i => .int .i64 ((k + i : Nat) : Int)
  | [], k => rfl
  | m :: N, k => by
    have ih := valOf_from n N (k + 1)
    unfold valOf at ih ⊢
    rw [List.zipIdx_cons, List.map_cons, List.find?_cons, List.findIdx?_cons]
    by_cases h : m = n
    · simp [h]
    · simp only [h, decide_false, Bool.false_eq_true, if_false]
      rw [ih, Option.map_map]
      congr 1
      funext i
      simp only [Function.comp_apply]
      congr 2
      omega
theorem valOf_idxs (C : List Blk) (n : Hash) : valOf (idxs (C.map (·.p.name))) n = (chAt C n).map fun i => .int .i64 (i : Int) := by
  unfold idxs
  rw [valOf_from, chAt, List.findIdx?_map]
  congr 1
  funext i
  rw [Nat.zero_add]

theorem set_ob {W : World} {b : Nat} {cs : Array Value} {t : TypeId} {fr : Nat × Nat} (h : W.heap[b]? = some (.cells cs t fr)) (o : Nat) (u : Value) : ∃ cs' t', (W.setCell ⟨b, o, none⟩ u).heap[b]? = some (.cells cs' t' fr) := by
  simp only [World.setCell, Array.getElem?_modify, if_true, h, Option.map_some]
  exact ⟨_, _, rfl⟩
/-- which blocks may be changed: T tells whose they are (0: nobody's) -/
def Mut (T : Nat → Nat) : Nat → Prop := fun k => T k ≠ 0
structure BlkM (B : Nat) (T : Nat → Nat) (W : World) (i : Nat) (x : GB) (b : Blk) (u c : List Nat) : Prop where
  row : row? W x.b 0 69 = some (blkA b.p x)
  thr : there W x.b 0 69
  ob : ∃ cs t, W.heap[x.b]? = some (.cells cs t (0, 0))
  tb : T x.b = 4 + 2 * i
  hdr : Safe (Mut T) W fun W => HdrR W x.g b.h
  up : Safe (Mut T) W fun W => IntsR W x.u u
  ch : OwnC W B 1 x.c.v c.length (flatC natA c)
  tc : ∀ g, x.c.v.ownBlock = some g → T g = 5 + 2 * i
structure ChM (B : Nat) (T : Nat → Nat) (W : World) (cb : Nat) (sA : Sl) (mb : Nat) (G : List GB) (C : List Blk) (U : List (List Nat)) (ch : Nat → List Nat) (N : List Hash) : Prop where
  row : row? W cb 0 2 = some #[sA.v, .map (some mb)]
  thr : there W cb 0 2
  tcb : T cb = 1
  all : OwnC W B 1 sA.v G.length (flatC ptrA G)
  tall : ∀ g, sA.v.ownBlock = some g → T g = 2
  map : MapHv W mb (idxs N)
  tmap : T mb = 3
  tB : ∀ k, k < W.heap.size → T k ≠ 0 → B ≤ k
  hB : B ≤ W.heap.size
  glen : G.length = C.length
  ulen : U.length = C.length
  blk : ∀ i x b, G[i]? = some x → C[i]? = some b → BlkM B T W i x b (U.getD i []) (ch i)
/-- a chain in memory, of which blocks from B on alone are changed -/
def ChR (B : Nat) (T : Nat → Nat) (W : World) (cb : Nat) (C : List Blk) : Prop := ∃ sA mb G, ChM B T W cb sA mb G C (ups C) (chs C) (C.map (·.p.name))

section
variable {B : Nat} {T : Nat → Nat} {W W' : World} {i : Nat} {x : GB} {b : Blk} {u c : List Nat}
theorem BlkM.lt (h : BlkM B T W i x b u c) : x.b < W.heap.size := lt_of_row h.row
/-- blocks of others are changed -/
theorem BlkM.off (h : BlkM B T W i x b u c) {M : Nat → Prop} (hb : Asd M W W') (h1 : ¬ M x.b) (h2 : ∀ g, x.c.v.ownBlock = some g → ¬ M g) (h3 : ∀ k, k < W.heap.size → M k → T k ≠ 0) : BlkM B T W' i x b u c :=
  have hm : Asd (Mut T) W W' := hb.mono h3
  ⟨hb.row h1 h.row, hb.there h1 h.lt h.thr, h.ob.imp fun _ h => h.imp fun _ h => (hb.block _ (lt_of_row ‹BlkM B T W i x b u c›.row) h1).trans h, h.tb, h.hdr.step hm fun _ _ h => h, h.up.step hm fun _ _ h => h, h.ch.off hb h2, h.tc⟩
theorem BlkM.retag (h : BlkM B T W i x b u c) {T' : Nat → Nat} (hT : ∀ k, k < W.heap.size → T' k = T k) : BlkM B T' W i x b u c :=
  have hm : ∀ k, k < W.heap.size → Mut T' k → Mut T k := fun k hk hh => by unfold Mut at *; rwa [hT k hk] at hh
  ⟨h.row, h.thr, h.ob, (hT _ h.lt).trans h.tb, h.hdr.step (Asd.refl _ _) hm, h.up.step (Asd.refl _ _) hm, h.ch, fun g hg => (hT g (OwnC.lt h.ch g hg).2).trans (h.tc g hg)⟩
end
section
variable {B : Nat} {T : Nat → Nat} {W W' : World} {cb : Nat} {sA : Sl} {mb : Nat} {G : List GB} {C : List Blk} {U : List (List Nat)} {ch : Nat → List Nat} {N : List Hash}
theorem ChM.lt (h : ChM B T W cb sA mb G C U ch N) : cb < W.heap.size := lt_of_row h.row
/-- nothing of the chain's is changed -/
theorem ChM.off (h : ChM B T W cb sA mb G C U ch N) {M : Nat → Prop} (hb : Asd M W W') (hM : ∀ k, k < W.heap.size → M k → T k = 0) (hM' : ∀ P : World → Prop, Safe (Mut T) W P → Safe (Mut T) W' P) (hT : ∀ k, W.heap.size ≤ k → k < W'.heap.size → T k ≠ 0 → B ≤ k) : ChM B T W' cb sA mb G C U ch N := by
  have hn : ∀ k, k < W.heap.size → T k ≠ 0 → ¬ M k := fun k hk ht hm => ht (hM k hk hm)
  refine ⟨hb.row (hn _ h.lt (by rw [h.tcb]; omega)) h.row, hb.there (hn _ h.lt (by rw [h.tcb]; omega)) h.lt h.thr, h.tcb, h.all.off hb fun g hg => hn g (OwnC.lt h.all g hg).2 (by rw [h.tall g hg]; omega), h.tall,
    h.map.of_block (hb.block _ h.map.lt (hn _ h.map.lt (by rw [h.tmap]; omega))), h.tmap, fun k hk ht => ?_, Nat.le_trans h.hB hb.size, h.glen, h.ulen, fun i x b hx hbk => ?_⟩
  · rcases Nat.lt_or_ge k W.heap.size with hlt | hge
    · exact h.tB k hlt ht
    · exact hT k hge hk ht
  · have hk := h.blk i x b hx hbk
    have n1 := hn _ hk.lt (by rw [hk.tb]; omega)
    exact ⟨hb.row n1 hk.row, hb.there n1 hk.lt hk.thr, hk.ob.imp fun _ h => h.imp fun _ h => (hb.block _ hk.lt n1).trans h, hk.tb, hM' _ hk.hdr, hM' _ hk.up, hk.ch.off hb fun g hg => hn g (OwnC.lt hk.ch g hg).2 (by rw [hk.tc g hg]; omega), hk.tc⟩
theorem ChM.keep (h : ChM B T W cb sA mb G C U ch N) (hb : Below W.heap.size W W') : ChM B T W' cb sA mb G C U ch N :=
  h.off (below_fresh hb fun _ => False) (fun _ _ h => h.elim) (fun _ hs => hs.keep hb) fun k hk _ _ => Nat.le_trans h.hB hk
theorem ChM.retag (h : ChM B T W cb sA mb G C U ch N) {T' : Nat → Nat} (hT : ∀ k, k < W.heap.size → T' k = T k) : ChM B T' W cb sA mb G C U ch N :=
  ⟨h.row, h.thr, (hT _ h.lt).trans h.tcb, h.all, fun g hg => (hT g (OwnC.lt h.all g hg).2).trans (h.tall g hg), h.map, (hT _ h.map.lt).trans h.tmap, fun k hk ht => h.tB k hk (by rwa [hT k hk] at ht), h.hB, h.glen, h.ulen, fun i x b hx hb => (h.blk i x b hx hb).retag hT⟩
/-- boxes of unlike blocks are unlike -/
theorem ChM.inj (h : ChM B T W cb sA mb G C U ch N) {i j : Nat} {x y : GB} (hx : G[i]? = some x) (hy : G[j]? = some y) (e : x.b = y.b) : i = j := by
  have hi : i < C.length := by rw [← h.glen]; exact (List.getElem?_eq_some_iff.1 hx).1
  have hj : j < C.length := by rw [← h.glen]; exact (List.getElem?_eq_some_iff.1 hy).1
  have h1 := (h.blk i x _ hx (List.getElem?_eq_getElem hi)).tb
  have h2 := (h.blk j y _ hy (List.getElem?_eq_getElem hj)).tb
  rw [e] at h1
  omega
/-- a child more of block i -/
theorem ChM.child (h : ChM B T W cb sA mb G C U ch N) {i : Nat} {x : GB} (hx : G[i]? = some x) {c' : Sl} {cs : List Nat} {W1 : World} (hg : W.grownBy W1 x.c.v.ownBlock) (ho : OwnC W1 B 1 c'.v cs.length (flatC natA cs))
    (he : c'.v.ownBlock = x.c.v.ownBlock ∨ ∃ k, c'.v.ownBlock = some k ∧ W.heap.size ≤ k) (hW : W' = W1.setCell ⟨x.b, 68, none⟩ c'.v) {T' : Nat → Nat} (hT : ∀ k, k < W.heap.size → T' k = T k) (hT2 : ∀ k, W.heap.size ≤ k → c'.v.ownBlock = some k → T' k = 5 + 2 * i) (hT3 : ∀ k, W.heap.size ≤ k → T' k ≠ 0 → B ≤ k) :
    ChM B T' W' cb sA mb (G.set i { x with c := c' }) C U (fun j => if j = i then cs else ch j) N ∧ Asd (Mut T) W W' := by
  subst hW
  have hi : i < C.length := by rw [← h.glen]; exact (List.getElem?_eq_some_iff.1 hx).1
  have hk := h.blk i x _ hx (List.getElem?_eq_getElem hi)
  have hxl := hk.lt
  have o1 : Asd (fun k => k = x.b ∨ x.c.v.ownBlock = some k) W (W1.setCell ⟨x.b, 68, none⟩ c'.v) :=
    ((asd_grown hg).mono fun k _ hm => .inr hm).trans ((asd_set W1 ⟨x.b, 68, none⟩ c'.v).mono fun k _ hm => .inl hm)
  have hmm : ∀ k, k < W.heap.size → (k = x.b ∨ x.c.v.ownBlock = some k) → T k ≠ 0 ∧ (T k = 4 + 2 * i ∨ T k = 5 + 2 * i) := by
    intro k _ hm
    rcases hm with rfl | hm
    · rw [hk.tb]; omega
    · rw [hk.tc k hm]; omega
  have hO : Asd (Mut T) W (W1.setCell ⟨x.b, 68, none⟩ c'.v) := o1.mono fun k hk hm => (hmm k hk hm).1
  have hsz : W1.heap.size ≤ (W1.setCell ⟨x.b, 68, none⟩ c'.v).heap.size := by simp [World.setCell]
  have hn : ∀ k, k < W.heap.size → T k ≠ 4 + 2 * i → T k ≠ 5 + 2 * i → ¬ (k = x.b ∨ x.c.v.ownBlock = some k) := fun k hkl h1 h2 hm => by
    rcases (hmm k hkl hm).2 with e | e
    · exact h1 e
    · exact h2 e
  have hM' : ∀ P : World → Prop, Safe (Mut T) W P → Safe (Mut T') (W1.setCell ⟨x.b, 68, none⟩ c'.v) P := fun P hs => hs.step hO fun k hk hm => by unfold Mut at *; rwa [hT k hk] at hm
  have hmap := h.map.lt
  refine ⟨⟨o1.row (hn _ h.lt (by rw [h.tcb]; omega) (by rw [h.tcb]; omega)) h.row, o1.there (hn _ h.lt (by rw [h.tcb]; omega) (by rw [h.tcb]; omega)) h.lt h.thr, (hT _ h.lt).trans h.tcb, ?_, fun g hg' => (hT g (OwnC.lt h.all g hg').2).trans (h.tall g hg'),
    h.map.of_block (o1.block _ hmap (hn _ hmap (by rw [h.tmap]; omega) (by rw [h.tmap]; omega))), (hT _ hmap).trans h.tmap, fun k hkl ht => ?_, Nat.le_trans h.hB hO.size, by rw [List.length_set]; exact h.glen, h.ulen, fun j y b hy hb => ?_⟩, hO⟩
  · have ha := h.all.off o1 fun g hg' => hn g (OwnC.lt h.all g hg').2 (by rw [h.tall g hg']; omega) (by rw [h.tall g hg']; omega)
    have e : flatC ptrA (G.set i { x with c := c' }) = flatC ptrA G := by
      unfold flatC
      congr 1
      apply List.ext_getElem?
      intro j
      rw [List.getElem?_map, List.getElem?_map, List.getElem?_set]
      split
      · rename_i hij
        subst hij
        rw [if_pos (List.getElem?_eq_some_iff.1 hx).1, hx]
        rfl
      · rfl
    rw [e, List.length_set]
    exact ha
  · rcases Nat.lt_or_ge k W.heap.size with hlt | hge
    · rw [hT k hlt] at ht
      exact h.tB k hlt ht
    · exact hT3 k hge ht
  · rw [List.getElem?_set] at hy
    by_cases hij : i = j
    · subst hij
      rw [if_pos rfl, if_pos (List.getElem?_eq_some_iff.1 hx).1] at hy
      cases hy
      have hk := h.blk i x b hx hb
      rw [if_pos rfl]
      have hne : ∀ g, c'.v.ownBlock = some g → g ≠ x.b := by
        intro g hg' e
        subst e
        rcases he with he | ⟨k, he, hk2⟩
        · have := hk.tc x.b (he ▸ hg')
          rw [hk.tb] at this
          omega
        · rw [hg'] at he
          injection he with he
          omega
      refine ⟨?_, ?_, ?_, (hT _ hxl).trans hk.tb, hM' _ hk.hdr, hM' _ hk.up, ?_, fun g hg' => ?_⟩
      · have hxr : x.c.v.ownBlock ≠ some x.b := fun e => by
          have := hk.tc x.b e
          rw [hk.tb] at this
          omega
        have r1 : row? W1 x.b 0 69 = some (blkA b.p x) := (asd_grown hg).row hxr hk.row
        rw [row?_set_in _ _ _ _ _ (by omega) (by rw [r1]; rfl), r1, Option.map_some]
        refine congrArg some ?_
        simp only [splice, blkA]
        apply Array.ext'
        simp
      · exact there_set _ _ _ _ _ _ ((asd_grown hg).there (fun e => by
          have := hk.tc x.b e
          rw [hk.tb] at this
          omega) hxl hk.thr)
      · obtain ⟨cs, t, ho⟩ := hk.ob
        have h1 : W1.heap[x.b]? = some (.cells cs t (0, 0)) := ((asd_grown hg).block _ hxl (fun e => by
          have := hk.tc x.b e
          rw [hk.tb] at this
          omega)).trans ho
        exact set_ob h1 _ _
      · exact ho.off (asd_set W1 ⟨x.b, 68, none⟩ c'.v) fun g hg' => hne g hg'
      · rcases he with he | ⟨k, he, hk2⟩
        · have h5 := hk.tc g (he ▸ hg')
          rw [hT g (OwnC.lt hk.ch g (he ▸ hg')).2]
          exact h5
        · have : k = g := by rw [he] at hg'; injection hg'
          subst this
          exact hT2 k hk2 hg'
    · rw [if_neg hij] at hy
      have hk2 := h.blk j y b hy hb
      rw [if_neg (fun e => hij e.symm)]
      have hkt : ∀ k, k < W.heap.size → T k ≠ 0 → T' k = T k := fun k hk _ => hT k hk
      have n1 := hn _ hk2.lt (by rw [hk2.tb]; omega) (by rw [hk2.tb]; omega)
      exact ⟨o1.row n1 hk2.row, o1.there n1 hk2.lt hk2.thr, hk2.ob.imp fun _ h => h.imp fun _ h => (o1.block _ hk2.lt n1).trans h, (hT _ hk2.lt).trans hk2.tb, hM' _ hk2.hdr, hM' _ hk2.up, hk2.ch.off o1 fun g hg' => hn g (OwnC.lt hk2.ch g hg').2 (by rw [hk2.tc g hg']; omega) (by rw [hk2.tc g hg']; omega), fun g hg' => (hT g (OwnC.lt hk2.ch g hg').2).trans (hk2.tc g hg')⟩
end
end Go.Proofs.Ythdjhbiigmcecaa

/- A region that draws its order, reads, writes and makes memory: an invariant that is told by which operations (of some) are done, and by what they yielded. Over any program. -/
namespace Go.Proofs.Ythdjhbiigmcecaa
open Go.RowKit

def updB (L : Nat → Bool) (i : Nat) : Nat → Bool := fun j => if j = i then true else L j
def updV (V : Nat → Value) (i : Nat) (v : Value) : Nat → Value := fun j => if j = i then v else V j
theorem updB_map {L : Nat → Bool} {i : Nat} {ms : List Nat} (h : i ∉ ms) : ms.map (updB L i) = ms.map L :=
  List.map_congr_left fun j hj => if_neg (fun e : j = i => h (e ▸ hj))
theorem updV_map {V : Nat → Value} {i : Nat} {v : Value} {ms : List Nat} (h : i ∉ ms) : ms.map (updV V i v) = ms.map V :=
  List.map_congr_left fun j hj => if_neg (fun e : j = i => h (e ▸ hj))
/-- in the midst of the region: L says which operations are done -/
structure FreeI (n : Nat) (d : Nat → Nat) (F : Nat → Value → Prop) (ms : List Nat) (H : List Bool → List Value → World → Prop) (a0 : Act) (L : Nat → Bool) (a : Act) (w : World) : Prop where
  defers : a.defers = a0.defers
  size : a.tmps.size = a0.tmps.size
  glob : H (ms.map L) (ms.map fun i => sl a (d i)) w
  got : ∀ i, i < n → L i = true → F i (sl a (d i))
  rest : ∀ k, (∀ i, i < n → L i = true → d i ≠ k) → sl a k = sl a0 k
/-- what a step must bring -/
def PostI (o : Oper) (i : Nat) (d : Nat → Nat) (F : Nat → Value → Prop) (ms : List Nat) (H : List Bool → List Value → World → Prop) (L : Nat → Bool) (a : Act) (a' : Act) (w' : World) : Prop :=
  ∃ v, a' = a.put o.dst v ∧ (o.dst = none → v = undef) ∧ F i v ∧ H (ms.map (updB L i)) (ms.map (updV (fun i => sl a (d i)) i v)) w'
theorem wp_region_freeI {P : Program} {id : Nat} {ops : Array Oper} {Q : Exit → Act → World → Prop} {a0 : Act} {W0 : World} (hm : P.follows .mixedOrders = true)
    (d : Nat → Nat) (F : Nat → Value → Prop) (ms : List Nat) (H : List Bool → List Value → World → Prop) (hms : ∀ j ∈ ms, j < ops.size)
    (hop : ∀ i o, ops[i]? = some o → ((o.dst = some (d i) ∧ d i < a0.tmps.size) ∨ (o.dst = none ∧ a0.tmps.size ≤ d i)) ∧ (∀ e ∈ o.after, Region.binds .any e = true → e.on < i) ∧ ∀ k b, o.guard = some (k, b) → k < ops.size ∧ d k < a0.tmps.size)
    (hdist : ∀ i j, i < ops.size → j < ops.size → d i = d j → i = j)
    (las : Nat → List Nat) (hlas : ∀ (L : Nat → Bool), (∀ i o, ops[i]? = some o → L i = true → ∀ e ∈ o.after, Region.binds .any e = true → L e.on = true) → ∀ i, i < ops.size → L i = false → ∀ j ∈ las i, L j = false)
    (h0 : H (ms.map fun _ => false) (ms.map fun i => sl a0 (d i)) W0.drew)
    (hstep : ∀ (i : Nat) (o : Oper), ops[i]? = some o → ∀ L a w, FreeI ops.size d F ms H a0 L a w → L i = false → (∀ j ∈ las i, L j = false) → (∀ e ∈ o.after, Region.binds .any e = true → L e.on = true) →
      (Held o d a → o.wp P a w (PostI o i d F ms H L a) Q) ∧ (¬ Held o d a → F i undef ∧ H (ms.map (updB L i)) (ms.map (updV (fun i => sl a (d i)) i undef)) w))
    (hfin : ∀ a w, FreeI ops.size d F ms H a0 (fun _ => true) a w → Q .normal a w) : (Code.region id ops true).wp P Q a0 W0 := by
  refine wp_region_any hm ?_
  have hdst : ∀ i o, ops[i]? = some o → ∀ a : Act, a.tmps.size = a0.tmps.size → ∀ v, (o.dst = none → v = undef) → (∀ j, j < ops.size → sl (a.put o.dst v) (d j) = updV (fun i => sl a (d i)) i v j) ∧ (a.put o.dst v).tmps.size = a0.tmps.size ∧ (a.put o.dst v).defers = a.defers ∧ ∀ k, d i ≠ k → sl (a.put o.dst v) k = sl a k := by
    intro i o ho a ha v hv
    have hil : i < ops.size := (Array.getElem?_eq_some_iff.1 ho).1
    rcases (hop i o ho).1 with ⟨e, hlt⟩ | ⟨e, hge⟩
    · rw [e]
      refine ⟨fun j hj => ?_, by simp [Act.put, ha], rfl, fun k hk => sl_put_other _ _ _ _ hk⟩
      unfold updV
      by_cases hij : j = i
      · subst hij
        rw [if_pos rfl, sl_put_same _ _ _ (by rw [ha]; exact hlt)]
      · rw [if_neg hij, sl_put_other _ _ _ _ (fun e => hij (hdist i j hil hj e).symm)]
    · rw [e]
      refine ⟨fun j hj => ?_, ha, rfl, fun k _ => rfl⟩
      unfold updV
      by_cases hij : j = i
      · subst hij
        rw [if_pos rfl, hv e]
        show sl a (d j) = undef
        simp only [sl, Array.getD_eq_getD_getElem?]
        rw [Array.getElem?_eq_none (by omega)]
        rfl
      · rw [if_neg hij]
        rfl
  have hmv : ∀ (V V' : Nat → Value), (∀ j, j < ops.size → V j = V' j) → ms.map V = ms.map V' := fun V V' h => List.map_congr_left fun j hj => h j (hms j hj)
  have done : ∀ (listed : Array Bool) (a : Act) (w : World), listed.size = ops.size → FreeI ops.size d F ms H a0 (fun i => listed.getD i false) a w → Region.ready .any ops listed = [] → Q .normal a w := by
    intro listed a w hs hf hr
    have hall : ∀ i, i < ops.size → listed.getD i false = true := by
      intro i
      induction i using Nat.strongRecOn with
      | ind i ih =>
        intro hi
        cases hb : listed.getD i false with
        | true => rfl
        | false =>
          exfalso
          have hmem : i ∈ Region.ready .any ops listed := by
            refine mem_ready.2 ⟨?_, ops[i], Array.getElem?_eq_getElem hi, fun e he hb' => ih e.on ((hop i _ (Array.getElem?_eq_getElem hi)).2.1 e he hb') ?_⟩
            · simpa [Array.getD, hs, hi] using hb
            · exact Nat.lt_trans ((hop i _ (Array.getElem?_eq_getElem hi)).2.1 e he hb') hi
          rw [hr] at hmem
          cases hmem
    refine hfin a w ⟨hf.defers, hf.size, ?_, fun i hi _ => hf.got i hi (hall i hi), fun k hk => hf.rest k fun i hi _ => hk i hi rfl⟩
    have e : (ms.map fun i => listed.getD i false) = ms.map fun _ => true := List.map_congr_left fun j hj => hall j (hms j hj)
    have hg := hf.glob
    rw [e] at hg
    exact hg
  have main : ∀ (fuel : Nat) (listed : Array Bool) (a : Act) (w : World), listed.size = ops.size → (List.range ops.size).countP (fun i => !listed.getD i false) ≤ fuel →
      (∀ i o, ops[i]? = some o → listed.getD i false = true → ∀ e ∈ o.after, Region.binds .any e = true → listed.getD e.on false = true) →
      FreeI ops.size d F ms H a0 (fun i => listed.getD i false) a w → wpAny P .any ops Q fuel listed a w := by
    intro fuel
    induction fuel with
    | zero =>
      intro listed a w hs hc _ hf
      have hr : Region.ready .any ops listed = [] := by
        cases hr : Region.ready .any ops listed with
        | nil => rfl
        | cons x xs =>
          exfalso
          obtain ⟨hx, o, ho, _⟩ := mem_ready.1 (show x ∈ Region.ready .any ops listed by rw [hr]; exact List.mem_cons_self ..)
          have hxl : x < ops.size := (Array.getElem?_eq_some_iff.1 ho).1
          have : 0 < (List.range ops.size).countP (fun i => !listed.getD i false) := List.countP_pos_iff.2 ⟨x, List.mem_range.2 hxl, by simpa [Array.getD, hs, hxl] using hx⟩
          omega
      exact ⟨hr, done listed a w hs hf hr⟩
    | succ fuel ih =>
      intro listed a w hs hc hcl hf
      refine ⟨done listed a w hs hf, fun i hi => ?_⟩
      obtain ⟨hx, o, ho, hdep⟩ := mem_ready.1 hi
      have hil : i < ops.size := (Array.getElem?_eq_some_iff.1 ho).1
      have hxf : listed.getD i false = false := by simpa [Array.getD, hs, hil] using hx
      have hupd : (fun j => (listed.setIfInBounds i true).getD j false) = updB (fun j => listed.getD j false) i := by
        funext j
        unfold updB
        by_cases hij : j = i
        · subst hij
          simp [Array.getD, hs, hil]
        · rw [if_neg hij, getD_set_ne false (fun e => hij e.symm)]
      unfold wpOp
      simp only [ho]
      have hless : (List.range ops.size).countP (fun j => !(listed.setIfInBounds i true).getD j false) ≤ fuel := by
        have hlt' := countP_lt (p := fun j => !(listed.setIfInBounds i true).getD j false) (q := fun j => !listed.getD j false) (List.range ops.size)
          (fun x _ hp => by
            by_cases hxi : i = x
            · subst hxi; simp [Array.getD, hs, hil] at hp
            · simpa [getD_set_ne false hxi] using hp)
          ⟨i, List.mem_range.2 hil, by simpa using hxf, by simp [Array.getD, hs, hil]⟩
        omega
      have putd : ∀ v w', (o.dst = none → v = undef) → F i v → H (ms.map (updB (fun j => listed.getD j false) i)) (ms.map (updV (fun i => sl a (d i)) i v)) w' →
          FreeI ops.size d F ms H a0 (fun j => (listed.setIfInBounds i true).getD j false) (a.put o.dst v) w' := by
        intro v w' hv hF hG
        obtain ⟨h1, h2, h3, h4⟩ := hdst i o ho a hf.size v hv
        rw [hupd]
        refine ⟨h3.trans hf.defers, h2, ?_, fun j hj hLj => ?_, fun k hk => ?_⟩
        · rw [hmv _ _ h1]
          exact hG
        · rw [h1 j hj]
          unfold updV
          by_cases hij : j = i
          · subst hij
            rw [if_pos rfl]
            exact hF
          · rw [if_neg hij]
            exact hf.got j hj (by simpa [updB, hij] using hLj)
        · rw [h4 k (hk i hil (by simp [updB]))]
          exact hf.rest k fun j hj hLj => hk j hj (by
            unfold updB
            split
            · rfl
            · exact hLj)
      have hwt : Region.wanted o (yielded ops a.tmps) = true ↔ Held o d a := by
        unfold Region.wanted Held
        cases hgd : o.guard with
        | none => simp
        | some g =>
          obtain ⟨k, b⟩ := g
          obtain ⟨hk, hks'⟩ := (hop i o ho).2.2 k b hgd
          have hkd : (ops[k]'hk).dst = some (d k) := by
            rcases (hop k _ (Array.getElem?_eq_getElem hk)).1 with h | h
            · exact h.1
            · omega
          have hks : d k < a.tmps.size := by rw [hf.size]; exact hks'
          simp only [yielded, Array.getElem?_eq_getElem hk, Option.bind_some, hkd, Array.getElem?_eq_getElem hks, sl, Array.getD_eq_getD_getElem?, Option.getD_some, beq_iff_eq]
          cases hv : a.tmps[d k] <;> simp
      have hcl' : ∀ j o', ops[j]? = some o' → (listed.setIfInBounds i true).getD j false = true → ∀ e ∈ o'.after, Region.binds .any e = true → (listed.setIfInBounds i true).getD e.on false = true := by
        intro j o' ho' hL e he hb
        have h1 : listed.getD e.on false = true := by
          by_cases hij : i = j
          · subst hij
            rw [ho] at ho'
            injection ho' with ho'
            subst ho'
            exact hdep e he hb
          · rw [getD_set_ne false hij] at hL
            exact hcl j o' ho' hL e he hb
        by_cases hie : i = e.on
        · rw [← hie]
          simp [Array.getD, hs, hil]
        · rw [getD_set_ne false hie]
          exact h1
      have hno := hlas (fun j => listed.getD j false) hcl i hil hxf
      by_cases hheld : Held o d a
      · rw [if_pos (hwt.2 hheld)]
        refine .inl (Oper.wp_mono ?_ ((hstep i o ho _ a w hf hxf hno hdep).1 hheld))
        rintro a' w' ⟨v, rfl, hv, hF, hG⟩
        exact ih _ _ _ (by simpa using hs) hless hcl' (putd v w' hv hF hG)
      · rw [if_neg (fun h => hheld (hwt.1 h))]
        obtain ⟨h1, h2⟩ := (hstep i o ho _ a w hf hxf hno hdep).2 hheld
        exact ih _ _ _ (by simpa using hs) hless hcl' (putd undef w (fun _ => rfl) h1 h2)
  refine main ops.size _ a0 _ (by simp) (by exact Nat.le_trans List.countP_le_length (by simp)) (fun i o ho h => by
    have := (Array.getElem?_eq_some_iff.1 ho).1
    simp [Array.getD, this] at h) ⟨rfl, rfl, ?_, fun i hi h => ?_, fun _ _ => rfl⟩
  · have e : (ms.map fun i => ((Array.replicate ops.size false).getD i false)) = ms.map fun _ => false := List.map_congr_left fun j _ => by
      simp only [Array.getD_eq_getD_getElem?, Array.getElem?_replicate]
      split <;> rfl
    first | exact h0 | (rw [e]; exact h0)
  · simp [Array.getD, hi] at h

/-- the region's shape, asked of the kernel: ds are the operations' slots; for a store a number from N on -/
def regionOkI (ops : Array Oper) (ds : List Nat) (ms : List Nat) (N : Nat) : Bool :=
  decide (ops.size = ds.length) && decide ds.Nodup && (ms.all fun j => decide (j < ops.size)) &&
    (List.range ops.size).all fun i => ((ops[i]?).map fun o => (match o.guard with | none => true | some g => decide (g.1 < ops.size) && decide (ds.getD g.1 0 < N)) && ((o.dst == some (ds.getD i 0) && decide (ds.getD i 0 < N)) || (o.dst == none && decide (N ≤ ds.getD i 0))) && o.after.all fun e => !Region.binds .any e || decide (e.on < i)).getD false
/-- las tells of each operation some that wait for it -/
def lasOk (ops : Array Oper) (las : List (List Nat)) : Bool :=
  (List.range las.length).all fun i => (las.getD i []).all fun j => ((ops[j]?).map fun o => o.after.any fun e => Region.binds .any e && decide (e.on < j) && (e.on == i || (las.getD i []).contains e.on)).getD false
theorem las_listed {ops : Array Oper} {las : List (List Nat)} (h : lasOk ops las = true) (L : Nat → Bool) (hc : ∀ i o, ops[i]? = some o → L i = true → ∀ e ∈ o.after, Region.binds .any e = true → L e.on = true) (i : Nat) (hi : L i = false) :
    ∀ j ∈ las.getD i [], L j = false := by
  intro j
  induction j using Nat.strongRecOn with
  | ind j ih =>
    intro hj
    by_cases hil : i < las.length
    · unfold lasOk at h
      simp only [List.all_eq_true, List.mem_range] at h
      have h1 := h i hil j hj
      cases ho : ops[j]? with
      | none => rw [ho] at h1; simp at h1
      | some o =>
        rw [ho] at h1
        simp only [Option.map_some, Option.getD_some] at h1
        rw [← Array.any_toList, List.any_eq_true] at h1
        obtain ⟨e, he, hb⟩ := h1
        simp only [Bool.and_eq_true, decide_eq_true_eq, Bool.or_eq_true, beq_iff_eq] at hb
        obtain ⟨⟨hb1, hlt⟩, hor⟩ := hb
        cases hL : L j with
        | false => rfl
        | true =>
          have h2 := hc j o ho hL e (Array.mem_toList_iff.1 he) hb1
          rcases hor with hor | hor
          · rw [hor, hi] at h2
            cases h2
          · rw [ih e.on hlt (List.contains_iff_mem.1 hor)] at h2
            cases h2
    · rw [List.getD_eq_getElem?_getD, List.getElem?_eq_none (Nat.le_of_not_lt hil)] at hj
      cases hj
/-- one operation's step -/
def FreeStepI (P : Program) (n : Nat) (d : Nat → Nat) (F : Nat → Value → Prop) (ms : List Nat) (H : List Bool → List Value → World → Prop) (a0 : Act) (Q : Exit → Act → World → Prop) (las : Nat → List Nat) (i : Nat) (o : Oper) : Prop :=
  ∀ L a w, FreeI n d F ms H a0 L a w → L i = false → (∀ j ∈ las i, L j = false) → (∀ e ∈ o.after, Region.binds .any e = true → L e.on = true) →
    (Held o d a → o.wp P a w (PostI o i d F ms H L a) Q) ∧ (¬ Held o d a → F i undef ∧ H (ms.map (updB L i)) (ms.map (updV (fun i => sl a (d i)) i undef)) w)
def FreeStepsI (P : Program) (n : Nat) (d : Nat → Nat) (F : Nat → Value → Prop) (ms : List Nat) (H : List Bool → List Value → World → Prop) (a0 : Act) (Q : Exit → Act → World → Prop) (las : Nat → List Nat) : Nat → List Oper → Prop
  | _, [] => True
  | i, o :: r => FreeStepI P n d F ms H a0 Q las i o ∧ FreeStepsI P n d F ms H a0 Q las (i + 1) r
theorem FreeStepsI.at {P : Program} {n : Nat} {d : Nat → Nat} {F : Nat → Value → Prop} {ms : List Nat} {H : List Bool → List Value → World → Prop} {a0 : Act} {Q : Exit → Act → World → Prop} {las : Nat → List Nat} :
    ∀ (l : List Oper) (k : Nat), FreeStepsI P n d F ms H a0 Q las k l → ∀ i o, l[i]? = some o → FreeStepI P n d F ms H a0 Q las (k + i) o
  | [], _, _, _, _, h => by simp at h
  | o :: r, k, h, 0, o', ho => by
    simp at ho
    subst ho
    exact h.1
  | o :: r, k, h, i + 1, o', ho => by
    have := FreeStepsI.at r (k + 1) h.2 i o' (by simpa using ho)
    rwa [Nat.add_assoc, Nat.add_comm 1 i] at this
/-- slots that lie in the frame -/
def slotsIn (N : Nat) : List Nat → List Value → List (Nat × Value)
  | k :: ks, v :: vs => if k < N then (k, v) :: slotsIn N ks vs else slotsIn N ks vs
  | _, _ => []
theorem slotsIn_mem {N : Nat} : ∀ {ks : List Nat} {vs : List Value} {p : Nat × Value}, p ∈ slotsIn N ks vs → p ∈ ks.zip vs ∧ p.1 < N
  | [], _, _, h => by simp [slotsIn] at h
  | _ :: _, [], _, h => by simp [slotsIn] at h
  | k :: ks, v :: vs, p, h => by
    unfold slotsIn at h
    split at h
    · rcases List.mem_cons.1 h with rfl | h
      · exact ⟨List.mem_cons_self .., by assumption⟩
      · exact ⟨List.mem_cons_of_mem _ (slotsIn_mem h).1, (slotsIn_mem h).2⟩
    · exact ⟨List.mem_cons_of_mem _ (slotsIn_mem h).1, (slotsIn_mem h).2⟩
theorem mem_slotsIn {N : Nat} : ∀ {ks : List Nat} {vs : List Value} {p : Nat × Value}, p ∈ ks.zip vs → p.1 < N → p ∈ slotsIn N ks vs
  | [], _, _, h, _ => by simp at h
  | _ :: _, [], _, h, _ => by simp at h
  | k :: ks, v :: vs, p, h, hp => by
    rw [List.zip_cons_cons] at h
    unfold slotsIn
    rcases List.mem_cons.1 h with rfl | h
    · rw [if_pos hp]
      exact List.mem_cons_self ..
    · split
      · exact List.mem_cons_of_mem _ (mem_slotsIn h hp)
      · exact mem_slotsIn h hp
theorem FreeI.all {n : Nat} {d : Nat → Nat} {F : Nat → Value → Prop} {ms : List Nat} {H : List Bool → List Value → World → Prop} {a0 : Act} {a : Act} {w : World} (h : FreeI n d F ms H a0 (fun _ => true) a w) (hms : ∀ j ∈ ms, j < n) :
    ∃ vs : List Value, vs.length = n ∧ (∀ i (hi : i < vs.length), F i vs[i]) ∧ H (ms.map fun _ => true) (ms.map fun i => vs.getD i undef) w ∧ a = ⟨putL a0.tmps (slotsIn a0.tmps.size ((List.range n).map d) vs), a0.defers⟩ := by
  refine ⟨(List.range n).map fun i => sl a (d i), by simp, fun i hi => by simp at hi ⊢; exact h.got i hi rfl, ?_, ?_⟩
  · have e : (ms.map fun i => ((List.range n).map fun i => sl a (d i)).getD i undef) = ms.map fun i => sl a (d i) := List.map_congr_left fun j hj => by
      simp [List.getD_eq_getElem?_getD, hms j hj]
    rw [e]
    exact h.glob
  · obtain ⟨t, df⟩ := a
    have h1 := h.defers
    simp only at h1
    subst h1
    congr 1
    refine eq_putL t _ _ h.size (fun p hp => ?_) fun k hk => ?_
    · obtain ⟨i, hi, he⟩ := List.getElem_of_mem (slotsIn_mem hp).1
      simp at he
      rw [← he]
      rfl
    · by_cases hkn : k < a0.tmps.size
      · exact h.rest k fun i hi _ e => by
          subst e
          exact hk (d i, sl ⟨t, a0.defers⟩ (d i)) (mem_slotsIn (List.mem_iff_getElem.2 ⟨i, by simpa using hi, by simp⟩) hkn) rfl
      · have hs := h.size
        simp only at hs
        simp only [Array.getD_eq_getD_getElem?]
        rw [Array.getElem?_eq_none (by omega), Array.getElem?_eq_none (by omega)]
theorem wp_region_freeI_l {P : Program} {id : Nat} {ops : List Oper} {Q : Exit → Act → World → Prop} {a0 : Act} {W0 : World} (hm : P.follows .mixedOrders = true)
    (ds : List Nat) (Fs : List (Value → Prop)) (ms : List Nat) (H : List Bool → List Value → World → Prop) (las : List (List Nat)) (hok : regionOkI ops.toArray ds ms a0.tmps.size = true) (hlo : lasOk ops.toArray las = true)
    (h0 : H (ms.map fun _ => false) (ms.map fun i => sl a0 (ds.getD i 0)) W0.drew)
    (hstep : FreeStepsI P ds.length (fun i => ds.getD i 0) (fun i => Fs.getD i fun _ => True) ms H a0 Q (fun i => las.getD i []) 0 ops)
    (hfin : ∀ (vs : List Value) w, vs.length = ds.length → (∀ i (hi : i < vs.length), (Fs.getD i fun _ => True) vs[i]) → H (ms.map fun _ => true) (ms.map fun i => vs.getD i undef) w → Q .normal ⟨putL a0.tmps (slotsIn a0.tmps.size ds vs), a0.defers⟩ w) :
    (Code.region id ops.toArray true).wp P Q a0 W0 := by
  unfold regionOkI at hok
  simp only [Bool.and_eq_true, decide_eq_true_eq, List.all_eq_true, List.mem_range] at hok
  obtain ⟨⟨⟨h1, h2⟩, h3⟩, h4⟩ := hok
  have hn : ops.length = ds.length := by simpa using h1
  have hop : ∀ (i : Nat) (o : Oper), ops.toArray[i]? = some o → ((o.dst = some (ds.getD i 0) ∧ ds.getD i 0 < a0.tmps.size) ∨ (o.dst = none ∧ a0.tmps.size ≤ ds.getD i 0)) ∧ (∀ e ∈ o.after, Region.binds .any e = true → e.on < i) ∧ ∀ k b, o.guard = some (k, b) → k < ops.toArray.size ∧ ds.getD k 0 < a0.tmps.size := by
    intro i o ho
    have hi := (Array.getElem?_eq_some_iff.1 ho).1
    have := h4 i hi
    rw [ho] at this
    simp only [Option.map_some, Option.getD_some, Bool.and_eq_true, Bool.or_eq_true, beq_iff_eq, decide_eq_true_eq, Array.all_eq_true_iff_forall_mem, Bool.not_eq_true'] at this
    refine ⟨this.1.2, fun e he hb => (this.2 e he).resolve_left (by simp [hb]), fun k b hg => ?_⟩
    have h5 := this.1.1
    rw [hg] at h5
    simpa using h5
  have hms : ∀ j ∈ ms, j < ops.toArray.size := fun j hj => by simpa using h3 j hj
  refine wp_region_freeI hm (fun i => ds.getD i 0) (fun i => Fs.getD i fun _ => True) ms H hms hop (fun i j hi hj he => ?_) (fun i => las.getD i []) (fun L hc i _ hi => las_listed hlo L hc i hi) h0 (fun i o ho => ?_) (fun a w hf => ?_)
  · have hi' : i < ds.length := by rw [← hn]; simpa using hi
    have hj' : j < ds.length := by rw [← hn]; simpa using hj
    simp only [List.getD_eq_getElem?_getD, List.getElem?_eq_getElem hi', List.getElem?_eq_getElem hj', Option.getD_some] at he
    exact (List.getElem_inj h2).1 he
  · have := FreeStepsI.at ops 0 hstep i o (by simpa using ho)
    rw [Nat.zero_add] at this
    have e : ops.toArray.size = ds.length := by simpa using hn
    rw [e]
    exact this
  · have e0 : ops.toArray.size = ds.length := by simpa using hn
    rw [e0] at hf
    obtain ⟨vs, hl, hF, hG, rfl⟩ := hf.all (fun j hj => by rw [← e0]; exact hms j hj)
    have := hfin vs w hl hF hG
    have e : (List.range ds.length).map (fun i => ds.getD i 0) = ds := by
      apply List.ext_getElem (by simp)
      intro i h1 h2
      simp [h2]
    rw [e]
    exact this
theorem FreeI.out {ds : List Nat} {F : Nat → Value → Prop} {ms : List Nat} {H : List Bool → List Value → World → Prop} {a0 : Act} {L : Nat → Bool} {a : Act} {w : World} (h : FreeI ds.length (fun i => ds.getD i 0) F ms H a0 L a w) (k : Nat) (hk : k ∉ ds) {v : Value} (hv : sl a0 k = v) : a.tmps[k]?.getD undef = v := by
  refine slv (Eq.trans (h.rest k fun i hi _ e => hk ?_) hv)
  simp only [List.getD_eq_getElem?_getD, List.getElem?_eq_getElem hi, Option.getD_some] at e
  rw [← e]
  exact List.getElem_mem _
/-- an operation that yields a value and leaves the world -/
theorem freeI_run {P : Program} {o : Oper} {a : Act} {W : World} {k i : Nat} {n : Nat} {d : Nat → Nat} {F : Nat → Value → Prop} {ms : List Nat} {H : List Bool → List Value → World → Prop} {a0 : Act} {L : Nat → Bool} {Q : Exit → Act → World → Prop} {v : Value} (ho : o.dst = some k) (hf : FreeI n d F ms H a0 L a W) (hi : i ∉ ms)
    (h : (execOp a.eval o).run P W = .ok (.value v) W) (hF : F i v) : o.wp P a W (PostI o i d F ms H L a) Q := by
  unfold Oper.wp
  rw [h]
  exact ⟨v, rfl, (fun e => by rw [ho] at e; cases e), hF, by rw [updB_map hi, updV_map hi]; exact hf.glob⟩
/-- an operation that yields a value and turns the world -/
theorem freeI_val {P : Program} {o : Oper} {a : Act} {W W' : World} {k i : Nat} {d : Nat → Nat} {F : Nat → Value → Prop} {ms : List Nat} {H : List Bool → List Value → World → Prop} {L : Nat → Bool} {Q : Exit → Act → World → Prop} {v : Value} (ho : o.dst = some k)
    (h : (execOp a.eval o).run P W = .ok (.value v) W') (hF : F i v) (hH : H (ms.map (updB L i)) (ms.map (updV (fun i => sl a (d i)) i v)) W') : o.wp P a W (PostI o i d F ms H L a) Q := by
  unfold Oper.wp
  rw [h]
  exact ⟨v, rfl, (fun e => by rw [ho] at e; cases e), hF, hH⟩
/-- a store -/
theorem freeI_store {P : Program} {o : Oper} {a : Act} {W W' : World} {i : Nat} {d : Nat → Nat} {F : Nat → Value → Prop} {ms : List Nat} {H : List Bool → List Value → World → Prop} {L : Nat → Bool} {Q : Exit → Act → World → Prop} (ho : o.dst = none)
    (h : (execOp a.eval o).run P W = .ok .skip W') (hF : F i undef) (hH : H (ms.map (updB L i)) (ms.map (updV (fun i => sl a (d i)) i undef)) W') : o.wp P a W (PostI o i d F ms H L a) Q := by
  unfold Oper.wp
  rw [h]
  exact ⟨undef, by rw [ho], fun _ => rfl, hF, hH⟩
/-- a call -/
theorem freeI_call {P : Program} {o : Oper} {a : Act} {W : World} {k i : Nat} {d : Nat → Nat} {F : Nat → Value → Prop} {ms : List Nat} {H : List Bool → List Value → World → Prop} {L : Nat → Bool} {Q : Exit → Act → World → Prop} {f : FuncId} {args : Array Value} (ho : o.dst = some k)
    (h : (execOp a.eval o).run P W = .ok (.enter f args) W) (hc : Calls P f args W fun e w' => ∃ v, e = .returned v ∧ F i v ∧ H (ms.map (updB L i)) (ms.map (updV (fun i => sl a (d i)) i v)) w') : o.wp P a W (PostI o i d F ms H L a) Q := by
  unfold Oper.wp
  rw [h]
  refine hc.mono ?_
  rintro e w' ⟨v, rfl, hF, hH⟩
  exact ⟨v, rfl, (fun e => by rw [ho] at e; cases e), hF, hH⟩
theorem vs_litI {ds : List Nat} {Fs : List (Value → Prop)} (vs : List Value) (hl : vs.length = ds.length) (hF : ∀ (i : Nat) (hi : i < vs.length), (Fs.getD i fun _ => True) vs[i]) :
    ∃ g : Nat → Value, vs = (List.range ds.length).map g ∧ ∀ i, i < ds.length → (Fs.getD i fun _ => True) (g i) := by
  refine ⟨fun i => vs.getD i undef, ?_, fun i hi => ?_⟩
  · apply List.ext_getElem (by simpa using hl)
    intro i h1 h2
    simp [h1]
  · have := hF i (by omega)
    simp only [List.getD_eq_getElem?_getD, List.getElem?_eq_getElem (show i < vs.length by omega), Option.getD_some]
    simpa using this
end Go.Proofs.Ythdjhbiigmcecaa

/- A chain, read: there, find. -/
namespace Go.Proofs.Ythdjhbiigmcecaa
open Go.RowKit

theorem int_zero (w : World) : (zeroValue 3).run Try.prog w = .ok (.int .i64 0) w := by
  obtain ⟨i, hi, hz, _⟩ := info_parts (show (Try.prog.info? 3).map (fun i => (i.zero, i.size, i.bytes)) = some (some (.int .i64 0), 1, 8) by kernel_rfl)
  simp [zeroValue, typeInfo, hi, hz]
/-- a chain, as it is read -/
structure ChV (W : World) (cb ab ac mb : Nat) (G : List GB) (C : List Blk) : Prop where
  c0 : W.cell? ⟨cb, 0, none⟩ = some (.slice (some ⟨ab, 0, none⟩) C.length ac)
  c1 : W.cell? ⟨cb, 1, none⟩ = some (.map (some mb))
  le : C.length ≤ ac
  arr : ∀ (i : Nat) (x : GB), G[i]? = some x → W.cell? ⟨ab, i, none⟩ = some (ptrV x.b)
  abl : ab < W.heap.size
  map : MapHv W mb (idxs (C.map (·.p.name)))
  glen : G.length = C.length
  row : ∀ (i : Nat) (x : GB) (b : Blk), G[i]? = some x → C[i]? = some b → row? W x.b 0 69 = some (blkA b.p x)
  ob : ∀ (i : Nat) (x : GB) (b : Blk), G[i]? = some x → C[i]? = some b → ∃ cs t, W.heap[x.b]? = some (.cells cs t (0, 0))
  hdr : ∀ (i : Nat) (x : GB) (b : Blk), G[i]? = some x → C[i]? = some b → HdrR W x.g b.h
  up : ∀ (i : Nat) (x : GB) (b : Blk), G[i]? = some x → C[i]? = some b → IntsR W x.u ((ups C).getD i [])
  ch : ∀ (i : Nat) (x : GB) (b : Blk), G[i]? = some x → C[i]? = some b → IntsR W x.c (chs C i)
  inj : ∀ (i j : Nat) (x y : GB), G[i]? = some x → G[j]? = some y → x.b = y.b → i = j
section
variable {W W' : World} {cb ab ac mb : Nat} {G : List GB} {C : List Blk}
theorem ChV.lt (h : ChV W cb ab ac mb G C) : cb < W.heap.size := lt_of_cell h.c0
theorem ChV.keep (h : ChV W cb ab ac mb G C) (hb : Below W.heap.size W W') : ChV W' cb ab ac mb G C :=
  ⟨(hb.cell (p := ⟨cb, 0, none⟩) h.lt).trans h.c0, (hb.cell (p := ⟨cb, 1, none⟩) h.lt).trans h.c1, h.le, fun i x hx => (hb.cell (p := ⟨ab, i, none⟩) h.abl).trans (h.arr i x hx), Nat.lt_of_lt_of_le h.abl hb.size, h.map.keep hb h.map.lt, h.glen,
    fun i x b hx hb' => (row?_below _ _ _ hb (lt_of_row (h.row i x b hx hb'))).trans (h.row i x b hx hb'), fun i x b hx hb' => (h.ob i x b hx hb').imp fun _ q => q.imp fun _ q => (hb.block _ (lt_of_row (h.row i x b hx hb'))).trans q, fun i x b hx hb' => (h.hdr i x b hx hb').keep' hb, fun i x b hx hb' => SlR.keep (h.up i x b hx hb') hb fun _ _ h => h, fun i x b hx hb' => SlR.keep (h.ch i x b hx hb') hb fun _ _ h => h, h.inj⟩
/-- the box of block i -/
theorem ChV.box (h : ChV W cb ab ac mb G C) {i : Nat} {b : Blk} (hb : C[i]? = some b) : ∃ x, G[i]? = some x := by
  have hi : i < G.length := by rw [h.glen]; exact (List.getElem?_eq_some_iff.1 hb).1
  exact ⟨_, List.getElem?_eq_getElem hi⟩
theorem ChV.cells (h : ChV W cb ab ac mb G C) {i : Nat} {x : GB} {b : Blk} (hx : G[i]? = some x) (hb : C[i]? = some b) :
    W.cell? ⟨x.b, 0, none⟩ = some (.int .u64 (b.p.epoch.toNat : Int)) ∧ W.cell? ⟨x.b, 67, none⟩ = some x.u.v ∧ W.cell? ⟨x.b, 68, none⟩ = some x.c.v ∧ row? W x.b 0 33 = some (pointA b.p) ∧ row? W x.b 1 32 = some (hashA b.p.name) ∧ row? W x.b 33 34 = some (headerA x.g) := by
  have hr := h.row i x b hx hb
  have h0 := cell_of_row? hr 0 (by omega)
  have h1 := cell_of_row? hr 67 (by omega)
  have h2 := cell_of_row? hr 68 (by omega)
  have h3 := row_part hr 0 33 (by omega)
  have h4 := row_part hr 1 32 (by omega)
  have h5 := row_part hr 33 34 (by omega)
  rw [blkA_epoch, Nat.zero_add] at h0
  rw [blkA_tail _ _ 0, Nat.zero_add] at h1
  rw [blkA_tail _ _ 1, Nat.zero_add] at h2
  rw [blkA_pt] at h3
  rw [blkA_name] at h4
  rw [blkA_hdr] at h5
  exact ⟨h0, h1, h2, h3, h4, h5⟩
theorem ChV.look (h : ChV W cb ab ac mb G C) (n : Hash) : (Instr.lookup 116 (.map (some mb)) (.agg (hashA n)) true).run Try.prog W = .ok (.tuple #[.int .i64 (((chAt C n).getD 0 : Nat) : Int), .bool (chAt C n).isSome]) W := by
  have hl := look_hv_ok Try.underlying116 int_zero h.map n
  rw [valOf_idxs] at hl
  refine hl.trans ?_
  cases chAt C n <;> rfl
theorem ChV.look1 (h : ChV W cb ab ac mb G C) (n : Hash) : (Instr.lookup 116 (.map (some mb)) (.agg (hashA n)) false).run Try.prog W = .ok (.int .i64 (((chAt C n).getD 0 : Nat) : Int)) W := by
  have hl := look_hv Try.underlying116 int_zero h.map n
  rw [valOf_idxs] at hl
  refine hl.trans ?_
  cases chAt C n <;> rfl
end
theorem ChM.view {B : Nat} {T : Nat → Nat} {W : World} {cb : Nat} {sA : Sl} {mb : Nat} {G : List GB} {C : List Blk} (h : ChM B T W cb sA mb G C (ups C) (chs C) (C.map (·.p.name))) (hp : 0 < C.length) : ∃ ab, sA.a = some ⟨ab, 0, none⟩ ∧ sA.n = C.length ∧ ChV W cb ab sA.c mb G C := by
  have h0 := cell_of_row? h.row 0 (by omega)
  have h1 := cell_of_row? h.row 1 (by omega)
  simp only [Nat.zero_add] at h0 h1
  obtain ⟨sa, sn, sc⟩ := sA
  have hgl : 0 < G.length := by rw [h.glen]; exact hp
  rcases h.all.2 with ⟨_, hn⟩ | ⟨g, cap, hv, _, hlt, hn, _, hc, _, hx⟩
  · omega
  · injection hv with e1 e2 e3
    subst e1 e2 e3
    refine ⟨g, rfl, h.glen, ?_, h1, by rw [← h.glen]; exact hn, fun i x hxi => ?_, hlt, h.map, h.glen, fun i x b a1 a2 => (h.blk i x b a1 a2).row, fun i x b a1 a2 => (h.blk i x b a1 a2).ob, fun i x b a1 a2 => (h.blk i x b a1 a2).hdr.now, fun i x b a1 a2 => (h.blk i x b a1 a2).up.now,
      fun i x b a1 a2 => rows_of_own natA natA_size (by omega) (h.blk i x b a1 a2).ch, fun i j x y a1 a2 e => h.inj a1 a2 e⟩
    · rw [h.glen] at h0
      exact h0
    · have hi := (List.getElem?_eq_some_iff.1 hxi).1
      have hf := flatC_get ptrA ptrA_size G i 0 hi (by omega)
      rw [(List.getElem?_eq_some_iff.1 hxi).2] at hf
      have := hx (i * 1 + 0) (ptrV x.b) hf
      rw [Nat.mul_one, Nat.add_zero] at this
      exact this
set_option maxRecDepth 100000 in
theorem cthere_c {W : World} {cb ab ac mb : Nat} {G : List GB} {C : List Blk} (h : ChV W cb ab ac mb G C) (hp : 0 < C.length) :
    Calls Try.prog 104 #[ptrV cb] W fun e w' => e = .returned (.bool true) ∧ Below W.heap.size W w' := by
  have c0 := h.c0
  have p0 : (0 : Int) < (C.length : Int) := by omega
  clear h
  unfold ptrV
  go_enter Try.func104, Try.ntmps104
  go_wp2_with fail
  go_ret
  exact ⟨rfl, by (repeat' (first | (with_reducible exact Below.refl _ _) | (with_reducible assumption) | (with_reducible refine bel_trans (by assumption) ?_ ?_) | (with_reducible refine bel_grown (by assumption) ?_ ?_ ?_) | (with_reducible refine Below.alloc ?_ ?_ _) | (with_reducible refine Below.drew ?_) | (with_reducible refine below_drewN ?_ _) | (with_reducible refine Below.setCell ?_ ?_ _) | (with_reducible refine below_put ?_ ?_ _ _) | (with_reducible exact Nat.le_refl _) | omega | (with_reducible refine Nat.le_trans ?_ (Below.size (by assumption))) | (with_reducible refine Nat.le_trans ?_ (World.grownBy.size (by assumption))) | (simp only [World.size_alloc, World.size_setCell, World.size_drew, size_drewN]; omega) | (simp only [World.size_alloc, World.size_setCell, World.size_drew, size_drewN, size_put]; omega) | (intro k hk; simp [Value.ownBlock] at hk; done) | (intro k hk; simp [Value.ownBlock] at hk; omega) | (simp [size_drewN] at *; omega)))⟩
set_option maxRecDepth 100000 in
theorem chfind_some {W : World} {cb ab ac mb : Nat} {G : List GB} {C : List Blk} (h : ChV W cb ab ac mb G C) {n : Hash} {i : Nat} {x : GB} (hi : chAt C n = some i) (hx : G[i]? = some x) :
    Calls Try.prog 105 #[ptrV cb, .agg (hashA n)] W fun e w' => e = .returned (.tuple #[ptrV x.b, .int .i64 0]) ∧ Below W.heap.size W w' := by
  have hlt := chAt_lt hi
  have hp : 0 < C.length := by omega
  have hB0 : Below W.heap.size W (W.alloc (.cells (hashA n) 24)) := bel_a _ _
  have hz0 : (W.alloc (.cells (hashA n) 24)).heap.size = W.heap.size + 1 := by simp
  have hrow0 : row? (W.alloc (.cells (hashA n) 24)) W.heap.size 0 32 = some (hashA n) := by rw [row?_new]; simp
  have h0 := h.keep hB0
  have HT := cthere_c h0 hp
  clear h
  unfold ptrV at HT ⊢
  go_enter Try.func105, Try.ntmps105
  go_upto_region 1 with fail
  generalize W.alloc (.cells (hashA n) 24) = w0 at *
  go_wp2_with fail
  refine HT.mono ?_
  clear HT
  rintro e w1 ⟨rfl, hb1⟩
  have hB1 := hB0.trans (hb1.mono (by omega))
  have h1 := h0.keep hb1
  have hrow1 := (row?_below _ _ _ hb1 (by omega)).trans hrow0
  have hz1 := hb1.size
  have l1 := fun k => show (Instr.lookup 116 (.map (some mb)) (.agg (hashA n)) true).run Try.prog (w1.drewN k) = _ from (h1.keep (below_drewN (Below.refl _ _) k)).look n
  rw [hi] at l1
  simp only [Option.getD_some, Option.isSome_some] at l1
  have c0 := h1.c0
  have c1 := h1.c1
  have ca := h1.arr i x hx
  unfold ptrV at ca
  have i1 : (i : Int) < (C.length : Int) := by omega
  have i0 : (0 : Int) ≤ (i : Int) := by omega
  clear h0 h1 hb1 hB0 hrow0
  go_upto_region 3 with fail
  go_quiet (fail)
  go_wp2_with fail
  go_ret2
  exact ⟨rfl, below_drewN hB1 _⟩
set_option maxRecDepth 100000 in
theorem chfind_none {W : World} {cb ab ac mb : Nat} {G : List GB} {C : List Blk} (h : ChV W cb ab ac mb G C) {n : Hash} (hi : chAt C n = none) (hp : 0 < C.length) :
    Calls Try.prog 105 #[ptrV cb, .agg (hashA n)] W fun e w' => e = .returned (.tuple #[.pointer none, .int .i64 6]) ∧ Below W.heap.size W w' := by
  have hB0 : Below W.heap.size W (W.alloc (.cells (hashA n) 24)) := bel_a _ _
  have hz0 : (W.alloc (.cells (hashA n) 24)).heap.size = W.heap.size + 1 := by simp
  have hrow0 : row? (W.alloc (.cells (hashA n) 24)) W.heap.size 0 32 = some (hashA n) := by rw [row?_new]; simp
  have h0 := h.keep hB0
  have HT := cthere_c h0 hp
  clear h
  unfold ptrV at HT ⊢
  go_enter Try.func105, Try.ntmps105
  go_upto_region 1 with fail
  generalize W.alloc (.cells (hashA n) 24) = w0 at *
  go_wp2_with fail
  refine HT.mono ?_
  clear HT
  rintro e w1 ⟨rfl, hb1⟩
  have hB1 := hB0.trans (hb1.mono (by omega))
  have h1 := h0.keep hb1
  have hrow1 := (row?_below _ _ _ hb1 (by omega)).trans hrow0
  have hz1 := hb1.size
  have l1 := fun k => show (Instr.lookup 116 (.map (some mb)) (.agg (hashA n)) true).run Try.prog (w1.drewN k) = _ from (h1.keep (below_drewN (Below.refl _ _) k)).look n
  rw [hi] at l1
  simp only [Option.getD_none, Option.isSome_none] at l1
  have c0 := h1.c0
  have c1 := h1.c1
  clear h0 h1 hb1 hB0 hrow0
  go_upto_region 3 with fail
  go_quiet (fail)
  go_wp2_with fail
  go_ret2
  exact ⟨rfl, below_drewN hB1 _⟩
end Go.Proofs.Ythdjhbiigmcecaa

/- A chain, read: Len, Anchor, Epoch, Knows, Parent. -/
namespace Go.Proofs.Ythdjhbiigmcecaa
open Go.RowKit

theorem ChV.blt {W : World} {cb ab ac mb : Nat} {G : List GB} {C : List Blk} (h : ChV W cb ab ac mb G C) {i : Nat} {x : GB} {b : Blk} (hx : G[i]? = some x) (hb : C[i]? = some b) : x.b < W.heap.size := lt_of_row (h.row i x b hx hb)
theorem anchor_res : Try.f47.results = #[.cell 2 26] := by kernel_rfl
end Go.Proofs.Ythdjhbiigmcecaa

/- A chain, read: back, Under, At. -/
namespace Go.Proofs.Ythdjhbiigmcecaa
open Go.RowKit

/-- a box's place -/
def boxAt (G : List GB) : Value → Nat
  | .pointer (some a) => (G.findIdx? fun x => decide (x.b = a.block)).getD 0
  | _ => 0
theorem boxAt_of {W : World} {cb ab ac mb : Nat} {G : List GB} {C : List Blk} (h : ChV W cb ab ac mb G C) {i : Nat} {x : GB} (hx : G[i]? = some x) : boxAt G (.pointer (some ⟨x.b, 0, none⟩)) = i := by
  obtain ⟨hi, he⟩ := List.getElem?_eq_some_iff.1 hx
  have : G.findIdx? (fun y => decide (y.b = x.b)) = some i := by
    refine List.findIdx?_eq_some_iff_getElem.2 ⟨hi, by rw [he]; simp, fun j hj => ?_⟩
    have hjl : j < G.length := by omega
    simp only [decide_eq_true_eq, Bool.not_eq_true]
    intro e
    have := h.inj j i _ _ (List.getElem?_eq_getElem hjl) hx e
    omega
  unfold boxAt
  simp only [this, Option.getD_some]
theorem ints_at {W : World} {s : Sl} {l : List Nat} (h : IntsR W s l) (hl : 0 < l.length) : ∃ b off, s = ⟨some ⟨b, off, none⟩, l.length, s.c⟩ ∧ b < W.heap.size ∧ ∀ (i : Nat) (hi : i < l.length), W.cell? ⟨b, off + i, none⟩ = some (.int .i64 ((l[i] : Nat) : Int)) := by
  obtain ⟨b, off, e, hb, hr⟩ := h.at hl
  refine ⟨b, off, e, hb, fun i hi => ?_⟩
  obtain ⟨cs, h1, rfl⟩ := hr i hi
  have := cell_of_row? h1 0 (by omega)
  rw [Nat.mul_one, Nat.add_zero] at this
  rw [this]
  rfl
set_option maxRecDepth 100000 in
set_option maxHeartbeats 1600000 in
theorem back_c {W : World} {cb ab ac mb : Nat} {G : List GB} {C : List Blk} (h : ChV W cb ab ac mb G C) (hok : ChnOk C) (e : UInt64) {i : Nat} {x : GB} (hx : G[i]? = some x) :
    Calls Try.prog 106 #[ptrV cb, ptrV x.b, .int .u64 (e.toNat : Int)] W fun e' w' => ∃ y, G[bk C e.toNat i]? = some y ∧ e' = .returned (ptrV y.b) ∧ Below W.heap.size W w' := by
  have hI := Lib.hid h
  have hO := Lib.hid hok
  have hM := Lib.hid (fun (j : Nat) (y : GB) (hy : G[j]? = some y) => boxAt_of h hy)
  have hgl := h.glen
  have hlen := hok.len
  clear h hok
  unfold ptrV
  go_enter Try.func106, Try.ntmps106
  go_upto_region 1 with fail
  go_step3
  go_wp2_with fail
  go_step3
  go_wp2_with fail
  go_loopw [1] (fun xv W' => ∃ (j : Nat) (y : GB), Hid (G[j]? = some y) ∧ Hid (bk C e.toNat j = bk C e.toNat i) ∧ xv = .pointer (some ⟨y.b, 0, none⟩) ∧ Hid (Below W.heap.size W W')) (fun xv _ => boxAt G xv)
  case atStart => exact ⟨i, x, Lib.hid hx, Lib.hid rfl, rfl, Lib.hid (Below.refl _ _)⟩
  case round =>
    obtain ⟨j, y, hy, hbk, rfl, hB⟩ := hrel
    have hjl : j < C.length := by rw [← hgl]; exact (List.getElem?_eq_some_iff.1 hy.out).1
    obtain ⟨b, hb⟩ : ∃ b, C[j]? = some b := ⟨_, List.getElem?_eq_getElem hjl⟩
    have hV := hI.out.keep hB.out
    obtain ⟨x0, xu, -, -, -, -⟩ := hV.cells hy.out hb
    have hep := epAt_of hb
    obtain ⟨u, hu⟩ : ∃ u, u = (ups C).getD j [] := ⟨_, rfl⟩
    have hul : (ups C)[j]? = some u := by
      rw [hu, List.getD_eq_getElem?_getD]
      have : j < (ups C).length := by rw [ups_length]; exact hjl
      rw [List.getElem?_eq_getElem this]
      rfl
    have hU := hV.up j y b hy.out hb
    rw [← hu] at hU
    have hn := hU.1
    obtain ⟨yb, yg, ⟨ua, un, uc⟩, yc⟩ := y
    simp only at hn x0 xu
    subst hn
    dsimp only [Sl.v] at xu
    have hule := ups_le hO.out hul
    have Hup := Lib.hid (fun (k q : Nat) (hq : u[k]? = some q) => ups_mem hO.out hul hq)
    have Hu0 := Lib.hid (ups_zero hO.out hul)
    have hx0 := Lib.hid x0
    have hep' := Lib.hid hep
    clear hep hul hu
    by_cases hlt : (e.toNat : Int) < (b.p.epoch.toNat : Int)
    · generalize wr = wo at *
      have he1 := Lib.hid (show e.toNat < epAt C j by rw [hep'.out]; omega)
      go_upto_region 3 with fail
      go_loopw [1, 7] (fun p t W' => ∃ k : Int, p = .pointer (some ⟨yb, 0, none⟩) ∧ t = .int .i64 k ∧ -1 ≤ k ∧ k < (u.length : Int) ∧ (u.length = 0 ∨ 0 ≤ k) ∧ Hid (Below wo.heap.size wo W')) (fun _ t _ => (intOf t + 1).toNat)
      case atStart => exact ⟨(u.length : Int) - 1, rfl, by go_num, by omega, by omega, by omega, Lib.hid (Below.refl _ _)⟩
      case round =>
        obtain ⟨k, rfl, rfl, k1, k2, k3, hB2⟩ := hrel
        have hBw := Lib.hid (hB.out.trans (hB2.out.mono hB.out.size))
        by_cases hk : 0 ≤ k
        · obtain ⟨n, rfl⟩ : ∃ n : Nat, k = (n : Int) := ⟨k.toNat, by omega⟩
          have hnl : n < u.length := by omega
          obtain ⟨bu, ou, e1, hbu, hcu⟩ := ints_at (SlR.keep hU hB2.out fun _ _ h => h) (by omega)
          have e2 := congrArg Sl.a e1
          simp only at e2
          subst e2
          clear e1
          have hcq := hcu n hnl
          clear hcu
          have hq := List.getElem?_eq_getElem hnl
          generalize u[n] = q at *
          obtain ⟨hqm, hqj⟩ := Hup.out n q hq
          have hql : q < C.length := by omega
          obtain ⟨bq, hbq⟩ : ∃ b, C[q]? = some b := ⟨_, List.getElem?_eq_getElem hql⟩
          have hV2 := hV.keep hB2.out
          obtain ⟨yq, hyq⟩ := hV2.box hbq
          obtain ⟨q0, -, -, -, -, -⟩ := hV2.cells hyq hbq
          have c0 := hV2.c0
          have ca := hV2.arr q yq hyq
          unfold ptrV at ca
          have hmq := Lib.hid (hM.out q yq hyq)
          have hmj := Lib.hid (hM.out j _ hy.out)
          have heq := epAt_of hbq
          have xu2 := (hB2.out.cell (p := ⟨yb, 67, none⟩) (lt_of_cell xu)).trans xu
          have q1 : (q : Int) < (C.length : Int) := by omega
          have q2 : (0 : Int) ≤ (q : Int) := by omega
          have n1 : (n : Int) < (u.length : Int) := by omega
          have f1 := fun m => show (wr.drewN m).cell? ⟨cb, 0, none⟩ = _ from c0
          have f2 := fun m => show (wr.drewN m).cell? ⟨yb, 67, none⟩ = _ from xu2
          have f3 := fun m => show (wr.drewN m).cell? ⟨bu, ou + n, none⟩ = _ from hcq
          have f4 := fun m => show (wr.drewN m).cell? ⟨ab, q, none⟩ = _ from ca
          have hyq' := Lib.hid hyq
          have hskip := Lib.hid (fun (hh : e.toNat < epAt C q) => bk_skip hO.out hh j hqm)
          have hpar := Lib.hid (fun (hh : parAt C j = some q) => bk_par hO.out hh he1.out)
          have hz : n = 0 → parAt C j = some q := fun hn => by rw [← Hu0.out, ← hn]; exact hq
          have hz := Lib.hid hz
          have hB2' := Lib.hid hB2.out
          clear hV2 hyq hq hqm hcq c0 ca xu2 hB2 x0 xu
          go_upto_region 5 with fail
          go_quiet (fail)
          have q0' : (wr.drewN nq).cell? ⟨yq.b, 0, none⟩ = some (.int .u64 (bq.p.epoch.toNat : Int)) := q0
          clear q0 f1 f2 f3 f4
          have hBn := Lib.hid (below_drewN hBw.out nq)
          have hB2n := Lib.hid (below_drewN hB2'.out nq)
          generalize wr.drewN nq = w2 at *
          by_cases hgt : (e.toNat : Int) < (bq.p.epoch.toNat : Int)
          · have hnew := Lib.hid (show bk C e.toNat q = bk C e.toNat i from (hskip.out (by rw [heq]; omega)).symm.trans hbk.out)
            go_wp2_with fail
            exact ⟨⟨q, yq, hyq', hnew, rfl, hBn⟩, by rw [hmq.out]; exact Nat.lt_of_lt_of_eq hqj hmj.out.symm⟩
          · by_cases hn0 : n = 0
            · have hnew := Lib.hid (show bk C e.toNat q = bk C e.toNat i from (hpar.out (hz.out hn0)).symm.trans hbk.out)
              subst hn0
              go_wp2_with fail
              exact ⟨⟨q, yq, hyq', hnew, rfl, hBn⟩, by rw [hmq.out]; exact Nat.lt_of_lt_of_eq hqj hmj.out.symm⟩
            · have hn1 : ¬ ((n : Int) = 0) := by omega
              go_wp2_with fail
              exact ⟨⟨(n : Int) - 1, rfl, rfl, by omega, by omega, by omega, hB2n⟩, by first | (simp [intOf]; done) | (simp [intOf]; omega)⟩
        · have hul0 : u.length = 0 := by omega
          have hnone : parAt C j = none := by rw [← Hu0.out]; exact List.getElem?_eq_none (by omega)
          have hr := Lib.hid (show bk C e.toNat i = j from hbk.out.symm.trans (bk_root hnone))
          clear hnone
          go_wp2_with fail
          go_ret
          exact ⟨_, by rw [hr.out]; exact hy.out, rfl, hBw.out⟩
    · have hr := Lib.hid (show bk C e.toNat i = j from hbk.out.symm.trans (bk_le (by rw [hep'.out]; omega)))
      go_wp2_with fail
      go_ret
      exact ⟨_, by rw [hr.out]; exact hy.out, rfl, hB.out⟩
theorem chfind_any {W0 : World} {cb ab ac mb : Nat} {G : List GB} {C : List Blk} (h0 : ChV W0 cb ab ac mb G C) (hp : 0 < C.length) (n : Hash) : ∃ (v : Value) (k : Int), (k = 0 → ∃ i x, chAt C n = some i ∧ G[i]? = some x ∧ v = ptrV x.b) ∧ (k ≠ 0 → chAt C n = none ∧ v = .pointer none ∧ k = 6) ∧
    ∀ W, ChV W cb ab ac mb G C → Calls Try.prog 105 #[ptrV cb, .agg (hashA n)] W fun e w' => e = .returned (.tuple #[v, .int .i64 k]) ∧ Below W.heap.size W w' := by
  cases hi : chAt C n with
  | none => exact ⟨.pointer none, 6, fun h => by omega, fun _ => ⟨rfl, rfl, rfl⟩, fun W h => chfind_none h hi hp⟩
  | some i =>
    obtain ⟨b, hb, -⟩ := chAt_some hi
    obtain ⟨x, hx⟩ := h0.box hb
    exact ⟨ptrV x.b, 0, fun _ => ⟨i, x, rfl, hx, rfl⟩, fun h => absurd rfl h, fun W h => chfind_some h hi hx⟩
def chAtE (C : List Blk) (n : Hash) (e : UInt64) : Pt × Int :=
  match chAt C n with
  | none => (zeroPt, 6)
  | some i => if e.toNat < epAt C 0 then (zeroPt, 6) else (((C[bk C e.toNat i]?).map (·.p)).getD zeroPt, 0)
theorem chat_res : Try.f48.results = #[.cell 6 26, .tmp 7] := by kernel_rfl
set_option maxRecDepth 100000 in
set_option maxHeartbeats 1600000 in
theorem chat_c {W : World} {cb ab ac mb : Nat} {G : List GB} {C : List Blk} (h : ChV W cb ab ac mb G C) (hok : ChnOk C) (n : Hash) (e : UInt64) :
    Calls Try.prog 48 #[ptrV cb, .agg (hashA n), .int .u64 (e.toNat : Int)] W fun r w' => r = .returned (.tuple #[.agg (pointA (chAtE C n e).1), .int .i64 (chAtE C n e).2]) ∧ Below W.heap.size W w' := by
  have hp := hok.pos
  have hB0 : Below W.heap.size W ((W.alloc (.cells (hashA n) 24)).alloc (.cells (pointA zeroPt) 26)) := by (repeat' (first | (with_reducible exact Below.refl _ _) | (with_reducible assumption) | (with_reducible refine bel_trans (by assumption) ?_ ?_) | (with_reducible refine bel_grown (by assumption) ?_ ?_ ?_) | (with_reducible refine Below.alloc ?_ ?_ _) | (with_reducible refine Below.drew ?_) | (with_reducible refine below_drewN ?_ _) | (with_reducible refine Below.setCell ?_ ?_ _) | (with_reducible refine below_put ?_ ?_ _ _) | (with_reducible exact Nat.le_refl _) | omega | (with_reducible refine Nat.le_trans ?_ (Below.size (by assumption))) | (with_reducible refine Nat.le_trans ?_ (World.grownBy.size (by assumption))) | (simp only [World.size_alloc, World.size_setCell, World.size_drew, size_drewN]; omega) | (simp only [World.size_alloc, World.size_setCell, World.size_drew, size_drewN, size_put]; omega) | (intro k hk; simp [Value.ownBlock] at hk; done) | (intro k hk; simp [Value.ownBlock] at hk; omega) | (simp [size_drewN] at *; omega)))
  have hz0 : ((W.alloc (.cells (hashA n) 24)).alloc (.cells (pointA zeroPt) 26)).heap.size = W.heap.size + 2 := by simp
  have hrow0 : row? ((W.alloc (.cells (hashA n) 24)).alloc (.cells (pointA zeroPt) 26)) W.heap.size 0 32 = some (hashA n) := by rw [row?_old _ _ _ _ _ (by simp), row?_new]; simp
  have hrow1 : row? ((W.alloc (.cells (hashA n) 24)).alloc (.cells (pointA zeroPt) 26)) (W.heap.size + 1) 0 33 = some (pointA zeroPt) := by rw [row?_new_at _ _ _ _ _ _ (by simp)]; simp
  have hth : there ((W.alloc (.cells (hashA n) 24)).alloc (.cells (pointA zeroPt) 26)) (W.heap.size + 1) 0 33 := there_new_at _ _ _ _ _ _ (by simp) (by simp)
  have h0 := Lib.hid (h.keep hB0)
  have hbl := Lib.hid (fun (i : Nat) (x : GB) (b : Blk) (hx : G[i]? = some x) (hb : C[i]? = some b) => h.blt hx hb)
  clear h
  obtain ⟨p, k, hpk⟩ : ∃ p k, (p, k) = chAtE C n e := ⟨_, _, rfl⟩
  rw [← hpk]
  replace hpk := Lib.hid hpk
  obtain ⟨v1, k1, s1, t1, HF1⟩ := chfind_any h0.out hp n
  unfold ptrV
  go_enter Try.func48, Try.ntmps48
  go_upto_region 1 with fail
  generalize (W.alloc (.cells (hashA n) 24)).alloc (.cells (pointA zeroPt) 26) = w0 at *
  have HF1 := HF1 w0 h0.out
  unfold ptrV at HF1
  go_wp2_with fail
  refine HF1.mono ?_
  clear HF1
  rintro r w1 ⟨rfl, hb1⟩
  have hz1 := hb1.size
  have h1 := Lib.hid (h0.out.keep hb1)
  have hB1 := hB0.trans (hb1.mono (by omega))
  have hrow11 := (row?_below _ _ _ hb1 (by omega)).trans hrow1
  have hth1 := there_below hb1 (by omega) hth
  obtain ⟨b2, hb2⟩ : ∃ b2, b2 = W.heap.size + 1 := ⟨_, rfl⟩
  rw [← hb2] at hrow11 hth1 ⊢
  have hbw : W.heap.size < b2 := by omega
  have hbw1 : b2 < w1.heap.size := by omega
  clear hB0 hb1 hrow0 hrow1 h0 hth
  replace hb2 := Lib.hid hb2
  by_cases e1 : k1 = 0
  · obtain ⟨i, x, hi, hx, rfl⟩ := s1 e1
    subst e1
    clear s1 t1
    unfold ptrV
    obtain ⟨b0, hb0⟩ : ∃ b, C[0]? = some b := ⟨_, List.getElem?_eq_getElem hp⟩
    obtain ⟨x0, hx0⟩ := h1.out.box hb0
    obtain ⟨y0, -, -, -, -, -⟩ := h1.out.cells hx0 hb0
    have c0 := h1.out.c0
    have ca := h1.out.arr 0 x0 hx0
    unfold ptrV at ca
    have p0 : (0 : Int) < (C.length : Int) := by omega
    have hE : chAtE C n e = if e.toNat < epAt C 0 then (zeroPt, 6) else (((C[bk C e.toNat i]?).map (·.p)).getD zeroPt, 0) := by unfold chAtE; rw [hi]
    rw [epAt_of hb0] at hE
    by_cases hlt : (e.toNat : Int) < (b0.p.epoch.toNat : Int)
    · rw [if_pos (by omega)] at hE
      rw [hE] at hpk
      obtain ⟨rfl, rfl⟩ : p = zeroPt ∧ k = 6 := by
        have := hpk.out
        injection this with a b
        exact ⟨a, b⟩
      clear hpk hE h1 hi hx
      go_wp2_with (with_reducible refine ret_row2 Try.isAgg26 Try.sizeOf26 chat_res (x := .pointer (some ⟨b2, 0, none⟩)) (y := .int .i64 6) (b2) 0 ?rrhx (Eq.refl _) ?rrhy ?rrh ?rrhd ?rrhR; (case rrhx => simp only [Array.getD_eq_getD_getElem?, List.getElem?_toArray, List.getElem?_cons_succ, List.getElem?_cons_zero, Option.getD_some]); (case rrhy => simp only [Array.getD_eq_getD_getElem?, List.getElem?_toArray, List.getElem?_cons_succ, List.getElem?_cons_zero, Option.getD_some]); (case rrhd => exact rfl); (case rrh => go_simp); (case rrhR => ((refine ⟨?_, ?_⟩; (case refine_1 => (go_simp; done)); (case refine_2 => ((repeat' (first | (with_reducible exact Below.refl _ _) | (with_reducible assumption) | (with_reducible refine bel_trans (by assumption) ?_ ?_) | (with_reducible refine bel_grown (by assumption) ?_ ?_ ?_) | (with_reducible refine Below.alloc ?_ ?_ _) | (with_reducible refine Below.drew ?_) | (with_reducible refine below_drewN ?_ _) | (with_reducible refine Below.setCell ?_ ?_ _) | (with_reducible refine below_put ?_ ?_ _ _) | (with_reducible exact Nat.le_refl _) | omega | (with_reducible refine Nat.le_trans ?_ (Below.size (by assumption))) | (with_reducible refine Nat.le_trans ?_ (World.grownBy.size (by assumption))) | (simp only [World.size_alloc, World.size_setCell, World.size_drew, size_drewN]; omega) | (simp only [World.size_alloc, World.size_setCell, World.size_drew, size_drewN, size_put]; omega) | (intro k hk; simp [Value.ownBlock] at hk; done) | (intro k hk; simp [Value.ownBlock] at hk; omega) | (simp [size_drewN] at *; omega)))))))))
    · rw [if_neg (by omega)] at hE
      obtain ⟨bm, hbm⟩ : ∃ bm, C[bk C e.toNat i]? = some bm := by
        have := pth_lt (chAt_lt hi) (bk_mem (C := C) e.toNat i)
        exact ⟨_, List.getElem?_eq_getElem this⟩
      rw [hbm] at hE
      rw [hE] at hpk
      obtain ⟨rfl, rfl⟩ : p = bm.p ∧ k = 0 := by
        have := hpk.out
        injection this with a b
        exact ⟨a, b⟩
      have HB := back_c h1.out hok e hx
      have h1' := h1
      unfold ptrV at HB
      clear hpk hE hi hx h1
      go_wp2_with fail
      refine HB.mono ?_
      clear HB
      rintro r w3 ⟨z, hz, rfl, hb3⟩
      have hB3 := hB1.trans (hb3.mono (by omega))
      obtain ⟨-, -, -, rp, -, -⟩ := (h1'.out.keep hb3).cells hz hbm
      have hrow13 := (row?_below _ _ _ hb3 hbw1).trans hrow11
      have hth3 := there_below hb3 hbw1 hth1
      have hne : z.b ≠ b2 := by
        have := hbl.out _ _ _ hz hbm
        omega
      have hBp : Below W.heap.size W (putRow w3 b2 0 (pointA bm.p)) := below_put hB3 (by omega) _ _
      clear hb3 hB1 h1' hz hbm c0 ca y0
      go_wp2_with (with_reducible refine ret_row2 Try.isAgg26 Try.sizeOf26 chat_res (x := .pointer (some ⟨b2, 0, none⟩)) (y := .int .i64 0) (b2) 0 ?rrhx (Eq.refl _) ?rrhy ?rrh ?rrhd ?rrhR; (case rrhx => simp only [Array.getD_eq_getD_getElem?, List.getElem?_toArray, List.getElem?_cons_succ, List.getElem?_cons_zero, Option.getD_some]); (case rrhy => simp only [Array.getD_eq_getD_getElem?, List.getElem?_toArray, List.getElem?_cons_succ, List.getElem?_cons_zero, Option.getD_some]); (case rrhd => exact rfl); (case rrh => go_simp); (case rrhR => ((refine ⟨?_, ?_⟩; (case refine_1 => (go_simp; done)); (case refine_2 => (first | exact hBp | ((repeat' (first | (with_reducible exact Below.refl _ _) | (with_reducible assumption) | (with_reducible refine bel_trans (by assumption) ?_ ?_) | (with_reducible refine bel_grown (by assumption) ?_ ?_ ?_) | (with_reducible refine Below.alloc ?_ ?_ _) | (with_reducible refine Below.drew ?_) | (with_reducible refine below_drewN ?_ _) | (with_reducible refine Below.setCell ?_ ?_ _) | (with_reducible refine below_put ?_ ?_ _ _) | (with_reducible exact Nat.le_refl _) | omega | (with_reducible refine Nat.le_trans ?_ (Below.size (by assumption))) | (with_reducible refine Nat.le_trans ?_ (World.grownBy.size (by assumption))) | (simp only [World.size_alloc, World.size_setCell, World.size_drew, size_drewN]; omega) | (simp only [World.size_alloc, World.size_setCell, World.size_drew, size_drewN, size_put]; omega) | (intro k hk; simp [Value.ownBlock] at hk; done) | (intro k hk; simp [Value.ownBlock] at hk; omega) | (simp [size_drewN] at *; omega))))))))))
  · obtain ⟨hi, rfl, rfl⟩ := t1 e1
    have hE : chAtE C n e = (zeroPt, 6) := by unfold chAtE; rw [hi]
    rw [hE] at hpk
    obtain ⟨rfl, rfl⟩ : p = zeroPt ∧ k = 6 := by
      have := hpk.out
      injection this with a b
      exact ⟨a, b⟩
    clear hE hpk h1 s1 t1
    go_wp2_with (with_reducible refine ret_row2 Try.isAgg26 Try.sizeOf26 chat_res (x := .pointer (some ⟨b2, 0, none⟩)) (y := .int .i64 6) (b2) 0 ?rrhx (Eq.refl _) ?rrhy ?rrh ?rrhd ?rrhR; (case rrhx => simp only [Array.getD_eq_getD_getElem?, List.getElem?_toArray, List.getElem?_cons_succ, List.getElem?_cons_zero, Option.getD_some]); (case rrhy => simp only [Array.getD_eq_getD_getElem?, List.getElem?_toArray, List.getElem?_cons_succ, List.getElem?_cons_zero, Option.getD_some]); (case rrhd => exact rfl); (case rrh => go_simp); (case rrhR => ((refine ⟨?_, ?_⟩; (case refine_1 => (go_simp; done)); (case refine_2 => ((repeat' (first | (with_reducible exact Below.refl _ _) | (with_reducible assumption) | (with_reducible refine bel_trans (by assumption) ?_ ?_) | (with_reducible refine bel_grown (by assumption) ?_ ?_ ?_) | (with_reducible refine Below.alloc ?_ ?_ _) | (with_reducible refine Below.drew ?_) | (with_reducible refine below_drewN ?_ _) | (with_reducible refine Below.setCell ?_ ?_ _) | (with_reducible refine below_put ?_ ?_ _ _) | (with_reducible exact Nat.le_refl _) | omega | (with_reducible refine Nat.le_trans ?_ (Below.size (by assumption))) | (with_reducible refine Nat.le_trans ?_ (World.grownBy.size (by assumption))) | (simp only [World.size_alloc, World.size_setCell, World.size_drew, size_drewN]; omega) | (simp only [World.size_alloc, World.size_setCell, World.size_drew, size_drewN, size_put]; omega) | (intro k hk; simp [Value.ownBlock] at hk; done) | (intro k hk; simp [Value.ownBlock] at hk; omega) | (simp [size_drewN] at *; omega)))))))))
end Go.Proofs.Ythdjhbiigmcecaa
