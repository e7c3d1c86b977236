/- Texts of this proof, one behind the other: MapHs, Anc, AncM, AncF, AncR, Much, Known11, OpenA. -/
import Derived.Test.YtkocpihfdpahpaaQA
import Derived.DeepKeys3
import Derived.WideKeyRuns
import Derived.Test.YtkocpihfdpahpaaRB
import Derived.Test.YtkocpihfdpahpaaQB
import Derived.Carry
import Derived.Deep.QuietTactic
import Derived.BigQuiet
import Derived.Deep.CutRange
import Derived.Test.YtkocpihfdpahpaaQL
set_option linter.unusedVariables false
set_option linter.unusedSimpArgs false
/- Maps from keys to struct{is bool}{true}: lookup, store. -/
namespace Go.Proofs.Ytkocpihfdpahpaa
open Go.RowKit

/-- {true} -/
def yes : Value := .agg #[.bool true]
def hsV (p : Hash) : Value := .agg (hashA p)
/-- block b is a map that has these, each once -/
def MapHs (w : World) (b : Nat) (ks : List Hash) : Prop := ∃ es clock, w.heap[b]? = some (.map es clock) ∧ es.toList.map (fun e => (e.key, e.val)) = ks.map (fun p => (hsV p, yes)) ∧ ks.Nodup ∧ (es.toList.map (·.born)).Nodup ∧ ∀ e ∈ es.toList, e.born < clock
theorem MapHs.lt {w : World} {b : Nat} {ks : List Hash} (h : MapHs w b ks) : b < w.heap.size := by
  obtain ⟨es, clock, hb, _⟩ := h
  exact (Array.getElem?_eq_some_iff.1 hb).1
theorem MapHs.of_block {w w' : World} {b : Nat} {ks : List Hash} (h : MapHs w b ks) (hb : w'.heap[b]? = w.heap[b]?) : MapHs w' b ks := by
  obtain ⟨es, clock, h1, r⟩ := h
  exact ⟨es, clock, hb.trans h1, r⟩
theorem MapHs.keep {B : Nat} {w w' : World} {b : Nat} {ks : List Hash} (h : MapHs w b ks) (hb : Below B w w') (hl : b < B) : MapHs w' b ks := h.of_block (hb.block b hl)
theorem MapHs.new (w : World) : MapHs (w.alloc (.map #[] 0)) w.heap.size [] := ⟨#[], 0, (MapKept.heap_alloc w _).1, rfl, List.nodup_nil, by simp, by simp⟩

theorem eqv_hsh (w : World) (p q : Hash) : (Op.equal 24 (hsV p) (hsV q)).run Try.prog w = .ok (decide (p = q)) w := eq_hash w p q
theorem find_hs (w : World) (p : Hash) : ∀ (es : List MapEntry) (ks : List Hash) (i : Nat), es.map (fun e => (e.key, e.val)) = ks.map (fun p => (hsV p, yes)) →
    (p ∉ ks ∧ (Instr.findAsking 24 (hsV p) es i).run Try.prog w = .ok none w) ∨ (∃ j, ks[j]? = some p ∧ (Instr.findAsking 24 (hsV p) es i).run Try.prog w = .ok (some (i + j, yes)) w)
  | [], [], i, _ => .inl ⟨by simp, by simp [Instr.findAsking]⟩
  | [], _ :: _, _, h => by simp at h
  | _ :: _, [], _, h => by simp at h
  | e :: es, q :: ks, i, h => by
    simp only [List.map_cons, List.cons.injEq, Prod.mk.injEq] at h
    obtain ⟨⟨h1, h2⟩, h3⟩ := h
    have he := eqv_hsh w p q
    by_cases hpq : p = q
    · right
      refine ⟨0, by simp [hpq], ?_⟩
      rw [hpq] at he ⊢
      simp [Instr.findAsking, h1, he, h2]
    · rcases find_hs w p es ks (i + 1) h3 with ⟨a, b⟩ | ⟨j, a, b⟩
      · left
        exact ⟨by simp [hpq, a], by simp [Instr.findAsking, h1, he, hpq, b]⟩
      · right
        exact ⟨j + 1, by simpa using a, by simp [Instr.findAsking, h1, he, hpq, b, Nat.add_assoc, Nat.add_comm 1 j]⟩
theorem findKey_hs (w : World) (p : Hash) (es : List MapEntry) (ks : List Hash) (h : es.map (fun e => (e.key, e.val)) = ks.map (fun p => (hsV p, yes))) :
    (p ∉ ks ∧ (Instr.findKey 24 (hsV p) es).run Try.prog w = .ok none w) ∨ (∃ j, ks[j]? = some p ∧ (Instr.findKey 24 (hsV p) es).run Try.prog w = .ok (some (j, yes)) w) := by
  rw [run_findKey_eq (P := Try.prog) w (k := 24) (by rw [Try.underlying24])]
  have := find_hs w p es ks 0 h
  simpa using this

theorem key_plain {P : Program} {t : TypeId} {k : IntKind} (n : Nat) (e : Bool) (x : Int) (ht : P.underlying t = some (.int k)) (w : World) : (Instr.checkKey e (n + 1) t (.int k x)).run P w = .ok () w := by
  simp [Instr.checkKey, run_underlying ht]
theorem forIn_ok {P : Program} {α : Type} (w : World) (f : α → PUnit → Sem (ForInStep PUnit)) : ∀ (l : List α), (∀ a ∈ l, (f a ⟨⟩).run P w = .ok (.yield ⟨⟩) w) → (forIn l PUnit.unit f).run P w = .ok ⟨⟩ w
  | [], _ => by simp
  | a :: l, h => by
    rw [List.forIn_cons]
    simp only [Sem.run_bind, h a (by simp), Result.andThen_ok]
    exact forIn_ok w f l (fun b hb => h b (by simp [hb]))
theorem forIn_ok' {P : Program} {α : Type} (w : World) (f : α → PUnit → Sem (ForInStep PUnit)) (l : List α) (h : ∀ a ∈ l, (f a ⟨⟩).run P w = .ok (.yield ⟨⟩) w) : (((forIn l PUnit.unit f).run P w).andThen fun _ w' => Sem.run P (pure ()) w') = .ok () w := by
  rw [forIn_ok w f l h]; simp
theorem key_hash {P : Program} {t e : TypeId} (n : Nat) (em : Bool) (h : Hash) (ht : P.underlying t = some (.array 32 e)) (he : P.underlying e = some (.int .u8)) (hs : ∀ w, (Go.sizeOf e).run P w = .ok 1 w) (w : World) : (Instr.checkKey em (n + 2) t (.agg (hashA h))).run P w = .ok () w := by
  rw [Instr.checkKey]
  simp only [Sem.run_bind, run_underlying ht, Result.andThen_ok]
  simp only [Std.Legacy.Range.forIn_eq_forIn_range', Std.Legacy.Range.size, Nat.sub_zero, Nat.add_one_sub_one, Nat.div_one]
  refine forIn_ok' w _ _ fun i hi => ?_
  have hi' : i < 32 := by simpa using hi
  have hx : (hashA h)[i * 1]? = some (.int .u8 ((h.1[i]'(by rw [h.2]; exact hi')).toNat : Int)) := getElem_bytes h.1 i (by rw [h.2]; exact hi')
  have hA : ∀ w, (isAgg e).run P w = .ok false w := fun _ => by simp [isAgg, run_underlying he]
  simp only [Sem.run_bind, hs, Result.andThen_ok, part_one w hA _ _ _ hx, key_plain n em _ he, Sem.run_pure]
theorem u8_size : ∀ w, (Go.sizeOf 5).run Try.prog w = .ok 1 w := fun w => by
  obtain ⟨i, hi⟩ := u8_info
  rw [run_sizeOf w hi, u8_cells]
theorem key_hsh (em : Bool) (p : Hash) (w : World) : (Instr.checkKey em 10000 24 (hsV p)).run Try.prog w = .ok () w :=
  key_hash 9998 em p Try.underlying24 Try.underlying5 u8_size w

theorem elem_zero (w : World) : (zeroValue 253).run Try.prog w = .ok (.agg #[.bool false]) w := by
  obtain ⟨i, hi, hz, _⟩ := info_parts (show (Try.prog.info? 253).map (fun i => (i.zero, i.size, i.bytes)) = some (some (.agg #[.bool false]), 1, 1) by kernel_rfl)
  simp [zeroValue, typeInfo, hi, hz]
theorem look_hs {w : World} {b : Nat} {ks : List Hash} (h : MapHs w b ks) (p : Hash) :
    (Instr.lookup 252 (.map (some b)) (hsV p) false).run Try.prog w = .ok (.agg #[.bool (decide (p ∈ ks))]) w := by
  obtain ⟨es, clock, hb, hes, hnd, _, _⟩ := h
  have hk := key_hsh es.isEmpty p w
  have hf := findKey_hs w p es.toList ks hes
  unfold Instr.lookup
  simp only [Sem.run_bind, run_underlying Try.underlying252, Result.andThen_ok, Go.MapKept.run_getObj_map hb, Sem.run_pure]
  rw [hk]
  simp only [Result.andThen_ok]
  rcases hf with ⟨hn, hr⟩ | ⟨j, hj, hr⟩
  · rw [hr]
    simp [elem_zero, hn]
  · rw [hr]
    have : p ∈ ks := List.mem_of_getElem? hj
    simp [this, yes]

/-- block b anew -/
def putB (w : World) (b : Nat) (o : Obj) : World := { w with heap := w.heap.setIfInBounds b o }
theorem putB_at {w : World} {b : Nat} {o o' : Obj} (h : w.heap[b]? = some o) : (putB w b o').heap[b]? = some o' := by
  have := (Array.getElem?_eq_some_iff.1 h).1
  simp [putB, this]
theorem putB_far (w : World) (b : Nat) (o : Obj) (k : Nat) (h : k ≠ b) : (putB w b o).heap[k]? = w.heap[k]? := by
  simp [putB, Array.getElem?_setIfInBounds_ne (Ne.symm h)]
theorem putB_grown (w : World) (b : Nat) (o : Obj) : w.grownBy (putB w b o) (some b) := ⟨rfl, rfl, rfl, by simp [putB], fun k _ hk => putB_far w b o k (fun e => hk (by rw [e]))⟩
theorem sameBits_hs (p : Hash) : Instr.sameBits 10000 (hsV p) (hsV p) = true := by
  have key : ∀ v ∈ (hashA p).toList, Instr.sameBits 9999 v v = true := by
    intro v hv
    rw [show (hashA p).toList = p.1.map byteV from rfl, List.mem_map] at hv
    obtain ⟨x, _, rfl⟩ := hv
    simp [byteV, Instr.sameBits]
  show Instr.sameBits (9999 + 1) (.agg (hashA p)) (.agg (hashA p)) = true
  simp only [Instr.sameBits, beq_self_eq_true, Bool.true_and, List.all_eq_true]
  intro x hx
  obtain ⟨i, hi, rfl⟩ := List.mem_iff_getElem.1 hx
  simp only [List.getElem_zip]
  exact key _ (List.getElem_mem _)
def addHs (ks : List Hash) (p : Hash) : List Hash := if p ∈ ks then ks else ks ++ [p]
theorem update_hs {w : World} {b : Nat} {ks : List Hash} (h : MapHs w b ks) (p : Hash) :
    ∃ w', (Instr.mapUpdate 252 (.map (some b)) (hsV p) yes).run Try.prog w = .ok () w' ∧ MapHs w' b (addHs ks p) ∧ w.grownBy w' (some b) := by
  obtain ⟨es, clock, hb, hes, hnd, hborn, hclock⟩ := h
  have hk := key_hsh false p w
  have hf := findKey_hs w p es.toList ks hes
  rcases hf with ⟨hn, hr⟩ | ⟨j, hj, hr⟩
  · refine ⟨putB w b (.map (es.push { key := hsV p, val := yes, born := clock }) (clock + 1)), ?_, ⟨_, _, putB_at hb, ?_, ?_, ?_, ?_⟩, putB_grown _ _ _⟩
    · unfold Instr.mapUpdate
      simp only [Sem.run_bind, run_underlying Try.underlying252, Result.andThen_ok, Go.MapKept.run_getObj_map hb, Sem.run_pure]
      rw [hk]
      simp only [Result.andThen_ok]
      rw [hr]
      simp [Go.MapKept.run_setObj_map _ hb, putB]
    · simp [addHs, hn, hes]
    · simp only [addHs, hn, if_false]
      exact List.nodup_append.2 ⟨hnd, by simp, fun a ha c hc e => by (simp at hc; subst hc; subst e; exact hn ha)⟩
    · simp only [Array.toList_push, List.map_append, List.map_cons, List.map_nil]
      refine List.nodup_append.2 ⟨hborn, by simp, ?_⟩
      intro a ha c hc e
      obtain ⟨m, hm, rfl⟩ := List.mem_map.1 ha
      simp at hc
      have := hclock m hm
      omega
    · intro e he
      simp only [Array.toList_push, List.mem_append, List.mem_singleton] at he
      rcases he with he | rfl
      · have := hclock e he; omega
      · simp
  · have hp : p ∈ ks := List.mem_of_getElem? hj
    have hlen : es.toList.length = ks.length := by have := congrArg List.length hes; simpa using this
    have hjl : j < es.toList.length := by rw [hlen]; exact (List.getElem?_eq_some_iff.1 hj).1
    have hej : (es.toList[j].key, es.toList[j].val) = (hsV p, yes) := by
      have h1 := congrArg (fun l => l[j]?) hes
      simp only [List.getElem?_map, hj, List.getElem?_eq_getElem hjl, Option.map_some, Option.some.injEq] at h1
      exact h1
    have hmod : (es.modify j fun e => { e with key := hsV p, val := yes }) = es := by
      apply Array.ext'
      rw [Array.toList_modify]
      apply List.ext_getElem?
      intro i
      rw [List.getElem?_modify]
      by_cases hij : j = i
      · subst hij
        rw [List.getElem?_eq_getElem hjl]
        simp only [Prod.mk.injEq] at hej
        rw [← hej.1, ← hej.2]
        simp
      · simp [hij]
    refine ⟨putB w b (.map es clock), ?_, ⟨es, clock, putB_at hb, ?_, ?_, hborn, hclock⟩, putB_grown _ _ _⟩
    · unfold Instr.mapUpdate
      simp only [Sem.run_bind, run_underlying Try.underlying252, Result.andThen_ok, Go.MapKept.run_getObj_map hb, Sem.run_pure]
      rw [hk]
      simp only [Result.andThen_ok]
      rw [hr]
      have hg : (Option.map (·.key) es[j]?).getD (hsV p) = hsV p := by
        rw [← Array.getElem?_toList, List.getElem?_eq_getElem hjl]
        simp only [Prod.mk.injEq] at hej
        simpa using hej.1
      simp only [hg, Instr.keyThatStays, sameBits_hs, if_true, Sem.run_pure, Result.andThen_ok, Sem.run_bind]
      rw [hmod]
      exact Go.MapKept.run_setObj_map _ hb
    · simp [addHs, hp, hes]
    · simp [addHs, hp, hnd]
end Go.Proofs.Ytkocpihfdpahpaa

/- Anchors: data, cells, loads; which may be, plainly; the register that comes of one. -/
namespace Go.Proofs.Ytkocpihfdpahpaa
open Go.RowKit

structure Val where
  key : Hash
  stake : UInt64
  deriving DecidableEq
def valA (v : Val) : Array Value := hashA v.key ++ #[.int .u64 (v.stake.toNat : Int)]
@[simp] theorem valA_size (v : Val) : (valA v).size = 33 := by simp [valA]
@[simp] theorem valA_key (v : Val) : (valA v).extract 0 32 = hashA v.key := by
  simp [valA, Array.extract_append, ext_self, ext_none]
@[simp] theorem valA_all (v : Val) : (valA v).extract 0 33 = valA v := ext_self _ _ (by simp)
@[simp] theorem valA_stake (v : Val) : (valA v)[32]? = some (.int .u64 (v.stake.toNat : Int)) := by
  rw [valA, Array.getElem?_append_right (by simp)]
  simp
theorem valA_one (v : Val) : ∀ u ∈ (valA v).toList, u.oneCell' = true := by
  intro u hu
  simp only [valA, hashA, Array.toList_append, List.mem_append, List.mem_map] at hu
  rcases hu with ⟨x, _, rfl⟩ | hu
  · rfl
  · simp at hu
    rw [hu]
    rfl
theorem onesVal (v : Val) : oneCells (valA v) := by
  unfold oneCells
  rw [Array.all_eq_true']
  intro u hu
  exact valA_one v u (by simpa using hu)
attribute [go_sem] onesVal
abbrev ValsR (w : World) (s : Sl) (l : List Val) : Prop := SlR 33 (fun cs v => cs = valA v) w s l
structure GAnc where
  point : Pt
  vals : Sl
  churn : UInt64
  decay : UInt64
structure Anc where
  point : Pt
  vals : List Val
  churn : UInt64
  decay : UInt64
  deriving DecidableEq
def ancA (g : GAnc) : Array Value := pointA g.point ++ #[g.vals.v, .int .u64 (g.churn.toNat : Int), .int .u64 (g.decay.toNat : Int)]
@[simp] theorem ancA_size (g : GAnc) : (ancA g).size = 36 := by simp [ancA]
@[simp] theorem ancA_all (g : GAnc) : (ancA g).extract 0 36 = ancA g := ext_self _ _ (by simp)
@[simp] theorem ancA_point (g : GAnc) : (ancA g).extract 0 33 = pointA g.point := by
  simp [ancA, Array.extract_append, ext_self, ext_none]
theorem ancA_tail (g : GAnc) (i : Nat) : (ancA g)[33 + i]? = #[g.vals.v, .int .u64 (g.churn.toNat : Int), .int .u64 (g.decay.toNat : Int)][i]? := by
  rw [ancA, Array.getElem?_append_right (by simp)]
  simp
theorem ancA_epoch (g : GAnc) : (ancA g)[0]? = some (.int .u64 (g.point.epoch.toNat : Int)) := by
  rw [ancA, Array.getElem?_append_left (by simp)]
  exact pointA_epoch _
theorem ancA_one (g : GAnc) : ∀ u ∈ (ancA g).toList, u.oneCell' = true := by
  intro u hu
  simp only [ancA, pointA, hashA, Array.toList_append, List.mem_append, List.mem_map] at hu
  rcases hu with (hu | ⟨x, _, rfl⟩) | hu
  · simp at hu; rw [hu]; rfl
  · rfl
  · simp at hu
    rcases hu with rfl | rfl | rfl <;> rfl
theorem onesAnc (g : GAnc) : oneCells (ancA g) := by
  unfold oneCells
  rw [Array.all_eq_true']
  intro u hu
  exact ancA_one g u (by simpa using hu)
attribute [go_sem] onesAnc
theorem load_val_s (x : Value) : Instr.loadAt 125 x = loadAgg 125 x := rfl
theorem load_val (w : World) (b off : Nat) (h : (row? w b off 33).isSome = true) : (loadAgg 125 (.pointer (some ⟨b, off, none⟩))).run Try.prog w = .ok (.agg ((row? w b off 33).getD #[])) w := run_loadAgg Try.isAgg125 Try.sizeOf125 w b off h
attribute [go_sem ↓] load_val_s
attribute [go_sem] load_val
theorem load_anc_s (x : Value) : Instr.loadAt 113 x = loadAgg 113 x := rfl
theorem load_anc (w : World) (b off : Nat) (h : (row? w b off 36).isSome = true) : (loadAgg 113 (.pointer (some ⟨b, off, none⟩))).run Try.prog w = .ok (.agg ((row? w b off 36).getD #[])) w := run_loadAgg Try.isAgg113 Try.sizeOf113 w b off h
attribute [go_sem ↓] load_anc_s
attribute [go_sem] load_anc
theorem store_val_s (x v : Value) : Instr.storeAt 125 x v = storeAgg 125 x v := rfl
theorem info_val : (Try.prog.info? 125).map (·.size) = some 33 := by kernel_rfl
theorem store_val (w : World) (b off : Nat) (xs : Array Value) (hn : xs.size = 33) (h1 : oneCells xs) (ht : there w b off 33) : (storeAgg 125 (.pointer (some ⟨b, off, none⟩)) (.agg xs)).run Try.prog w = .ok () (putRow w b off xs) := run_storeAgg info_val w b off xs hn h1 ht
attribute [go_sem ↓] store_val_s
attribute [go_sem] store_val
theorem box_val (W : World) (v : Val) : ∃ W', W' = putRow (W.alloc (.cells #[.int .u8 0, .int .u8 0, .int .u8 0, .int .u8 0, .int .u8 0, .int .u8 0, .int .u8 0, .int .u8 0, .int .u8 0, .int .u8 0, .int .u8 0, .int .u8 0, .int .u8 0, .int .u8 0, .int .u8 0, .int .u8 0, .int .u8 0, .int .u8 0, .int .u8 0, .int .u8 0, .int .u8 0, .int .u8 0, .int .u8 0, .int .u8 0, .int .u8 0, .int .u8 0, .int .u8 0, .int .u8 0, .int .u8 0, .int .u8 0, .int .u8 0, .int .u8 0, .int .u64 0] 125)) W.heap.size 0 (valA v) ∧ row? W' W.heap.size 0 33 = some (valA v) ∧ Below W.heap.size W W' ∧ W'.heap.size = W.heap.size + 1 := by
  refine ⟨_, rfl, ?_, below_put (bel_a W _) (Nat.le_refl _) _ _, by rw [size_put]; simp⟩
  exact row?_put_same _ _ _ _ _ (by simp) (by omega) (there_new W _ 125 0 33 (by simp))
theorem val_cells {w : World} {b off : Nat} {v : Val} (h : row? w b off 33 = some (valA v)) : row? w b off 32 = some (hashA v.key) ∧ w.cell? ⟨b, off + 32, none⟩ = some (.int .u64 (v.stake.toNat : Int)) := by
  refine ⟨?_, by rw [cell_of_row? h 32 (by omega), valA_stake]⟩
  have := row_part h 0 32 (by omega)
  rw [Nat.add_zero, Nat.zero_add, valA_key] at this
  exact this
def AncR (w : World) (g : GAnc) (a : Anc) : Prop := g.point = a.point ∧ ValsR w g.vals a.vals ∧ g.churn = a.churn ∧ g.decay = a.decay
theorem AncR.keep {w w' : World} {g : GAnc} {a : Anc} (h : AncR w g a) (hb : Below w.heap.size w w') : AncR w' g a := ⟨h.1, SlR.keep h.2.1 hb fun _ _ h => h, h.2.2⟩
structure ABox (W : World) (b : Nat) (g : GAnc) (a : Anc) : Prop where
  row : row? W b 0 36 = some (ancA g)
  anc : AncR W g a
theorem ABox.new (w : World) (g : GAnc) (a : Anc) (t : TypeId) (h : AncR w g a) : ABox (w.alloc (.cells (ancA g) t)) w.heap.size g a := ⟨by rw [row?_new]; simp, h.keep (bel_a w _)⟩
theorem ABox.keep {W W' : World} {b : Nat} {g : GAnc} {a : Anc} (h : ABox W b g a) (hb : Below W.heap.size W W') : ABox W' b g a := ⟨(row?_below _ _ _ hb (lt_of_row h.row)).trans h.row, h.anc.keep hb⟩
theorem ABox.cells {W : World} {b : Nat} {g : GAnc} {a : Anc} (h : ABox W b g a) : row? W b 0 33 = some (pointA g.point) ∧ W.cell? ⟨b, 0, none⟩ = some (.int .u64 (g.point.epoch.toNat : Int)) ∧ W.cell? ⟨b, 33, none⟩ = some g.vals.v ∧ W.cell? ⟨b, 34, none⟩ = some (.int .u64 (g.churn.toNat : Int)) ∧ W.cell? ⟨b, 35, none⟩ = some (.int .u64 (g.decay.toNat : Int)) ∧ b < W.heap.size := by
  have h0 := cell_of_row? h.row 0 (by omega)
  have h1 := cell_of_row? h.row 33 (by omega)
  have h2 := cell_of_row? h.row 34 (by omega)
  have h3 := cell_of_row? h.row 35 (by omega)
  have hp := row_part h.row 0 33 (by omega)
  simp only [Nat.zero_add, ancA_point] at h0 h1 h2 h3 hp
  exact ⟨hp, h0.trans (ancA_epoch g), h1.trans (ancA_tail g 0), h2.trans (ancA_tail g 1), h3.trans (ancA_tail g 2), lt_of_row h.row⟩
theorem vals_at {w : World} {s : Sl} {l : List Val} (h : ValsR w s l) (hl : 0 < l.length) : ∃ b off, s = ⟨some ⟨b, off, none⟩, l.length, s.c⟩ ∧ b < w.heap.size ∧ ∀ (i : Nat) (hi : i < l.length), row? w b (off + i * 33) 33 = some (valA l[i]) := by
  obtain ⟨b, off, e, hb, hr⟩ := h.at hl
  refine ⟨b, off, e, hb, fun i hi => ?_⟩
  obtain ⟨cs, h1, h2⟩ := hr i hi
  rw [h1, h2]

/-! which may be -/
def zeroVal : Val := ⟨zeroHash, 0⟩
def valOk (l : List Val) (i : Nat) : Bool := stakeOk (l.getD i zeroVal).stake && !decide ((l.getD i zeroVal).key ∈ (l.take i).map (·.key))
def ancHead (a : Anc) : Bool := mayPt a.point && decide (1 ≤ a.vals.length ∧ a.vals.length ≤ 64) && churnOk a.churn && decide (a.decay.toNat ≤ 4611686018427387904)
def ancMay (a : Anc) : Bool := ancHead a && upto (valOk a.vals) a.vals.length
def mbrOf (v : Val) : Mbr := ⟨v.key, v.stake, 2, false⟩
def firstReg (a : Anc) : Reg := ⟨a.vals.map mbrOf, [], [], a.churn⟩
theorem first_may {a : Anc} (h : ancMay a = true) : RegP (firstReg a) := by
  simp only [ancMay, ancHead, Bool.and_eq_true, decide_eq_true_eq, upto_iff, churnOk] at h
  obtain ⟨⟨⟨⟨_, hl⟩, hc⟩, _⟩, hv⟩ := h
  have hget : ∀ (j : Nat) (m : Mbr), (a.vals.map mbrOf)[j]? = some m → ∃ v, a.vals[j]? = some v ∧ m = mbrOf v := fun j m hj => by
    rw [List.getElem?_map] at hj
    cases hv : a.vals[j]? with
    | none => rw [hv] at hj; cases hj
    | some v => rw [hv] at hj; injection hj with hj; exact ⟨v, rfl, hj.symm⟩
  have hno : ∀ (l : List Int) (s : Int), s ≠ 2 → l = [] → LineP (a.vals.map mbrOf) l s := fun l s hs hl => by
    subst hl
    refine ⟨List.nodup_nil, fun n => ⟨fun hn => by simp at hn, ?_⟩⟩
    rintro ⟨i, m, _, h2, h3⟩
    obtain ⟨v, _, rfl⟩ := hget i m h2
    exact absurd h3.symm hs
  refine ⟨?_, ?_, by simpa [firstReg] using hl, hc, ?_, ?_, hno _ _ (by decide) rfl, hno _ _ (by decide) rfl⟩
  · intro i j m n hij hi hj he
    obtain ⟨v, h1, rfl⟩ := hget i m hi
    obtain ⟨u, h2, rfl⟩ := hget j n hj
    have := hv j (lt_of_get h2)
    simp only [valOk, Bool.and_eq_true, Bool.not_eq_true', decide_eq_false_iff_not] at this
    rw [getD_of h2] at this
    refine this.2 (List.mem_map.2 ⟨v, List.mem_iff_getElem?.2 ⟨i, ?_⟩, he⟩)
    rw [List.getElem?_take_of_lt hij]
    exact h1
  · intro m hm
    obtain ⟨i, hi⟩ := mem_get.1 hm
    obtain ⟨v, h1, rfl⟩ := hget i m hi
    have := hv i (lt_of_get h1)
    simp only [valOk, Bool.and_eq_true, stakeOk, decide_eq_true_eq] at this
    rw [getD_of h1] at this
    exact this.1
  · intro m hm
    obtain ⟨i, hi⟩ := mem_get.1 hm
    obtain ⟨v, _, rfl⟩ := hget i m hi
    simp [mbrOf]
  · obtain ⟨v, hv⟩ : ∃ v, a.vals[0]? = some v := ⟨_, List.getElem?_eq_getElem (by omega)⟩
    exact ⟨mbrOf v, mem_get.2 ⟨0, by simp [firstReg, List.getElem?_map, hv]⟩, rfl⟩
end Go.Proofs.Ytkocpihfdpahpaa

/- Contracts: codec.MayAnchor, registry.MayAnchor. -/
namespace Go.Proofs.Ytkocpihfdpahpaa
open Go.RowKit

theorem vkeys_succ (l : List Val) (k : Nat) (v : Val) (h : l[k]? = some v) : (l.take (k + 1)).map (·.key) = (l.take k).map (·.key) ++ [v.key] := by
  obtain ⟨hlt, he⟩ := List.getElem?_eq_some_iff.1 h
  rw [List.take_succ_eq_append_getElem hlt, List.map_append, he]
  rfl
def lkH (b : Nat) (p : Hash) : Sem Value := Instr.lookup 252 (.map (some b)) (hsV p) false
theorem fold_lkH (b : Nat) (p : Hash) : Instr.lookup 252 (.map (some b)) (.agg (hashA p)) false = lkH b p := rfl
def upH (b : Nat) (p : Hash) : Sem Unit := Instr.mapUpdate 252 (.map (some b)) (hsV p) yes
theorem fold_upH (b : Nat) (p : Hash) : Instr.mapUpdate 252 (.map (some b)) (.agg (hashA p)) (.agg #[.bool true]) = upH b p := rfl
theorem is_fieldH (z : Bool) (w : World) : (Instr.field 253 (.agg #[.bool z]) 0).run Try.prog w = .ok (.bool z) w := by kernel_rfl
attribute [local go_sem ↓] fold_lkH fold_upH is_fieldH
set_option maxRecDepth 100000 in
set_option maxHeartbeats 3200000 in
theorem cmayAnchor_c {w : World} {g : GAnc} {a : Anc} (h : AncR w g a) (hl : a.vals.length ≤ 1000000) :
    Calls Try.prog 136 #[.agg (ancA g)] w fun e w' => e = .returned (.bool (ancMay a)) ∧ Below w.heap.size w w' := by
  have HB0 := ABox.new w g a 113 h
  have hB0 : Below w.heap.size w (w.alloc (.cells (ancA g) 113)) := bel_a _ _
  have n1 := h.2.1.1
  have hanc := Lib.hid h.2.1
  obtain ⟨h1, _, h3, h4⟩ := h
  obtain ⟨gp, ⟨sa, sn, sc⟩, gc, gd⟩ := g
  simp only at h1 h3 h4 n1
  subst h1 h3 h4 n1
  have HMp := fun W => mayPoint_c a.point W
  have HM := Lib.hid (show ancMay a = (mayPt a.point && decide (1 ≤ a.vals.length ∧ a.vals.length ≤ 64) && churnOk a.churn && decide (a.decay.toNat ≤ 4611686018427387904) && upto (valOk a.vals) a.vals.length) from rfl)
  have hok := Lib.hid (show churnOk a.churn = decide (1 ≤ a.churn.toNat ∧ a.churn.toNat ≤ 4611686018427387904) from rfl)
  have hlt : w.heap.size < (w.alloc (.cells (ancA ⟨a.point, ⟨sa, a.vals.length, sc⟩, a.churn, a.decay⟩) 113)).heap.size := by simp
  go_enter Try.func136, Try.ntmps136
  go_upto_region 1 with fail
  generalize w.alloc (.cells (ancA ⟨a.point, ⟨sa, a.vals.length, sc⟩, a.churn, a.decay⟩) 113) = W0 at *
  obtain ⟨cp, _, c33, c34, c35, _⟩ := HB0.cells
  simp only at cp c33 c34 c35
  dsimp only [Sl.v] at c33
  have HR := Lib.hid HB0
  clear HB0
  generalize mayPt a.point = mp at *
  obtain ⟨cn, hcn⟩ : ∃ cn, cn = a.churn.toNat := ⟨_, rfl⟩
  obtain ⟨dn, hdn⟩ : ∃ dn, dn = a.decay.toNat := ⟨_, rfl⟩
  rw [← hcn] at c34 hok
  rw [← hdn] at c35 HM
  clear hcn hdn
  go_wp2_with fail
  refine (HMp _).mono ?_
  clear HMp
  rintro e w1 ⟨rfl, hb1⟩
  have hz1 := hb1.size
  have hB1 := hB0.trans (hb1.mono (Nat.le_of_lt hlt))
  have HR1 := Lib.hid (HR.out.keep hb1)
  have d33 := (hb1.cell (p := ⟨w.heap.size, 33, none⟩) hlt).trans c33
  have d34 := (hb1.cell (p := ⟨w.heap.size, 34, none⟩) hlt).trans c34
  have d35 := (hb1.cell (p := ⟨w.heap.size, 35, none⟩) hlt).trans c35
  clear hb1 HR c33 c34 c35 cp
  cases mp
  · have Hf := Lib.hid (show ancMay a = false by rw [HM.out]; simp)
    go_wp2_with fail
    go_ret
    exact ⟨ret_bool Hf.out.symm, hB1⟩
  by_cases s1 : (a.vals.length : Int) < 1
  · have Hf := Lib.hid (show ancMay a = false by rw [HM.out, decide_eq_false (p := 1 ≤ a.vals.length ∧ _) (by omega)]; simp)
    go_wp2_with fail
    go_ret
    exact ⟨ret_bool Hf.out.symm, hB1⟩
  by_cases s2 : (64 : Int) < (a.vals.length : Int)
  · have Hf := Lib.hid (show ancMay a = false by rw [HM.out, decide_eq_false (p := 1 ≤ a.vals.length ∧ _) (by omega)]; simp)
    go_wp2_with fail
    go_ret
    exact ⟨ret_bool Hf.out.symm, hB1⟩
  by_cases s3 : (cn : Int) < 1
  · have Hf := Lib.hid (show ancMay a = false by rw [HM.out, hok.out, decide_eq_false (p := 1 ≤ cn ∧ _) (by omega)]; simp)
    go_wp2_with fail
    go_ret
    exact ⟨ret_bool Hf.out.symm, hB1⟩
  by_cases s4 : (4611686018427387904 : Int) < (cn : Int)
  · have Hf := Lib.hid (show ancMay a = false by rw [HM.out, hok.out, decide_eq_false (p := 1 ≤ cn ∧ _) (by omega)]; simp)
    go_wp2_with fail
    go_ret
    exact ⟨ret_bool Hf.out.symm, hB1⟩
  by_cases s5 : (4611686018427387904 : Int) < (dn : Int)
  · have Hf := Lib.hid (show ancMay a = false by rw [HM.out, decide_eq_false (p := dn ≤ _) (by omega)]; simp)
    go_wp2_with fail
    go_ret
    exact ⟨ret_bool Hf.out.symm, hB1⟩
  have HM := Lib.hid (show ancMay a = upto (valOk a.vals) a.vals.length by
    rw [HM.out, hok.out, decide_eq_true (p := 1 ≤ a.vals.length ∧ _) (by omega), decide_eq_true (p := 1 ≤ cn ∧ _) (by omega), decide_eq_true (p := dn ≤ _) (by omega)]
    simp)
  have hl64 : a.vals.length ≤ 64 := by omega
  clear hok
  have hmm := fun W => run_makeMap (P := Try.prog) 252 W
  have b1 : decide ((a.vals.length : Int) < 1) = false := decide_eq_false s1
  have b2 : decide ((64 : Int) < (a.vals.length : Int)) = false := decide_eq_false s2
  have b3 : decide ((cn : Int) < 1) = false := decide_eq_false s3
  have b4 : decide ((4611686018427387904 : Int) < (cn : Int)) = false := decide_eq_false s4
  have b5 : decide ((4611686018427387904 : Int) < (dn : Int)) = false := decide_eq_false s5
  go_upto_region 4 with fail
  have hM0 := MapHs.new w1
  have hbm : Below w1.heap.size w1 (w1.alloc (.map #[] 0)) := bel_a _ _
  have hzm : (w1.alloc (.map #[] 0)).heap.size = w1.heap.size + 1 := by simp
  have HR2 := Lib.hid (HR1.out.keep hbm)
  have e33 := (hbm.cell (p := ⟨w.heap.size, 33, none⟩) (by show w.heap.size < w1.heap.size; omega)).trans d33
  obtain ⟨M, hMe⟩ : ∃ M, M = w1.heap.size := ⟨_, rfl⟩
  rw [← hMe] at hM0 hbm hzm
  generalize w1.alloc (.map #[] 0) = w2 at *
  have hB2 := Lib.hid (hB1.trans (hbm.mono (by omega)))
  have hM2 : M < w2.heap.size := by omega
  rw [← hMe]
  clear hmm s1 s2 s3 s4 s5 d33 d34 d35 HR1 hB1 b1 b2 b3 b4 b5
  replace hMe := Lib.hid hMe
  replace hM0 := Lib.hid hM0
  have hB0m := Lib.hid (Below.refl M w2)
  go_upto_region 5 with fail
  go_loopw [41] (fun i W' => ∃ k : Nat, k ≤ a.vals.length ∧ Hid (upto (valOk a.vals) k = true) ∧ i = .int .i64 k ∧ Hid (MapHs W' M ((a.vals.take k).map (·.key))) ∧ Hid (Below M w2 W')) (fun i _ => a.vals.length - (intOf i).toNat)
  case atStart => exact ⟨0, Nat.zero_le _, Lib.hid rfl, rfl, hM0, hB0m⟩
  case round =>
    obtain ⟨k, hk, hu, rfl, hMk, hBk⟩ := hrel
    have hzk := hBk.out.size
    have hBw := Lib.hid (hB2.out.trans (hBk.out.mono (by have := hMe.out; omega)))
    by_cases hkx : k < a.vals.length
    · have hvr : ValsR wr ⟨sa, a.vals.length, sc⟩ a.vals := by
        have := hMe.out
        exact SlR.keep (hanc.out) hBw.out fun _ _ h => h
      obtain ⟨bv, ov, e, hbv, hrv⟩ := vals_at hvr (by omega)
      have e1 := congrArg Sl.a e
      simp only at e1
      subst e1
      clear e hvr
      have hrow := hrv k hkx
      clear hrv
      have hget := List.getElem?_eq_getElem hkx
      have Hf := Lib.hid (show valOk a.vals k = (stakeOk a.vals[k].stake && !decide (a.vals[k].key ∈ (a.vals.take k).map (·.key))) by rw [valOk, getD_of hget])
      have Hbad := Lib.hid (fun h : valOk a.vals k = false => (show ancMay a = false by rw [HM.out, upto_bad h hkx]))
      have Hks := Lib.hid (vkeys_succ a.vals k _ hget)
      clear hget
      generalize a.vals[k] = v at *
      have i1 : (k : Int) < (a.vals.length : Int) := by omega
      go_upto_region 7 with fail
      obtain ⟨W1, hW1, hr1, hb1, hz1'⟩ := box_val wr v
      rw [← hW1]
      clear hW1 hrow
      obtain ⟨q0, q1⟩ := val_cells hr1
      simp only [Nat.zero_add] at q1
      have hM1 := hMk.out.keep hb1 (by omega)
      have hlk := look_hs hM1 v.key
      have hlk : (lkH M v.key).run Try.prog W1 = .ok (.agg #[.bool (decide (v.key ∈ (a.vals.take k).map (·.key)))]) W1 := hlk
      obtain ⟨W2, hup, hM2', hg2⟩ := update_hs hM1 v.key
      have hup : (upH M v.key).run Try.prog W1 = .ok () W2 := hup
      have hBX := hBk.out.trans (hb1.mono (by omega))
      have hBXw := Lib.hid (hBw.out.trans (hb1.mono (by have := hBw.out.size; omega)))
      have hB3 := Lib.hid (hBX.grown hg2 (by omega) (fun j hj => by injection hj with hj; omega))
      obtain ⟨vin, hvin⟩ : ∃ b, b = decide (v.key ∈ (a.vals.take k).map (·.key)) := ⟨_, rfl⟩
      rw [← hvin] at hlk Hf
      obtain ⟨sn, hsn⟩ : ∃ sn, sn = v.stake.toNat := ⟨_, rfl⟩
      rw [← hsn] at q1
      have hst := Lib.hid (show stakeOk v.stake = decide (1 ≤ sn ∧ sn ≤ 4294967296) by rw [hsn]; rfl)
      clear hsn hM1 hg2 hBX
      replace hM2' := Lib.hid hM2'
      cases vin
      rotate_left
      · have Hr := Lib.hid (Hbad.out (by rw [Hf.out]; simp))
        clear hvin
        go_wp2_with fail
        go_ret
        exact ⟨ret_bool Hr.out.symm, hBXw.out⟩
      by_cases s1 : (sn : Int) < 1
      · have Hr := Lib.hid (Hbad.out (by rw [Hf.out, hst.out, decide_eq_false (by omega)]; rfl))
        clear hvin
        go_wp2_with fail
        go_ret
        exact ⟨ret_bool Hr.out.symm, hBXw.out⟩
      by_cases s2 : (4294967296 : Int) < (sn : Int)
      · have Hr := Lib.hid (Hbad.out (by rw [Hf.out, hst.out, decide_eq_false (by omega)]; rfl))
        clear hvin
        go_wp2_with fail
        go_ret
        exact ⟨ret_bool Hr.out.symm, hBXw.out⟩
      have Hok := Lib.hid (show valOk a.vals k = true by rw [Hf.out, hst.out, decide_eq_true (by omega)]; rfl)
      have hM3 := Lib.hid (show MapHs W2 M ((a.vals.take (k + 1)).map (·.key)) by
        have h2 := hM2'.out
        have hni : v.key ∉ (a.vals.take k).map (·.key) := fun h => by rw [decide_eq_true h] at hvin; cases hvin
        rw [addHs, if_neg hni] at h2
        rw [Hks.out]
        exact h2)
      clear hvin hM2'
      go_wp2_with fail
      go_roundw
      case rel => exact ⟨k + 1, by omega, Lib.hid (by rw [upto_succ, hu.out, Hok.out]; rfl), by go_num, hM3, hB3⟩
      case measure => simp [intOf]; omega
    · obtain rfl : a.vals.length = k := by omega
      have Hr := Lib.hid (show ancMay a = true by rw [HM.out, hu.out])
      go_wp2_with fail
      go_ret
      exact ⟨ret_bool Hr.out.symm, hBw.out⟩
theorem rmayAnchor_c {w : World} {g : GAnc} {a : Anc} (h : AncR w g a) (hl : a.vals.length ≤ 1000000) :
    Calls Try.prog 62 #[.agg (ancA g)] w fun e w' => e = .returned (.bool (ancMay a)) ∧ Below w.heap.size w w' := by
  have hB0 : Below w.heap.size w (w.alloc (.cells (ancA g) 113)) := bel_a _ _
  have hz : w.heap.size ≤ (w.alloc (.cells (ancA g) 113)).heap.size := by simp
  have HC := cmayAnchor_c (h.keep hB0) hl
  have hrow := (ABox.new w g a 113 h).row
  generalize ancMay a = m at *
  go_enter Try.func62, Try.ntmps62
  go_upto_region 1 with fail
  generalize w.alloc (.cells (ancA g) 113) = W0 at *
  go_wp2_with (go_at_call 136; (with_reducible refine HC.mono ?_); rintro e w2 ⟨rfl, hb2⟩)
  go_ret
  exact ⟨rfl, hB0.trans (hb2.mono hz)⟩
end Go.Proofs.Ytkocpihfdpahpaa

/- Contracts: registry.members, registry.First. -/
namespace Go.Proofs.Ytkocpihfdpahpaa
open Go.RowKit
attribute [local go_sem ↓] fold_bsM fold_appM fold_bldM
attribute [local go_sem] regA_size

/-- members at the head of a block of the call's own -/
def OwnMs (w : World) (base : Nat) (v : Value) (ms : List Mbr) : Prop := OwnC w base 35 v ms.length (flatC mbrA ms)
theorem app_ms {W : World} {B : Nat} {s : Sl} {ms : List Mbr} (h : OwnMs W B s.v ms) (hB : B ≤ W.heap.size) (hl : ms.length ≤ 1000000) (m : Mbr) :
    ∃ (s' : Sl) (w' : World), (appM #[s.v, .slice (some ⟨W.heap.size, 0, none⟩) 1 1]).run Try.prog (W.alloc (.cells (mbrA m) 123)) = .ok s'.v w' ∧ OwnMs w' B s'.v (ms ++ [m]) ∧ Below B W w' := by
  obtain ⟨i0, hi, hy0, hy1, hy2⟩ := info_parts info_mbrs
  have hA : Below W.heap.size W (W.alloc (.cells (mbrA m) 123)) := bel_a W _
  have hsz : (W.alloc (.cells (mbrA m) 123)).heap.size = W.heap.size + 1 := by simp
  obtain ⟨s', w', e1, e2, e3, _⟩ := run_append_one (P := Try.prog) mbrA mbrA_size (W.alloc (.cells (mbrA m) 123)) 101 mbrA_one B 123 i0 _ 56 Try.underlying101 hi hy0 hy1 hy2 (by simp [Value.cells]) s.v ms (OwnC.keep h hA) W.heap.size 1 m (heap_alloc_new W _) hl (by omega) (by omega)
  exact ⟨s', w', e1, e2, ((Below.refl B W).alloc hB _).grown e3 (by omega) (fun k hk => (h.lt k hk).1)⟩
theorem mbrs_snoc (l : List Val) (k : Nat) (v : Val) (h : l[k]? = some v) : (l.take (k + 1)).map mbrOf = (l.take k).map mbrOf ++ [mbrOf v] := by
  obtain ⟨hlt, he⟩ := List.getElem?_eq_some_iff.1 h
  rw [List.take_succ_eq_append_getElem hlt, List.map_append, he]
  rfl
set_option maxRecDepth 100000 in
set_option maxHeartbeats 3200000 in
theorem members_c {w : World} {g : GAnc} {a : Anc} (h : AncR w g a) (hl : a.vals.length ≤ 1000000) :
    Calls Try.prog 135 #[.agg (ancA g)] w fun e w' => (∃ s : Sl, e = .returned s.v ∧ OwnMs w' w.heap.size s.v (a.vals.map mbrOf)) ∧ Below w.heap.size w w' := by
  have HB0 := ABox.new w g a 113 h
  have hB0 : Below w.heap.size w (w.alloc (.cells (ancA g) 113)) := bel_a _ _
  have n1 := h.2.1.1
  have hanc := Lib.hid h.2.1
  obtain ⟨gp, ⟨sa, sn, sc⟩, gc, gd⟩ := g
  simp only at n1
  subst n1
  go_enter Try.func135, Try.ntmps135
  go_upto_region 1 with fail
  have hlt : w.heap.size < (w.alloc (.cells (ancA ⟨gp, ⟨sa, a.vals.length, sc⟩, gc, gd⟩) 113)).heap.size := by simp
  generalize w.alloc (.cells (ancA ⟨gp, ⟨sa, a.vals.length, sc⟩, gc, gd⟩) 113) = W0 at *
  obtain ⟨_, _, c33, _, _, _⟩ := HB0.cells
  simp only at c33
  dsimp only [Sl.v] at c33
  clear HB0
  have hO0 : Hid (OwnMs W0 w.heap.size (Sl.v ⟨none, 0, 0⟩) ([] : List Mbr)) := Lib.hid (OwnC.nil _ _ _)
  replace hB0 := Lib.hid hB0
  go_upto_region 3 with fail
  go_loopw [3, 9] (fun o i W' => ∃ (k : Nat) (s : Sl), k ≤ a.vals.length ∧ o = .slice s.a s.n s.c ∧ i = .int .i64 k ∧ Hid (OwnMs W' w.heap.size s.v ((a.vals.take k).map mbrOf)) ∧ Hid (Below w.heap.size w W')) (fun _ i _ => a.vals.length - (intOf i).toNat)
  case atStart => exact ⟨0, ⟨none, 0, 0⟩, Nat.zero_le _, rfl, rfl, hO0, hB0⟩
  case round =>
    clear hO0
    obtain ⟨k, ⟨oa, on, oc⟩, hk, rfl, rfl, hO, hBk⟩ := hrel
    have hzk := hBk.out.size
    by_cases hkx : k < a.vals.length
    · have hvr : ValsR wr ⟨sa, a.vals.length, sc⟩ a.vals := SlR.keep hanc.out hBk.out fun _ _ h => h
      obtain ⟨bv, ov, e, hbv, hrv⟩ := vals_at hvr (by omega)
      have e1 := congrArg Sl.a e
      simp only at e1
      subst e1
      clear e hvr
      have hrow := hrv k hkx
      clear hrv
      have Hsn := Lib.hid (mbrs_snoc a.vals k _ (List.getElem?_eq_getElem hkx))
      generalize a.vals[k] = v at *
      have i1 : (k : Int) < (a.vals.length : Int) := by omega
      go_upto_region 5 with fail
      obtain ⟨W1, hW1, hr1, hb1, hz1'⟩ := box_val wr v
      rw [← hW1]
      clear hW1 hrow
      obtain ⟨q0, q1⟩ := val_cells hr1
      simp only [Nat.zero_add] at q1
      have hO1 : OwnMs W1 w.heap.size (Sl.v ⟨oa, on, oc⟩) ((a.vals.take k).map mbrOf) := OwnC.keep hO.out hb1
      obtain ⟨s', w2, e1, e2, e3⟩ := app_ms hO1 (by omega) (by rw [List.length_map, List.length_take]; omega) (mbrOf v)
      have hbm : ∀ W, (bldM #[(0, .agg (hashA v.key)), (1, .int .u64 (v.stake.toNat : Int)), (2, .int .i64 2)]).run Try.prog W = .ok (.agg (mbrA (mbrOf v))) W := fun W => run_bldM _ _ _ _
      have hbs := fun W => bsM_one (mbrOf v) W
      obtain ⟨ua, un, uc⟩ := s'
      dsimp only [Sl.v] at e1
      rw [← Hsn.out] at e2
      have hBn := Lib.hid ((hBk.out.trans (hb1.mono hzk)).trans e3)
      replace e2 := Lib.hid e2
      generalize mbrOf v = m at *
      clear hO1 hb1 e3 hz1'
      go_wp2_with fail
      go_roundw
      case rel => exact ⟨k + 1, ⟨ua, un, uc⟩, by omega, rfl, by go_num, e2, hBn⟩
      case measure => simp [intOf]; omega
    · obtain rfl : a.vals.length = k := by omega
      rw [List.take_length] at hO
      go_wp2_with fail
      go_ret
      exact ⟨⟨⟨oa, on, oc⟩, rfl, hO.out⟩, hBk.out⟩

theorem first_res : Try.f61.results = #[.cell 2 103, .tmp 3] := by kernel_rfl
def bldR (parts : Array (Nat × Value)) : Sem Value := Instr.build 103 parts
theorem fold_bldR (parts : Array (Nat × Value)) : Instr.build 103 parts = bldR parts := rfl
theorem run_bldR (s : Sl) (c : UInt64) (W : World) : (bldR #[(0, s.v), (3, .int .u64 (c.toNat : Int))]).run Try.prog W = .ok (.agg (regA ⟨s, ⟨none, 0, 0⟩, ⟨none, 0, 0⟩, c⟩)) W := by
  unfold bldR
  dsimp only [Sl.v]
  go_simp
  rfl
theorem run_bldR0 (W : World) : (bldR #[]).run Try.prog W = .ok (.agg (regA zeroG4)) W := by
  unfold bldR
  go_simp
  rfl
/-- the code, and the register, of an anchor -/
def firstP (a : Anc) : Reg × Int := if ancMay a then (firstReg a, 0) else (zeroReg, 2)
attribute [local go_sem ↓] fold_bldR
set_option maxRecDepth 100000 in
set_option maxHeartbeats 3200000 in
theorem first_c {w : World} {g : GAnc} {a : Anc} (h : AncR w g a) (hl : a.vals.length ≤ 1000000) :
    Calls Try.prog 61 #[.agg (ancA g)] w (NextPost w (firstP a)) := by
  have hB0 : Below w.heap.size w ((w.alloc (.cells (ancA g) 113)).alloc (.cells (regA zeroG4) 103)) := by (repeat' (first | (with_reducible exact Below.refl _ _) | (with_reducible assumption) | (with_reducible refine bel_trans (by assumption) ?_ ?_) | (with_reducible refine bel_grown (by assumption) ?_ ?_ ?_) | (with_reducible refine Below.alloc ?_ ?_ _) | (with_reducible refine Below.drew ?_) | (with_reducible refine below_drewN ?_ _) | (with_reducible refine Below.setCell ?_ ?_ _) | (with_reducible refine below_put ?_ ?_ _ _) | (with_reducible exact Nat.le_refl _) | omega | (with_reducible refine Nat.le_trans ?_ (Below.size (by assumption))) | (with_reducible refine Nat.le_trans ?_ (World.grownBy.size (by assumption))) | (simp only [World.size_alloc, World.size_setCell, World.size_drew, size_drewN]; omega) | (simp only [World.size_alloc, World.size_setCell, World.size_drew, size_drewN, size_put]; omega) | (intro k hk; simp [Value.ownBlock] at hk; done) | (intro k hk; simp [Value.ownBlock] at hk; omega) | (simp [size_drewN] at *; omega)))
  have hz0 : ((w.alloc (.cells (ancA g) 113)).alloc (.cells (regA zeroG4) 103)).heap.size = w.heap.size + 1 + 1 := by simp
  have hrow1 : row? ((w.alloc (.cells (ancA g) 113)).alloc (.cells (regA zeroG4) 103)) w.heap.size 0 36 = some (ancA g) := by
    rw [row?_old _ _ _ _ _ (by simp), row?_new]; simp
  have hth : there ((w.alloc (.cells (ancA g) 113)).alloc (.cells (regA zeroG4) 103)) (w.heap.size + 1) 0 4 :=
    there_new_at _ _ _ _ _ _ (by simp) (by simp [regA])
  have hAB : ABox ((w.alloc (.cells (ancA g) 113)).alloc (.cells (regA zeroG4) 103)) w.heap.size g a := ⟨hrow1, h.keep hB0⟩
  have hzr := zero_regA
  have hch := h.2.2.1
  have HF := Lib.hid (show firstP a = if ancMay a then (firstReg a, 0) else (zeroReg, 2) from rfl)
  clear h hrow1
  go_enter Try.func61, Try.ntmps61
  go_upto_region 1 with fail
  generalize (w.alloc (.cells (ancA g) 113)).alloc (.cells (regA zeroG4) 103) = w1 at *
  obtain ⟨b2, hb2⟩ : ∃ b2, b2 = w.heap.size + 1 := ⟨_, rfl⟩
  rw [← hb2] at hth ⊢
  have HM := rmayAnchor_c hAB.anc hl
  have hrow := hAB.row
  have hn1 : w.heap.size < b2 := by omega
  have hn2 : b2 < w1.heap.size := by omega
  replace hz0 := Lib.hid hz0
  replace hb2 := Lib.hid hb2
  generalize ancMay a = m at *
  go_wp2_with fail
  refine HM.mono ?_
  clear HM
  rintro e w2 ⟨rfl, hb⟩
  have hz2 := hb.size
  have hB2 := Lib.hid (hB0.trans (hb.mono (by omega)))
  have hAB2 := hAB.keep hb
  have hth2 := there_below hb hn2 hth
  have hn3 : b2 < w2.heap.size := by omega
  clear hb hAB hth hrow hB0
  cases m
  · have Hr := Lib.hid (show firstP a = (zeroReg, 2) from HF.out)
    have hst := store_reg w2 b2 0 (regA zeroG4) rfl (onesReg _) hth2
    have hput : row? (putRow w2 b2 0 (regA zeroG4)) b2 0 4 = some (regA zeroG4) := row?_put_same _ _ _ _ _ (by rfl) (by omega) hth2
    have hpb : Below w.heap.size w (putRow w2 b2 0 (regA zeroG4)) := below_put hB2.out (by omega) _ _
    have hb0 := fun W => run_bldR0 W
    clear hzr
    go_wp2_with (with_reducible refine ret_row2 Try.isAgg103 Try.sizeOf103 first_res (x := .pointer (some ⟨b2, 0, none⟩)) (y := .int .i64 2) (b2) 0 ?rrhx (Eq.refl _) ?rrhy ?rrh ?rrhd ?rrhR; (case rrhx => simp only [Array.getD_eq_getD_getElem?, List.getElem?_toArray, List.getElem?_cons_succ, List.getElem?_cons_zero, Option.getD_some]); (case rrhy => simp only [Array.getD_eq_getD_getElem?, List.getElem?_toArray, List.getElem?_cons_succ, List.getElem?_cons_zero, Option.getD_some]); (case rrhd => exact rfl); (case rrh => go_simp); (case rrhR => ((exact next_done (g' := zeroG4) (by rw [Hr.out]) hput (by rw [Hr.out]; exact RegAt.zero _ _) hpb))))
  · have Hr := Lib.hid (show firstP a = (firstReg a, 0) from HF.out)
    obtain ⟨cn, hcn⟩ : ∃ cn, cn = a.churn := ⟨_, rfl⟩
    have hAD := hAB2.keep ((Below.refl _ w2).drew)
    have HMs := members_c hAD.anc hl
    obtain ⟨_, _, _, c34, _, hlt⟩ := hAB2.cells
    rw [hch, ← hcn] at c34
    replace hcn := Lib.hid hcn
    replace hch := Lib.hid hch
    have hrow2 := hAB2.row
    go_upto_region 3 with fail
    have hbr := fun (a1 : Option Addr) (n1 c1 : Nat) W => run_bldR ⟨a1, n1, c1⟩ cn W
    dsimp only [Sl.v] at hbr
    have hle : w.heap.size ≤ w2.heap.size := by omega
    have hrowD : row? w2.drew w.heap.size 0 36 = some (ancA g) := hrow2
    have c34D : w2.drew.cell? ⟨w.heap.size, 34, none⟩ = some (.int .u64 (cn.toNat : Int)) := c34
    go_region_held3 (fun W => row? W w.heap.size 0 36 = some (ancA g) ∧ W.cell? ⟨w.heap.size, 34, none⟩ = some (.int .u64 (cn.toNat : Int)))
      (first | go_keep | (with_reducible exact ⟨hrowD, c34D⟩) | (with_reducible exact ⟨hrow2, c34⟩) | (with_reducible exact ⟨hrow3, d34⟩) | (with_reducible exact ⟨hrow4, e34⟩))
      (first
        | (go_simp; go_at_call 135; (with_reducible refine HMs.mono ?_); rintro e w3 ⟨⟨⟨oa, on, oc⟩, he, ho⟩, hb3⟩; replace he : e = .returned (.slice oa on oc) := he; subst he; have hrow3 := (row?_below _ _ _ (undrew hb3) hlt).trans hrow2; have d34 := ((undrew hb3).cell (p := ⟨w.heap.size, 34, none⟩) hlt).trans c34; have hth3 := there_below (undrew hb3) hn3 hth2; have hst := store_reg w3 b2 0 (regA ⟨⟨oa, on, oc⟩, ⟨none, 0, 0⟩, ⟨none, 0, 0⟩, cn⟩) rfl (onesReg _) hth3; have hrow4 := (show row? (putRow w3 b2 0 (regA ⟨⟨oa, on, oc⟩, ⟨none, 0, 0⟩, ⟨none, 0, 0⟩, cn⟩)) w.heap.size 0 36 = some (ancA g) from (row?_put_far w3 b2 0 _ w.heap.size 0 36 (by omega)).trans hrow3); have e34 := (show (putRow w3 b2 0 (regA ⟨⟨oa, on, oc⟩, ⟨none, 0, 0⟩, ⟨none, 0, 0⟩, cn⟩)).cell? ⟨w.heap.size, 34, none⟩ = some (.int .u64 (cn.toNat : Int)) from (cell_put_far w3 b2 0 _ w.heap.size 34 (by omega)).trans d34)))
    obtain ⟨gz, hgz⟩ : ∃ gz : GReg, gz = ⟨⟨oa, on, oc⟩, ⟨none, 0, 0⟩, ⟨none, 0, 0⟩, cn⟩ := ⟨_, rfl⟩
    have hrg : RegAt w.heap.size (putRow w3 b2 0 (regA gz)) gz (firstReg a) := fun W2 q1 q2 => by
      rw [hgz]
      rw [size_put] at q1 q2
      refine ⟨?_, SlR.nil _ _ _ _ _, SlR.nil _ _ _ _ _, hcn.out⟩
      have ho2 : OwnMs W2 w2.heap.size (Sl.v ⟨oa, on, oc⟩) (a.vals.map mbrOf) :=
        OwnC.keepB ho q1 (fun k hk hl => by
          have h2 : w2.heap.size ≤ k := (ho.lt k hk).1
          exact (q2 k (by omega) hl).trans (put_far _ _ _ _ k (by omega)))
      exact rows_of_own mbrA mbrA_size (by omega) ho2
    have hb33 : Below w.heap.size w w3 := hB2.out.trans ((show Below w2.heap.size w2 w3 from undrew hb3).mono hle)
    have hput : row? (putRow w3 b2 0 (regA gz)) b2 0 4 = some (regA gz) := row?_put_same _ _ _ _ _ (by rfl) (by omega) hth3
    have hpb : Below w.heap.size w (putRow w3 b2 0 (regA gz)) := below_put hb33 (by omega) _ _
    rw [← hgz]
    replace hrg := Lib.hid hrg
    clear hst hrow4 e34 hbr
    replace hgz := Lib.hid hgz
    go_wp2_with (with_reducible refine ret_row2 Try.isAgg103 Try.sizeOf103 first_res (x := .pointer (some ⟨b2, 0, none⟩)) (y := .int .i64 0) (b2) 0 ?rrhx (Eq.refl _) ?rrhy ?rrh ?rrhd ?rrhR; (case rrhx => simp only [Array.getD_eq_getD_getElem?, List.getElem?_toArray, List.getElem?_cons_succ, List.getElem?_cons_zero, Option.getD_some]); (case rrhy => simp only [Array.getD_eq_getD_getElem?, List.getElem?_toArray, List.getElem?_cons_succ, List.getElem?_cons_zero, Option.getD_some]); (case rrhd => exact rfl); (case rrh => go_simp); (case rrhR => ((exact next_done (g' := gz) (by rw [Hr.out]) hput (by rw [Hr.out]; exact hrg.out) hpb))))
end Go.Proofs.Ytkocpihfdpahpaa

/- Contract: the document's MayAnchor. -/
namespace Go.Proofs.Ytkocpihfdpahpaa
open Go.RowKit

theorem vkeys_in (l : List Val) (k j : Nat) (x : Val) (v : Val) (hx : l[j]? = some x) (hj : j < k) (hk : k ≤ l.length) (he : x.key = v.key) : v.key ∈ (l.take k).map (·.key) :=
  List.mem_map.2 ⟨x, List.mem_iff_getElem?.2 ⟨j, by rw [List.getElem?_take_of_lt hj]; exact hx⟩, he⟩
theorem vkeys_none (l : List Val) (k : Nat) (v : Val) (h : ∀ (j : Nat) (x : Val), j < k → l[j]? = some x → x.key ≠ v.key) : v.key ∉ (l.take k).map (·.key) := by
  intro hm
  obtain ⟨x, hx, he⟩ := List.mem_map.1 hm
  obtain ⟨j, hj⟩ := List.mem_iff_getElem?.1 hx
  have hlt := lt_of_get hj
  rw [List.length_take] at hlt
  rw [List.getElem?_take_of_lt (by omega)] at hj
  exact h j x (by omega) hj he
set_option maxRecDepth 100000 in
set_option maxHeartbeats 3200000 in
theorem fmayAnchor_c {w : World} {g : GAnc} {a : Anc} (h : AncR w g a) (hl : a.vals.length ≤ 1000000) :
    Calls Try.prog 63 #[.agg (ancA g)] w fun e w' => e = .returned (.bool (ancMay a)) ∧ Below w.heap.size w w' := by
  have HB0 := ABox.new w g a 113 h
  have hB0 : Below w.heap.size w (w.alloc (.cells (ancA g) 113)) := bel_a _ _
  have n1 := h.2.1.1
  have hanc := Lib.hid h.2.1
  obtain ⟨h1, _, h3, h4⟩ := h
  obtain ⟨gp, ⟨sa, sn, sc⟩, gc, gd⟩ := g
  simp only at h1 h3 h4 n1
  subst h1 h3 h4 n1
  have HM := Lib.hid (show ancMay a = (mayPt a.point && decide (1 ≤ a.vals.length ∧ a.vals.length ≤ 64) && churnOk a.churn && decide (a.decay.toNat ≤ 4611686018427387904) && upto (valOk a.vals) a.vals.length) from rfl)
  have hok := Lib.hid (show churnOk a.churn = decide (1 ≤ a.churn.toNat ∧ a.churn.toNat ≤ 4611686018427387904) from rfl)
  have hmp := Lib.hid (show mayPt a.point = decide (a.point.epoch.toNat ≤ 4611686018427387904) from rfl)
  have hlt : w.heap.size < (w.alloc (.cells (ancA ⟨a.point, ⟨sa, a.vals.length, sc⟩, a.churn, a.decay⟩) 113)).heap.size := by simp
  go_enter Try.func63, Try.ntmps63
  go_upto_region 1 with fail
  generalize w.alloc (.cells (ancA ⟨a.point, ⟨sa, a.vals.length, sc⟩, a.churn, a.decay⟩) 113) = W0 at *
  have HR := Lib.hid HB0
  replace hB0 := Lib.hid hB0
  clear HB0
  have hb00 := Lib.hid (Below.refl W0.heap.size W0)
  go_wp2_with fail
  go_loopw [3] (fun i W' => ∃ k : Nat, k ≤ a.vals.length ∧ Hid (upto (valOk a.vals) k = true) ∧ i = .int .i64 k ∧ Hid (Below W0.heap.size W0 W')) (fun i _ => a.vals.length - (intOf i).toNat)
  case atStart => exact ⟨0, Nat.zero_le _, Lib.hid rfl, rfl, hb00⟩
  case round =>
    clear hb00
    obtain ⟨k, hk, hu, rfl, hBk⟩ := hrel
    have hzk := hBk.out.size
    have hBw := Lib.hid (hB0.out.trans (hBk.out.mono (Nat.le_of_lt hlt)))
    obtain ⟨_, c0, c33, c34, c35, _⟩ := (HR.out.keep hBk.out).cells
    simp only at c0 c33 c34 c35
    dsimp only [Sl.v] at c33
    by_cases hkx : k < a.vals.length
    · clear c0 c34 c35
      obtain ⟨bv, ov, e, hbv, hrv⟩ := vals_at (SlR.keep hanc.out hBw.out fun _ _ h => h) (by omega)
      have e1 := congrArg Sl.a e
      simp only at e1
      subst e1
      clear e
      have hrow := hrv k hkx
      have Hrv := Lib.hid hrv
      clear hrv
      have hget := List.getElem?_eq_getElem hkx
      have Hf := Lib.hid (show valOk a.vals k = (stakeOk a.vals[k].stake && !decide (a.vals[k].key ∈ (a.vals.take k).map (·.key))) by rw [valOk, getD_of hget])
      have Hbad := Lib.hid (fun h : valOk a.vals k = false => (show ancMay a = false by rw [HM.out, upto_bad h hkx, Bool.and_false]))
      clear hget
      generalize a.vals[k] = v at *
      have i1 : (k : Int) < (a.vals.length : Int) := by omega
      go_upto_region 5 with fail
      obtain ⟨W1, hW1, hr1, hb1, hz1'⟩ := box_val wr v
      rw [← hW1]
      clear hW1 hrow hz1'
      have hvl := lt_of_row hr1
      obtain ⟨q0, q1⟩ := val_cells hr1
      simp only [Nat.zero_add] at q1
      have c331 := (hb1.cell (p := ⟨w.heap.size, 33, none⟩) (by omega)).trans c33
      have hBX := Lib.hid (hBk.out.trans (hb1.mono (by omega)))
      have hBXw := Lib.hid (hBw.out.trans (hb1.mono (by have := hBw.out.size; omega)))
      obtain ⟨sn, hsn⟩ : ∃ sn, sn = v.stake.toNat := ⟨_, rfl⟩
      rw [← hsn] at q1
      have hst := Lib.hid (show stakeOk v.stake = decide (1 ≤ sn ∧ sn ≤ 4294967296) by rw [hsn]; rfl)
      have hb1' := Lib.hid hb1
      clear hsn hb1 c33
      by_cases s1 : (sn : Int) < 1
      · have Hr := Lib.hid (Hbad.out (by rw [Hf.out, hst.out, decide_eq_false (by omega)]; rfl))
        go_wp2_with fail
        go_ret
        exact ⟨ret_bool Hr.out.symm, hBXw.out⟩
      by_cases s2 : (4294967296 : Int) < (sn : Int)
      · have Hr := Lib.hid (Hbad.out (by rw [Hf.out, hst.out, decide_eq_false (by omega)]; rfl))
        go_wp2_with fail
        go_ret
        exact ⟨ret_bool Hr.out.symm, hBXw.out⟩
      have Hf := Lib.hid (show valOk a.vals k = !decide (v.key ∈ (a.vals.take k).map (·.key)) by rw [Hf.out, hst.out, decide_eq_true (by omega), Bool.true_and])
      clear hst
      have hb11 := Lib.hid (Below.refl W1.heap.size W1)
      go_wp2_with fail
      clear s1 s2 q1
      generalize wr = wo at *
      go_loopw [5] (fun j W' => ∃ m : Nat, m ≤ k ∧ Hid (∀ (j : Nat) (x : Val), j < m → a.vals[j]? = some x → x.key ≠ v.key) ∧ j = .int .i64 m ∧ Hid (Below W1.heap.size W1 W')) (fun j _ => k - (intOf j).toNat)
      case atStart => exact ⟨0, Nat.zero_le _, Lib.hid (fun j x h => absurd h (by omega)), rfl, hb11⟩
      case round =>
        clear hb11
        obtain ⟨m, hm, hn, rfl, hBm⟩ := hrel
        have hzm := hBm.out.size
        have p33 := (hBm.out.cell (p := ⟨w.heap.size, 33, none⟩) (by show w.heap.size < W1.heap.size; have := hb1'.out.size; omega)).trans c331
        have pq0 := (row?_below _ _ _ hBm.out hvl).trans q0
        by_cases hmx : m < k
        · have hrm := (row?_below _ _ _ hBm.out (by have := hb1'.out.size; omega)).trans ((row?_below _ _ _ hb1'.out hbv).trans (Hrv.out m (by omega)))
          have hgm := List.getElem?_eq_getElem (l := a.vals) (i := m) (by omega)
          have Hhit := Lib.hid (fun he : (a.vals[m]'(by omega)).key = v.key => vkeys_in a.vals k m _ v hgm hmx (by omega) he)
          have Hmiss := Lib.hid (show (a.vals[m]'(by omega)).key ≠ v.key → ∀ (j : Nat) (x : Val), j < m + 1 → a.vals[j]? = some x → x.key ≠ v.key from fun hne j x hj hx => by
            rcases Nat.lt_or_ge j m with h | h
            · exact hn.out j x h hx
            · obtain rfl : j = m := by omega
              rw [hgm] at hx
              injection hx with hx
              rw [← hx]
              exact hne)
          clear hgm
          generalize a.vals[m]'(by omega) = x at *
          obtain ⟨xq, _⟩ := val_cells hrm
          have j1 : (m : Int) < (k : Int) := by omega
          have j2 : (m : Int) < (a.vals.length : Int) := by omega
          have t33 := fun n => (show (wr.drewN n).cell? ⟨w.heap.size, 33, none⟩ = _ from p33)
          have tq := fun n => (show row? (wr.drewN n) wo.heap.size 0 32 = _ from pq0)
          have tx := fun n => (show row? (wr.drewN n) bv (ov + m * 33) 32 = _ from xq)
          clear hrm
          by_cases hx : x.key = v.key
          · have bx : decide (x.key = v.key) = true := decide_eq_true hx
            have Hr := Lib.hid (Hbad.out (by rw [Hf.out, decide_eq_true (Hhit.out hx)]; rfl))
            have hBf := Lib.hid (hBXw.out.trans (hBm.out.mono (by have := hBXw.out.size; omega)))
            clear hx
            go_wp2_with fail
            go_quiet (fail)
            go_wp2_with fail
            go_ret
            exact ⟨ret_bool Hr.out.symm, below_drewN hBf.out _⟩
          · have bx : decide (x.key = v.key) = false := decide_eq_false hx
            have Hm := Lib.hid (Hmiss.out hx)
            clear hx
            go_wp2_with fail
            go_quiet (fail)
            go_wp2_with fail
            go_roundw
            case rel => exact ⟨m + 1, by omega, Hm, by go_num, Lib.hid (below_drewN hBm.out _)⟩
            case measure => simp [intOf]; omega
        · obtain rfl : k = m := by omega
          have Hok := Lib.hid (show valOk a.vals k = true by rw [Hf.out, decide_eq_false (vkeys_none a.vals k v hn.out)]; rfl)
          have hBf := Lib.hid (hBX.out.trans (hBm.out.mono (by have := hBX.out.size; omega)))
          clear p33 pq0
          go_wp2_with fail
          go_roundw
          case rel => exact ⟨k + 1, by omega, Lib.hid (by rw [upto_succ, hu.out, Hok.out]; rfl), by go_num, hBf⟩
          case measure => simp [intOf]; omega
    · obtain rfl : a.vals.length = k := by omega
      have HM := Lib.hid (show ancMay a = (mayPt a.point && decide (1 ≤ a.vals.length ∧ a.vals.length ≤ 64) && churnOk a.churn && decide (a.decay.toNat ≤ 4611686018427387904)) by rw [HM.out, hu.out, Bool.and_true])
      obtain ⟨en, hen⟩ : ∃ en, en = a.point.epoch.toNat := ⟨_, rfl⟩
      obtain ⟨cn, hcn⟩ : ∃ cn, cn = a.churn.toNat := ⟨_, rfl⟩
      obtain ⟨dn, hdn⟩ : ∃ dn, dn = a.decay.toNat := ⟨_, rfl⟩
      rw [← hen] at c0 hmp
      rw [← hcn] at c34 hok
      rw [← hdn] at c35 HM
      clear hen hcn hdn
      go_wp2_with fail
      all_goals go_ret
      all_goals exact ⟨ret_bool (by rw [HM.out, hok.out, hmp.out, Bool.eq_iff_iff]; simp; omega), hBw.out⟩
end Go.Proofs.Ytkocpihfdpahpaa

/- Contract: the document's Much (landmarkref10). -/
namespace Go.Proofs.Ytkocpihfdpahpaa
open Go.RowKit

def sigBig (v : Vote) : Bool := decide (5000 < v.sig.length)
def opBig (o : Op) : Bool := decide (4 < o.evidence.length) || o.evidence.any sigBig
def rmuch (h : Hdr) : Bool := decide (30 < h.ops.length) || h.ops.any opBig
theorem rmuch_out {h : Hdr} (hm : rmuch h = false) : HdrFits h ∧ h.ops.length ≤ 30 := by
  simp only [rmuch, Bool.or_eq_false_iff, decide_eq_false_iff_not, List.any_eq_false, opBig, Bool.not_eq_true] at hm
  obtain ⟨h1, h2⟩ := hm
  refine ⟨⟨by omega, fun o ho => ⟨?_, fun v hv => ?_⟩⟩, by omega⟩
  · have := (h2 o ho).1
    omega
  · have := (h2 o ho).2 v hv
    simp only [sigBig, decide_eq_false_iff_not] at this
    omega
theorem any_snoc {α : Type} (p : α → Bool) (l : List α) (k : Nat) (h : k < l.length) : (l.take (k + 1)).any p = ((l.take k).any p || p l[k]) := by
  rw [List.take_succ_eq_append_getElem h, List.any_append]
  simp
theorem any_hit {α : Type} (p : α → Bool) (l : List α) (k : Nat) (h : k < l.length) (hp : p l[k] = true) : l.any p = true := List.any_eq_true.2 ⟨_, List.getElem_mem h, hp⟩
set_option maxRecDepth 100000 in
set_option maxHeartbeats 3200000 in
theorem rmuch_c (g : GHeader) (h : Hdr) (w : World) (hr : HdrR w g h) :
    Calls Try.prog 54 #[.agg (headerA g)] w fun e w' => e = .returned (.bool (rmuch h)) ∧ Below w.heap.size w w' := by
  have n1 := hr.2.2.1
  have hB0 : Below w.heap.size w (w.alloc (.cells (headerA g) 49)) := bel_a _ _
  have hrow : row? (w.alloc (.cells (headerA g) 49)) w.heap.size 0 34 = some (headerA g) := by rw [row?_new]; simp
  have Hr := Lib.hid (hr.keep' hB0).2.2
  have HM := Lib.hid (show rmuch h = (decide (30 < h.ops.length) || h.ops.any opBig) from rfl)
  obtain ⟨gp, ge, ⟨oa, on, oc⟩⟩ := g
  simp only at n1
  subst n1
  clear hr
  go_enter Try.func54, Try.ntmps54
  go_upto_region 1 with fail
  generalize w.alloc (.cells (headerA ⟨gp, ge, ⟨oa, h.ops.length, oc⟩⟩) 49) = W0 at *
  have c33 := cell_of_row? hrow 33 (by omega)
  simp only [Nat.zero_add, headerA_ops] at c33
  dsimp only [Sl.v] at c33
  clear hrow
  by_cases s1 : (30 : Int) < (h.ops.length : Int)
  · have hf := Lib.hid (show rmuch h = true by rw [HM.out, decide_eq_true (by omega)]; rfl)
    go_wp2_with fail
    go_ret
    exact ⟨ret_bool hf.out.symm, hB0⟩
  have HM := Lib.hid (show rmuch h = h.ops.any opBig by rw [HM.out, decide_eq_false (by omega), Bool.false_or])
  go_wp2_with fail
  go_loop [3] (fun i => ∃ k : Nat, k ≤ h.ops.length ∧ Hid ((h.ops.take k).any opBig = false) ∧ i = .int .i64 k) (fun i => h.ops.length - (intOf i).toNat)
  case atStart => exact ⟨0, Nat.zero_le _, Lib.hid rfl, rfl⟩
  case round =>
    obtain ⟨k, hk, hu, rfl⟩ := hrel
    by_cases hkx : k < h.ops.length
    · obtain ⟨bo, oo, e, hbo, hco⟩ := (Hr.out).at (by omega)
      have e1 := congrArg Sl.a e
      simp only at e1
      subst e1
      clear e
      obtain ⟨cs, hcx, g1, rfl, hv1⟩ := hco k hkx
      clear hco
      have Hsn := Lib.hid (any_snoc opBig h.ops k hkx)
      have Hhit := Lib.hid (any_hit opBig h.ops k hkx)
      generalize h.ops[k] = o at *
      have n2 := hv1.2.2.2.2.1
      have Hev := Lib.hid hv1.2.2.2.2
      obtain ⟨gk, gkey, gst, gv, ⟨ea, en, ec⟩⟩ := g1
      simp only at n2
      subst n2
      have c35 := cell_of_row? hcx 35 (by omega)
      rw [opA_evidence] at c35
      dsimp only [Sl.v] at c35
      have Hob := Lib.hid (show opBig o = (decide (4 < o.evidence.length) || o.evidence.any sigBig) from rfl)
      have k1 : (k : Int) < (h.ops.length : Int) := by omega
      clear hcx hv1
      by_cases s2 : (4 : Int) < (o.evidence.length : Int)
      · have hf := Lib.hid (show rmuch h = true by rw [HM.out]; exact Hhit.out (by rw [Hob.out, decide_eq_true (by omega)]; rfl))
        go_wp2_with fail
        go_ret
        exact ⟨ret_bool hf.out.symm, hB0⟩
      have Hob := Lib.hid (show opBig o = o.evidence.any sigBig by rw [Hob.out, decide_eq_false (by omega), Bool.false_or])
      go_wp2_with fail
      go_loop [4] (fun j => ∃ m : Nat, m ≤ o.evidence.length ∧ Hid ((o.evidence.take m).any sigBig = false) ∧ j = .int .i64 m) (fun j => o.evidence.length - (intOf j).toNat)
      case atStart => exact ⟨0, Nat.zero_le _, Lib.hid rfl, rfl⟩
      case round =>
        obtain ⟨m, hm, hv, rfl⟩ := hrel
        by_cases hmx : m < o.evidence.length
        · obtain ⟨be, oe, e, hbe, hce⟩ := (Hev.out).at (by omega)
          have e1 := congrArg Sl.a e
          simp only at e1
          subst e1
          clear e
          obtain ⟨cs, hcx, g2, rfl, hv2⟩ := hce m hmx
          clear hce
          have Hsm := Lib.hid (any_snoc sigBig o.evidence m hmx)
          have Hhm := Lib.hid (any_hit sigBig o.evidence m hmx)
          generalize o.evidence[m] = v at *
          have n3 := hv2.2.2.2.1
          obtain ⟨gv2, gs2, gt2, ⟨pa, pn, pc⟩⟩ := g2
          simp only at n3
          subst n3
          have c67 := cell_of_row? hcx 67 (by omega)
          rw [voteA_sig] at c67
          dsimp only [Sl.v] at c67
          have Hsb := Lib.hid (show sigBig v = decide (5000 < v.sig.length) from rfl)
          have m1 : (m : Int) < (o.evidence.length : Int) := by omega
          clear hcx hv2
          by_cases s3 : (5000 : Int) < (v.sig.length : Int)
          · have hf := Lib.hid (show rmuch h = true by rw [HM.out]; exact Hhit.out (by rw [Hob.out]; exact Hhm.out (by rw [Hsb.out]; exact decide_eq_true (by omega))))
            go_wp2_with fail
            go_ret
            exact ⟨ret_bool hf.out.symm, hB0⟩
          · have hs := Lib.hid (show sigBig v = false by rw [Hsb.out]; exact decide_eq_false (by omega))
            go_wp2_with fail
            go_round
            case rel => exact ⟨m + 1, by omega, Lib.hid (by rw [Hsm.out, hv.out, hs.out]; rfl), by go_num⟩
            case measure => simp [intOf]; omega
        · obtain rfl : o.evidence.length = m := by omega
          have hob := Lib.hid (show opBig o = false by rw [Hob.out]; have := hv.out; rwa [List.take_length] at this)
          go_wp2_with fail
          go_round
          case rel => exact ⟨k + 1, by omega, Lib.hid (by rw [Hsn.out, hu.out, hob.out]; rfl), by go_num⟩
          case measure => simp [intOf]; omega
    · obtain rfl : h.ops.length = k := by omega
      have hf := Lib.hid (show rmuch h = false by rw [HM.out]; have := hu.out; rwa [List.take_length] at this)
      go_wp2_with fail
      go_ret
      exact ⟨ret_bool hf.out.symm, hB0⟩
end Go.Proofs.Ytkocpihfdpahpaa

/- Contract: landmarklaw11.known. -/
namespace Go.Proofs.Ytkocpihfdpahpaa
open Go.RowKit

def nmk (k : Nat) : Hash := ⟨UInt8.ofNat k :: List.replicate 31 0, by simp⟩
def bldNm (parts : Array (Nat × Value)) : Sem Value := Instr.build 24 parts
theorem fold_bldNm (parts : Array (Nat × Value)) : Instr.build 24 parts = bldNm parts := rfl
theorem nm_lit (k : Nat) (hk : k < 256) : (hashA zeroHash).setIfInBounds 0 (.int .u8 (k : Int)) = hashA (nmk k) := by
  have e : ((UInt8.ofNat k).toNat : Int) = (k : Int) := by
    rw [UInt8.toNat_ofNat']
    omega
  unfold hashA nmk
  simp only [List.map_cons, byteV, e]
  rfl
theorem run_bldNm (k : Nat) (hk : k < 256) (W : World) : (bldNm #[(0, .int .u8 (k : Int))]).run Try.prog W = .ok (.agg (hashA (nmk k))) W := by
  unfold bldNm
  go_simp
  first | (rw [nm_lit k hk, if_neg (fun h => by have := congrArg Array.size h; simp at this)]; simp) | (rw [zero_hash, nm_lit k hk]) | (rw [nm_lit k hk])
def bldPt (parts : Array (Nat × Value)) : Sem Value := Instr.build 26 parts
theorem fold_bldPt (parts : Array (Nat × Value)) : Instr.build 26 parts = bldPt parts := rfl
theorem run_bldPt (e : UInt64) (W : World) : (bldPt #[(0, .int .u64 (e.toNat : Int))]).run Try.prog W = .ok (.agg (pointA ⟨e, zeroHash⟩)) W := by
  unfold bldPt
  go_simp
  rw [if_neg (fun h => by have := congrArg Array.size h; simp at this)]
  simp [zeroPt]
def bldV (parts : Array (Nat × Value)) : Sem Value := Instr.build 125 parts
theorem fold_bldV (parts : Array (Nat × Value)) : Instr.build 125 parts = bldV parts := rfl
theorem run_bldV (k : Hash) (s : UInt64) (W : World) : (bldV #[(0, .agg (hashA k)), (1, .int .u64 (s.toNat : Int))]).run Try.prog W = .ok (.agg (valA ⟨k, s⟩)) W := by
  unfold bldV
  go_simp
  rw [fold0_splice _ _ 32 (by simp) (by simp), splice_zero_head _ _ 32 (by simp) (by simp)]
  simp [valA]
  refine Array.ext' ?_
  simp only [Array.toList_setIfInBounds, Array.toList_push]
  rw [List.set_append_right _ _ (by simp)]
  simp
theorem info_vals : (Try.prog.info? 125).map (fun i => (i.zero, i.size, i.bytes)) = some (some (.agg (valA zeroVal)), 33, 40) := by kernel_rfl
theorem splice_pair (Z xs ys : Array Value) (k : Nat) (hZ : Z.size = k + k) (hx : xs.size = k) (hy : ys.size = k) : splice (splice Z 0 xs) k ys = xs ++ ys := by
  apply Array.ext_getElem?
  intro i
  rw [splice_get _ _ _ (by rw [splice_size _ _ _ (by omega)]; omega), splice_get _ _ _ (by omega)]
  rcases Nat.lt_or_ge i k with h | h
  · rw [if_neg (by omega), if_pos (by omega), Nat.sub_zero, Array.getElem?_append_left (by omega)]
  · rw [Array.getElem?_append_right (by omega), hx]
    rcases Nat.lt_or_ge i (k + k) with h2 | h2
    · rw [if_pos (by omega)]
    · rw [if_neg (by omega), if_neg (by omega), Array.getElem?_eq_none (by omega), Array.getElem?_eq_none (by omega)]
def bsV (n : Nat) (parts : Array (Nat × Value)) : Sem Value := Instr.buildSlice 111 n parts
theorem fold_bsV (n : Nat) (parts : Array (Nat × Value)) : Instr.buildSlice 111 n parts = bsV n parts := rfl
theorem run_buildSlice_two {P : Program} (w : World) {t e : TypeId} {i : TypeInfo} {z : Value} {k : Nat} (ht : P.underlying t = some (.slice e)) (hi : P.info? e = some i) (hz : i.zero = some z) (hs : i.size = k) (h0 : 0 < k) (hle : k ≤ 8388608)
    (xs ys : Array Value) (hxs : xs.size = k) (hys : ys.size = k) : (Instr.buildSlice t 2 #[(0, .agg xs), (1, .agg ys)]).run P w = .ok (.slice (some ⟨w.heap.size, 0, none⟩) 2 2) (w.alloc (.cells (xs ++ ys) e)) := by
  have hfold : ∀ (Z V : Array Value) (o : Nat), o + V.size ≤ Z.size → V.zipIdx.foldl (fun cs (x : Value × Nat) => cs.setIfInBounds (o + x.2) x.1) Z = splice Z o V := fun Z V o h => by
    rw [fold_splice Z V o V.zipIdx.size (by simp) (by simp; omega)]
  have hsz : (Go.sizeOf e).run P w = .ok k w := by simp [Go.sizeOf, typeInfo, hi, hs]
  have hzv : (zeroValue e).run P w = .ok z w := by simp [zeroValue, typeInfo, hi, hz]
  simp only [Instr.buildSlice, Sem.run_bind, run_underlying ht, Result.andThen_ok, hsz]
  rw [if_neg (by omega), if_neg (by omega)]
  simp only [Sem.run_bind, hzv, Result.andThen_ok, Sem.run_pure]
  have hf : Instr.fill (fun i => some (i * k, k)) ((Array.range (2 * k)).map (z.cells[· % z.cells.size]!)) (#[(0, Value.agg xs), (1, Value.agg ys)] : Array (Nat × Value)).toList = some (xs ++ ys) := by
    have hZ : ((Array.range (2 * k)).map (z.cells[· % z.cells.size]!)).size = k + k := by simp; omega
    generalize (Array.range (2 * k)).map (z.cells[· % z.cells.size]!) = Z at *
    simp only [Instr.fill, Value.cells, Nat.zero_mul, Nat.one_mul]
    rw [if_neg (by simp [hxs, hZ]), hfold Z xs 0 (by omega), if_neg (by rw [splice_size _ _ _ (by omega)]; simp [hys, hZ]), hfold _ ys k (by rw [splice_size _ _ _ (by omega)]; omega), splice_pair Z xs ys k hZ hxs hys]
  rw [hf]
  simp [newRow]
theorem bsV_two (a b : Val) (w : World) : (bsV 2 #[(0, .agg (valA a)), (1, .agg (valA b))]).run Try.prog w = .ok (.slice (some ⟨w.heap.size, 0, none⟩) 2 2) (w.alloc (.cells (valA a ++ valA b) 125)) := by
  obtain ⟨i0, hi, hy0, hy1, hy2⟩ := info_parts info_vals
  exact run_buildSlice_two w Try.underlying111 hi hy0 hy1 (by omega) (by omega) _ _ (by simp) (by simp)
def bldA (parts : Array (Nat × Value)) : Sem Value := Instr.build 113 parts
theorem fold_bldA (parts : Array (Nat × Value)) : Instr.build 113 parts = bldA parts := rfl
theorem run_bldA (p : Pt) (s : Sl) (c : UInt64) (W : World) : (bldA #[(0, .agg (pointA p)), (1, s.v), (2, .int .u64 (c.toNat : Int))]).run Try.prog W = .ok (.agg (ancA ⟨p, s, c, 0⟩)) W := by
  unfold bldA
  dsimp only [Sl.v]
  go_simp
  rw [fold0_splice _ _ 33 (by simp) (by simp), splice_zero_head _ _ 33 (by simp) (by simp)]
  simp [ancA]
def bldO (parts : Array (Nat × Value)) : Sem Value := Instr.build 83 parts
theorem fold_bldO (parts : Array (Nat × Value)) : Instr.build 83 parts = bldO parts := rfl
def bsO (n : Nat) (parts : Array (Nat × Value)) : Sem Value := Instr.buildSlice 47 n parts
theorem fold_bsO (n : Nat) (parts : Array (Nat × Value)) : Instr.buildSlice 47 n parts = bsO n parts := rfl
theorem info_hop2 : (Try.prog.info? 83).map (fun i => (i.zero, i.size, i.bytes)) = some (some (.agg (opA ⟨0, zeroHash, 0, 0, ⟨none, 0, 0⟩⟩)), 36, 80) := by kernel_rfl
theorem bsO_one (o : GOp) (w : World) : (bsO 1 #[(0, .agg (opA o))]).run Try.prog w = .ok (.slice (some ⟨w.heap.size, 0, none⟩) 1 1) (w.alloc (.cells (opA o) 83)) := by
  obtain ⟨i0, hi, hy0, hy1, hy2⟩ := info_parts info_hop2
  exact run_buildSlice_one w Try.underlying47 hi hy0 hy1 (by simp [Value.cells]) (by omega) (by omega) _ (by simp)
theorem op_set_val (o : GOp) (v : Int) : (opA o).setIfInBounds 34 (.int .i64 v) = opA { o with validator := v } := by
  unfold opA
  rw [Array.setIfInBounds_append_right (by simp)]
  simp
theorem hdr_set_ep (g : GHeader) (e : UInt64) : (headerA g).setIfInBounds 32 (.int .u64 (e.toNat : Int)) = headerA { g with epoch := e } := by
  unfold headerA
  rw [Array.setIfInBounds_append_right (by simp)]
  simp
theorem hdr_set_ops (g : GHeader) (s : Sl) : (headerA g).setIfInBounds 33 s.v = headerA { g with ops := s } := by
  unfold headerA
  rw [Array.setIfInBounds_append_right (by simp)]
  simp
theorem run_bldO (v : Int) (W : World) : (bldO #[(0, .int .i64 2), (3, .int .i64 v)]).run Try.prog W = .ok (.agg (opA ⟨2, zeroHash, 0, v, ⟨none, 0, 0⟩⟩)) W := by
  unfold bldO
  go_simp
  rw [op_set_val, if_neg (fun h => by have := congrArg Array.size h; simp at this)]
  simp
def bldH (parts : Array (Nat × Value)) : Sem Value := Instr.build 49 parts
theorem fold_bldH (parts : Array (Nat × Value)) : Instr.build 49 parts = bldH parts := rfl
theorem run_bldH (e : UInt64) (s : Sl) (W : World) : (bldH #[(1, .int .u64 (e.toNat : Int)), (2, s.v)]).run Try.prog W = .ok (.agg (headerA ⟨zeroHash, e, s⟩)) W := by
  unfold bldH
  dsimp only [Sl.v]
  go_simp
  rw [hdr_set_ep]
  exact hdr_set_ops _ _
theorem run_bldH1 (e : UInt64) (W : World) : (bldH #[(1, .int .u64 (e.toNat : Int))]).run Try.prog W = .ok (.agg (headerA ⟨zeroHash, e, ⟨none, 0, 0⟩⟩)) W := by
  unfold bldH
  go_simp
  rw [hdr_set_ep]

/-! the chapter's rows -/
def kAnc : Anc := ⟨⟨5, zeroHash⟩, [⟨nmk 1, 10⟩, ⟨nmk 2, 20⟩], 10, 0⟩
def kH1 : Hdr := ⟨zeroHash, 6, [⟨2, zeroHash, 0, 1, []⟩]⟩
def kH2 : Hdr := ⟨zeroHash, 7, []⟩
def kR0 : Reg := ⟨[⟨nmk 1, 10, 2, false⟩, ⟨nmk 2, 20, 2, false⟩], [], [], 10⟩
def kR1 : Reg := ⟨[⟨nmk 1, 10, 3, false⟩, ⟨nmk 2, 20, 2, false⟩], [], [1], 10⟩
def kR2 : Reg := ⟨[⟨nmk 1, 10, 4, false⟩, ⟨nmk 2, 20, 2, false⟩], [], [], 10⟩
theorem k_first : firstP kAnc = (kR0, 0) := by decide +kernel
theorem k_next1 : regNext kR0 kH1 5 = (kR1, 0) := by decide +kernel
theorem k_next2 : regNext kR1 kH2 6 = (kR2, 0) := by decide +kernel
theorem k_tot1 : totW kR1 2 = 30 := by decide +kernel
theorem k_tot2 : totW kR2 2 = 20 := by decide +kernel
theorem box_reg (W : World) (g : GReg) : ∃ W', W' = putRow (W.alloc (.cells #[.slice none 0 0, .slice none 0 0, .slice none 0 0, .int .u64 0] 103)) W.heap.size 0 (regA g) ∧ row? W' W.heap.size 0 4 = some (regA g) ∧ there W' W.heap.size 0 4 ∧ Below W.heap.size W W' ∧ W'.heap.size = W.heap.size + 1 := by
  have ht := there_new W #[.slice none 0 0, .slice none 0 0, .slice none 0 0, .int .u64 0] 103 0 4 (by simp)
  refine ⟨_, rfl, ?_, there_put _ _ _ _ _ _ _ ht, below_put (bel_a W _) (Nat.le_refl _) _ _, by rw [size_put]; simp⟩
  exact row?_put_same _ _ _ _ _ (by rfl) (by omega) ht
attribute [local go_sem ↓] fold_bldNm fold_bldPt fold_bldV fold_bsV fold_bldA fold_bldO fold_bsO fold_bldH
theorem store_box_reg (W : World) (g : GReg) : (storeAgg 103 (.pointer (some ⟨W.heap.size, 0, none⟩)) (.agg (regA g))).run Try.prog (W.alloc (.cells #[.slice none 0 0, .slice none 0 0, .slice none 0 0, .int .u64 0] 103)) = .ok () (putRow (W.alloc (.cells #[.slice none 0 0, .slice none 0 0, .slice none 0 0, .int .u64 0] 103)) W.heap.size 0 (regA g)) :=
  store_reg _ _ _ _ rfl (onesReg _) (there_new W _ _ 0 4 (by simp))
attribute [go_sem] store_box_reg
set_option maxRecDepth 100000 in
set_option maxHeartbeats 3200000 in
theorem known11_c (w : World) : Calls Try.prog 55 #[] w fun e w' => e = .returned (.bool true) ∧ Below w.heap.size w w' := by
  have hp : ∀ W, (bldPt #[(0, .int .u64 5)]).run Try.prog W = .ok (.agg (pointA ⟨5, zeroHash⟩)) W := fun W => run_bldPt 5 W
  have hn1 : ∀ W, (bldNm #[(0, .int .u8 1)]).run Try.prog W = .ok (.agg (hashA (nmk 1))) W := fun W => run_bldNm 1 (by decide) W
  have hn2 : ∀ W, (bldNm #[(0, .int .u8 2)]).run Try.prog W = .ok (.agg (hashA (nmk 2))) W := fun W => run_bldNm 2 (by decide) W
  have hv1 : ∀ W, (bldV #[(0, .agg (hashA (nmk 1))), (1, .int .u64 10)]).run Try.prog W = .ok (.agg (valA ⟨nmk 1, 10⟩)) W := fun W => run_bldV _ 10 W
  have hv2 : ∀ W, (bldV #[(0, .agg (hashA (nmk 2))), (1, .int .u64 20)]).run Try.prog W = .ok (.agg (valA ⟨nmk 2, 20⟩)) W := fun W => run_bldV _ 20 W
  have hs := fun W => bsV_two ⟨nmk 1, 10⟩ ⟨nmk 2, 20⟩ W
  have ha : ∀ (b : Nat) W, (bldA #[(0, .agg (pointA ⟨5, zeroHash⟩)), (1, .slice (some ⟨b, 0, none⟩) 2 2), (2, .int .u64 10)]).run Try.prog W = .ok (.agg (ancA ⟨⟨5, zeroHash⟩, ⟨some ⟨b, 0, none⟩, 2, 2⟩, 10, 0⟩)) W := fun b W => run_bldA _ ⟨some ⟨b, 0, none⟩, 2, 2⟩ 10 W
  generalize hvv1 : (⟨nmk 1, 10⟩ : Val) = v1 at *
  generalize hvv2 : (⟨nmk 2, 20⟩ : Val) = v2 at *
  generalize hnn1 : nmk 1 = m1 at *
  generalize hnn2 : nmk 2 = m2 at *
  have hAR : AncR (w.alloc (.cells (valA v1 ++ valA v2) 125)) ⟨⟨5, zeroHash⟩, ⟨some ⟨w.heap.size, 0, none⟩, 2, 2⟩, 10, 0⟩ kAnc := by
    refine ⟨rfl, ⟨rfl, Nat.le_refl _, fun _ => ⟨w.heap.size, 0, rfl, fun i hi => ⟨_, ?_, rfl⟩⟩⟩, rfl, rfl⟩
    have hi2 : i < 2 := hi
    have hk : kAnc.vals = [v1, v2] := by rw [← hvv1, ← hvv2, ← hnn1, ← hnn2]; rfl
    rw [row?_new]
    match i, hi2 with
    | 0, _ =>
      rw [if_pos (by simp)]
      simp only [hk, List.getElem_cons_zero, Nat.zero_mul, Nat.zero_add]
      rw [Array.extract_append]
      simp [ext_self, ext_none]
    | 1, _ =>
      rw [if_pos (by simp)]
      simp only [hk, List.getElem_cons_succ, List.getElem_cons_zero, Nat.one_mul, Nat.zero_add]
      rw [Array.extract_append]
      simp [ext_self, ext_none]
  replace hvv1 := Lib.hid hvv1
  replace hvv2 := Lib.hid hvv2
  replace hnn1 := Lib.hid hnn1
  replace hnn2 := Lib.hid hnn2
  have hB1 : Below w.heap.size w (w.alloc (.cells (valA v1 ++ valA v2) 125)) := bel_a _ _
  have hF := first_c hAR (by decide)
  rw [k_first] at hF
  go_enter Try.func55, Try.ntmps55
  go_wp2_with fail
  refine hF.mono ?_
  rintro e w2 ⟨g0, he, hR0, hb2⟩
  replace hR0 := hR0.reg
  replace he : e = .returned (.tuple #[.agg (regA g0), .int .i64 0]) := he
  subst he
  have hb0 := Lib.hid (hB1.trans (hb2.mono (by simp)))
  clear hF hAR hB1 hb2 hp hn1 hn2 hv1 hv2 hs ha
  go_upto_region 2 with fail
  obtain ⟨w3, hw3, hr3, _, hb3, hz3⟩ := box_reg w2 g0
  rw [← hw3]
  clear hw3
  obtain ⟨p1, hp1⟩ : ∃ p1, p1 = w2.heap.size := ⟨_, rfl⟩
  rw [← hp1] at hr3 ⊢
  have hR3 := Lib.hid (RegR.keep hR0 hb3)
  have hB3 := Lib.hid (hb0.out.trans (hb3.mono hb0.out.size))
  have hl3 : p1 < w3.heap.size := by omega
  clear hp1 hz3 hb3 hR0 hb0
  have hop := fun W => run_bldO 1 W
  have hso := fun W => bsO_one ⟨2, zeroHash, 0, 1, ⟨none, 0, 0⟩⟩ W
  have hbh : ∀ (b : Nat) W, (bldH #[(1, .int .u64 6), (2, .slice (some ⟨b, 0, none⟩) 1 1)]).run Try.prog W = .ok (.agg (headerA ⟨zeroHash, 6, ⟨some ⟨b, 0, none⟩, 1, 1⟩⟩)) W := fun b W => run_bldH 6 ⟨some ⟨b, 0, none⟩, 1, 1⟩ W
  have hba : Below w3.heap.size w3 (w3.alloc (.cells (opA ⟨2, zeroHash, 0, 1, ⟨none, 0, 0⟩⟩) 83)) := bel_a _ _
  have hHR : HdrR (w3.alloc (.cells (opA ⟨2, zeroHash, 0, 1, ⟨none, 0, 0⟩⟩) 83)) ⟨zeroHash, 6, ⟨some ⟨w3.heap.size, 0, none⟩, 1, 1⟩⟩ kH1 := by
    refine ⟨rfl, rfl, rfl, Nat.le_refl _, fun _ => ⟨w3.heap.size, 0, rfl, fun i hi => ?_⟩⟩
    have hi1 : i < 1 := hi
    obtain rfl : i = 0 := by omega
    refine ⟨opA ⟨2, zeroHash, 0, 1, ⟨none, 0, 0⟩⟩, ?_, ⟨2, zeroHash, 0, 1, ⟨none, 0, 0⟩⟩, rfl, rfl, rfl, rfl, rfl, SlR.nil _ _ _ _ _⟩
    rw [row?_new]
    simp
  have hN1 := next_c 5 (RegR.keep hR3.out hba) hHR (by decide) (by decide) (by decide) ⟨by decide, fun o ho => by simp [kH1] at ho; subst ho; exact ⟨by decide, fun v hv => by simp at hv⟩⟩
  rw [k_next1] at hN1
  have hN1 : Calls Try.prog 58 #[.agg (regA g0), .agg (headerA ⟨zeroHash, 6, ⟨some ⟨w3.heap.size, 0, none⟩, 1, 1⟩⟩), .int .u64 5] _ _ := hN1
  have hB4 := Lib.hid (hB3.out.trans (hba.mono hB3.out.size))
  have hr4 := (row?_below _ _ _ hba hl3).trans hr3
  have hl4 : p1 < (w3.alloc (.cells (opA ⟨2, zeroHash, 0, 1, ⟨none, 0, 0⟩⟩) 83)).heap.size := by simp; omega
  generalize hgo : (⟨2, zeroHash, 0, 1, ⟨none, 0, 0⟩⟩ : GOp) = go at *
  clear hba hHR hR3
  go_wp2_with fail
  refine hN1.mono ?_
  clear hN1
  rintro e w5 ⟨g1, he, hR1, hb5⟩
  replace hR1 := hR1.reg
  replace he : e = .returned (.tuple #[.agg (regA g1), .int .i64 0]) := he
  subst he
  have hB5 := Lib.hid (hB4.out.trans (hb5.mono hB4.out.size))
  clear hop hso hbh hgo hr4 hl4 hb5 hB4 hB3 hr3 hl3
  go_upto_region 3 with fail
  obtain ⟨w6, hw6, hr6, _, hb6, hz6⟩ := box_reg w5 g1
  rw [← hw6]
  clear hw6
  obtain ⟨p2, hp2⟩ : ∃ p2, p2 = w5.heap.size := ⟨_, rfl⟩
  rw [← hp2] at hr6 ⊢
  have hR6 := RegR.keep hR1 hb6
  have hB6 := Lib.hid (hB5.out.trans (hb6.mono hB5.out.size))
  have hl6 : p2 < w6.heap.size := by omega
  clear hp2 hz6 hb6 hR1 hB5
  have hh1 : ∀ W, (bldH #[(1, .int .u64 7)]).run Try.prog W = .ok (.agg (headerA ⟨zeroHash, 7, ⟨none, 0, 0⟩⟩)) W := fun W => run_bldH1 7 W
  have hN2 := next_c (w := w6) (gh := ⟨zeroHash, 7, ⟨none, 0, 0⟩⟩) (h := kH2) 6 hR6 ⟨rfl, rfl, SlR.nil _ _ _ _ _⟩ (by decide) (by decide) (by decide) ⟨by decide, fun o ho => by simp [kH2] at ho⟩
  rw [k_next2] at hN2
  have hN2 : Calls Try.prog 58 #[.agg (regA g1), .agg (headerA ⟨zeroHash, 7, ⟨none, 0, 0⟩⟩), .int .u64 6] _ _ := hN2
  replace hR6 := Lib.hid hR6
  go_wp2_with fail
  refine hN2.mono ?_
  clear hN2
  rintro e w7 ⟨g2, he, hR2, hb7⟩
  replace hR2 := hR2.reg
  replace he : e = .returned (.tuple #[.agg (regA g2), .int .i64 0]) := he
  subst he
  have hB7 := Lib.hid (hB6.out.trans (hb7.mono hB6.out.size))
  have hR17 := RegR.keep hR6.out hb7
  have hr17 := (row?_below _ _ _ hb7 hl6).trans hr6
  have hl7 : p2 < w7.heap.size := Nat.lt_of_lt_of_le hl6 hb7.size
  clear hh1 hr6 hl6 hb7 hB6 hR6
  go_upto_region 4 with fail
  obtain ⟨w8, hw8, hr8, _, hb8, hz8⟩ := box_reg w7 g2
  rw [← hw8]
  clear hw8
  obtain ⟨p3, hp3⟩ : ∃ p3, p3 = w7.heap.size := ⟨_, rfl⟩
  rw [← hp3] at hr8 ⊢
  have hA : RBox w8 p2 g1 kR1 := ⟨(row?_below _ _ _ hb8 hl7).trans hr17, RegR.keep hR17 hb8⟩
  have hC : RBox w8 p3 g2 kR2 := ⟨hr8, RegR.keep hR2 hb8⟩
  have hB8 := Lib.hid (hB7.out.trans (hb8.mono hB7.out.size))
  clear hp3 hz8 hb8 hR2 hB7 hR17 hr17 hl7 hr8
  obtain ⟨a0, _, _, _, _⟩ := hA.cells
  obtain ⟨c0, _, _, _, _⟩ := hC.cells
  have la := hA.reg.1.1
  have lc := hC.reg.1.1
  obtain ⟨ba, oa, ea, hba, hra, _⟩ := mbrs_at hA.reg.1 (by decide)
  obtain ⟨bc, oc, ec, hbc, hrc, _⟩ := mbrs_at hC.reg.1 (by decide)
  have ma := (mbr_cells (hra 0 (by decide))).2.2.1
  have mc := (mbr_cells (hrc 0 (by decide))).2.2.1
  have HT1 := regTotal_c hA.reg (by decide)
  have HT2 := fun W (hb : Below w8.heap.size w8 W) => regTotal_c (hC.keep hb).reg (by decide)
  rw [show kR1.members.length = 2 from rfl, k_tot1] at HT1
  rw [show kR2.members.length = 2 from rfl, k_tot2] at HT2
  have rA := hA.row
  have hCb := fun W (hb : Below w8.heap.size w8 W) => (hC.keep hb).row
  rw [ea] at a0
  rw [ec] at c0
  change w8.cell? ⟨p2, 0, none⟩ = some (.slice (some ⟨ba, oa, none⟩) 2 _) at a0
  change w8.cell? ⟨p3, 0, none⟩ = some (.slice (some ⟨bc, oc, none⟩) 2 _) at c0
  change w8.cell? ⟨ba, oa + 0 * 35 + 33, none⟩ = some (.int .i64 3) at ma
  change w8.cell? ⟨bc, oc + 0 * 35 + 33, none⟩ = some (.int .i64 4) at mc
  simp only [Nat.zero_mul, Nat.add_zero] at ma mc
  clear hra hrc ea ec la lc hA hC
  go_wp2_with fail
  refine HT1.mono ?_
  clear HT1
  rintro e w9 ⟨he, hb9⟩
  replace he : e = .returned (.int .u64 30) := he
  subst he
  have HT2 := HT2 w9 hb9
  have rC := hCb w9 hb9
  have hB9 := Lib.hid (hB8.out.trans (hb9.mono hB8.out.size))
  clear hCb hb9 hB8
  go_wp2_with fail
  refine HT2.mono ?_
  clear HT2
  rintro e w10 ⟨he, hb10⟩
  replace he : e = .returned (.int .u64 20) := he
  subst he
  have hB10 := Lib.hid (hB9.out.trans (hb10.mono hB9.out.size))
  clear hb10 hB9
  go_wp2_with fail
  go_ret
  exact ⟨rfl, hB10.out⟩
end Go.Proofs.Ytkocpihfdpahpaa

/- An api.Anchor and a slice of headers among the arguments, opened. -/
namespace Go.Proofs.Ytkocpihfdpahpaa
open Go.ChangeShapes Go.WideShapes Go.ChangeAt Go.RowKit

def HdrC (w : World) (cs : Array Value) (h : Hdr) : Prop := ∃ g, cs = headerA g ∧ HdrR w g h
abbrev HdrsR (w : World) (s : Sl) (l : List Hdr) : Prop := SlR 34 (HdrC w) w s l
theorem HdrsR.keep' {w w' : World} {s : Sl} {l : List Hdr} (h : HdrsR w s l) (hb : Below w.heap.size w w') : HdrsR w' s l :=
  SlR.keep h hb fun _ _ ⟨g, e, hv⟩ => ⟨g, e, hv.keep' hb⟩
theorem open_rowsA {H : Type} {P : Program} {enc : TypeId × Value → H} {w : World} {base : Nat} {spare : Nat → Bool} {held : Bool} {t e : TypeId} {k : Nat} (ht : P.underlying t = some (.slice e)) (hk : P.cellsOf e = k) (h0 : 0 < k)
    {α : Type} {R : Array Value → α → Prop} (hR : ∀ fuel cs x, DataW.trod enc P w base spare held fuel e cs = some x → ∃ y, R cs.toArray y)
    {r : Reach} {b0 : Nat} {v : Value} {d : DataW H} {p : List MemPlace} (hv : Value.okWide P w r b0 t v) (h : DataW.Trod enc P w base spare held t v d p) : ∃ (s : Sl) (l : List α), v = s.v ∧ SlR k R w s l := by
  obtain ⟨a0, len0, cap0, rfl⟩ := okWide_slice ht hv
  obtain ⟨fuel, hf⟩ := h
  obtain ⟨s, l, hcs, hr⟩ := open_rows (R := R) ht hk h0 hR hf
  simp [Value.cells] at hcs
  obtain ⟨e1, e2, e3⟩ := hcs
  refine ⟨s, l, ?_, hr⟩
  obtain ⟨a, n, c⟩ := s
  simp only at e1 e2 e3
  subst e1 e2 e3
  rfl
theorem val_fields : (Try.prog.fieldsOf 125).toList.map (fun f => (f.name, f.type, f.offset)) = [("Key", 24, 0), ("Stake", 22, 32)] := by kernel_rfl
theorem val_under : Try.prog.underlying 125 = some (.struct (Try.prog.fieldsOf 125)) := by kernel_rfl
theorem val_cellsOf : Try.prog.cellsOf 125 = 33 := by kernel_rfl
theorem vals_cellsOf : Try.prog.cellsOf 111 = 1 := by kernel_rfl
theorem anc_fields : (Try.prog.fieldsOf 113).toList.map (fun f => (f.name, f.type, f.offset)) = [("Point", 26, 0), ("Validators", 111, 33), ("Churn", 22, 34), ("Decay", 22, 35)] := by kernel_rfl
theorem anc_under : Try.prog.underlying 113 = some (.struct (Try.prog.fieldsOf 113)) := by kernel_rfl
theorem anc_cellsOf : Try.prog.cellsOf 113 = 36 := by kernel_rfl
section
variable {H : Type} {enc : TypeId × Value → H} {w : World} {base : Nat} {spare : Nat → Bool} {held : Bool} {fuel : Nat} {cs : List Value} {x : DataW H × List MemPlace}
theorem open_val_l (h : DataW.trod enc Try.prog w base spare held fuel 125 cs = some x) : ∃ v : Val, cs = (valA v).toList := by
  obtain ⟨n, hl, hx⟩ := field_open val_under val_fields h
  obtain ⟨y0, h0⟩ := hx 0 _ _ _ rfl
  obtain ⟨y1, h1⟩ := hx 1 _ _ _ rfl
  rw [val_cellsOf] at hl
  rw [hash_cells, List.drop_zero] at h0
  rw [u64_cells, List.take_of_length_le (by rw [List.length_drop, hl]; decide)] at h1
  obtain ⟨k, c0⟩ := open_hash Try.underlying24 Try.underlying5 u8_cells hash_cells h0
  obtain ⟨s, c1⟩ := open_u64 Try.underlying22 h1
  refine ⟨⟨k, s⟩, ?_⟩
  rw [← List.take_append_drop 32 cs, c0, c1]
  simp [valA]
theorem open_vals_l (h : DataW.trod enc Try.prog w base spare held fuel 111 cs = some x) : ∃ (s : Sl) (l : List Val), cs = [s.v] ∧ ValsR w s l :=
  open_rows (R := fun cs v => cs = valA v) Try.underlying111 val_cellsOf (by decide) (fun fuel cs x h => by
    obtain ⟨v, hc⟩ := open_val_l h
    exact ⟨v, by rw [hc]⟩) h
theorem open_anc_l (h : DataW.trod enc Try.prog w base spare held fuel 113 cs = some x) : ∃ (g : GAnc) (a : Anc), cs = (ancA g).toList ∧ AncR w g a := by
  obtain ⟨n, hl, hx⟩ := field_open anc_under anc_fields h
  obtain ⟨y0, h0⟩ := hx 0 _ _ _ rfl
  obtain ⟨y1, h1⟩ := hx 1 _ _ _ rfl
  obtain ⟨y2, h2⟩ := hx 2 _ _ _ rfl
  obtain ⟨y3, h3⟩ := hx 3 _ _ _ rfl
  rw [anc_cellsOf] at hl
  rw [point_cells, List.drop_zero] at h0
  rw [vals_cellsOf] at h1
  rw [u64_cells] at h2
  rw [u64_cells, List.take_of_length_le (by rw [List.length_drop, hl]; decide)] at h3
  obtain ⟨p, c0⟩ := open_point_l h0
  obtain ⟨s, l, c1, hs⟩ := open_vals_l h1
  obtain ⟨ch, c2⟩ := open_u64 Try.underlying22 h2
  obtain ⟨de, c3⟩ := open_u64 Try.underlying22 h3
  refine ⟨⟨p, s, ch, de⟩, ⟨p, l, ch, de⟩, ?_, rfl, hs, rfl, rfl⟩
  have e1 : cs = cs.take 33 ++ cs.drop 33 := (List.take_append_drop 33 cs).symm
  rw [e1, c0, drop_cut cs 33 1 34 rfl, c1, drop_cut cs 34 1 35 rfl, c2, c3]
  simp [ancA]
end
set_option maxRecDepth 100000 in
theorem open_anc {H : Type} {enc : TypeId × Value → H} {w : World} {base : Nat} {spare : Nat → Bool} {held : Bool} {r : Reach} {b0 : Nat} {v : Value} {d : DataW H} {p : List MemPlace} (hv : Value.okWide Try.prog w r b0 113 v) (h : DataW.Trod enc Try.prog w base spare held 113 v d p) :
    ∃ (g : GAnc) (a : Anc), v = .agg (ancA g) ∧ AncR w g a := by
  obtain ⟨cs, rfl, hsz⟩ := okWide_struct anc_under hv
  obtain ⟨fuel, hf⟩ := h
  obtain ⟨g, u, hp, hr⟩ := open_anc_l hf
  exact ⟨g, u, congrArg Value.agg (Array.ext' (by simpa [Value.cells] using hp)), hr⟩
set_option maxRecDepth 100000 in
theorem open_hdrs {H : Type} {enc : TypeId × Value → H} {w : World} {base : Nat} {spare : Nat → Bool} {held : Bool} {r : Reach} {b0 : Nat} {v : Value} {d : DataW H} {p : List MemPlace} (hv : Value.okWide Try.prog w r b0 66 v) (h : DataW.Trod enc Try.prog w base spare held 66 v d p) :
    ∃ (s : Sl) (l : List Hdr), v = s.v ∧ HdrsR w s l :=
  open_rowsA (R := HdrC w) Try.underlying66 header_cells (by decide) (fun fuel cs x h => by
    obtain ⟨g, o, hc, hr⟩ := open_header_l h
    exact ⟨o, g, by rw [hc], hr⟩) hv h
end Go.Proofs.Ytkocpihfdpahpaa
