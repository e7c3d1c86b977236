/- Rules of whole-struct stores, for the walk. -/
import Derived.Test.YtlkflddjpkhndaaPut
import Derived.Test.YtlkflddjpkhndaaLoads
namespace Go.Proofs.Ytlkflddjpkhndaa
open Go.RowKit

/-- rows and cells behind a whole store -/
theorem there_new_at (w : World) (cs : Array Value) (t : TypeId) (b off n : Nat) (hb : b = w.heap.size) (h : off + n ≤ cs.size) : there (w.alloc (.cells cs t)) b off n := by subst hb; exact there_new w cs t off n h
attribute [go_sem] row?_put_far row?_put_in' row?_set_in' splice_all' cell_put_far cell_put_out cell_put_in size_put frozen_put there_new there_new_at row?_new_at there_old' there_drew' there_drewN' there_put' there_set' onesHash onesPoint onesLink onesVote onesOp onesHeader
theorem store_point_s (x v : Value) : Instr.storeAt 26 x v = storeAgg 26 x v := rfl
theorem info_point : (Try.prog.info? 26).map (·.size) = some 33 := by kernel_rfl
theorem store_point (w : World) (b off : Nat) (xs : Array Value) (hn : xs.size = 33) (h1 : oneCells xs) (ht : there w b off 33) : (storeAgg 26 (.pointer (some ⟨b, off, none⟩)) (.agg xs)).run Try.prog w = .ok () (putRow w b off xs) := run_storeAgg info_point w b off xs hn h1 ht
attribute [go_sem ↓] store_point_s
attribute [go_sem] store_point
theorem store_hash_s (x v : Value) : Instr.storeAt 24 x v = storeAgg 24 x v := rfl
theorem info_hash : (Try.prog.info? 24).map (·.size) = some 32 := by kernel_rfl
theorem store_hash (w : World) (b off : Nat) (xs : Array Value) (hn : xs.size = 32) (h1 : oneCells xs) (ht : there w b off 32) : (storeAgg 24 (.pointer (some ⟨b, off, none⟩)) (.agg xs)).run Try.prog w = .ok () (putRow w b off xs) := run_storeAgg info_hash w b off xs hn h1 ht
attribute [go_sem ↓] store_hash_s
attribute [go_sem] store_hash
theorem store_arr32_s (x v : Value) : Instr.storeAt 23 x v = storeAgg 23 x v := rfl
theorem info_arr32 : (Try.prog.info? 23).map (·.size) = some 32 := by kernel_rfl
theorem store_arr32 (w : World) (b off : Nat) (xs : Array Value) (hn : xs.size = 32) (h1 : oneCells xs) (ht : there w b off 32) : (storeAgg 23 (.pointer (some ⟨b, off, none⟩)) (.agg xs)).run Try.prog w = .ok () (putRow w b off xs) := run_storeAgg info_arr32 w b off xs hn h1 ht
attribute [go_sem ↓] store_arr32_s
attribute [go_sem] store_arr32
theorem store_link_s (x v : Value) : Instr.storeAt 28 x v = storeAgg 28 x v := rfl
theorem info_link : (Try.prog.info? 28).map (·.size) = some 66 := by kernel_rfl
theorem store_link (w : World) (b off : Nat) (xs : Array Value) (hn : xs.size = 66) (h1 : oneCells xs) (ht : there w b off 66) : (storeAgg 28 (.pointer (some ⟨b, off, none⟩)) (.agg xs)).run Try.prog w = .ok () (putRow w b off xs) := run_storeAgg info_link w b off xs hn h1 ht
attribute [go_sem ↓] store_link_s
attribute [go_sem] store_link
theorem store_vote_s (x v : Value) : Instr.storeAt 84 x v = storeAgg 84 x v := rfl
theorem info_vote : (Try.prog.info? 84).map (·.size) = some 68 := by kernel_rfl
theorem store_vote (w : World) (b off : Nat) (xs : Array Value) (hn : xs.size = 68) (h1 : oneCells xs) (ht : there w b off 68) : (storeAgg 84 (.pointer (some ⟨b, off, none⟩)) (.agg xs)).run Try.prog w = .ok () (putRow w b off xs) := run_storeAgg info_vote w b off xs hn h1 ht
attribute [go_sem ↓] store_vote_s
attribute [go_sem] store_vote
theorem store_hop_s (x v : Value) : Instr.storeAt 122 x v = storeAgg 122 x v := rfl
theorem info_hop : (Try.prog.info? 122).map (·.size) = some 36 := by kernel_rfl
theorem store_hop (w : World) (b off : Nat) (xs : Array Value) (hn : xs.size = 36) (h1 : oneCells xs) (ht : there w b off 36) : (storeAgg 122 (.pointer (some ⟨b, off, none⟩)) (.agg xs)).run Try.prog w = .ok () (putRow w b off xs) := run_storeAgg info_hop w b off xs hn h1 ht
attribute [go_sem ↓] store_hop_s
attribute [go_sem] store_hop
theorem store_header_s (x v : Value) : Instr.storeAt 69 x v = storeAgg 69 x v := rfl
theorem info_header : (Try.prog.info? 69).map (·.size) = some 34 := by kernel_rfl
theorem store_header (w : World) (b off : Nat) (xs : Array Value) (hn : xs.size = 34) (h1 : oneCells xs) (ht : there w b off 34) : (storeAgg 69 (.pointer (some ⟨b, off, none⟩)) (.agg xs)).run Try.prog w = .ok () (putRow w b off xs) := run_storeAgg info_header w b off xs hn h1 ht
attribute [go_sem ↓] store_header_s
attribute [go_sem] store_header

/-! results that lie in a cell -/
theorem run_loadVar_agg {P : Program} {t : TypeId} {n : Nat} (hA : ∀ w, (isAgg t).run P w = .ok true w) (hS : ∀ w, (Go.sizeOf t).run P w = .ok n w) (w : World) (b off : Nat) (h : (row? w b off n).isSome = true) :
    (loadVar t ⟨b, off, none⟩).run P w = .ok (.agg ((row? w b off n).getD #[])) w := by
  have := run_loadAt_row hA hS w b off h
  simpa [Instr.loadAt, Instr.sureAddr, Sem.run_bind] using this
theorem results_row {P : Program} {t : TypeId} {n : Nat} (hA : ∀ w, (isAgg t).run P w = .ok true w) (hS : ∀ w, (Go.sizeOf t).run P w = .ok n w) {fn : Func} {p : Tmp} (hf : fn.results = #[.cell p t]) (tmps : Array Value) (w : World) (b off : Nat)
    (hp : tmps.getD p undef = .pointer (some ⟨b, off, none⟩)) (h : (row? w b off n).isSome = true) : (results fn tmps).run P w = .ok (.agg ((row? w b off n).getD #[])) w := by
  have hp' : tmps[p]?.getD undef = .pointer (some ⟨b, off, none⟩) := by simpa using hp
  simp [results, hf, hp', asAddr, Sem.run_bind, run_loadVar_agg hA hS w b off h]
theorem results_row2 {P : Program} {t : TypeId} {n : Nat} (hA : ∀ w, (isAgg t).run P w = .ok true w) (hS : ∀ w, (Go.sizeOf t).run P w = .ok n w) {fn : Func} {p u : Tmp} (hf : fn.results = #[.cell p t, .tmp u]) (tmps : Array Value) (w : World) (b off : Nat)
    (hp : tmps.getD p undef = .pointer (some ⟨b, off, none⟩)) (h : (row? w b off n).isSome = true) : (results fn tmps).run P w = .ok (.tuple #[.agg ((row? w b off n).getD #[]), tmps.getD u undef]) w := by
  have hp' : tmps[p]?.getD undef = .pointer (some ⟨b, off, none⟩) := by simpa using hp
  simp [results, hf, hp', asAddr, Sem.run_bind, run_loadVar_agg hA hS w b off h]

theorem ret_row {P : Program} {t : TypeId} {n : Nat} (hA : ∀ w, (isAgg t).run P w = .ok true w) (hS : ∀ w, (Go.sizeOf t).run P w = .ok n w) {fn : Func} {p : Tmp} (hf : fn.results = #[.cell p t]) {R : Ending → World → Prop} {a : Act} {w : World} {x : Value} (b off : Nat)
    (hx : a.tmps.getD p undef = x) (hp : x = .pointer (some ⟨b, off, none⟩)) (h : (row? w b off n).isSome = true) (hd : a.defers = []) (hR : R (.returned (.agg ((row? w b off n).getD #[]))) w) : bodyPost P fn R .ret a w :=
  bodyPost_ret (results_row hA hS hf _ _ b off (hx.trans hp) h) hd hR
theorem ret_row2 {P : Program} {t : TypeId} {n : Nat} (hA : ∀ w, (isAgg t).run P w = .ok true w) (hS : ∀ w, (Go.sizeOf t).run P w = .ok n w) {fn : Func} {p u : Tmp} (hf : fn.results = #[.cell p t, .tmp u]) {R : Ending → World → Prop} {a : Act} {w : World} {x y : Value} (b off : Nat)
    (hx : a.tmps.getD p undef = x) (hp : x = .pointer (some ⟨b, off, none⟩)) (hy : a.tmps.getD u undef = y) (h : (row? w b off n).isSome = true) (hd : a.defers = []) (hR : R (.returned (.tuple #[.agg ((row? w b off n).getD #[]), y])) w) : bodyPost P fn R .ret a w := by
  subst hy
  exact bodyPost_ret (results_row2 hA hS hf _ _ b off (hx.trans hp) h) hd hR

/-- the walk stops at a body's end -/
theorem at_end {P : Program} {fn : Func} {R : Ending → World → Prop} {e : Exit} {a : Act} {w : World} (h : RowKit.Hid (bodyPost P fn R e a w)) : bodyPost P fn R e a w := h

/-! zero values, by name -/
theorem zero_hash : #[.int .u8 0, .int .u8 0, .int .u8 0, .int .u8 0, .int .u8 0, .int .u8 0, .int .u8 0, .int .u8 0, .int .u8 0, .int .u8 0, .int .u8 0, .int .u8 0, .int .u8 0, .int .u8 0, .int .u8 0, .int .u8 0, .int .u8 0, .int .u8 0, .int .u8 0, .int .u8 0, .int .u8 0, .int .u8 0, .int .u8 0, .int .u8 0, .int .u8 0, .int .u8 0, .int .u8 0, .int .u8 0, .int .u8 0, .int .u8 0, .int .u8 0, .int .u8 0] = hashA zeroHash := by rfl
theorem zero_point : #[.int .u64 0, .int .u8 0, .int .u8 0, .int .u8 0, .int .u8 0, .int .u8 0, .int .u8 0, .int .u8 0, .int .u8 0, .int .u8 0, .int .u8 0, .int .u8 0, .int .u8 0, .int .u8 0, .int .u8 0, .int .u8 0, .int .u8 0, .int .u8 0, .int .u8 0, .int .u8 0, .int .u8 0, .int .u8 0, .int .u8 0, .int .u8 0, .int .u8 0, .int .u8 0, .int .u8 0, .int .u8 0, .int .u8 0, .int .u8 0, .int .u8 0, .int .u8 0, .int .u8 0] = pointA zeroPt := by
  simp only [pointA, zeroPt]
  rw [← zero_hash]
  simp
theorem zero_op (k : Int) : #[.int .i64 k, .int .u8 0, .int .u8 0, .int .u8 0, .int .u8 0, .int .u8 0, .int .u8 0, .int .u8 0, .int .u8 0, .int .u8 0, .int .u8 0, .int .u8 0, .int .u8 0, .int .u8 0, .int .u8 0, .int .u8 0, .int .u8 0, .int .u8 0, .int .u8 0, .int .u8 0, .int .u8 0, .int .u8 0, .int .u8 0, .int .u8 0, .int .u8 0, .int .u8 0, .int .u8 0, .int .u8 0, .int .u8 0, .int .u8 0, .int .u8 0, .int .u8 0, .int .u8 0, .int .u64 0, .int .i64 0, .slice none 0 0] = opA ⟨k, zeroHash, 0, 0, ⟨none, 0, 0⟩⟩ := by
  simp only [opA]
  rw [← zero_hash]
  simp
theorem zero_header : #[.int .u8 0, .int .u8 0, .int .u8 0, .int .u8 0, .int .u8 0, .int .u8 0, .int .u8 0, .int .u8 0, .int .u8 0, .int .u8 0, .int .u8 0, .int .u8 0, .int .u8 0, .int .u8 0, .int .u8 0, .int .u8 0, .int .u8 0, .int .u8 0, .int .u8 0, .int .u8 0, .int .u8 0, .int .u8 0, .int .u8 0, .int .u8 0, .int .u8 0, .int .u8 0, .int .u8 0, .int .u8 0, .int .u8 0, .int .u8 0, .int .u8 0, .int .u8 0, .int .u64 0, .slice none 0 0] = headerA ⟨zeroHash, 0, ⟨none, 0, 0⟩⟩ := by
  simp only [headerA]
  rw [← zero_hash]
  simp
theorem zero_vote (k : Int) : #[.int .i64 k, .int .u64 0, .int .u8 0, .int .u8 0, .int .u8 0, .int .u8 0, .int .u8 0, .int .u8 0, .int .u8 0, .int .u8 0, .int .u8 0, .int .u8 0, .int .u8 0, .int .u8 0, .int .u8 0, .int .u8 0, .int .u8 0, .int .u8 0, .int .u8 0, .int .u8 0, .int .u8 0, .int .u8 0, .int .u8 0, .int .u8 0, .int .u8 0, .int .u8 0, .int .u8 0, .int .u8 0, .int .u8 0, .int .u8 0, .int .u8 0, .int .u8 0, .int .u8 0, .int .u8 0, .int .u64 0, .int .u8 0, .int .u8 0, .int .u8 0, .int .u8 0, .int .u8 0, .int .u8 0, .int .u8 0, .int .u8 0, .int .u8 0, .int .u8 0, .int .u8 0, .int .u8 0, .int .u8 0, .int .u8 0, .int .u8 0, .int .u8 0, .int .u8 0, .int .u8 0, .int .u8 0, .int .u8 0, .int .u8 0, .int .u8 0, .int .u8 0, .int .u8 0, .int .u8 0, .int .u8 0, .int .u8 0, .int .u8 0, .int .u8 0, .int .u8 0, .int .u8 0, .int .u8 0, .slice none 0 0] = voteA ⟨k, zeroPt, zeroPt, ⟨none, 0, 0⟩⟩ := by
  simp only [voteA]
  rw [← zero_point]
  simp
attribute [go_sem] zero_hash zero_point zero_op zero_header zero_vote

/-! parts put anew -/
theorem splice_mid (a b b' c : Array Value) (off : Nat) (ha : a.size = off) (hb : b.size = b'.size) : splice (a ++ b ++ c) off b' = a ++ b' ++ c := by
  subst ha
  apply Array.ext_getElem?
  intro i
  rw [splice_get _ _ _ (by simp; omega)]
  by_cases h1 : i < a.size
  · rw [if_neg (by omega), Array.append_assoc, Array.append_assoc, Array.getElem?_append_left h1, Array.getElem?_append_left h1]
  · by_cases h2 : i < a.size + b'.size
    · rw [if_pos (by omega), Array.getElem?_append_left (by simp; omega), Array.getElem?_append_right (by omega)]
    · rw [if_neg (by omega), Array.getElem?_append_right (by simp; omega), Array.getElem?_append_right (by simp; omega)]
      simp [hb]
theorem splice_op_key (o : GOp) (k : Hash) : splice (opA o) 1 (hashA k) = opA { o with key := k } :=
  splice_mid #[.int .i64 o.kind] (hashA o.key) (hashA k) _ 1 rfl (by simp)
theorem splice_tail (a l l' : Array Value) (k off : Nat) (x : Value) (ha : a.size + k = off) (hk : k < l.size) (hl : l' = l.setIfInBounds k x) : splice (a ++ l) off #[x] = a ++ l' := by
  subst ha
  subst hl
  apply Array.ext_getElem?
  intro i
  rw [splice_get _ _ _ (by simp; omega)]
  by_cases h1 : i < a.size
  · rw [if_neg (by omega), Array.getElem?_append_left h1, Array.getElem?_append_left h1]
  · rw [Array.getElem?_append_right (by omega), Array.getElem?_append_right (by omega), Array.getElem?_setIfInBounds]
    by_cases h2 : i = a.size + k
    · subst h2
      rw [if_pos (by simp), if_pos (by omega), if_pos (by omega)]
      simp
    · rw [if_neg (by simp; omega), if_neg (by omega)]
theorem splice_op_stake (o : GOp) (x : UInt64) : splice (opA o) 33 #[.int .u64 (x.toNat : Int)] = opA { o with stake := x } := by
  unfold opA
  exact splice_tail _ _ _ 0 33 _ (by simp) (by simp) (by simp)
theorem splice_op_validator (o : GOp) (x : Int) : splice (opA o) 34 #[.int .i64 x] = opA { o with validator := x } := by
  unfold opA
  exact splice_tail _ _ _ 1 34 _ (by simp) (by simp) (by simp)
theorem splice_op_evidence (o : GOp) (x : Sl) : splice (opA o) 35 #[x.v] = opA { o with evidence := x } := by
  unfold opA
  exact splice_tail _ _ _ 2 35 _ (by simp) (by simp) (by simp)
theorem splice_header_ops (o : GHeader) (x : Sl) : splice (headerA o) 33 #[x.v] = headerA { o with ops := x } :=
  by
  unfold headerA
  exact splice_tail _ _ _ 1 33 _ (by simp) (by simp) (by simp)
theorem splice_all (a b : Array Value) (h : a.size = b.size) : splice a 0 b = b := by
  have := splice_mid #[] a b #[] 0 rfl h
  simpa using this
theorem set_head (a b c : Value) (r : Array Value) : (#[a] ++ r).setIfInBounds 0 b = #[b] ++ r := by
  apply Array.ext_getElem?
  intro i
  rw [Array.getElem?_setIfInBounds]
  cases i <;> simp [Array.getElem?_append]
theorem opA_set_kind (o : GOp) (k : Int) : (opA o).setIfInBounds 0 (.int .i64 k) = opA { o with kind := k } := by
  simp only [opA, Array.append_assoc]; exact set_head _ _ undef _
theorem pointA_set_epoch (p : Pt) (e : UInt64) : (pointA p).setIfInBounds 0 (.int .u64 (e.toNat : Int)) = pointA { p with epoch := e } := by
  simp only [pointA]; exact set_head _ _ undef _
theorem voteA_set_validator (p : GVote) (k : Int) : (voteA p).setIfInBounds 0 (.int .i64 k) = voteA { p with validator := k } := by
  simp only [voteA, Array.append_assoc]; exact set_head _ _ undef _
theorem splice_op_evidence' (o : GOp) (a : Option Addr) (n c : Nat) : splice (opA o) 35 #[.slice a n c] = opA { o with evidence := ⟨a, n, c⟩ } := splice_op_evidence o ⟨a, n, c⟩
theorem splice_header_ops' (o : GHeader) (a : Option Addr) (n c : Nat) : splice (headerA o) 33 #[.slice a n c] = headerA { o with ops := ⟨a, n, c⟩ } := splice_header_ops o ⟨a, n, c⟩
/-! structs that are built -/
theorem fold_get (o : Nat) : ∀ (l : List Value) (k : Nat) (A : Array Value), (∀ i, ((l.zipIdx k).foldl (fun cs x => cs.setIfInBounds (o + x.2) x.1) A)[i]? = if o + k ≤ i ∧ i < o + k + l.length ∧ i < A.size then l[i - (o + k)]? else A[i]?)
  | [], k, A, i => by
    rw [if_neg (by simp; omega)]
    rfl
  | v :: l, k, A, i => by
    rw [List.zipIdx_cons, List.foldl_cons, fold_get o l (k + 1) _ i]
    simp only [Array.size_setIfInBounds, List.length_cons]
    by_cases h1 : o + k ≤ i ∧ i < o + k + (l.length + 1) ∧ i < A.size
    · rw [if_pos h1]
      by_cases h2 : i = o + k
      · subst h2
        rw [if_neg (by omega)]
        simp only [Nat.sub_self, List.getElem?_cons_zero]
        rw [Array.getElem?_setIfInBounds, if_pos rfl, if_pos h1.2.2]
      · rw [if_pos (by omega)]
        rw [show i - (o + k) = (i - (o + (k + 1))) + 1 by omega, List.getElem?_cons_succ]
    · rw [if_neg h1]
      by_cases h2 : i = o + k
      · subst h2
        rw [if_neg (by omega), Array.getElem?_setIfInBounds, if_pos rfl]
        have : ¬ (o + k < A.size) := by omega
        rw [if_neg this, Array.getElem?_eq_none (by omega)]
      · rw [if_neg (by omega), Array.getElem?_setIfInBounds, if_neg (by omega)]
theorem fold_splice (A B : Array Value) (o n : Nat) (hn : B.size = n) (h : o + n ≤ A.size) : Array.foldl (fun cs (x : Value × Nat) => cs.setIfInBounds (o + x.2) x.1) A B.zipIdx 0 n = splice A o B := by
  subst hn
  have e : Array.foldl (fun cs (x : Value × Nat) => cs.setIfInBounds (o + x.2) x.1) A B.zipIdx 0 B.size = ((B.toList.zipIdx 0).foldl (fun cs x => cs.setIfInBounds (o + x.2) x.1) A) := by
    rw [← Array.toList_zipIdx, Array.foldl_toList]
    congr 1
    simp
  rw [e]
  apply Array.ext_getElem?
  intro i
  rw [fold_get, splice_get _ _ _ h, Nat.add_zero, Array.length_toList]
  by_cases h1 : o ≤ i ∧ i < o + B.size
  · rw [if_pos ⟨h1.1, h1.2, by omega⟩, if_pos h1, Array.getElem?_toList]
  · rw [if_neg (by omega), if_neg h1]
theorem splice_point_name (p : Pt) (n : Hash) : splice (pointA p) 1 (hashA n) = pointA { p with name := n } := by
  have e : ∀ u : Pt, pointA u = #[.int .u64 (u.epoch.toNat : Int)] ++ hashA u.name ++ #[] := fun u => by rw [Array.append_empty]; rfl
  rw [e, e]
  exact splice_mid #[.int .u64 (p.epoch.toNat : Int)] (hashA p.name) (hashA n) #[] 1 rfl (by simp)
theorem splice_vote_source (v : GVote) (p : Pt) : splice (voteA v) 1 (pointA p) = voteA { v with source := p } := by
  have e : ∀ u : GVote, voteA u = #[.int .i64 u.validator] ++ pointA u.source ++ (pointA u.target ++ #[u.sig.v]) := fun u => by rw [← Array.append_assoc]; rfl
  rw [e, e]
  exact splice_mid #[.int .i64 v.validator] (pointA v.source) (pointA p) (pointA v.target ++ #[v.sig.v]) 1 rfl (by simp)
theorem splice_vote_target (v : GVote) (p : Pt) : splice (voteA v) 34 (pointA p) = voteA { v with target := p } := by
  have hs : (#[Value.int .i64 v.validator] ++ pointA v.source).size = 34 := by simp
  generalize hA : #[Value.int .i64 v.validator] ++ pointA v.source = A at hs
  have h := splice_mid A (pointA v.target) (pointA p) #[v.sig.v] 34 hs (by simp)
  rw [← hA] at h
  exact h
theorem set_splice (A : Array Value) (i : Nat) (v : Value) (h : i < A.size) : A.setIfInBounds i v = splice A i #[v] := by
  apply Array.ext_getElem?
  intro k
  rw [splice_get _ _ _ (by simp; omega), Array.getElem?_setIfInBounds]
  by_cases e : i = k
  · subst e
    rw [if_pos rfl, if_pos h, if_pos (by simp)]
    simp
  · rw [if_neg e, if_neg (by simp; omega)]
theorem voteA_set_sig (v : GVote) (s : Sl) : (voteA v).setIfInBounds 67 s.v = voteA { v with sig := s } := by
  rw [set_splice _ _ _ (by simp)]
  have hs : (#[Value.int .i64 v.validator] ++ pointA v.source ++ pointA v.target).size + 0 = 67 := by simp
  generalize hA : #[Value.int .i64 v.validator] ++ pointA v.source ++ pointA v.target = A at hs
  have h := splice_tail A #[v.sig.v] #[s.v] 0 67 s.v hs (by simp) (by simp)
  rw [← hA] at h
  exact h
theorem voteA_set_sig' (v : GVote) (a : Option Addr) (n c : Nat) : (voteA v).setIfInBounds 67 (.slice a n c) = voteA { v with sig := ⟨a, n, c⟩ } := voteA_set_sig v ⟨a, n, c⟩
theorem splice_link_source (v : Lnk) (p : Pt) : splice (linkA v) 0 (pointA p) = linkA { v with source := p } := by
  have h := splice_mid #[] (pointA v.source) (pointA p) (pointA v.target) 0 rfl (by simp)
  rw [Array.empty_append, Array.empty_append] at h
  unfold linkA
  exact h
theorem splice_link_target (v : Lnk) (p : Pt) : splice (linkA v) 33 (pointA p) = linkA { v with target := p } := by
  have h := splice_mid (pointA v.source) (pointA v.target) (pointA p) #[] 33 (by simp) (by simp)
  rw [Array.append_empty, Array.append_empty] at h
  unfold linkA
  exact h
attribute [go_sem] fold_splice splice_point_name splice_vote_source splice_vote_target voteA_set_sig' splice_link_source splice_link_target
attribute [go_sem] opA_set_kind pointA_set_epoch voteA_set_validator splice_op_key splice_op_stake splice_op_validator splice_op_evidence' splice_header_ops'
end Go.Proofs.Ytlkflddjpkhndaa
