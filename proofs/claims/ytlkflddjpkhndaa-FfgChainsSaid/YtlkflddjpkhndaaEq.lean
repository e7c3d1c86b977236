/- '==' of arrays and structs as a whole: hashes, points, links. Over any program; then for the walk. -/
import Derived.Test.YtlkflddjpkhndaaLoads
import Derived.ChangeKeysEq
namespace Go.Proofs.Ytlkflddjpkhndaa
open Go.RowKit

section
variable {P : Program} (w : World)
theorem getElem_bytes (xs : List UInt8) (k : Nat) (h : k < xs.length) : (xs.map byteV).toArray[k * 1]? = some (.int .u8 (xs[k].toNat : Int)) := by
  simp [h, byteV]
theorem eqItems_bytes (d : Nat) {e : TypeId} (he : P.underlying e = some (.int .u8)) (xs ys : List UInt8) (hl : xs.length = ys.length) :
    ∀ (n k : Nat), k + n = xs.length → (Op.eqItems (d + 1) e 1 (xs.map byteV).toArray (ys.map byteV).toArray (List.range' k n)).run P w = .ok (decide (xs.drop k = ys.drop k)) w
  | 0, k, hk => by
    rw [List.drop_of_length_le (by omega), List.drop_of_length_le (by omega)]
    simp [Op.eqItems]
  | n + 1, k, hk => by
    have ih := eqItems_bytes d he xs ys hl n (k + 1) (by omega)
    have hx : k < xs.length := by omega
    have hy : k < ys.length := by omega
    have p1 : (part e (xs.map byteV).toArray (k * 1)).run P w = .ok (.int .u8 (xs[k].toNat : Int)) w := by
      have := getElem_bytes xs k hx
      simp only [part, isAgg, Sem.run_bind, run_underlying he, Result.andThen_ok, Sem.run_pure, this]
      rfl
    have p2 : (part e (ys.map byteV).toArray (k * 1)).run P w = .ok (.int .u8 (ys[k].toNat : Int)) w := by
      have := getElem_bytes ys k hy
      simp only [part, isAgg, Sem.run_bind, run_underlying he, Result.andThen_ok, Sem.run_pure, this]
      rfl
    have p3 := run_equalIn_int (P := P) w d e .u8 .u8 (xs[k].toNat : Int) (ys[k].toNat : Int) he
    rw [List.range'_succ]
    simp only [Op.eqItems, Sem.run_bind, p1, p2, p3, Result.andThen_ok]
    have hd : (xs.drop k = ys.drop k) ↔ (xs[k] = ys[k] ∧ xs.drop (k + 1) = ys.drop (k + 1)) := by
      rw [List.drop_eq_getElem_cons hx, List.drop_eq_getElem_cons hy, List.cons.injEq]
    by_cases h : xs[k] = ys[k]
    · have hb : ((xs[k].toNat : Int) == (ys[k].toNat : Int)) = true := by simp [h]
      simp only [hb, Bool.not_true, Bool.false_eq_true, if_false, ih]
      congr 2
      exact propext ⟨fun x => hd.2 ⟨h, x⟩, fun x => (hd.1 x).2⟩
    · have hb : ((xs[k].toNat : Int) == (ys[k].toNat : Int)) = false := by
        rw [beq_eq_false_iff_ne]
        intro e
        exact h (UInt8.toNat_inj.1 (by omega))
      have hn : ¬ xs.drop k = ys.drop k := fun x => h (hd.1 x).1
      simp [hb, hn]
theorem fields2 {t : TypeId} {n0 n1 : String} {t0 t1 : TypeId} {o0 o1 : Nat} (hf : (P.fieldsOf t).toList.map (fun f => (f.name, f.type, f.offset)) = [(n0, t0, o0), (n1, t1, o1)]) :
    ∃ f0 f1, (P.fieldsOf t).toList = [f0, f1] ∧ f0.name = n0 ∧ f1.name = n1 ∧ f0.type = t0 ∧ f1.type = t1 ∧ f0.offset = o0 ∧ f1.offset = o1 := by
  generalize (P.fieldsOf t).toList = l at hf
  match l, hf with
  | [f0, f1], hf => simp at hf; exact ⟨f0, f1, rfl, hf.1.1, hf.2.1, hf.1.2.1, hf.2.2.1, hf.1.2.2, hf.2.2.2⟩
theorem eqHash_run (d : Nat) {t e : TypeId} {i : TypeInfo} (hu : P.underlying t = some (.array 32 e)) (hi : P.info? e = some i) (hc : P.cellsOf e = 1) (he : P.underlying e = some (.int .u8)) (a b : Hash) :
    (Op.equalIn (d + 2) t (.agg (hashA a)) (.agg (hashA b))).run P w = .ok (decide (a = b)) w := by
  rw [run_equalIn_array w (d + 1) _ _ hu hi, hc, List.range_eq_range']
  have := eqItems_bytes (P := P) w d he a.1 b.1 (by rw [a.2, b.2]) 32 0 (by rw [a.2])
  simp only [List.drop_zero] at this
  unfold hashA
  rw [this]
  congr 2
  exact propext (Subtype.ext_iff).symm
theorem part_agg {t : TypeId} {n off : Nat} (hA : ∀ w, (isAgg t).run P w = .ok true w) (hS : ∀ w, (Go.sizeOf t).run P w = .ok n w) (xs : Array Value) (h : off + n ≤ xs.size) : (part t xs off).run P w = .ok (.agg (xs.extract off (off + n))) w := by
  simp [part, Sem.run_bind, hA, hS, h]
theorem part_one {t : TypeId} (hA : ∀ w, (isAgg t).run P w = .ok false w) (xs : Array Value) (off : Nat) (v : Value) (h : xs[off]? = some v) : (part t xs off).run P w = .ok v w := by
  simp [part, Sem.run_bind, hA, h]
theorem eqPoint_run (d : Nat) {t tu th e : TypeId} {i : TypeInfo} {n0 n1 : String} (hf : (P.fieldsOf t).toList.map (fun f => (f.name, f.type, f.offset)) = [(n0, tu, 0), (n1, th, 1)]) (hu : P.underlying t = some (.struct (P.fieldsOf t))) (hp : P.stoodInHeld t = false)
    (h0 : n0 ≠ "_") (h1 : n1 ≠ "_") (hu0 : P.underlying tu = some (.int .u64)) (hA0 : ∀ w, (isAgg tu).run P w = .ok false w)
    (hA : ∀ w, (isAgg th).run P w = .ok true w) (hS : ∀ w, (Go.sizeOf th).run P w = .ok 32 w) (huh : P.underlying th = some (.array 32 e)) (hi : P.info? e = some i) (hc : P.cellsOf e = 1) (he : P.underlying e = some (.int .u8)) (a b : Pt) :
    (Op.equalIn (d + 3) t (.agg (pointA a)) (.agg (pointA b))).run P w = .ok (decide (a = b)) w := by
  obtain ⟨f0, f1, hf, m0, m1, t0, t1, o0, o1⟩ := fields2 hf
  rw [run_equalIn_struct w (d + 2) t _ _ hu hp, hf]
  subst t0
  subst t1
  subst m0
  subst m1
  have p1 := fun p : Pt => part_one (P := P) w hA0 (pointA p) 0 _ (pointA_epoch p)
  have p2 := fun p : Pt => part_agg (P := P) w hA hS (pointA p) (off := 1) (by simp)
  simp only [Nat.reduceAdd, pointA_name] at p2
  have q1 := run_equalIn_int (P := P) w (d + 1) f0.type .u64 .u64 (a.epoch.toNat : Int) (b.epoch.toNat : Int) hu0
  have q2 := eqHash_run (P := P) w d huh hi hc he a.name b.name
  simp only [Op.eqFields, h0, h1, o0, o1, ne_eq, not_false_eq_true, if_true, Sem.run_bind, p1, Result.andThen_ok, q1]
  have e1 : ((a.epoch.toNat : Int) == (b.epoch.toNat : Int)) = decide (a.epoch = b.epoch) := by
    rw [Bool.eq_iff_iff]
    simp only [beq_iff_eq, decide_eq_true_eq]
    exact ⟨fun h => UInt64.toNat_inj.1 (by omega), fun h => by rw [h]⟩
  have e2 : decide (a = b) = (decide (a.epoch = b.epoch) && decide (a.name = b.name)) := by
    rw [Bool.eq_iff_iff]
    cases a; cases b
    simp
  rw [e1, e2]
  by_cases h : a.epoch = b.epoch
  · simp only [h, decide_true, Bool.not_true, Bool.false_eq_true, if_false, Bool.true_and, Sem.run_bind, p2, q2, Result.andThen_ok]
    cases decide (a.name = b.name) <;> simp
  · simp [h]
theorem eqLink_run (d : Nat) {t tp : TypeId} {n0 n1 : String} (hf : (P.fieldsOf t).toList.map (fun f => (f.name, f.type, f.offset)) = [(n0, tp, 0), (n1, tp, 33)]) (hu : P.underlying t = some (.struct (P.fieldsOf t))) (hp : P.stoodInHeld t = false)
    (h0 : n0 ≠ "_") (h1 : n1 ≠ "_")
    (hA : ∀ w, (isAgg tp).run P w = .ok true w) (hS : ∀ w, (Go.sizeOf tp).run P w = .ok 33 w) (hq : ∀ a b : Pt, (Op.equalIn d tp (.agg (pointA a)) (.agg (pointA b))).run P w = .ok (decide (a = b)) w) (a b : Lnk) :
    (Op.equalIn (d + 1) t (.agg (linkA a)) (.agg (linkA b))).run P w = .ok (decide (a = b)) w := by
  obtain ⟨f0, f1, hf, m0, m1, t0, t1, o0, o1⟩ := fields2 hf
  rw [run_equalIn_struct w d t _ _ hu hp, hf]
  subst m0
  subst m1
  have p1 := fun p : Lnk => part_agg (P := P) w hA hS (linkA p) (off := 0) (by simp)
  have p2 := fun p : Lnk => part_agg (P := P) w hA hS (linkA p) (off := 33) (by simp)
  simp only [linkA_source, linkA_target, Nat.zero_add, Nat.reduceAdd] at p1 p2
  simp only [Op.eqFields, h0, h1, o0, o1, t0, t1, ne_eq, not_false_eq_true, if_true, Sem.run_bind, p1, Result.andThen_ok, hq]
  have e2 : decide (a = b) = (decide (a.source = b.source) && decide (a.target = b.target)) := by
    rw [Bool.eq_iff_iff]
    cases a; cases b
    simp
  rw [e2]
  by_cases h : a.source = b.source
  · simp only [h, decide_true, Bool.not_true, Bool.false_eq_true, if_false, Bool.true_and, Sem.run_bind, p2, hq, Result.andThen_ok]
    cases decide (a.target = b.target) <;> simp
  · simp [h]
end

theorem u8_info : ∃ i, Try.prog.info? 5 = some i := info_of_underlying Try.underlying5
theorem u8_cells : Try.prog.cellsOf 5 = 1 := by kernel_rfl
theorem eq_hash (w : World) (a b : Hash) : (Op.equalIn 10000 24 (.agg (hashA a)) (.agg (hashA b))).run Try.prog w = .ok (decide (a = b)) w := by
  obtain ⟨i, hi⟩ := u8_info
  exact eqHash_run w 9998 Try.underlying24 hi u8_cells Try.underlying5 a b
attribute [go_sem ↓] eq_hash
theorem point_fields : (Try.prog.fieldsOf 26).toList.map (fun f => (f.name, f.type, f.offset)) = [("Epoch", 22, 0), ("Name", 24, 1)] := by kernel_rfl
theorem eq_point_d (d : Nat) (w : World) (a b : Pt) : (Op.equalIn (d + 3) 26 (.agg (pointA a)) (.agg (pointA b))).run Try.prog w = .ok (decide (a = b)) w := by
  obtain ⟨i, hi⟩ := u8_info
  exact eqPoint_run w d point_fields (by kernel_rfl) (by kernel_rfl) (by decide) (by decide) Try.underlying22 (fun _ => by simp [isAgg, run_underlying Try.underlying22]) Try.isAgg24 Try.sizeOf24 Try.underlying24 hi u8_cells Try.underlying5 a b
theorem eq_point (w : World) (a b : Pt) : (Op.equalIn 10000 26 (.agg (pointA a)) (.agg (pointA b))).run Try.prog w = .ok (decide (a = b)) w := eq_point_d 9997 w a b
attribute [go_sem ↓] eq_point
theorem link_fields : (Try.prog.fieldsOf 28).toList.map (fun f => (f.name, f.type, f.offset)) = [("Source", 26, 0), ("Target", 26, 33)] := by kernel_rfl
theorem eq_link (w : World) (a b : Lnk) : (Op.equalIn 10000 28 (.agg (linkA a)) (.agg (linkA b))).run Try.prog w = .ok (decide (a = b)) w :=
  eqLink_run w 9999 link_fields (by kernel_rfl) (by kernel_rfl) (by decide) (by decide) Try.isAgg26 Try.sizeOf26 (fun a b => eq_point_d 9996 w a b) a b
attribute [go_sem ↓] eq_link
end Go.Proofs.Ytlkflddjpkhndaa
