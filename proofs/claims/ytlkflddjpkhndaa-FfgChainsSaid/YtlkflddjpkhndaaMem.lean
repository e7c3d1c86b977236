/- What slices hold: bytes, and structs of any size. Over any program. -/
import Derived.Test.YtlkflddjpkhndaaTypes
import Derived.Maps.AppendAt
import Derived.Deep.AppendLies
import Derived.Deep.AppendSrc
import Derived.OwnWalk
namespace Go.Proofs.Ytlkflddjpkhndaa
open Go.RowKit

theorem lt_of_cell {w : World} {b o : Nat} {v : Value} (h : w.cell? ⟨b, o, none⟩ = some v) : b < w.heap.size := block_lt_of_cell h
theorem lt_of_row {w : World} {b off n : Nat} {l : Array Value} (h : row? w b off n = some l) : b < w.heap.size := by
  obtain ⟨cs, t, fr, hg, _⟩ := row?_some h
  rcases Nat.lt_or_ge b w.heap.size with hlt | hge
  · exact hlt
  · rw [Array.getElem?_eq_none hge] at hg; cases hg

theorem cell_alloc (w : World) (cs : Array Value) (t : TypeId) (b i : Nat) : (w.alloc (.cells cs t)).cell? ⟨b, i, none⟩ = if b = w.heap.size then cs[i]? else w.cell? ⟨b, i, none⟩ := by
  split
  · rename_i h; subst h; simp
  · rename_i h; exact World.cell?_alloc_old w _ ⟨b, i, none⟩ h
theorem cell_drewN (w : World) (n : Nat) (a : Addr) : (w.drewN n).cell? a = w.cell? a := rfl

/-- a slice of bytes -/
def BytesR (w : World) (s : Sl) (l : List UInt8) : Prop :=
  s.n = l.length ∧ s.n ≤ s.c ∧ (l ≠ [] → ∃ b off, s.a = some ⟨b, off, none⟩ ∧ ∀ (i : Nat) (h : i < l.length), w.cell? ⟨b, off + i, none⟩ = some (byteV l[i]))
/-- a slice of structs of k cells each -/
def SlR {α : Type} (k : Nat) (R : Array Value → α → Prop) (w : World) (s : Sl) (l : List α) : Prop :=
  s.n = l.length ∧ s.n ≤ s.c ∧ (l ≠ [] → ∃ b off, s.a = some ⟨b, off, none⟩ ∧ ∀ (i : Nat) (h : i < l.length), ∃ cs, row? w b (off + i * k) k = some cs ∧ R cs l[i])

theorem BytesR.nil (w : World) (a : Option Addr) (c : Nat) : BytesR w ⟨a, 0, c⟩ [] := ⟨rfl, Nat.zero_le _, fun h => absurd rfl h⟩
theorem BytesR.keep {w w' : World} {s : Sl} {l : List UInt8} (h : BytesR w s l) (hb : Below w.heap.size w w') : BytesR w' s l :=
  ⟨h.1, h.2.1, fun hl => by
    obtain ⟨b, off, ha, hc⟩ := h.2.2 hl
    exact ⟨b, off, ha, fun i hi => (hb.cell (p := ⟨b, off + i, none⟩) (lt_of_cell (hc i hi))).trans (hc i hi)⟩⟩
theorem SlR.keep {α : Type} {k : Nat} {R R' : Array Value → α → Prop} {w w' : World} {s : Sl} {l : List α} (h : SlR k R w s l) (hb : Below w.heap.size w w') (hR : ∀ cs x, R cs x → R' cs x) : SlR k R' w' s l :=
  ⟨h.1, h.2.1, fun hl => by
    obtain ⟨b, off, ha, hc⟩ := h.2.2 hl
    refine ⟨b, off, ha, fun i hi => ?_⟩
    obtain ⟨cs, h1, h2⟩ := hc i hi
    exact ⟨cs, (row?_below _ _ _ hb (lt_of_row h1)).trans h1, hR _ _ h2⟩⟩
theorem SlR.nil {α : Type} (k : Nat) (R : Array Value → α → Prop) (w : World) (a : Option Addr) (c : Nat) : SlR k R w ⟨a, 0, c⟩ [] := ⟨rfl, Nat.zero_le _, fun h => absurd rfl h⟩

theorem BytesR.at {w : World} {s : Sl} {l : List UInt8} (h : BytesR w s l) (hl : 0 < l.length) : ∃ b off, s = ⟨some ⟨b, off, none⟩, l.length, s.c⟩ ∧ b < w.heap.size ∧ ∀ (i : Nat) (h : i < l.length), w.cell? ⟨b, off + i, none⟩ = some (byteV l[i]) := by
  obtain ⟨b, off, ha, hc⟩ := h.2.2 (by intro e; subst e; simp at hl)
  refine ⟨b, off, ?_, lt_of_cell (hc 0 hl), hc⟩
  cases s
  simp only at ha
  have := h.1
  simp_all
theorem SlR.at {α : Type} {k : Nat} {R : Array Value → α → Prop} {w : World} {s : Sl} {l : List α} (h : SlR k R w s l) (hl : 0 < l.length) : ∃ b off, s = ⟨some ⟨b, off, none⟩, l.length, s.c⟩ ∧ b < w.heap.size ∧ ∀ (i : Nat) (h : i < l.length), ∃ cs, row? w b (off + i * k) k = some cs ∧ R cs l[i] := by
  obtain ⟨b, off, ha, hc⟩ := h.2.2 (by intro e; subst e; simp at hl)
  obtain ⟨cs, h1, _⟩ := hc 0 hl
  refine ⟨b, off, ?_, lt_of_row h1, hc⟩
  cases s
  simp only at ha
  have := h.1
  simp_all

theorem setCells_size (g : Nat) : ∀ (vs : List Value) (o : Nat) (w : World), (w.setCells g o vs).heap.size = w.heap.size
  | [], _, _ => rfl
  | a :: r, o, w => by rw [World.setCells, setCells_size g r]; simp
theorem setCells_far (g : Nat) : ∀ (vs : List Value) (o : Nat) (w : World) (b : Nat), b ≠ g → (w.setCells g o vs).heap[b]? = w.heap[b]?
  | [], _, _, _, _ => rfl
  | a :: r, o, w, b, hb => by rw [World.setCells, setCells_far g r _ _ b hb]; exact Below.heap_setCell w ⟨g, o, none⟩ a b hb
theorem setCells_misc (g : Nat) : ∀ (vs : List Value) (o : Nat) (w : World), (w.setCells g o vs).os = w.os ∧ (w.setCells g o vs).tape = w.tape ∧ (w.setCells g o vs).output = w.output
  | [], _, _ => ⟨rfl, rfl, rfl⟩
  | a :: r, o, w => by rw [World.setCells]; exact setCells_misc g r _ _

/-- a slice of n elements of k cells each, of the call's own: at the head of a block that nothing else has, with room to write up to its capacity -/
def OwnC (w : World) (base k : Nat) (v : Value) (n : Nat) (xs : List Value) : Prop :=
  xs.length = n * k ∧ ((v = .slice none 0 0 ∧ n = 0) ∨
    ∃ g cap, v = .slice (some ⟨g, 0, none⟩) n cap ∧ base ≤ g ∧ g < w.heap.size ∧ n ≤ cap ∧ cap ≤ maxLen ∧ (∀ j, j < cap * k → (w.cell? ⟨g, j, none⟩).isSome = true) ∧ (∀ j, j < cap * k → w.frozen? ⟨g, j, none⟩ = false) ∧
      ∀ j u, xs[j]? = some u → w.cell? ⟨g, j, none⟩ = some u)
theorem OwnC.nil (w : World) (base k : Nat) : OwnC w base k (.slice none 0 0) 0 [] := ⟨by simp, .inl ⟨rfl, rfl⟩⟩
theorem OwnC.of_row {w : World} {base : Nat} {e : TypeId} {k n : Nat} {v : Value} {xs : List Value} (h : w.ownsRow base e k v n xs) : OwnC w base k v n xs := by
  refine ⟨h.1, ?_⟩
  rcases h.2 with h2 | ⟨g, cap, cur, hv, hb, hg, hn, hm, hs, ht⟩
  · exact .inl h2
  · refine .inr ⟨g, cap, hv, hb, ?_, hn, hm, fun j hj => ?_, fun j _ => frozen_of_row w g j cur e hg, fun j u hu => ?_⟩
    · rcases Nat.lt_or_ge g w.heap.size with hlt | hge
      · exact hlt
      · rw [Array.getElem?_eq_none hge] at hg; cases hg
    · rw [cell_of_row w g j cur e _ hg]; simp; omega
    · rw [cell_of_row w g j cur e _ hg]
      rw [← ht, List.getElem?_take] at hu
      split at hu
      · simpa using hu
      · cases hu
theorem OwnC.keep {w w' : World} {base k n : Nat} {v : Value} {xs : List Value} (h : OwnC w base k v n xs) (hb : Below w.heap.size w w') : OwnC w' base k v n xs := by
  refine ⟨h.1, ?_⟩
  rcases h.2 with h2 | ⟨g, cap, hv, h1, hg, hn, hm, hc, hf, hx⟩
  · exact .inl h2
  · have e1 := fun j => hb.cell (p := ⟨g, j, none⟩) hg
    have e2 := fun j => hb.frozen (p := ⟨g, j, none⟩) hg
    exact .inr ⟨g, cap, hv, h1, Nat.lt_of_lt_of_le hg hb.size, hn, hm, fun j hj => by rw [e1]; exact hc j hj, fun j hj => by rw [e2]; exact hf j hj, fun j u hu => by rw [e1]; exact hx j u hu⟩
theorem OwnC.keepG {w w' : World} {base k n : Nat} {v : Value} {xs : List Value} {row : Option Nat} (h : OwnC w base k v n xs) (hg : w.grownBy w' row) (hne : v.ownBlock = none ∨ v.ownBlock ≠ row) : OwnC w' base k v n xs := by
  refine ⟨h.1, ?_⟩
  rcases h.2 with h2 | ⟨g, cap, rfl, h1, hlt, hn, hm, hc, hf, hx⟩
  · exact .inl h2
  · have hr : some g ≠ row := by
      rcases hne with hne | hne
      · simp [Value.ownBlock] at hne
      · simpa [Value.ownBlock] using hne
    have e1 := fun j => World.cell?_of_block (a := ⟨g, j, none⟩) (hg.block g hlt hr)
    have e2 := fun j => World.frozen?_of_block (a := ⟨g, j, none⟩) (hg.block g hlt hr)
    exact .inr ⟨g, cap, rfl, h1, Nat.lt_of_lt_of_le hlt hg.size, hn, hm, fun j hj => by rw [e1]; exact hc j hj, fun j hj => by rw [e2]; exact hf j hj, fun j u hu => by rw [e1]; exact hx j u hu⟩
theorem OwnC.more {w : World} {base base' k n : Nat} {v : Value} {xs : List Value} (h : OwnC w base k v n xs) (hb : base' ≤ base) : OwnC w base' k v n xs := by
  refine ⟨h.1, ?_⟩
  rcases h.2 with h2 | ⟨g, cap, hv, h1, r⟩
  · exact .inl h2
  · exact .inr ⟨g, cap, hv, by omega, r⟩
theorem OwnC.slice {w : World} {base k n : Nat} {v : Value} {xs : List Value} (h : OwnC w base k v n xs) : ∃ s : Sl, v = s.v := by
  rcases h.2 with ⟨hv, _⟩ | ⟨g, cap, hv, _⟩
  · exact ⟨⟨none, 0, 0⟩, hv⟩
  · exact ⟨⟨some ⟨g, 0, none⟩, n, cap⟩, hv⟩
theorem OwnC.lt {w : World} {base k n : Nat} {v : Value} {xs : List Value} (h : OwnC w base k v n xs) : ∀ g, v.ownBlock = some g → base ≤ g ∧ g < w.heap.size := by
  rcases h.2 with ⟨rfl, _⟩ | ⟨g, cap, rfl, h1, h2, _⟩
  · intro g hg; simp [Value.ownBlock] at hg
  · intro g' hg; simp [Value.ownBlock] at hg; omega

section
variable {P : Program} (w : World)
/-- append onto a row of the call's own, whatever is appended -/
theorem run_append_ownC (base : Nat) (t tx ty e : TypeId) (i : TypeInfo) (z : Value) (k bytes : Nat) (ht : P.underlying t = some (.slice e)) (hi : P.info? e = some i) (hz : i.zero = some z)
    (hsize : i.size = k) (hby : i.bytes = bytes) (hzs : z.cells.size = k)
    (v : Value) (n : Nat) (xs : List Value) (hown : OwnC w base k v n xs) (x : Value) (m : Nat) (news : List Value) (hs : Src P k tx x m news w)
    (h63 : n + m ≤ maxLen) (hbytes : (n + m) * bytes ≤ 140737488355328) (hbase : base ≤ w.heap.size) :
    ∃ v' w', (Builtin.append_ #[t, tx] ty #[v, x]).run P w = .ok v' w' ∧ OwnC w' base k v' (n + m) (xs ++ news) ∧ w.grownBy w' v.ownBlock ∧
      (v'.ownBlock = v.ownBlock ∨ v'.ownBlock = some w.heap.size) := by
  subst hsize
  subst hby
  have hlen : (xs ++ news).length = (n + m) * i.size := by rw [List.length_append, hown.1, hs.newsLen, Nat.add_mul]
  have hm64 : n + m ≤ 9223372036854775807 := by simp only [maxLen] at h63; omega
  have grown : ∀ (old : Nat) (row : Option Nat),
      OwnC (w.drew.alloc (.cells ((xs ++ news).toArray ++ Builtin.zeroCells z.cells (grownCap w (n + m) old e - (n + m))) e)) base i.size
        (.slice (some ⟨w.heap.size, 0, none⟩) (n + m) (grownCap w (n + m) old e)) (n + m) (xs ++ news) ∧
      w.grownBy (w.drew.alloc (.cells ((xs ++ news).toArray ++ Builtin.zeroCells z.cells (grownCap w (n + m) old e - (n + m))) e)) row := by
    intro old row
    have hge := grownCap_ge w (n + m) old e
    have hcm : grownCap w (n + m) old e ≤ maxLen := grownCap_le_maxLen w (n + m) old e h63
    refine ⟨OwnC.of_row (e := e) ⟨hlen, .inr ⟨w.heap.size, _, _, rfl, hbase, heap_alloc_new w.drew _, hge, hcm, ?_, ?_⟩⟩, ⟨rfl, rfl, rfl, by simp, fun k hk _ => Below.heap_alloc w.drew _ k hk⟩⟩
    · simp only [Array.size_append, List.size_toArray, size_zeroCells, hzs, hlen, ← Nat.add_mul]
      congr 1
      omega
    · simp only [Array.toList_append]
      rw [← hlen]
      exact List.take_left
  rcases hown.2 with ⟨rfl, rfl⟩ | ⟨g, cap, rfl, hbg, hglt, hnc, hcm, hc, hf, hx⟩
  · have hx : xs = [] := List.eq_nil_of_length_eq_zero (by simpa using hown.1)
    subst hx
    by_cases hm : m = 0
    · subst hm
      have hn : news = [] := List.eq_nil_of_length_eq_zero (by simpa using hs.newsLen)
      subst hn
      refine ⟨.slice none 0 0, w, ?_, OwnC.nil _ _ _, World.grownBy.refl _ _, .inl rfl⟩
      have h1 := hs.len w
      have h2 := hs.cells
      rcases hs.kind with ⟨e', hk⟩ | hk <;> simp [Builtin.append_, run_underlying ht, run_underlying hk, sizeOf, typeInfo, hi, h1, h2]
    · have hr := run_append_grow_src (P := P) w t tx ty e i z ht hi hz none 0 0 [] (by simp [Builtin.firstCells]) x m news hs (by omega) (by omega) (growslice_fits (by omega) hbytes)
      have hgr := grown 0 (Value.ownBlock (.slice none 0 0))
      exact ⟨_, _, hr, hgr.1, hgr.2, .inr rfl⟩
  · by_cases hroom : n + m ≤ cap
    · have hfit : ∀ j, j < news.length → 0 + n * i.size + j < cap * i.size := by
        intro j hj
        rw [hs.newsLen] at hj
        have : (n + m) * i.size ≤ cap * i.size := Nat.mul_le_mul_right _ hroom
        rw [Nat.add_mul] at this
        omega
      have hr := run_append_room_src (P := P) w t tx ty e i ht hi g 0 n cap x m news hs hroom (fun j hj => hc _ (hfit j hj)) (fun j hj => hf _ (hfit j hj))
      have hin := World.cell?_setCells_in g news (0 + n * i.size) w (fun j hj => hc _ (hfit j hj))
      have hsize := setCells_size g news (0 + n * i.size) w
      have hblk := fun b hb => setCells_far g news (0 + n * i.size) w b hb
      have hmisc := setCells_misc g news (0 + n * i.size) w
      refine ⟨_, _, hr, ⟨hlen, .inr ⟨g, cap, rfl, hbg, by rw [hsize]; exact hglt, hroom, hcm, fun j hj => ?_, fun j hj => by rw [World.frozen?_setCells]; exact hf j hj, fun j u hu => ?_⟩⟩,
        ⟨hmisc.1, hmisc.2.1, hmisc.2.2, by rw [hsize]; exact Nat.le_refl _, fun k _ hk => hblk k (fun e => hk (by rw [e]; rfl))⟩, .inl rfl⟩
      · by_cases hin' : 0 + n * i.size ≤ j ∧ j < 0 + n * i.size + news.length
        · have := hin (j - (0 + n * i.size)) (by omega)
          rw [show 0 + n * i.size + (j - (0 + n * i.size)) = j by omega] at this
          rw [this]; rfl
        · rw [World.cell?_setCells_out g news _ w _ (fun _ _ => by simp only; omega)]
          exact hc j hj
      · have hj : j < xs.length + news.length := by
          rcases Nat.lt_or_ge j (xs.length + news.length) with h | h
          · exact h
          · rw [List.getElem?_eq_none (by simpa using h)] at hu; cases hu
        by_cases hjx : j < xs.length
        · rw [List.getElem?_append_left hjx] at hu
          rw [World.cell?_setCells_out g news _ w _ (fun _ _ => by simp only; rw [hown.1] at hjx; omega)]
          exact hx j u hu
        · rw [List.getElem?_append_right (by omega), hown.1] at hu
          have hjl : j - n * i.size < news.length := by rw [hown.1] at hj hjx; omega
          have := hin (j - n * i.size) hjl
          rw [show 0 + n * i.size + (j - n * i.size) = j by rw [hown.1] at hjx; omega] at this
          rw [this, ← hu, List.getElem?_eq_getElem hjl]
    · have hold : (Builtin.firstCells i.size n (.slice (some ⟨g, 0, none⟩) n cap)).run P w.drew = .ok xs.toArray w.drew := by
        exact run_firstCells_some (P := P) w.drew i.size n ⟨g, 0, none⟩ n cap xs hown.1 (fun j u hu => by
          have hadd : (⟨g, 0, none⟩ : Addr).add j = ⟨g, j, none⟩ := by unfold Addr.add; split <;> simp_all
          rw [hadd]; exact hx j u hu)
      have hr := run_append_grow_src (P := P) w t tx ty e i z ht hi hz (some ⟨g, 0, none⟩) n cap xs hold x m news hs (by omega) (by omega) (growslice_fits (by omega) hbytes)
      have hgr := grown cap (Value.ownBlock (.slice (some ⟨g, 0, none⟩) n cap))
      exact ⟨_, _, hr, hgr.1, hgr.2, .inr rfl⟩

theorem wp_append_ownC {o : Oper} {a : Act} {K : Act → World → Prop} {Q : Exit → Act → World → Prop} (px py : Operand) (t tx : TypeId)
    (ho : o.op = .call { callee := .builtin .append, args := #[px, py], argTypes := #[t, tx] })
    (base : Nat) (e : TypeId) (i : TypeInfo) (z : Value) (k bytes : Nat) (ht : P.underlying t = some (.slice e)) (hi : P.info? e = some i) (hz : i.zero = some z)
    (hsize : i.size = k) (hby : i.bytes = bytes) (hzs : z.cells.size = k)
    (v : Value) (n : Nat) (xs : List Value) (hv : a.eval px = v) (hown : OwnC w base k v n xs) (x : Value) (m : Nat) (news : List Value) (hx : a.eval py = x) (hs : Src P k tx x m news w)
    (h63 : n + m ≤ maxLen) (hbytes : (n + m) * bytes ≤ 140737488355328) (hbase : base ≤ w.heap.size)
    (h : ∀ v' w', OwnC w' base k v' (n + m) (xs ++ news) → w.grownBy w' v.ownBlock → (v'.ownBlock = v.ownBlock ∨ v'.ownBlock = some w.heap.size) → K (a.put o.dst v') w') : o.wp P a w K Q := by
  obtain ⟨v', w', hrun, h2, h3, h4⟩ := run_append_ownC (P := P) w base t tx o.type e i z k bytes ht hi hz hsize hby hzs v n xs hown x m news hs h63 hbytes hbase
  unfold Oper.wp execOp
  simp only [ho, resolve, invoke, builtin, Sem.run_bind, Sem.run_pure, Result.andThen_ok, List.map_toArray, List.map_cons, List.map_nil, hv, hx, hrun]
  exact h v' w' h2 h3 h4
theorem wpList_append_ownC {ops : Array Oper} {rest : List Oper} {o : Oper} {a : Act} {Q : Exit → Act → World → Prop} (hgd : o.guard = none) (px py : Operand) (t tx : TypeId)
    (ho : o.op = .call { callee := .builtin .append, args := #[px, py], argTypes := #[t, tx] })
    (base : Nat) (e : TypeId) (i : TypeInfo) (z : Value) (k bytes : Nat) (ht : P.underlying t = some (.slice e)) (hi : P.info? e = some i) (hz : i.zero = some z)
    (hsize : i.size = k) (hby : i.bytes = bytes) (hzs : z.cells.size = k)
    (v : Value) (n : Nat) (xs : List Value) (hv : a.eval px = v) (hown : OwnC w base k v n xs) (x : Value) (m : Nat) (news : List Value) (hx : a.eval py = x) (hs : Src P k tx x m news w)
    (h63 : n + m ≤ maxLen) (hbytes : (n + m) * bytes ≤ 140737488355328) (hbase : base ≤ w.heap.size)
    (h : ∀ v' w', OwnC w' base k v' (n + m) (xs ++ news) → w.grownBy w' v.ownBlock → (v'.ownBlock = v.ownBlock ∨ v'.ownBlock = some w.heap.size) → wpList P ops Q rest (a.put o.dst v') w') : wpList P ops Q (o :: rest) a w :=
  wpList_plain hgd fun _ hK => wp_append_ownC w px py t tx ho base e i z k bytes ht hi hz hsize hby hzs v n xs hv hown x m news hx hs h63 hbytes hbase fun v' w' h2 h3 h4 => hK _ _ (h v' w' h2 h3 h4)
end

/-- a slice of bytes of the call's own -/
def Own (w : World) (base : Nat) (v : Value) (l : List UInt8) : Prop := OwnC w base 1 v l.length (l.map byteV)
theorem Own.nil (w : World) (base : Nat) : Own w base (.slice none 0 0) [] := OwnC.nil _ _ _
theorem Own.keep {w w' : World} {base : Nat} {v : Value} {l : List UInt8} (h : Own w base v l) (hb : Below w.heap.size w w') : Own w' base v l := OwnC.keep h hb
theorem Own.more {w : World} {base base' : Nat} {v : Value} {l : List UInt8} (h : Own w base v l) (hb : base' ≤ base) : Own w base' v l := OwnC.more h hb
theorem Own.slice {w : World} {base : Nat} {v : Value} {l : List UInt8} (h : Own w base v l) : ∃ s : Sl, v = s.v := OwnC.slice h
theorem Own.reads {w : World} {base : Nat} {s : Sl} {l : List UInt8} (h : Own w base s.v l) : BytesR w s l := by
  obtain ⟨hl, h⟩ := h
  rcases h with ⟨hv, hn⟩ | ⟨g, cap, hv, _, _, hn, _, _, _, hx⟩
  · injection hv with h1 h2 h3
    have : l = [] := List.eq_nil_of_length_eq_zero hn
    subst this
    exact ⟨h2, by omega, fun h => absurd rfl h⟩
  · injection hv with h1 h2 h3
    refine ⟨h2, by omega, fun _ => ⟨g, 0, h1, fun i hi => ?_⟩⟩
    rw [Nat.zero_add]
    exact hx i _ (by simp [hi])
/-- a new block of bytes -/
theorem Own.lit (w : World) (base : Nat) (l : List UInt8) (cs : Array Value) (e : TypeId) (n : Nat) (hcs : cs = (l.map byteV).toArray) (hn : n = l.length) (hb : base ≤ w.heap.size) (hm : l.length ≤ maxLen) :
    Own (w.alloc (.cells cs e)) base (.slice (some ⟨w.heap.size, 0, none⟩) n n) l := by
  subst hcs
  subst hn
  exact ⟨by simp, .inr ⟨w.heap.size, _, rfl, hb, by simp, Nat.le_refl _, hm, fun j hj => by simp at hj ⊢; omega, fun j _ => frozen_of_row _ w.heap.size j _ e (heap_alloc_new w _), fun j u hu => by simpa using hu⟩⟩

section
variable {P : Program}
/-- a slice of bytes as a source of append -/
theorem BytesR.src {w : World} {s : Sl} {l : List UInt8} (h : BytesR w s l) {t e : TypeId} (ht : P.underlying t = some (.slice e)) : Src P 1 t s.v l.length (l.map byteV) w := by
  by_cases hl : l = []
  · subst hl
    obtain ⟨a, n, c⟩ := s
    obtain rfl : n = 0 := h.1
    refine ⟨.inl ⟨_, ht⟩, fun _ => rfl, ?_, ?_, by simp, by simp⟩ <;> cases a <;> simp [Builtin.firstCells, loadCells, loadCellsFrom]
  · obtain ⟨b, off, ha, hc⟩ := h.2.2 hl
    obtain ⟨a, n, c⟩ := s
    simp only at ha
    subst ha
    obtain rfl : n = l.length := h.1
    exact Src.ofSlice w ht ⟨b, off, none⟩ l.length c (l.map byteV) (by simp) (fun j u hu => by
        have hj : j < l.length := by
          rcases Nat.lt_or_ge j l.length with hj | hj
          · exact hj
          · rw [List.getElem?_eq_none (by simpa using hj)] at hu; cases hu
        have hadd : (⟨b, off, none⟩ : Addr).add j = ⟨b, off + j, none⟩ := by unfold Addr.add; split <;> simp_all
        rw [hadd, hc j hj]
        simpa [hj] using hu) (fun u hu => by
        obtain ⟨x, _, rfl⟩ := List.mem_map.1 hu
        rfl)
theorem wpList_append_bytes (w : World) {ops : Array Oper} {rest : List Oper} {o : Oper} {a : Act} {Q : Exit → Act → World → Prop} (hgd : o.guard = none) (x y : Operand) (t : TypeId)
    (ho : o.op = .call { callee := .builtin .append, args := #[x, y], argTypes := #[t, t] })
    (base : Nat) (e : TypeId) (i : TypeInfo) (z : Value) (ht : P.underlying t = some (.slice e)) (hi : P.info? e = some i) (hz : i.zero = some z)
    (hsize : i.size = 1) (hby : i.bytes = 1) (hzs : z.cells.size = 1)
    (v : Value) (l : List UInt8) (hv : a.eval x = v) (hown : Own w base v l) (s : Sl) (m : List UInt8) (hs : a.eval y = s.v) (hr : BytesR w s m)
    (hlen : l.length + m.length ≤ 140737488355328) (hbase : base ≤ w.heap.size)
    (h : ∀ v' w', Own w' base v' (l ++ m) → w.grownBy w' v.ownBlock → (v'.ownBlock = v.ownBlock ∨ v'.ownBlock = some w.heap.size) → wpList P ops Q rest (a.put o.dst v') w') : wpList P ops Q (o :: rest) a w :=
  wpList_append_ownC w hgd x y t t ho base e i z 1 1 ht hi hz hsize hby hzs v l.length (l.map byteV) hv hown s.v m.length (m.map byteV) hs (hr.src ht) (by simp only [maxLen]; omega) (by omega) hbase
    fun v' w' h2 h3 h4 => h v' w' (by simpa [Own] using h2) h3 h4
theorem step_append_bytes (w : World) {ops : Array Oper} {o : Oper} {a : Act} {K : Act → World → Prop} {Q : Exit → Act → World → Prop} {E : Prop} (hgd : o.guard = none) (x y : Operand) (t : TypeId)
    (ho : o.op = .call { callee := .builtin .append, args := #[x, y], argTypes := #[t, t] })
    (base : Nat) (e : TypeId) (i : TypeInfo) (z : Value) (ht : P.underlying t = some (.slice e)) (hi : P.info? e = some i) (hz : i.zero = some z)
    (hsize : i.size = 1) (hby : i.bytes = 1) (hzs : z.cells.size = 1)
    (v : Value) (l : List UInt8) (hv : a.eval x = v) (hown : Own w base v l) (s : Sl) (m : List UInt8) (hs : a.eval y = s.v) (hr : BytesR w s m)
    (hlen : l.length + m.length ≤ 140737488355328) (hbase : base ≤ w.heap.size)
    (h : ∀ v' w', Own w' base v' (l ++ m) → w.grownBy w' v.ownBlock → (v'.ownBlock = v.ownBlock ∨ v'.ownBlock = some w.heap.size) → K (a.put o.dst v') w') :
    if Region.wanted o (yielded ops a.tmps) = true then Oper.wp P o a w K Q else E := by
  have hw : Region.wanted o (yielded ops a.tmps) = true := by simp [Region.wanted, hgd]
  rw [if_pos hw]
  exact wp_append_ownC w x y t t ho base e i z 1 1 ht hi hz hsize hby hzs v l.length (l.map byteV) hv hown s.v m.length (m.map byteV) hs (hr.src ht) (by simp only [maxLen]; omega) (by omega) hbase
    fun v' w' h2 h3 h4 => h v' w' (by simpa [Own] using h2) h3 h4
end
end Go.Proofs.Ytlkflddjpkhndaa
