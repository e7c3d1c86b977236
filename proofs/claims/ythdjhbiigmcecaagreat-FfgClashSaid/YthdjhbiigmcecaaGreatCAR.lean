/- Texts of this proof, one behind the other: TenH, TenA, TenB, TenC, TenD, ShaC. -/
import Derived.Test.YthdjhbiigmcecaaGreatCAP
import Derived.Test.YthdjhbiigmcecaaGreatCAQ
import Derived.Test.YthdjhbiigmcecaaGreatCAK
import Derived.Test.YthdjhbiigmcecaaGreatCAM
import Derived.Test.YthdjhbiigmcecaaGreatCAL
import Derived.Test.YthdjhbiigmcecaaGreatCAO
import Derived.Deep.CutRange
import Derived.Test.YthdjhbiigmcecaaGreatCAB
set_option linter.unusedVariables false
set_option linter.unusedSimpArgs false
/- landmarkref10.New. -/
namespace Go.Proofs.YthdjhbiigmcecaaGreat
open Go.RowKit

attribute [simp] rblkA_size
def bldR (parts : Array (Nat × Value)) : Sem Value := Instr.build 41 parts
theorem fold_bldR (parts : Array (Nat × Value)) : Instr.build 41 parts = bldR parts := rfl
theorem zero_rblk : Tryz.zeroCells41 = rblkA zeroPt zeroG3 (some 0) := by kernel_rfl
theorem rblk_head (p q : Pt) (g : GHeader) (o : Option Nat) : pointA p ++ (rblkA q g o).extract 33 68 = rblkA p g o := by
 simp [rblkA, Array.extract_append, ext_self, ext_none]
theorem rblk_set (p : Pt) (g : GHeader) (o q : Option Nat) : (rblkA p g o).setIfInBounds 67 (.int .i64 (parI q)) = rblkA p g q := by
 unfold rblkA
 rw [Array.setIfInBounds_append_right (by simp)]
 simp
theorem rblk_hdr (p : Pt) (g g' : GHeader) (o : Option Nat) : splice (rblkA p g o) 33 (headerA g') = rblkA p g' o := by
 simp [splice, rblkA, Array.extract_append, ext_self, ext_none]
theorem bldr_new (p : Pt) (W : World) : (bldR #[(0, .agg (pointA p)), (2, .int .i64 (-1))]).run Tryz.prog W = .ok (.agg (rblkA p zeroG3 none)) W := by
 unfold bldR
 go_simp
 rw [zero_rblk, fold0_splice _ _ 33 (by simp) (by simp), splice_zero_head _ _ 33 (by simp) (by simp), rblkA_size, rblk_head p zeroPt]
 rw [if_neg (by simp), show (Value.int .i64 (-1)) = .int .i64 (parI none) from rfl, rblk_set]
 rfl
theorem bldr_blk (p : Pt) (g : GHeader) (o : Option Nat) (W : World) : (bldR #[(0, .agg (pointA p)), (1, .agg (headerA g)), (2, .int .i64 (parI o))]).run Tryz.prog W = .ok (.agg (rblkA p g o)) W := by
 unfold bldR
 go_simp
 rw [zero_rblk, fold0_splice _ _ 33 (by simp) (by simp), splice_zero_head _ _ 33 (by simp) (by simp), rblkA_size, rblk_head p zeroPt, fold_splice _ _ 33 34 (by simp) (by simp), rblk_hdr, if_neg (by simp), if_neg (by simp), rblk_set]
 rfl
theorem info_rblk : (Tryz.prog.info? 41).map (fun i => (i.zero, i.size, i.bytes)) = some (some (.agg (rblkA zeroPt zeroG3 (some 0))), 68, 112) := by kernel_rfl
def bsR (parts : Array (Nat × Value)) : Sem Value := Instr.buildSlice 42 1 parts
theorem fold_bsR (parts : Array (Nat × Value)) : Instr.buildSlice 42 1 parts = bsR parts := rfl
theorem bsR_one (xs : Array Value) (h : xs.size = 68) (w : World) : (bsR #[(0, .agg xs)]).run Tryz.prog w = .ok (.slice (some ⟨w.heap.size, 0, none⟩) 1 1) (w.alloc (.cells xs 41)) := by
 obtain ⟨i0, hi, hy0, hy1, hy2⟩ := info_parts info_rblk
 exact run_buildSlice_one w Tryz.underlying42 hi hy0 hy1 (by simp [Value.cells]) (by omega) (by omega) _ h
attribute [local go_sem ↓] fold_bldR fold_bsR
set_option maxRecDepth 100000 in
set_option maxHeartbeats 1600000 in
theorem rnew_c (w0 W : World) (hB : Below w0.heap.size w0 W) (p : Pt) : Calls Tryz.prog 6 #[.agg (pointA p)] W fun e w' => ∃ cb rb, e = .returned (ptrV cb) ∧ W.heap.size ≤ cb ∧ W.heap.size ≤ rb ∧ RefC w0 w' cb rb 1 [zeroG3] (chNew p) ∧ Below W.heap.size W w' := by
 have hB0 : Below W.heap.size W (W.alloc (.cells (pointA p) 26)) := bel_a _ _
 have hz0 : (W.alloc (.cells (pointA p) 26)).heap.size = W.heap.size + 1 := by simp
 have hrow : row? (W.alloc (.cells (pointA p) 26)) W.heap.size 0 33 = some (pointA p) := by rw [row?_new]; simp
 have hbl := bldr_new p
 have hbs := bsR_one (rblkA p zeroG3 none) (rblkA_size _ _ _)
 have hzW := hB.size
 go_enter Tryz.func6, Tryz.ntmps6
 go_upto_region 1 with fail
 generalize W.alloc (.cells (pointA p) 26) = w1 at *
 replace hz0 := Lib.hid hz0
 go_wp2_with fail
 have hz := hz0.out
 have h1 : (w1.alloc (.cells (rblkA p zeroG3 none) 41)).heap.size = w1.heap.size + 1 := by simp
 have hBa : Below W.heap.size W ((w1.alloc (.cells (rblkA p zeroG3 none) 41)).alloc (.cells #[.slice (some ⟨w1.heap.size, 0, none⟩) 1 1] 44)) := hB0.trans (((bel_a w1 _).trans ((bel_a _ _).mono (by omega))).mono (by omega))
 have o1 := heap_alloc_new w1 (.cells (rblkA p zeroG3 none) 41)
 have o2 := heap_alloc_new (w1.alloc (.cells (rblkA p zeroG3 none) 41)) (.cells #[.slice (some ⟨w1.heap.size, 0, none⟩) 1 1] 44)
 rw [h1] at o2
 have o3 := ((Below.heap_alloc (w1.alloc (.cells (rblkA p zeroG3 none) 41)) (.cells #[.slice (some ⟨w1.heap.size, 0, none⟩) 1 1] 44)) w1.heap.size (by omega)).trans o1
 have hsz2 : ((w1.alloc (.cells (rblkA p zeroG3 none) 41)).alloc (.cells #[.slice (some ⟨w1.heap.size, 0, none⟩) 1 1] 44)).heap.size = w1.heap.size + 2 := by simp
 have hfin : RefC w0 ((w1.alloc (.cells (rblkA p zeroG3 none) 41)).alloc (.cells #[.slice (some ⟨w1.heap.size, 0, none⟩) 1 1] 44)) (w1.heap.size + 1) w1.heap.size 1 [zeroG3] (chNew p) := by
  refine ⟨hB.trans (hBa.mono hzW), by omega, by omega, by omega, o2, by omega, Nat.le_refl _, rfl, fun i x b hx hb => ?_⟩
  have hi : i = 0 := by
   have := (List.getElem?_eq_some_iff.1 hx).1
   simpa using this
  subst hi
  simp only [List.getElem?_cons_zero, Option.some.injEq, chNew] at hx hb
  subst hx hb
  exact ⟨rowHeap o3 (by simp), rfl, rfl, SlR.nil _ _ _ _ _⟩
 have hfin' := Lib.hid hfin
 have hBa' := Lib.hid hBa
 clear hfin hBa o1 o2 o3
 go_ret
 exact ⟨w1.heap.size + 1, w1.heap.size, by unfold ptrV; simp, by omega, by omega, hfin'.out, hBa'.out⟩
end Go.Proofs.YthdjhbiigmcecaaGreat

/- Contracts of package landmarkref10: numbers, checkpoints, votes. -/
namespace Go.Proofs.YthdjhbiigmcecaaGreat
open Go.RowKit

set_option maxRecDepth 100000 in
set_option maxHeartbeats 800000 in
theorem tnum_c (size n : Nat) (w : World) (hs0 : 1 ≤ size) (hs : size ≤ 8) (hn : n < 18446744073709551616) :
  Calls Tryz.prog 68 #[.int .u64 n, .int .i64 size] w fun e w' => ∃ v, e = .returned v ∧ Own w' w.heap.size v (be size n) ∧ Below w.heap.size w w' := by
 obtain ⟨i0, hi, hy0, hy1, hy2⟩ := info_parts info_u8
 have hlen := be_length size n
 go_enter Tryz.func68, Tryz.ntmps68
 go_wp2_with fail
 go_loopw [5, 6] (fun u i w' => ∃ j : Nat, j ≤ size ∧ Own w' w.heap.size u ((be size n).take j) ∧ i = .int .i64 ((size : Int) - 1 - j) ∧ Below w.heap.size w w') (fun _ i _ => (intOf i + 1).toNat)
 case atStart => exact ⟨0, Nat.zero_le _, Own.nil _ _, by simp, Below.refl _ _⟩
 case round =>
  obtain ⟨j, hj, hown, rfl, hB⟩ := hrel
  have hz := hB.size
  by_cases hlt : j < size
  ·have hts := be_take_succ size n j hlt
   have hbv := byteV_div n (256 ^ (size - 1 - j))
   have htl : ((be size n).take j).length + 1 ≤ 140737488355328 := by simp; omega
   have Hts := Lib.hid hts
   have Hbv := Lib.hid hbv
   have Hown := Lib.hid hown
   clear hts hbv hown
   obtain ⟨q, hq⟩ : ∃ q : Nat, q = size - 1 - j := ⟨_, rfl⟩
   have hqi : (size : Int) - 1 - (j : Int) = (q : Int) := by omega
   have hq7 : q ≤ 7 := by omega
   rw [hqi]
   rw [← hq] at Hbv
   have Hbv2 := Lib.hid (show byteV (UInt8.ofNat (n / 256 ^ q)) = .int .u8 ((n : Int) / 2 ^ (8 * q) % 256) from by
    rw [Hbv.out, show (256 : Nat) ^ q = 2 ^ (8 * q) from by rw [Nat.pow_mul]]
    simp)
   have Hts2 := Lib.hid (show (be size n).take (j + 1) = (be size n).take j ++ [UInt8.ofNat (n / 256 ^ q)] from by rw [hq]; exact Hts.out)
   have hqj : (q : Int) - 1 = (size : Int) - 1 - ((j + 1 : Nat) : Int) := by omega
   clear Hbv Hts hqi
   replace hq := Lib.hid hq
   replace hqj := Lib.hid hqj
   go_wp2_with (at_builtin; refine wpList_append_bytes _ rfl (.tmp 13) (.tmp 20) _ (by rfl) w.heap.size 5 i0 _ Tryz.underlying74 hi hy0 hy1 hy2 rfl _ _ (by rfl) (Hown.out.keep (bel_a _ _)) ⟨some ⟨_, 0, none⟩, 1, 1⟩ [UInt8.ofNat (n / 256 ^ q)] (by rfl) (BytesR.one _ _ _ _ _ rfl Hbv2.out) htl (by simp; omega) ?_; intro v' w2 hown2 hg2 _)
   have hB2 : Below w.heap.size w w2 := bel_grown hg2 (hB.trans ((bel_a _ _).mono hz)) (by simp; omega) (fun k hk => (Hown.out.lt k hk).1)
   go_roundw
   case rel => exact ⟨j + 1, by omega, by rw [Hts2.out]; exact hown2, by rw [← hqj.out], hB2⟩
   case measure =>
    have := hq.out
    first | (simp [intOf]; done) | (simp [intOf]; omega)
  ·have hfl : (be size n).take j = be size n := by rw [List.take_of_length_le (by omega)]
   rw [hfl] at hown
   clear hfl
   go_wp2_with fail
   go_ret
   exact ⟨_, rfl, hown, hB⟩
set_option maxRecDepth 100000 in
set_option maxHeartbeats 800000 in
theorem tpoint_c (p : Pt) (w : World) : Calls Tryz.prog 90 #[.agg (pointA p)] w fun e w' => ∃ v, e = .returned v ∧ Own w' w.heap.size v (ptBytes p) ∧ Below w.heap.size w w' := by
 obtain ⟨i0, hi, hz0, hz1, hz2⟩ := info_parts info_u8
 have hn := p.epoch.toNat_lt
 have HC := fun W => tnum_c 8 p.epoch.toNat W (by omega) (by omega) (by omega)
 clear hn
 go_enter Tryz.func90, Tryz.ntmps90
 go_wp2_with fail
 go_region_held3 (fun w' => w'.cell? ⟨w.heap.size, 0, none⟩ = some (.int .u64 (p.epoch.toNat : Int)))
  (first | go_keep | (rw [k1 _ _ (by simp)]; simp) | (rw [hb2.cell (p := ⟨w.heap.size, 0, none⟩) (by simp)]; simp))
  (first
   | (go_simp; go_at_call 68; refine (HC _).mono ?_; clear HC; rintro e w1 ⟨v, rfl, ho, hb⟩; obtain ⟨k1, k2, k3⟩ := kept hb)
   | (refine step_append_bytes _ (by rfl) (.tmp 5) (.tmp 7) _ (by rfl) w.heap.size 5 i0 _ Tryz.underlying74 hi hz0 hz1 hz2 rfl v (be 8 p.epoch.toNat) (by rfl) (ho.more (by simp)) ⟨some ⟨w.heap.size, 1, none⟩, 32, 32⟩ p.name.1 (by rfl) (name_reads (off := 0) (by rw [k3 _ _ _ (by simp)]; simp [row?_drew, row?_new, ext_self]) 32 (Nat.le_refl _)) (by simp [be_length, p.name.2]) (by have := hb.size; simp at this; omega) ?_; intro v' w2 hown hg _; have hb2 := bel_grown hg hb hb.size (fun k hk => (ho.lt k hk).1)))
 go_wp2_with fail
 go_ret
 exact ⟨v', rfl, hown, by (repeat' (first | (with_reducible first | exact Below.refl _ _ | assumption | refine bel_trans (by assumption) ?_ ?_ | refine bel_grown (by assumption) ?_ ?_ ?_ | refine Below.alloc ?_ ?_ _ | refine Below.drew ?_ | refine below_drewN ?_ _ | refine Below.setCell ?_ ?_ _ | refine below_put ?_ ?_ _ _ | exact Nat.le_refl _) | omega | (with_reducible first | refine Nat.le_trans ?_ (Below.size (by assumption)) | refine Nat.le_trans ?_ (World.grownBy.size (by assumption))) | (simp only [World.size_alloc, World.size_setCell, World.size_drew, size_drewN]; omega) | (simp only [World.size_alloc, World.size_setCell, World.size_drew, size_drewN, size_put]; omega) | (intro k hk; simp [Value.ownBlock] at hk; first | done | omega) | (simp [size_drewN] at *; omega)))⟩
end Go.Proofs.YthdjhbiigmcecaaGreat

/- Appends of bytes in a row, in a region that draws its order: what is appended is made in any order. -/
namespace Go.Proofs.YthdjhbiigmcecaaGreat
open Go.RowKit

def appB (args : Array Value) : Sem Value := Builtin.append_ #[74, 74] 74 args
theorem fold_appB (args : Array Value) : Builtin.append_ #[74, 74] 74 args = appB args := rfl
theorem run_appB {W : World} {E : Nat} {s : Sl} {l : List UInt8} (h : Own W E s.v l) (hE : E ≤ W.heap.size) {t : Sl} {m : List UInt8} (ht : BytesR W t m) (hl : l.length + m.length ≤ 140737488355328) :
  ∃ (s' : Sl) (W' : World), (appB #[s.v, t.v]).run Tryz.prog W = .ok s'.v W' ∧ Own W' E s'.v (l ++ m) ∧ W.grownBy W' s.v.ownBlock ∧ (s'.v.ownBlock = s.v.ownBlock ∨ s'.v.ownBlock = some W.heap.size) := by
 obtain ⟨i0, hi, hy0, hy1, hy2⟩ := info_parts info_u8
 obtain ⟨v', W', h1, h2, h3, h4⟩ := run_append_ownC (P := Tryz.prog) W E 74 74 74 5 i0 _ 1 1 Tryz.underlying74 hi hy0 hy1 hy2 (by simp [Value.cells]) s.v l.length (l.map byteV) h t.v m.length (m.map byteV) (ht.src Tryz.underlying74) (by simp only [maxLen]; omega) (by omega) hE
 have h2' : Own W' E v' (l ++ m) := by
  unfold Own
  rw [List.length_append, List.map_append]
  exact h2
 obtain ⟨s', rfl⟩ := h2'.slice
 exact ⟨s', W', h1, h2', h3, h4⟩
theorem row?_of_block {w w' : World} {b off n : Nat} (h : w'.heap[b]? = w.heap[b]?) : row? w' b off n = row? w b off n := by simp [row?, h]
theorem BytesR.keepR {w w' : World} {s : Sl} {l : List UInt8} {row : Option Nat} (h : BytesR w s l) (hg : w.grownBy w' row) (hne : l ≠ [] → ∀ b off, s.a = some ⟨b, off, none⟩ → row ≠ some b) : BytesR w' s l :=
 ⟨h.1, h.2.1, fun hl => by
  obtain ⟨b, off, ha, hc⟩ := h.2.2 hl
  refine ⟨b, off, ha, fun i hi => ?_⟩
  have h1 := hg.block b (lt_of_cell (hc i hi)) (hne hl b off ha).symm
  have h2 := hc i hi
  unfold World.cell? at h2 ⊢
  rw [h1]
  exact h2⟩
/-- a row of bytes that grows (cur, which holds cb), and what is to be appended to it: whether it is made, where, its bytes -/
structure AppS (E : Nat) (W0 : World) (c0 : Value) (w : World) (cur : Value) (cb : List UInt8) (srcs : List (Bool × Value × List UInt8)) : Prop where
 bel : Below E W0 w
 hE : E ≤ W0.heap.size
 far : W0.grownBy w c0.ownBlock
 orig : ∀ g, cur.ownBlock = some g → c0.ownBlock = some g ∨ W0.heap.size ≤ g
 own : ∃ s : Sl, cur = s.v ∧ Own w E s.v cb
 src : ∀ x ∈ srcs, x.1 = true → ∃ s : Sl, x.2.1 = s.v ∧ BytesR w s x.2.2 ∧ (x.2.2 ≠ [] → ∀ b off, s.a = some ⟨b, off, none⟩ → cur.ownBlock ≠ some b ∧ b < w.heap.size)
section
variable {E : Nat} {W0 w w' : World} {c0 cur : Value} {cb : List UInt8} {srcs : List (Bool × Value × List UInt8)}
theorem AppS.size (h : AppS E W0 c0 w cur cb srcs) : E ≤ w.heap.size := Nat.le_trans h.hE h.bel.size
theorem AppS.grow (h : AppS E W0 c0 w cur cb srcs) (hb : Below w.heap.size w w') : AppS E W0 c0 w' cur cb srcs := by
 refine ⟨h.bel.trans (hb.mono h.size), h.hE, ⟨hb.os.trans h.far.os, hb.tape.trans h.far.tape, hb.output.trans h.far.output, Nat.le_trans h.far.size hb.size, fun k hk hn => (hb.block k (Nat.lt_of_lt_of_le hk h.far.size)).trans (h.far.block k hk hn)⟩, h.orig, ?_, fun x hx hx1 => ?_⟩
 ·obtain ⟨s, q1, q2⟩ := h.own
  exact ⟨s, q1, q2.keep hb⟩
 ·obtain ⟨s, q1, q2, q3⟩ := h.src x hx hx1
  exact ⟨s, q1, q2.keep hb, fun hn b off e => ⟨(q3 hn b off e).1, Nat.lt_of_lt_of_le (q3 hn b off e).2 hb.size⟩⟩
theorem AppS.put {a b : List (Bool × Value × List UInt8)} {x : Bool × Value × List UInt8} (h : AppS E W0 c0 w cur cb (a ++ x :: b)) {s : Sl} {m : List UInt8} (ho : BytesR w s m) (hs : m ≠ [] → ∀ b off, s.a = some ⟨b, off, none⟩ → cur.ownBlock ≠ some b ∧ b < w.heap.size) : AppS E W0 c0 w cur cb (a ++ (true, s.v, m) :: b) := by
 refine ⟨h.bel, h.hE, h.far, h.orig, h.own, fun y hy hy1 => ?_⟩
 rcases List.mem_append.1 hy with hy | hy
 ·exact h.src y (List.mem_append_left _ hy) hy1
 ·rcases List.mem_cons.1 hy with rfl | hy
  ·exact ⟨s, rfl, ho, hs⟩
  ·exact h.src y (List.mem_append_right _ (List.mem_cons_of_mem _ hy)) hy1
/-- one more is made -/
theorem AppS.made {a b : List (Bool × Value × List UInt8)} {x : Bool × Value × List UInt8} (h : AppS E W0 c0 w cur cb (a ++ x :: b)) (hb : Below w.heap.size w w') {s : Sl} {m : List UInt8} (ho : Own w' w.heap.size s.v m) : AppS E W0 c0 w' cur cb (a ++ (true, s.v, m) :: b) := by
 refine (h.grow hb).put ho.reads fun _ g off e => ?_
 have hs : s.v.ownBlock = some g := by
  obtain ⟨sa, sn, sc⟩ := s
  simp only at e
  subst e
  rfl
 have h2 := OwnC.lt ho g hs
 refine ⟨fun hgc => ?_, h2.2⟩
 obtain ⟨s0, q1, q2⟩ := h.own
 subst q1
 have h1 := (OwnC.lt q2 g hgc).2
 omega
/-- one more is there: bytes that are read, in memory that was there, apart from the row's -/
theorem AppS.read {a b : List (Bool × Value × List UInt8)} {x : Bool × Value × List UInt8} (h : AppS E W0 c0 w cur cb (a ++ x :: b)) {s : Sl} {m : List UInt8} (ho : BytesR w s m) (hs : m ≠ [] → ∀ g off, s.a = some ⟨g, off, none⟩ → g < W0.heap.size ∧ c0.ownBlock ≠ some g) : AppS E W0 c0 w cur cb (a ++ (true, s.v, m) :: b) := by
 refine h.put ho fun hn g off e => ⟨fun hgc => ?_, Nat.lt_of_lt_of_le (hs hn g off e).1 h.far.size⟩
 have h2 := hs hn g off e
 rcases h.orig g hgc with q | q
 ·exact h2.2 q
 ·omega
/-- an append of bytes that are read -/
theorem AppS.app (h : AppS E W0 c0 w cur cb srcs) {t : Sl} {m : List UInt8} (ht : BytesR w t m) (hl : cb.length + m.length ≤ 140737488355328) : ∃ (s' : Sl) (w' : World), (appB #[cur, t.v]).run Tryz.prog w = .ok s'.v w' ∧ AppS E W0 c0 w' s'.v (cb ++ m) srcs := by
 obtain ⟨s, rfl, ho⟩ := h.own
 obtain ⟨s', w', h1, h2, h3, h4⟩ := run_appB ho h.size ht hl
 refine ⟨s', w', h1, ⟨h.bel.grown h3 h.size fun k hk => (OwnC.lt ho k hk).1, h.hE, ⟨h3.os.trans h.far.os, h3.tape.trans h.far.tape, h3.output.trans h.far.output, Nat.le_trans h.far.size h3.size, fun k hk hn => (h3.block k (Nat.lt_of_lt_of_le hk h.far.size) fun e => ?_).trans (h.far.block k hk hn)⟩, fun g hg => ?_, ⟨s', rfl, h2⟩, fun x hx hx1 => ?_⟩⟩
 ·rcases h.orig k e.symm with q | q
  ·exact hn q.symm
  ·omega
 ·rcases h4 with h4 | h4
  ·rw [h4] at hg
   exact h.orig g hg
  ·rw [h4] at hg
   injection hg with hg
   have := h.far.size
   omega
 obtain ⟨sx, q1, q2, q3⟩ := h.src x hx hx1
 refine ⟨sx, q1, q2.keepR h3 fun hn b off e => (q3 hn b off e).1, fun hn g off e => ?_⟩
 have hlt := (q3 hn g off e).2
 refine ⟨fun hg => ?_, Nat.lt_of_lt_of_le hlt h3.size⟩
 rcases h4 with h4 | h4
 ·rw [h4] at hg
  exact (q3 hn g off e).1 hg
 ·rw [h4] at hg
  injection hg with hg
  omega
end
/-- two appends: which sources are there, which appends are done -/
structure AppI (E : Nat) (W0 : World) (c0 : Value) (m0 m1 m2 : List UInt8) (L : List Bool) (V : List Value) (w : World) : Prop where
 s : AppS E W0 c0 w (if L.getD 3 false then V.getD 3 undef else if L.getD 1 false then V.getD 1 undef else c0) (if L.getD 3 false then m0 ++ m1 ++ m2 else if L.getD 1 false then m0 ++ m1 else m0) [(L.getD 0 false, V.getD 0 undef, m1), (L.getD 2 false, V.getD 2 undef, m2)]
 d : L.getD 4 false = true → V.getD 4 undef = V.getD 3 undef
section
variable {E : Nat} {W0 w w' : World} {c0 : Value} {m0 m1 m2 : List UInt8} {l0 l1 l2 l3 l4 : Bool} {v0 v1 v2 v3 v4 : Value}
theorem AppI.zero {c : Sl} (hE : E ≤ W0.heap.size) (ho : Own W0 E c.v m0) (V : List Value) : AppI E W0 c.v m0 m1 m2 [false, false, false, false, false] V W0.drew :=
 ⟨⟨(Below.refl _ _).drew, hE, ⟨rfl, rfl, rfl, Nat.le_refl _, fun _ _ _ => rfl⟩, fun g hg => .inl hg, ⟨c, rfl, ho.keep (Below.refl _ _).drew⟩, fun x hx hx1 => by
  simp at hx
  rcases hx with rfl | rfl <;> cases hx1⟩, fun q => (by cases q)⟩
theorem AppI.bel (h : AppI E W0 c0 m0 m1 m2 [l0, l1, l2, l3, l4] [v0, v1, v2, v3, v4] w) : Below E W0 w := h.s.bel
theorem AppI.far (h : AppI E W0 c0 m0 m1 m2 [l0, l1, l2, l3, l4] [v0, v1, v2, v3, v4] w) : W0.grownBy w c0.ownBlock := h.s.far
theorem AppI.o1 (h : AppI E W0 c0 m0 m1 m2 [l0, l1, l2, l3, l4] [v0, v1, v2, v3, v4] w) (hb : Below w.heap.size w w') {s : Sl} (ho : Own w' w.heap.size s.v m1) : AppI E W0 c0 m0 m1 m2 [true, l1, l2, l3, l4] [s.v, v1, v2, v3, v4] w' :=
 ⟨h.s.made (a := []) hb ho, h.d⟩
theorem AppI.r1 (h : AppI E W0 c0 m0 m1 m2 [l0, l1, l2, l3, l4] [v0, v1, v2, v3, v4] w) {s : Sl} (ho : BytesR w s m1) (hs : m1 ≠ [] → ∀ g off, s.a = some ⟨g, off, none⟩ → g < W0.heap.size ∧ c0.ownBlock ≠ some g) : AppI E W0 c0 m0 m1 m2 [true, l1, l2, l3, l4] [s.v, v1, v2, v3, v4] w :=
 ⟨h.s.read (a := []) ho hs, h.d⟩
theorem AppI.o2 (h : AppI E W0 c0 m0 m1 m2 [l0, l1, l2, l3, l4] [v0, v1, v2, v3, v4] w) (hb : Below w.heap.size w w') {s : Sl} (ho : Own w' w.heap.size s.v m2) : AppI E W0 c0 m0 m1 m2 [l0, l1, true, l3, l4] [v0, v1, s.v, v3, v4] w' :=
 ⟨h.s.made (a := [(l0, v0, m1)]) hb ho, h.d⟩
theorem AppI.r2 (h : AppI E W0 c0 m0 m1 m2 [l0, l1, l2, l3, l4] [v0, v1, v2, v3, v4] w) {s : Sl} (ho : BytesR w s m2) (hs : m2 ≠ [] → ∀ g off, s.a = some ⟨g, off, none⟩ → g < W0.heap.size ∧ c0.ownBlock ≠ some g) : AppI E W0 c0 m0 m1 m2 [l0, l1, true, l3, l4] [v0, v1, s.v, v3, v4] w :=
 ⟨h.s.read (a := [(l0, v0, m1)]) ho hs, h.d⟩
theorem AppI.a1 (h : AppI E W0 c0 m0 m1 m2 [l0, l1, l2, l3, l4] [v0, v1, v2, v3, v4] w) (h0 : l0 = true) (h1 : l1 = false) (h3 : l3 = false) (h4 : l4 = false) (hl : (m0).length + m1.length ≤ 140737488355328) :
  ∃ (s' : Sl) (w' : World), (appB #[c0, v0]).run Tryz.prog w = .ok s'.v w' ∧ AppI E W0 c0 m0 m1 m2 [l0, true, l2, l3, l4] [v0, s'.v, v2, v3, v4] w' := by
 subst h0 h1 h3 h4
 obtain ⟨t, e, ht, -⟩ := h.s.src (true, v0, m1) (List.mem_cons_self ..) rfl
 have e' : v0 = t.v := e
 subst e'
 obtain ⟨s', w', q1, q2⟩ := h.s.app ht hl
 exact ⟨s', w', q1, q2, fun q => (by cases q)⟩
theorem AppI.a2 (h : AppI E W0 c0 m0 m1 m2 [l0, l1, l2, l3, l4] [v0, v1, v2, v3, v4] w) (h2 : l2 = true) (h1 : l1 = true) (h3 : l3 = false) (h4 : l4 = false) (hl : (m0 ++ m1).length + m2.length ≤ 140737488355328) :
  ∃ (s' : Sl) (w' : World), (appB #[v1, v2]).run Tryz.prog w = .ok s'.v w' ∧ AppI E W0 c0 m0 m1 m2 [l0, l1, l2, true, l4] [v0, v1, v2, s'.v, v4] w' := by
 subst h2 h1 h3 h4
 obtain ⟨t, e, ht, -⟩ := h.s.src (true, v2, m2) (List.mem_cons_of_mem _ (List.mem_cons_self ..)) rfl
 have e' : v2 = t.v := e
 subst e'
 obtain ⟨s', w', q1, q2⟩ := h.s.app ht hl
 exact ⟨s', w', q1, q2, fun q => (by cases q)⟩
theorem AppI.fin (h : AppI E W0 c0 m0 m1 m2 [l0, l1, l2, l3, l4] [v0, v1, v2, v3, v4] w) : AppI E W0 c0 m0 m1 m2 [l0, l1, l2, l3, true] [v0, v1, v2, v3, v3] w := ⟨h.s, fun _ => rfl⟩
theorem AppI.out (h : AppI E W0 c0 m0 m1 m2 [true, true, true, true, true] [v0, v1, v2, v3, v4] w) : v4 = v3 ∧ ∃ s : Sl, v3 = s.v ∧ Own w E s.v (m0 ++ m1 ++ m2) := ⟨h.d rfl, h.s.own⟩
end
/-- three appends -/
structure AppJ (E : Nat) (W0 : World) (c0 : Value) (m0 m1 m2 m3 : List UInt8) (L : List Bool) (V : List Value) (w : World) : Prop where
 s : AppS E W0 c0 w (if L.getD 5 false then V.getD 5 undef else if L.getD 3 false then V.getD 3 undef else if L.getD 1 false then V.getD 1 undef else c0) (if L.getD 5 false then m0 ++ m1 ++ m2 ++ m3 else if L.getD 3 false then m0 ++ m1 ++ m2 else if L.getD 1 false then m0 ++ m1 else m0) [(L.getD 0 false, V.getD 0 undef, m1), (L.getD 2 false, V.getD 2 undef, m2), (L.getD 4 false, V.getD 4 undef, m3)]
 d : L.getD 6 false = true → V.getD 6 undef = V.getD 5 undef
section
variable {E : Nat} {W0 w w' : World} {c0 : Value} {m0 m1 m2 m3 : List UInt8} {l0 l1 l2 l3 l4 l5 l6 : Bool} {v0 v1 v2 v3 v4 v5 v6 : Value}
theorem AppJ.zero {c : Sl} (hE : E ≤ W0.heap.size) (ho : Own W0 E c.v m0) (V : List Value) : AppJ E W0 c.v m0 m1 m2 m3 [false, false, false, false, false, false, false] V W0.drew :=
 ⟨⟨(Below.refl _ _).drew, hE, ⟨rfl, rfl, rfl, Nat.le_refl _, fun _ _ _ => rfl⟩, fun g hg => .inl hg, ⟨c, rfl, ho.keep (Below.refl _ _).drew⟩, fun x hx hx1 => by
  simp at hx
  rcases hx with rfl | rfl | rfl <;> cases hx1⟩, fun q => (by cases q)⟩
theorem AppJ.bel (h : AppJ E W0 c0 m0 m1 m2 m3 [l0, l1, l2, l3, l4, l5, l6] [v0, v1, v2, v3, v4, v5, v6] w) : Below E W0 w := h.s.bel
theorem AppJ.far (h : AppJ E W0 c0 m0 m1 m2 m3 [l0, l1, l2, l3, l4, l5, l6] [v0, v1, v2, v3, v4, v5, v6] w) : W0.grownBy w c0.ownBlock := h.s.far
theorem AppJ.o1 (h : AppJ E W0 c0 m0 m1 m2 m3 [l0, l1, l2, l3, l4, l5, l6] [v0, v1, v2, v3, v4, v5, v6] w) (hb : Below w.heap.size w w') {s : Sl} (ho : Own w' w.heap.size s.v m1) : AppJ E W0 c0 m0 m1 m2 m3 [true, l1, l2, l3, l4, l5, l6] [s.v, v1, v2, v3, v4, v5, v6] w' :=
 ⟨h.s.made (a := []) hb ho, h.d⟩
theorem AppJ.o2 (h : AppJ E W0 c0 m0 m1 m2 m3 [l0, l1, l2, l3, l4, l5, l6] [v0, v1, v2, v3, v4, v5, v6] w) (hb : Below w.heap.size w w') {s : Sl} (ho : Own w' w.heap.size s.v m2) : AppJ E W0 c0 m0 m1 m2 m3 [l0, l1, true, l3, l4, l5, l6] [v0, v1, s.v, v3, v4, v5, v6] w' :=
 ⟨h.s.made (a := [(l0, v0, m1)]) hb ho, h.d⟩
theorem AppJ.o3 (h : AppJ E W0 c0 m0 m1 m2 m3 [l0, l1, l2, l3, l4, l5, l6] [v0, v1, v2, v3, v4, v5, v6] w) (hb : Below w.heap.size w w') {s : Sl} (ho : Own w' w.heap.size s.v m3) : AppJ E W0 c0 m0 m1 m2 m3 [l0, l1, l2, l3, true, l5, l6] [v0, v1, v2, v3, s.v, v5, v6] w' :=
 ⟨h.s.made (a := [(l0, v0, m1), (l2, v2, m2)]) hb ho, h.d⟩
theorem AppJ.a1 (h : AppJ E W0 c0 m0 m1 m2 m3 [l0, l1, l2, l3, l4, l5, l6] [v0, v1, v2, v3, v4, v5, v6] w) (h0 : l0 = true) (h1 : l1 = false) (h3 : l3 = false) (h5 : l5 = false) (h6 : l6 = false) (hl : (m0).length + m1.length ≤ 140737488355328) :
  ∃ (s' : Sl) (w' : World), (appB #[c0, v0]).run Tryz.prog w = .ok s'.v w' ∧ AppJ E W0 c0 m0 m1 m2 m3 [l0, true, l2, l3, l4, l5, l6] [v0, s'.v, v2, v3, v4, v5, v6] w' := by
 subst h0 h1 h3 h5 h6
 obtain ⟨t, e, ht, -⟩ := h.s.src (true, v0, m1) (List.mem_cons_self ..) rfl
 have e' : v0 = t.v := e
 subst e'
 obtain ⟨s', w', q1, q2⟩ := h.s.app ht hl
 exact ⟨s', w', q1, q2, fun q => (by cases q)⟩
theorem AppJ.a2 (h : AppJ E W0 c0 m0 m1 m2 m3 [l0, l1, l2, l3, l4, l5, l6] [v0, v1, v2, v3, v4, v5, v6] w) (h2 : l2 = true) (h1 : l1 = true) (h3 : l3 = false) (h5 : l5 = false) (h6 : l6 = false) (hl : (m0 ++ m1).length + m2.length ≤ 140737488355328) :
  ∃ (s' : Sl) (w' : World), (appB #[v1, v2]).run Tryz.prog w = .ok s'.v w' ∧ AppJ E W0 c0 m0 m1 m2 m3 [l0, l1, l2, true, l4, l5, l6] [v0, v1, v2, s'.v, v4, v5, v6] w' := by
 subst h2 h1 h3 h5 h6
 obtain ⟨t, e, ht, -⟩ := h.s.src (true, v2, m2) (List.mem_cons_of_mem _ (List.mem_cons_self ..)) rfl
 have e' : v2 = t.v := e
 subst e'
 obtain ⟨s', w', q1, q2⟩ := h.s.app ht hl
 exact ⟨s', w', q1, q2, fun q => (by cases q)⟩
theorem AppJ.a3 (h : AppJ E W0 c0 m0 m1 m2 m3 [l0, l1, l2, l3, l4, l5, l6] [v0, v1, v2, v3, v4, v5, v6] w) (h4 : l4 = true) (h3 : l3 = true) (h5 : l5 = false) (h6 : l6 = false) (hl : (m0 ++ m1 ++ m2).length + m3.length ≤ 140737488355328) :
  ∃ (s' : Sl) (w' : World), (appB #[v3, v4]).run Tryz.prog w = .ok s'.v w' ∧ AppJ E W0 c0 m0 m1 m2 m3 [l0, l1, l2, l3, l4, true, l6] [v0, v1, v2, v3, v4, s'.v, v6] w' := by
 subst h4 h3 h5 h6
 obtain ⟨t, e, ht, -⟩ := h.s.src (true, v4, m3) (List.mem_cons_of_mem _ (List.mem_cons_of_mem _ (List.mem_cons_self ..))) rfl
 have e' : v4 = t.v := e
 subst e'
 obtain ⟨s', w', q1, q2⟩ := h.s.app ht hl
 exact ⟨s', w', q1, q2, fun q => (by cases q)⟩
theorem AppJ.fin (h : AppJ E W0 c0 m0 m1 m2 m3 [l0, l1, l2, l3, l4, l5, l6] [v0, v1, v2, v3, v4, v5, v6] w) : AppJ E W0 c0 m0 m1 m2 m3 [l0, l1, l2, l3, l4, l5, true] [v0, v1, v2, v3, v4, v5, v5] w := ⟨h.s, fun _ => rfl⟩
theorem AppJ.out (h : AppJ E W0 c0 m0 m1 m2 m3 [true, true, true, true, true, true, true] [v0, v1, v2, v3, v4, v5, v6] w) : v6 = v5 ∧ ∃ s : Sl, v5 = s.v ∧ Own w E s.v (m0 ++ m1 ++ m2 ++ m3) := ⟨h.d rfl, h.s.own⟩
end
/-- two pieces that are made in any order, and one appended to the other one -/
structure App2 (E : Nat) (W0 : World) (m0 m1 : List UInt8) (L : List Bool) (V : List Value) (w : World) : Prop where
 bel : Below E W0 w
 hE : E ≤ W0.heap.size
 a : L.getD 2 false = false → L.getD 0 false = true → ∃ s : Sl, V.getD 0 undef = s.v ∧ Own w E s.v m0
 b : L.getD 2 false = false → L.getD 1 false = true → ∃ s : Sl, V.getD 1 undef = s.v ∧ Own w E s.v m1
 c : L.getD 2 false = true → ∃ s : Sl, V.getD 2 undef = s.v ∧ Own w E s.v (m0 ++ m1)
 d : L.getD 3 false = true → V.getD 3 undef = V.getD 2 undef
section
variable {E : Nat} {W0 w w' : World} {m0 m1 : List UInt8} {l0 l1 l2 l3 : Bool} {v0 v1 v2 v3 : Value}
theorem App2.grow {L : List Bool} {V : List Value} (h : App2 E W0 m0 m1 L V w) (hb : Below w.heap.size w w') : App2 E W0 m0 m1 L V w' := by
 have hz := Nat.le_trans h.hE h.bel.size
 refine ⟨h.bel.trans (hb.mono hz), h.hE, fun q1 q2 => ?_, fun q1 q2 => ?_, fun q1 => ?_, h.d⟩
 ·obtain ⟨s, e1, e2⟩ := h.a q1 q2
  exact ⟨s, e1, e2.keep hb⟩
 ·obtain ⟨s, e1, e2⟩ := h.b q1 q2
  exact ⟨s, e1, e2.keep hb⟩
 ·obtain ⟨s, e1, e2⟩ := h.c q1
  exact ⟨s, e1, e2.keep hb⟩
theorem App2.fst (h : App2 E W0 m0 m1 [l0, l1, l2, l3] [v0, v1, v2, v3] w) (hb : Below w.heap.size w w') {s : Sl} (ho : Own w' w.heap.size s.v m0) : App2 E W0 m0 m1 [true, l1, l2, l3] [s.v, v1, v2, v3] w' := by
 have hg := h.grow hb
 exact ⟨hg.bel, hg.hE, fun _ _ => ⟨s, rfl, ho.more (Nat.le_trans h.hE h.bel.size)⟩, hg.b, hg.c, hg.d⟩
theorem App2.snd (h : App2 E W0 m0 m1 [l0, l1, l2, l3] [v0, v1, v2, v3] w) (hb : Below w.heap.size w w') {s : Sl} (ho : Own w' w.heap.size s.v m1) : App2 E W0 m0 m1 [l0, true, l2, l3] [v0, s.v, v2, v3] w' := by
 have hg := h.grow hb
 exact ⟨hg.bel, hg.hE, hg.a, fun _ _ => ⟨s, rfl, ho.more (Nat.le_trans h.hE h.bel.size)⟩, hg.c, hg.d⟩
theorem App2.app (h : App2 E W0 m0 m1 [l0, l1, l2, l3] [v0, v1, v2, v3] w) (h0 : l0 = true) (h1 : l1 = true) (h2 : l2 = false) (h3 : l3 = false) (hl : m0.length + m1.length ≤ 140737488355328) :
  ∃ (s' : Sl) (w' : World), (appB #[v0, v1]).run Tryz.prog w = .ok s'.v w' ∧ App2 E W0 m0 m1 [l0, l1, true, l3] [v0, v1, s'.v, v3] w' := by
 subst h0 h1 h2 h3
 have hz := Nat.le_trans h.hE h.bel.size
 obtain ⟨s, e1, e2⟩ := h.a rfl rfl
 obtain ⟨t, f1, f2⟩ := h.b rfl rfl
 have e1' : v0 = s.v := e1
 have f1' : v1 = t.v := f1
 subst e1' f1'
 obtain ⟨s', w', q1, q2, q3, -⟩ := run_appB e2 hz f2.reads hl
 exact ⟨s', w', q1, ⟨h.bel.grown q3 hz fun k hk => (OwnC.lt e2 k hk).1, h.hE, fun q => (by cases q), fun q => (by cases q), fun _ => ⟨s', rfl, q2⟩, fun q => (by cases q)⟩⟩
theorem App2.fin (h : App2 E W0 m0 m1 [l0, l1, l2, l3] [v0, v1, v2, v3] w) : App2 E W0 m0 m1 [l0, l1, l2, true] [v0, v1, v2, v2] w := ⟨h.bel, h.hE, h.a, h.b, h.c, fun _ => rfl⟩
end
theorem App2.zero {E : Nat} {W0 : World} (hE : E ≤ W0.heap.size) (m0 m1 : List UInt8) (V : List Value) : App2 E W0 m0 m1 [false, false, false, false] V W0.drew :=
 ⟨(Below.refl _ _).drew, hE, fun _ q => (by cases q), fun _ q => (by cases q), fun q => (by cases q), fun q => (by cases q)⟩
end Go.Proofs.YthdjhbiigmcecaaGreat

/- Contract: landmarkref10.VoteBytes. -/
namespace Go.Proofs.YthdjhbiigmcecaaGreat
open Go.RowKit

attribute [local go_sem ↓] fold_appB
set_option maxRecDepth 100000 in
set_option maxHeartbeats 1600000 in
theorem tvote_c (g : GVote) (vo : Vote) (w : World) (hv : VoteR w g vo) (h1 : 1 ≤ vo.validator) (h64 : vo.validator ≤ 64) (hs : vo.sig.length ≤ 4096) :
  Calls Tryz.prog 69 #[.agg (voteA g)] w fun e w' => ∃ x, e = .returned x ∧ Own w' w.heap.size x (vtBytes vo) ∧ Below w.heap.size w w' := by
 have HP := fun p W => tpoint_c p W
 have HN := fun W => tnum_c 2 vo.sig.length W (by omega) (by omega) (by omega)
 obtain ⟨n, hn⟩ : ∃ n : Nat, vo.validator = (n : Int) := ⟨vo.validator.toNat, by omega⟩
 have hvt := Lib.hid (show vtBytes vo = ([UInt8.ofNat n] ++ ptBytes vo.source) ++ ptBytes vo.target ++ be 2 vo.sig.length ++ vo.sig from by
  unfold vtBytes
  rw [hn]
  simp [be, List.append_assoc])
 have hB0 : Below w.heap.size w (w.alloc (.cells (voteA g) 76)) := bel_a _ _
 have hz0 : (w.alloc (.cells (voteA g) 76)).heap.size = w.heap.size + 1 := by simp
 have hrow : row? (w.alloc (.cells (voteA g) 76)) w.heap.size 0 68 = some (voteA g) := by rw [row?_new]; simp
 obtain ⟨gv, gs, gt, ⟨sa, sn, sc⟩⟩ := g
 obtain ⟨a1, a2, a3, a4⟩ := hv
 simp only at a1 a2 a3
 have hsl := Lib.hid (BytesR.keep a4 hB0)
 obtain rfl : sn = vo.sig.length := a4.1
 subst a1 a2 a3
 clear a4
 have c0 := cell_of_row? hrow 0 (by omega)
 have r1 := row_part hrow 1 33 (by omega)
 have r2 := row_part hrow 34 33 (by omega)
 have c67 := cell_of_row? hrow 67 (by omega)
 rw [voteA_validator] at c0
 rw [voteA_source] at r1
 rw [voteA_target] at r2
 rw [voteA_sig] at c67
 simp only [Nat.zero_add] at c0 r1 r2 c67
 dsimp only [Sl.v] at c67
 replace c0 := c0.trans (congrArg (fun x => some (Value.int .i64 x)) hn)
 have hbv := Lib.hid (show byteV (UInt8.ofNat n) = .int .u8 ((n : Int) % 256) from by simp [byteV])
 have hn64 : n ≤ 64 := by omega
 clear hn
 go_enter Tryz.func69, Tryz.ntmps69
 go_upto_region 1 with fail
 generalize w.alloc (.cells (voteA ⟨vo.validator, vo.source, vo.target, ⟨sa, vo.sig.length, sc⟩⟩) 76) = w0 at *
 obtain ⟨b1, hb1e⟩ : ∃ b, b = w.heap.size := ⟨_, rfl⟩
 have hw0 : w.heap.size ≤ w0.heap.size := by omega
 have hb1 : b1 < w0.heap.size := by omega
 rw [← hb1e] at c0 r1 r2 c67 ⊢
 replace hb1e := Lib.hid hb1e
 replace hz0 := Lib.hid hz0
 rw [show w.heap.size = b1 from hb1e.out.symm] at hw0 hB0
 clear hrow
 refine wp_region_freeI_l (by kernel_rfl) [4, 5, 6, 7, 8, 9, 10, 11, 3]
  [(fun v => v = .pointer (some ⟨b1, 0, none⟩)), (fun v => v = .int .i64 (n : Int)), (fun v => v = .int .u8 ((n : Int) % 256)), (fun v => ∃ s : Sl, v = s.v), (fun v => v = .pointer (some ⟨b1, 1, none⟩)), (fun v => v = .agg (pointA vo.source)), (fun v => ∃ s : Sl, v = s.v), (fun v => ∃ s : Sl, v = s.v), (fun v => ∃ s : Sl, v = s.v)]
  [3, 6, 7, 8] (App2 w0.heap.size w0 [UInt8.ofNat n] (ptBytes vo.source)) [[1, 2, 3, 7, 8], [2, 3, 7, 8], [3, 7, 8], [7, 8], [5, 6, 7, 8], [6, 7, 8], [7, 8], [8], []] (by kernel_rfl) (by kernel_rfl) ?_ ?_ ?_
 ·show App2 w0.heap.size w0 [UInt8.ofNat n] (ptBytes vo.source) [false, false, false, false] [_, _, _, _] _
  exact App2.zero (Nat.le_refl _) _ _ _
 ·refine ⟨?_, ?_, ?_, ?_, ?_, ?_, ?_, ?_, ?_, trivial⟩
  ·intro L ax W hf hLi hno hd
   try simp [Region.binds] at hd
   have e1 : ax.tmps[1]?.getD undef = .pointer (some ⟨b1, 0, none⟩) := hf.out 1 (by decide) rfl
   refine ⟨fun _ => ?_, fun h => absurd trivial h⟩
   refine freeI_run (v := .pointer (some ⟨b1, 0, none⟩)) rfl hf (by decide) ?_ rfl
   go_simp
  ·intro L ax W hf hLi hno hd
   simp [Region.binds] at hd
   have e4 : ax.tmps[4]?.getD undef = .pointer (some ⟨b1, 0, none⟩) := slv (hf.got 0 (by decide) (by simp [hd]))
   refine ⟨fun _ => ?_, fun h => absurd trivial h⟩
   have hG : App2 w0.heap.size w0 [UInt8.ofNat n] (ptBytes vo.source) [L 3, L 6, L 7, L 8] [sl ax 7, sl ax 10, sl ax 11, sl ax 3] W := hf.glob
   have h1 := (hG.bel.cell (p := ⟨b1, 0, none⟩) hb1).trans c0
   refine freeI_run (v := .int .i64 (n : Int)) rfl hf (by decide) ?_ rfl
   go_simp
  ·intro L ax W hf hLi hno hd
   simp [Region.binds] at hd
   have e5 : ax.tmps[5]?.getD undef = .int .i64 (n : Int) := slv (hf.got 1 (by decide) (by simp [hd]))
   refine ⟨fun _ => ?_, fun h => absurd trivial h⟩
   have hG : App2 w0.heap.size w0 [UInt8.ofNat n] (ptBytes vo.source) [L 3, L 6, L 7, L 8] [sl ax 7, sl ax 10, sl ax 11, sl ax 3] W := hf.glob
   have hwr : IntKind.u8.wrap (n : Int) = (n : Int) % 256 := by rw [IntKind.wrap_u8]
   refine freeI_run (v := .int .u8 ((n : Int) % 256)) rfl hf (by decide) ?_ rfl
   go_simp
  ·intro L ax W hf hLi hno hd
   simp [Region.binds] at hd
   have e6 : ax.tmps[6]?.getD undef = .int .u8 ((n : Int) % 256) := slv (hf.got 2 (by decide) (by simp [hd]))
   refine ⟨fun _ => ?_, fun h => absurd trivial h⟩
   have hG : App2 w0.heap.size w0 [UInt8.ofNat n] (ptBytes vo.source) [L 3, L 6, L 7, L 8] [sl ax 7, sl ax 10, sl ax 11, sl ax 3] W := hf.glob
   have ho := Own.lit W W.heap.size [UInt8.ofNat n] #[.int .u8 ((n : Int) % 256)] 5 1 (by rw [← hbv.out]; rfl) rfl (Nat.le_refl _) (by simp [maxLen])
   refine freeI_val (v := .slice (some ⟨W.heap.size, 0, none⟩) 1 1) (W' := W.alloc (.cells #[.int .u8 ((n : Int) % 256)] 5)) rfl ?_ ⟨⟨some ⟨W.heap.size, 0, none⟩, 1, 1⟩, rfl⟩ (hG.fst (bel_a W _) (s := ⟨some ⟨W.heap.size, 0, none⟩, 1, 1⟩) ho)
   go_simp
  ·intro L ax W hf hLi hno hd
   try simp [Region.binds] at hd
   have e1 : ax.tmps[1]?.getD undef = .pointer (some ⟨b1, 0, none⟩) := hf.out 1 (by decide) rfl
   refine ⟨fun _ => ?_, fun h => absurd trivial h⟩
   refine freeI_run (v := .pointer (some ⟨b1, 1, none⟩)) rfl hf (by decide) ?_ rfl
   go_simp
  ·intro L ax W hf hLi hno hd
   simp [Region.binds] at hd
   have e8 : ax.tmps[8]?.getD undef = .pointer (some ⟨b1, 1, none⟩) := slv (hf.got 4 (by decide) (by simp [hd]))
   refine ⟨fun _ => ?_, fun h => absurd trivial h⟩
   have hG : App2 w0.heap.size w0 [UInt8.ofNat n] (ptBytes vo.source) [L 3, L 6, L 7, L 8] [sl ax 7, sl ax 10, sl ax 11, sl ax 3] W := hf.glob
   have h1 := (row?_below _ _ _ hG.bel hb1).trans r1
   refine freeI_run (v := .agg (pointA vo.source)) rfl hf (by decide) ?_ rfl
   go_simp
  ·intro L ax W hf hLi hno hd
   simp [Region.binds] at hd
   have e9 : ax.tmps[9]?.getD undef = .agg (pointA vo.source) := slv (hf.got 5 (by decide) (by simp [hd]))
   refine ⟨fun _ => ?_, fun h => absurd trivial h⟩
   have hG : App2 w0.heap.size w0 [UInt8.ofNat n] (ptBytes vo.source) [L 3, L 6, L 7, L 8] [sl ax 7, sl ax 10, sl ax 11, sl ax 3] W := hf.glob
   refine freeI_call (f := 90) (args := #[.agg (pointA vo.source)]) rfl (by go_simp) ?_
   refine (HP vo.source W).mono ?_
   rintro e w' ⟨x, rfl, ho, hb⟩
   obtain ⟨s, rfl⟩ := ho.slice
   exact ⟨_, rfl, ⟨s, rfl⟩, hG.snd hb ho⟩
  ·intro L ax W hf hLi hno hd
   simp [Region.binds] at hd
   have f7 : (fun v => ∃ s : Sl, v = s.v) (sl ax 7) := hf.got 3 (by decide) (by simp [hd])
   have f10 : (fun v => ∃ s : Sl, v = s.v) (sl ax 10) := hf.got 6 (by decide) (by simp [hd])
   refine ⟨fun _ => ?_, fun h => absurd trivial h⟩
   have hG : App2 w0.heap.size w0 [UInt8.ofNat n] (ptBytes vo.source) [L 3, L 6, L 7, L 8] [sl ax 7, sl ax 10, sl ax 11, sl ax 3] W := hf.glob
   obtain ⟨s7, e7⟩ := f7
   obtain ⟨s10, e10⟩ := f10
   obtain ⟨s', W', hrun, hH⟩ := hG.app (by simp [hd]) (by simp [hd]) hLi (hno 8 (by decide)) (by simp [ptBytes_length])
   rw [e7, e10] at hrun
   have e7' := slv e7
   have e10' := slv e10
   refine freeI_val (v := s'.v) (W' := W') rfl ?_ ⟨s', rfl⟩ hH
   go_simp
  ·intro L ax W hf hLi hno hd
   simp [Region.binds] at hd
   have f11 : (fun v => ∃ s : Sl, v = s.v) (sl ax 11) := hf.got 7 (by decide) (by simp [hd])
   refine ⟨fun _ => ?_, fun h => absurd trivial h⟩
   have hG : App2 w0.heap.size w0 [UInt8.ofNat n] (ptBytes vo.source) [L 3, L 6, L 7, L 8] [sl ax 7, sl ax 10, sl ax 11, sl ax 3] W := hf.glob
   obtain ⟨s11, e11⟩ := f11
   have e11' := slv e11
   have hH := hG.fin
   refine freeI_val (v := s11.v) (W' := W) rfl ?_ ⟨s11, rfl⟩ ?_
   ·go_simp
   ·rw [e11] at hH
    show App2 _ _ _ _ [L 3, L 6, L 7, true] [sl ax 7, sl ax 10, sl ax 11, s11.v] W
    rw [e11]
    exact hH
 ·intro vs W hl' hF hG
  obtain ⟨g', hg1, hg2⟩ := vs_litI vs hl' hF
  have hBW : Below w0.heap.size w0 W := hG.bel
  obtain ⟨sx, c1, c2⟩ := hG.c rfl
  have c3 := hG.d rfl
  rw [hg1] at c1 c3
  simp only [List.length_cons, List.length_nil, Nat.reduceAdd, List.map_cons, List.map_nil, show List.range 9 = [0, 1, 2, 3, 4, 5, 6, 7, 8] from rfl, List.getD_cons_zero, List.getD_cons_succ] at c1 c3
  have e8 : g' 8 = sx.v := c3.trans c1
  rw [hg1]
  simp only [List.length_cons, List.length_nil, Nat.reduceAdd, show List.range 9 = [0, 1, 2, 3, 4, 5, 6, 7, 8] from rfl, List.map_cons, List.map_nil, slotsIn, putL, List.setIfInBounds_toArray, List.set_cons_succ, List.set_cons_zero, e8, List.size_toArray, Nat.reduceLT, if_true, if_false]
  clear hg1 hg2 hG hF hl' c1 c3 e8
  have hox := Lib.hid c2
  have hBW0 := Lib.hid hBW
  replace r2 := (row?_below _ _ _ hBW hb1).trans r2
  replace c67 := (hBW.cell (p := ⟨b1, 67, none⟩) hb1).trans c67
  have hsz : w0.heap.size ≤ W.heap.size := hBW.size
  have hb1W : b1 < W.heap.size := by omega
  clear c2 hBW c0 r1
  go_upto_region 3 with (first
   | (go_simp; go_at_call 90; refine (HP vo.target W).mono ?_; rintro e w1 ⟨x1, rfl, ho1, hb2⟩; obtain ⟨s1, rfl⟩ := ho1.slice; obtain ⟨s2, W2, hrun, ho2, hg2, -⟩ := run_appB (hox.out.keep hb2) (Nat.le_trans hsz hb2.size) ho1.reads (by simp [ptBytes_length])))
  have hBW2 : Below w0.heap.size w0 W2 := hBW0.out.trans ((hb2.mono hsz).grown hg2 (Nat.le_trans hsz hb2.size) fun k hk => (OwnC.lt (hox.out.keep hb2) k hk).1)
  have c67b := (hBW2.cell (p := ⟨b1, 67, none⟩) hb1).trans (((hBW0.out.cell (p := ⟨b1, 67, none⟩) hb1).symm).trans c67)
  have hb1' := Lib.hid hb1
  have hlow : vo.sig ≠ [] → ∀ g off, sa = some ⟨g, off, none⟩ → g < w0.heap.size := fun hn g off e => by
   obtain ⟨b, o, hab, hc⟩ := hsl.out.2.2 hn
   have h0 : (0 : Nat) < vo.sig.length := List.length_pos_iff.2 hn
   have h1 := lt_of_cell (hc 0 h0)
   have h2 := hab.symm.trans e
   injection h2 with h2
   injection h2 with h2
   omega
  have hsz2 : w0.heap.size ≤ W2.heap.size := hBW2.size
  have hlow2 : vo.sig ≠ [] → ∀ g off, sa = some ⟨g, off, none⟩ → g < W2.heap.size ∧ s2.v.ownBlock ≠ some g := fun hn g off e => ⟨Nat.lt_of_lt_of_le (hlow hn g off e) hsz2, fun q => by
   have h1 := (OwnC.lt ho2 g q).1
   have h2 := hlow hn g off e
   omega⟩
  obtain ⟨mb, hmb⟩ : ∃ mb, mb = ([UInt8.ofNat n] ++ ptBytes vo.source) ++ ptBytes vo.target := ⟨_, rfl⟩
  have hml : mb.length ≤ 200 := by rw [hmb]; simp [ptBytes_length]
  rw [← hmb] at ho2
  have hB02 := hBW2
  replace hmb := Lib.hid hmb
  replace c67 := c67b
  clear c67b hrun hox hbv hn64 r2 HP hb2 hg2 ho1
  refine wp_region_freeI_l (by kernel_rfl) [17, 18, 19, 20, 21, 22, 23, 24, 25, 26, 2]
   [(fun v => v = s2.v), (fun v => v = .pointer (some ⟨b1, 67, none⟩)), (fun v => v = (⟨sa, vo.sig.length, sc⟩ : Sl).v), (fun v => v = .int .i64 (vo.sig.length : Int)), (fun v => v = .int .u64 (vo.sig.length : Int)), (fun v => ∃ s : Sl, v = s.v), (fun v => ∃ s : Sl, v = s.v), (fun v => v = .pointer (some ⟨b1, 67, none⟩)), (fun v => ∃ s : Sl, v = s.v), (fun v => ∃ s : Sl, v = s.v), (fun v => ∃ s : Sl, v = s.v)]
   [5, 6, 8, 9, 10] (AppI w0.heap.size W2 s2.v mb (be 2 vo.sig.length) vo.sig) [[6, 9, 10], [2, 3, 4, 5, 6, 9, 10], [3, 4, 5, 6, 9, 10], [4, 5, 6, 9, 10], [5, 6, 9, 10], [6, 9, 10], [9, 10], [8, 9, 10], [9, 10], [10], []] (by kernel_rfl) (by kernel_rfl) ?_ ?_ ?_
  ·show AppI w0.heap.size W2 s2.v mb (be 2 vo.sig.length) vo.sig [false, false, false, false, false] [_, _, _, _, _] _
   exact AppI.zero hsz2 ho2 _
  ·refine ⟨?_, ?_, ?_, ?_, ?_, ?_, ?_, ?_, ?_, ?_, ?_, trivial⟩
   ·intro L ax W hf hLi hno hd
    try simp [Region.binds] at hd
    have e3 : ax.tmps[3]?.getD undef = s2.v := hf.out 3 (by decide) rfl
    refine ⟨fun _ => ?_, fun h => absurd trivial h⟩
    refine freeI_run (v := s2.v) rfl hf (by decide) ?_ rfl
    go_simp
   ·intro L ax W hf hLi hno hd
    try simp [Region.binds] at hd
    have e1 : ax.tmps[1]?.getD undef = .pointer (some ⟨b1, 0, none⟩) := hf.out 1 (by decide) rfl
    refine ⟨fun _ => ?_, fun h => absurd trivial h⟩
    refine freeI_run (v := .pointer (some ⟨b1, 67, none⟩)) rfl hf (by decide) ?_ rfl
    go_simp
   ·intro L ax W hf hLi hno hd
    simp [Region.binds] at hd
    have e18 : ax.tmps[18]?.getD undef = .pointer (some ⟨b1, 67, none⟩) := slv (hf.got 1 (by decide) (by simp [hd]))
    refine ⟨fun _ => ?_, fun h => absurd trivial h⟩
    have hG : AppI w0.heap.size W2 s2.v mb (be 2 vo.sig.length) vo.sig [L 5, L 6, L 8, L 9, L 10] [sl ax 22, sl ax 23, sl ax 25, sl ax 26, sl ax 2] W := hf.glob
    have h1 := (hG.bel.cell (p := ⟨b1, 67, none⟩) hb1).trans c67
    unfold Sl.v
    refine freeI_run (v := (⟨sa, vo.sig.length, sc⟩ : Sl).v) rfl hf (by decide) ?_ rfl
    go_simp
   ·intro L ax W hf hLi hno hd
    simp [Region.binds] at hd
    have e19 : ax.tmps[19]?.getD undef = (⟨sa, vo.sig.length, sc⟩ : Sl).v := slv (hf.got 2 (by decide) (by simp [hd]))
    refine ⟨fun _ => ?_, fun h => absurd trivial h⟩
    have hG : AppI w0.heap.size W2 s2.v mb (be 2 vo.sig.length) vo.sig [L 5, L 6, L 8, L 9, L 10] [sl ax 22, sl ax 23, sl ax 25, sl ax 26, sl ax 2] W := hf.glob
    unfold Sl.v at e19
    refine freeI_run (v := .int .i64 (vo.sig.length : Int)) rfl hf (by decide) ?_ rfl
    go_simp
   ·intro L ax W hf hLi hno hd
    simp [Region.binds] at hd
    have e20 : ax.tmps[20]?.getD undef = .int .i64 (vo.sig.length : Int) := slv (hf.got 3 (by decide) (by simp [hd]))
    refine ⟨fun _ => ?_, fun h => absurd trivial h⟩
    have hG : AppI w0.heap.size W2 s2.v mb (be 2 vo.sig.length) vo.sig [L 5, L 6, L 8, L 9, L 10] [sl ax 22, sl ax 23, sl ax 25, sl ax 26, sl ax 2] W := hf.glob
    have hq : IntKind.u64.wrap (vo.sig.length : Int) = vo.sig.length := by rw [IntKind.wrap_u64]; omega
    refine freeI_run (v := .int .u64 (vo.sig.length : Int)) rfl hf (by decide) ?_ rfl
    go_simp
   ·intro L ax W hf hLi hno hd
    simp [Region.binds] at hd
    have e21 : ax.tmps[21]?.getD undef = .int .u64 (vo.sig.length : Int) := slv (hf.got 4 (by decide) (by simp [hd]))
    refine ⟨fun _ => ?_, fun h => absurd trivial h⟩
    have hG : AppI w0.heap.size W2 s2.v mb (be 2 vo.sig.length) vo.sig [L 5, L 6, L 8, L 9, L 10] [sl ax 22, sl ax 23, sl ax 25, sl ax 26, sl ax 2] W := hf.glob
    refine freeI_call (f := 68) (args := #[.int .u64 (vo.sig.length : Int), .int .i64 2]) rfl (by go_simp) ?_
    refine (HN W).mono ?_
    rintro e w' ⟨x, rfl, ho, hb⟩
    obtain ⟨s, rfl⟩ := ho.slice
    exact ⟨_, rfl, ⟨s, rfl⟩, hG.o1 hb ho⟩
   ·intro L ax W hf hLi hno hd
    simp [Region.binds] at hd
    have e17 : ax.tmps[17]?.getD undef = s2.v := slv (hf.got 0 (by decide) (by simp [hd]))
    have f22 : (fun v => ∃ s : Sl, v = s.v) (sl ax 22) := hf.got 5 (by decide) (by simp [hd])
    refine ⟨fun _ => ?_, fun h => absurd trivial h⟩
    have hG : AppI w0.heap.size W2 s2.v mb (be 2 vo.sig.length) vo.sig [L 5, L 6, L 8, L 9, L 10] [sl ax 22, sl ax 23, sl ax 25, sl ax 26, sl ax 2] W := hf.glob
    obtain ⟨s22, e22⟩ := f22
    obtain ⟨s', W', hrun, hH⟩ := hG.a1 (by simp [hd]) hLi (hno 9 (by decide)) (hno 10 (by decide)) (by simp [be_length]; omega)
    rw [e22] at hrun
    have e22' := slv e22
    refine freeI_val (v := s'.v) (W' := W') rfl ?_ ⟨s', rfl⟩ hH
    go_simp
   ·intro L ax W hf hLi hno hd
    try simp [Region.binds] at hd
    have e1 : ax.tmps[1]?.getD undef = .pointer (some ⟨b1, 0, none⟩) := hf.out 1 (by decide) rfl
    refine ⟨fun _ => ?_, fun h => absurd trivial h⟩
    refine freeI_run (v := .pointer (some ⟨b1, 67, none⟩)) rfl hf (by decide) ?_ rfl
    go_simp
   ·intro L ax W hf hLi hno hd
    simp [Region.binds] at hd
    have e24 : ax.tmps[24]?.getD undef = .pointer (some ⟨b1, 67, none⟩) := slv (hf.got 7 (by decide) (by simp [hd]))
    refine ⟨fun _ => ?_, fun h => absurd trivial h⟩
    have hG : AppI w0.heap.size W2 s2.v mb (be 2 vo.sig.length) vo.sig [L 5, L 6, L 8, L 9, L 10] [sl ax 22, sl ax 23, sl ax 25, sl ax 26, sl ax 2] W := hf.glob
    have h1 := (hG.bel.cell (p := ⟨b1, 67, none⟩) hb1).trans c67
    refine freeI_val (v := (⟨sa, vo.sig.length, sc⟩ : Sl).v) (W' := W) rfl ?_ ⟨_, rfl⟩ (hG.r2 (s := ⟨sa, vo.sig.length, sc⟩) (hsl.out.keep (hB02.trans hG.bel)) hlow2)
    unfold Sl.v
    go_simp
   ·intro L ax W hf hLi hno hd
    simp [Region.binds] at hd
    have f23 : (fun v => ∃ s : Sl, v = s.v) (sl ax 23) := hf.got 6 (by decide) (by simp [hd])
    have f25 : (fun v => ∃ s : Sl, v = s.v) (sl ax 25) := hf.got 8 (by decide) (by simp [hd])
    refine ⟨fun _ => ?_, fun h => absurd trivial h⟩
    have hG : AppI w0.heap.size W2 s2.v mb (be 2 vo.sig.length) vo.sig [L 5, L 6, L 8, L 9, L 10] [sl ax 22, sl ax 23, sl ax 25, sl ax 26, sl ax 2] W := hf.glob
    obtain ⟨s23, e23⟩ := f23
    obtain ⟨s25, e25⟩ := f25
    obtain ⟨s', W', hrun, hH⟩ := hG.a2 (by simp [hd]) (by simp [hd]) hLi (hno 10 (by decide)) (by simp [be_length]; omega)
    rw [e23, e25] at hrun
    have e23' := slv e23
    have e25' := slv e25
    refine freeI_val (v := s'.v) (W' := W') rfl ?_ ⟨s', rfl⟩ hH
    go_simp
   ·intro L ax W hf hLi hno hd
    simp [Region.binds] at hd
    have f26 : (fun v => ∃ s : Sl, v = s.v) (sl ax 26) := hf.got 9 (by decide) (by simp [hd])
    refine ⟨fun _ => ?_, fun h => absurd trivial h⟩
    have hG : AppI w0.heap.size W2 s2.v mb (be 2 vo.sig.length) vo.sig [L 5, L 6, L 8, L 9, L 10] [sl ax 22, sl ax 23, sl ax 25, sl ax 26, sl ax 2] W := hf.glob
    obtain ⟨s26, e26⟩ := f26
    have e26' := slv e26
    have hH := hG.fin
    refine freeI_val (v := s26.v) (W' := W) rfl ?_ ⟨s26, rfl⟩ ?_
    ·go_simp
    ·rw [e26] at hH
     show AppI _ _ _ _ _ _ [L 5, L 6, L 8, L 9, true] [sl ax 22, sl ax 23, sl ax 25, sl ax 26, s26.v] W
     rw [e26]
     exact hH
  ·intro vs W hl' hF hG
   obtain ⟨g', hg1, hg2⟩ := vs_litI vs hl' hF
   obtain ⟨c3, sx, c1, c2⟩ := hG.out
   rw [hg1] at c1 c3
   simp only [List.length_cons, List.length_nil, Nat.reduceAdd, List.map_cons, List.map_nil, show List.range 11 = [0, 1, 2, 3, 4, 5, 6, 7, 8, 9, 10] from rfl, List.getD_cons_zero, List.getD_cons_succ] at c1 c3
   have e10 : g' 10 = sx.v := c3.trans c1
   have hres : Own W w.heap.size sx.v (vtBytes vo) := by
    rw [hvt.out, ← hmb.out]
    exact c2.more (by have := hz0.out; omega)
   have hbelow : Below w.heap.size w W := by
    have h1 : Below b1 w W := hB0.trans ((hB02.trans hG.bel).mono hw0)
    rwa [hb1e.out] at h1
   rw [hg1]
   simp only [List.length_cons, List.length_nil, Nat.reduceAdd, show List.range 11 = [0, 1, 2, 3, 4, 5, 6, 7, 8, 9, 10] from rfl, List.map_cons, List.map_nil, slotsIn, putL, List.setIfInBounds_toArray, List.set_cons_succ, List.set_cons_zero, e10, List.size_toArray, Nat.reduceLT, if_true, if_false]
   clear hg1 hg2 hG hF hl' c1 c2 c3 e10
   replace hres := Lib.hid hres
   replace hbelow := Lib.hid hbelow
   go_wp2_with fail
   go_ret
   exact ⟨_, rfl, hres.out, hbelow.out⟩
end Go.Proofs.YthdjhbiigmcecaaGreat

/- Contract: landmarkref10.Text. -/
namespace Go.Proofs.YthdjhbiigmcecaaGreat
open Go.RowKit

theorem opMay_three {o : Op} (h : opMay o = true) : o.kind = 1 ∨ (o.kind = 2 ∧ 1 ≤ o.validator ∧ o.validator ≤ 64 ∧ o.evidence = []) ∨ (o.kind = 3 ∧ 1 ≤ o.validator ∧ o.validator ≤ 64 ∧ ∃ a b, o.evidence = [a, b] ∧ voteMay a = true ∧ voteMay b = true) := by
 have h0 := h
 unfold opMay at h
 simp only [Bool.and_eq_true, decide_eq_true_eq] at h
 obtain ⟨hb, h⟩ := h
 rcases opMay_out h0 with h1 | ⟨h1, h2, h3, h4, h5⟩
 ·exact .inl h1
 ·rcases h1 with h1 | h1
  ·refine .inr (.inl ⟨h1, h2, h3, ?_⟩)
   have := congrArg Op.evidence hb
   rw [this]
   simp [bareO, h1]
  ·refine .inr (.inr ⟨h1, h2, h3, ?_⟩)
   rw [if_neg (by omega), if_neg (by omega), if_pos h1] at h
   simp only [Bool.and_eq_true, decide_eq_true_eq] at h
   obtain ⟨⟨-, hl⟩, -⟩ := h
   obtain ⟨a, b, he⟩ : ∃ a b, o.evidence = [a, b] := by
    match hx : o.evidence, hl with
    | [a, b], _ => exact ⟨a, b, rfl⟩
   rw [he] at h5
   simp only [List.all_cons, List.all_nil, Bool.and_true, Bool.and_eq_true] at h5
   exact ⟨a, b, he, h5.1, h5.2⟩
attribute [local go_sem ↓] fold_appB
set_option maxRecDepth 100000 in
set_option maxHeartbeats 1600000 in
theorem ttext_c (g : GHeader) (h : Hdr) (w : World) (hr : HdrR w g h) (hl : h.ops.length ≤ 16) (hm : h.ops.all opMay = true) :
  Calls Tryz.prog 50 #[.agg (headerA g)] w fun e w' => ∃ x, e = .returned x ∧ Own w' w.heap.size x (nmText h) ∧ Below w.heap.size w w' := by
 have n1 := hr.2.2.1
 have e1 := hr.1
 have e2 := hr.2.1
 obtain ⟨gp, ge, ⟨oa, on, oc⟩⟩ := g
 simp only at n1 e1 e2
 subst n1 e1 e2
 have hnb := Lib.hid (show byteV (UInt8.ofNat h.ops.length) = .int .u8 (h.ops.length : Int) by rw [byteV_of, Nat.mod_eq_of_lt (by omega)])
 have hn := h.epoch.toNat_lt
 have hkl := h.parent.2
 have HN := fun W => tnum_c 8 h.epoch.toNat W (by omega) (by omega) (by omega)
 clear hn
 have HS := fun (n : UInt64) W => tnum_c 8 n.toNat W (by omega) (by omega) (by have := n.toNat_lt; omega)
 have hrow : row? (w.alloc (.cells (headerA ⟨h.parent, h.epoch, ⟨oa, h.ops.length, oc⟩⟩) 39)) w.heap.size 0 34 = some (headerA ⟨h.parent, h.epoch, ⟨oa, h.ops.length, oc⟩⟩) := by
  rw [row?_new]
  simp
 have hB0 : Below w.heap.size w (w.alloc (.cells (headerA ⟨h.parent, h.epoch, ⟨oa, h.ops.length, oc⟩⟩) 39)) := bel_a _ _
 have hz0 : (w.alloc (.cells (headerA ⟨h.parent, h.epoch, ⟨oa, h.ops.length, oc⟩⟩) 39)).heap.size = w.heap.size + 1 := by simp
 have Hr := Lib.hid (OpsR.keep' hr.2.2 hB0)
 have Hm := Lib.hid hm
 obtain ⟨c32, c33⟩ := headerA_cells hrow
 have hpr := parent_reads hrow
 simp only at c32 hpr
 unfold Sl.v at c33
 simp only at c33
 clear hr hm hrow
 go_enter Tryz.func50, Tryz.ntmps50
 go_upto_region 1 with fail
 generalize w.alloc (.cells (headerA ⟨h.parent, h.epoch, ⟨oa, h.ops.length, oc⟩⟩) 39) = w0 at *
 obtain ⟨b1, hb1e⟩ : ∃ b, b = w.heap.size := ⟨_, rfl⟩
 have hw0 : w.heap.size ≤ w0.heap.size := by omega
 have hb1 : b1 < w0.heap.size := by omega
 rw [← hb1e] at c32 c33 hpr ⊢
 rw [← hb1e] at hw0 hB0
 replace hb1e := Lib.hid hb1e
 replace hz0 := Lib.hid hz0
 have hcv := run_convert_lit (P := Tryz.prog) (w0.alloc (.cells #[.int .u8 104, .int .u8 101, .int .u8 97, .int .u8 100, .int .u8 101, .int .u8 114] 5)) 74 5 #[.int .u8 104, .int .u8 101, .int .u8 97, .int .u8 100, .int .u8 101, .int .u8 114] (0, 0) w0.heap.size 6 6 Tryz.underlying74 Tryz.underlying5 (heap_alloc_new w0 _)
 have ho := own_freeze w0 w0.heap.size [104, 101, 97, 100, 101, 114] #[.int .u8 104, .int .u8 101, .int .u8 97, .int .u8 100, .int .u8 101, .int .u8 114] 5 6 rfl rfl (Nat.le_refl _) (by simp [maxLen])
 have hk := freeze_kept (w0.alloc (.cells #[.int .u8 104, .int .u8 101, .int .u8 97, .int .u8 100, .int .u8 101, .int .u8 114] 5)) w0.heap.size 6 w0.heap.size (Nat.le_refl _)
 have hbel : Below w0.heap.size w0 ((w0.alloc (.cells #[.int .u8 104, .int .u8 101, .int .u8 97, .int .u8 100, .int .u8 101, .int .u8 114] 5)).freeze ⟨w0.heap.size, 6, none⟩ 1) := hk.below (bel_a _ _)
 have hz2 := hbel.size
 obtain ⟨s2, W2, hrun', ho2, hg2, -⟩ := run_appB (s := ⟨some ⟨w0.heap.size, 0, none⟩, 6, 6⟩) ho hz2 (hpr.keep hbel) (by simp [hkl])
 have hrun : (appB #[.slice (some ⟨w0.heap.size, 0, none⟩) 6 6, .slice (some ⟨b1, 0, none⟩) 32 32]).run Tryz.prog ((w0.alloc (.cells #[.int .u8 104, .int .u8 101, .int .u8 97, .int .u8 100, .int .u8 101, .int .u8 114] 5)).freeze ⟨w0.heap.size, 6, none⟩ 1) = .ok s2.v W2 := hrun'
 have hB2 : Below w0.heap.size w0 W2 := hbel.grown hg2 hz2 fun k hk => Nat.le_of_eq (by injection hk)
 have ho2' := Lib.hid ho2
 have hB2' := Lib.hid hB2
 clear ho2 hB2 hg2 hrun' hbel hk ho hz2 hpr
 go_upto_region 2 with fail
 clear hrun hcv
 have hsz2 : w0.heap.size ≤ W2.heap.size := hB2'.out.size
 replace c32 := (hB2'.out.cell (p := ⟨b1, 32, none⟩) hb1).trans c32
 replace c33 := (hB2'.out.cell (p := ⟨b1, 33, none⟩) hb1).trans c33
 obtain ⟨m0, hm0⟩ : ∃ m0 : List UInt8, m0 = [104, 101, 97, 100, 101, 114] ++ h.parent.1 := ⟨_, rfl⟩
 have hml : m0.length = 38 := by rw [hm0]; simp [hkl]
 have ho2 := ho2'.out
 rw [← hm0] at ho2
 replace hm0 := Lib.hid hm0
 clear ho2'
 refine wp_region_freeI_l (by kernel_rfl) [11, 12, 13, 14, 15, 16, 17, 18, 19, 20, 21, 3]
  [(fun v => v = s2.v), (fun v => v = .pointer (some ⟨b1, 32, none⟩)), (fun v => v = .int .u64 (h.epoch.toNat : Int)), (fun v => ∃ s : Sl, v = s.v), (fun v => ∃ s : Sl, v = s.v), (fun v => v = .pointer (some ⟨b1, 33, none⟩)), (fun v => v = .slice oa (h.ops.length : Nat) oc), (fun v => v = .int .i64 (h.ops.length : Int)), (fun v => v = .int .u8 (h.ops.length : Int)), (fun v => ∃ s : Sl, v = s.v), (fun v => ∃ s : Sl, v = s.v), (fun v => ∃ s : Sl, v = s.v)]
  [3, 4, 9, 10, 11] (AppI w0.heap.size W2 s2.v m0 (be 8 h.epoch.toNat) [UInt8.ofNat h.ops.length]) [[4, 10, 11], [2, 3, 4, 10, 11], [3, 4, 10, 11], [4, 10, 11], [10, 11], [6, 7, 8, 9, 10, 11], [7, 8, 9, 10, 11], [8, 9, 10, 11], [9, 10, 11], [10, 11], [11], []] (by kernel_rfl) (by kernel_rfl) ?_ ?_ ?_
 ·show AppI w0.heap.size W2 s2.v m0 (be 8 h.epoch.toNat) [UInt8.ofNat h.ops.length] [false, false, false, false, false] [_, _, _, _, _] _
  exact AppI.zero hsz2 ho2 _
 ·refine ⟨?_, ?_, ?_, ?_, ?_, ?_, ?_, ?_, ?_, ?_, ?_, ?_, trivial⟩
  ·intro L ax W hf hLi hno hd
   try simp [Region.binds] at hd
   refine ⟨fun _ => ?_, fun h => absurd trivial h⟩
   have hG : AppI w0.heap.size W2 s2.v m0 (be 8 h.epoch.toNat) [UInt8.ofNat h.ops.length] [L 3, L 4, L 9, L 10, L 11] [sl ax 14, sl ax 15, sl ax 20, sl ax 21, sl ax 3] W := hf.glob
   have e3 : ax.tmps[3]?.getD undef = s2.v := slv ((hf.rest 3 fun i hi hLt he => (by
    have h11 : i = 11 := (show ∀ i, i < 12 → ([11, 12, 13, 14, 15, 16, 17, 18, 19, 20, 21, 3] : List Nat).getD i 0 = 3 → i = 11 from (by decide)) i hi he
    rw [h11, hno 11 (by decide)] at hLt
    cases hLt)).trans rfl)
   refine freeI_run (v := s2.v) rfl hf (by decide) ?_ rfl
   go_simp
  ·intro L ax W hf hLi hno hd
   try simp [Region.binds] at hd
   have e1 : ax.tmps[1]?.getD undef = .pointer (some ⟨b1, 0, none⟩) := hf.out 1 (by decide) rfl
   refine ⟨fun _ => ?_, fun h => absurd trivial h⟩
   refine freeI_run (v := .pointer (some ⟨b1, 32, none⟩)) rfl hf (by decide) ?_ rfl
   go_simp
  ·intro L ax W hf hLi hno hd
   simp [Region.binds] at hd
   have e12 : ax.tmps[12]?.getD undef = .pointer (some ⟨b1, 32, none⟩) := slv (hf.got 1 (by decide) (by simp [hd]))
   refine ⟨fun _ => ?_, fun h => absurd trivial h⟩
   have hG : AppI w0.heap.size W2 s2.v m0 (be 8 h.epoch.toNat) [UInt8.ofNat h.ops.length] [L 3, L 4, L 9, L 10, L 11] [sl ax 14, sl ax 15, sl ax 20, sl ax 21, sl ax 3] W := hf.glob
   have h1 := (hG.bel.cell (p := ⟨b1, 32, none⟩) hb1).trans c32
   refine freeI_run (v := .int .u64 (h.epoch.toNat : Int)) rfl hf (by decide) ?_ rfl
   go_simp
  ·intro L ax W hf hLi hno hd
   simp [Region.binds] at hd
   have e13 : ax.tmps[13]?.getD undef = .int .u64 (h.epoch.toNat : Int) := slv (hf.got 2 (by decide) (by simp [hd]))
   refine ⟨fun _ => ?_, fun h => absurd trivial h⟩
   have hG : AppI w0.heap.size W2 s2.v m0 (be 8 h.epoch.toNat) [UInt8.ofNat h.ops.length] [L 3, L 4, L 9, L 10, L 11] [sl ax 14, sl ax 15, sl ax 20, sl ax 21, sl ax 3] W := hf.glob
   refine freeI_call (f := 68) (args := #[.int .u64 (h.epoch.toNat : Int), .int .i64 8]) rfl (by go_simp) ?_
   refine (HN W).mono ?_
   rintro e w' ⟨x, rfl, ho, hb⟩
   obtain ⟨s, rfl⟩ := ho.slice
   exact ⟨_, rfl, ⟨s, rfl⟩, hG.o1 hb ho⟩
  ·intro L ax W hf hLi hno hd
   simp [Region.binds] at hd
   have e11 : ax.tmps[11]?.getD undef = s2.v := slv (hf.got 0 (by decide) (by simp [hd]))
   have f14 : (fun v => ∃ s : Sl, v = s.v) (sl ax 14) := hf.got 3 (by decide) (by simp [hd])
   refine ⟨fun _ => ?_, fun h => absurd trivial h⟩
   have hG : AppI w0.heap.size W2 s2.v m0 (be 8 h.epoch.toNat) [UInt8.ofNat h.ops.length] [L 3, L 4, L 9, L 10, L 11] [sl ax 14, sl ax 15, sl ax 20, sl ax 21, sl ax 3] W := hf.glob
   obtain ⟨s14, e14⟩ := f14
   obtain ⟨s', W', hrun, hH⟩ := hG.a1 (by simp [hd]) hLi (hno 10 (by decide)) (hno 11 (by decide)) (by simp [be_length]; omega)
   rw [e14] at hrun
   have e14' := slv e14
   refine freeI_val (v := s'.v) (W' := W') rfl ?_ ⟨s', rfl⟩ hH
   go_simp
  ·intro L ax W hf hLi hno hd
   try simp [Region.binds] at hd
   have e1 : ax.tmps[1]?.getD undef = .pointer (some ⟨b1, 0, none⟩) := hf.out 1 (by decide) rfl
   refine ⟨fun _ => ?_, fun h => absurd trivial h⟩
   refine freeI_run (v := .pointer (some ⟨b1, 33, none⟩)) rfl hf (by decide) ?_ rfl
   go_simp
  ·intro L ax W hf hLi hno hd
   simp [Region.binds] at hd
   have e16 : ax.tmps[16]?.getD undef = .pointer (some ⟨b1, 33, none⟩) := slv (hf.got 5 (by decide) (by simp [hd]))
   refine ⟨fun _ => ?_, fun h => absurd trivial h⟩
   have hG : AppI w0.heap.size W2 s2.v m0 (be 8 h.epoch.toNat) [UInt8.ofNat h.ops.length] [L 3, L 4, L 9, L 10, L 11] [sl ax 14, sl ax 15, sl ax 20, sl ax 21, sl ax 3] W := hf.glob
   have h1 := (hG.bel.cell (p := ⟨b1, 33, none⟩) hb1).trans c33
   refine freeI_run (v := .slice oa (h.ops.length : Nat) oc) rfl hf (by decide) ?_ rfl
   go_simp
  ·intro L ax W hf hLi hno hd
   simp [Region.binds] at hd
   have e17 : ax.tmps[17]?.getD undef = .slice oa (h.ops.length : Nat) oc := slv (hf.got 6 (by decide) (by simp [hd]))
   refine ⟨fun _ => ?_, fun h => absurd trivial h⟩
   refine freeI_run (v := .int .i64 (h.ops.length : Int)) rfl hf (by decide) ?_ rfl
   go_simp
  ·intro L ax W hf hLi hno hd
   simp [Region.binds] at hd
   have e18 : ax.tmps[18]?.getD undef = .int .i64 (h.ops.length : Int) := slv (hf.got 7 (by decide) (by simp [hd]))
   refine ⟨fun _ => ?_, fun h => absurd trivial h⟩
   have hG : AppI w0.heap.size W2 s2.v m0 (be 8 h.epoch.toNat) [UInt8.ofNat h.ops.length] [L 3, L 4, L 9, L 10, L 11] [sl ax 14, sl ax 15, sl ax 20, sl ax 21, sl ax 3] W := hf.glob
   have hq : IntKind.u8.wrap (h.ops.length : Int) = h.ops.length := by rw [IntKind.wrap_u8]; omega
   refine freeI_run (v := .int .u8 (h.ops.length : Int)) rfl hf (by decide) ?_ rfl
   go_simp
  ·intro L ax W hf hLi hno hd
   simp [Region.binds] at hd
   have e19 : ax.tmps[19]?.getD undef = .int .u8 (h.ops.length : Int) := slv (hf.got 8 (by decide) (by simp [hd]))
   refine ⟨fun _ => ?_, fun h => absurd trivial h⟩
   have hG : AppI w0.heap.size W2 s2.v m0 (be 8 h.epoch.toNat) [UInt8.ofNat h.ops.length] [L 3, L 4, L 9, L 10, L 11] [sl ax 14, sl ax 15, sl ax 20, sl ax 21, sl ax 3] W := hf.glob
   have ho := Own.lit W W.heap.size [UInt8.ofNat h.ops.length] #[.int .u8 (h.ops.length : Int)] 5 1 (by rw [← hnb.out]; rfl) rfl (Nat.le_refl _) (by simp [maxLen])
   refine freeI_val (v := .slice (some ⟨W.heap.size, 0, none⟩) 1 1) (W' := W.alloc (.cells #[.int .u8 (h.ops.length : Int)] 5)) rfl ?_ ⟨⟨some ⟨W.heap.size, 0, none⟩, 1, 1⟩, rfl⟩ (hG.o2 (bel_a W _) (s := ⟨some ⟨W.heap.size, 0, none⟩, 1, 1⟩) ho)
   go_simp
  ·intro L ax W hf hLi hno hd
   simp [Region.binds] at hd
   have f15 : (fun v => ∃ s : Sl, v = s.v) (sl ax 15) := hf.got 4 (by decide) (by simp [hd])
   have f20 : (fun v => ∃ s : Sl, v = s.v) (sl ax 20) := hf.got 9 (by decide) (by simp [hd])
   refine ⟨fun _ => ?_, fun h => absurd trivial h⟩
   have hG : AppI w0.heap.size W2 s2.v m0 (be 8 h.epoch.toNat) [UInt8.ofNat h.ops.length] [L 3, L 4, L 9, L 10, L 11] [sl ax 14, sl ax 15, sl ax 20, sl ax 21, sl ax 3] W := hf.glob
   obtain ⟨s15, e15⟩ := f15
   obtain ⟨s20, e20⟩ := f20
   obtain ⟨s', W', hrun, hH⟩ := hG.a2 (by simp [hd]) (by simp [hd]) hLi (hno 11 (by decide)) (by simp [be_length]; omega)
   rw [e15, e20] at hrun
   have e15' := slv e15
   have e20' := slv e20
   refine freeI_val (v := s'.v) (W' := W') rfl ?_ ⟨s', rfl⟩ hH
   go_simp
  ·intro L ax W hf hLi hno hd
   simp [Region.binds] at hd
   have f21 : (fun v => ∃ s : Sl, v = s.v) (sl ax 21) := hf.got 10 (by decide) (by simp [hd])
   refine ⟨fun _ => ?_, fun h => absurd trivial h⟩
   have hG : AppI w0.heap.size W2 s2.v m0 (be 8 h.epoch.toNat) [UInt8.ofNat h.ops.length] [L 3, L 4, L 9, L 10, L 11] [sl ax 14, sl ax 15, sl ax 20, sl ax 21, sl ax 3] W := hf.glob
   obtain ⟨s21, e21⟩ := f21
   have e21' := slv e21
   have hH := hG.fin
   refine freeI_val (v := s21.v) (W' := W) rfl ?_ ⟨s21, rfl⟩ ?_
   ·go_simp
   ·rw [e21] at hH
    show AppI _ _ _ _ _ _ [L 3, L 4, L 9, L 10, true] [sl ax 14, sl ax 15, sl ax 20, sl ax 21, s21.v] W
    rw [e21]
    exact hH
 ·intro vs W hl' hF hG
  obtain ⟨g', hg1, hg2⟩ := vs_litI vs hl' hF
  obtain ⟨q3, sx, q1, q2⟩ := hG.out
  rw [hg1] at q1 q3
  simp only [List.length_cons, List.length_nil, Nat.reduceAdd, List.map_cons, List.map_nil, show List.range 12 = [0, 1, 2, 3, 4, 5, 6, 7, 8, 9, 10, 11] from rfl, List.getD_cons_zero, List.getD_cons_succ] at q1 q3
  have e11 : g' 11 = sx.v := q3.trans q1
  obtain ⟨hp, hhp⟩ : ∃ hp, hp = m0 ++ be 8 h.epoch.toNat ++ [UInt8.ofNat h.ops.length] := ⟨_, rfl⟩
  have hpl : hp.length ≤ 60 := by rw [hhp]; simp [be_length]; omega
  have ho := q2
  rw [← hhp] at ho
  have hfin := Lib.hid (show nmText h = hp ++ (h.ops.map opBytes).flatten by
   rw [hhp, hm0.out]
   simp [nmText, hdBytes, List.append_assoc])
  have hB3 : Below w0.heap.size w0 W := hB2'.out.trans hG.bel
  have hBw : Below w.heap.size w W := by
   have h1 : Below b1 w W := hB0.trans (hB3.mono hw0)
   rwa [hb1e.out] at h1
  replace c33 := (hG.bel.cell (p := ⟨b1, 33, none⟩) hb1).trans c33
  have hsW : w0.heap.size ≤ W.heap.size := hB3.size
  rw [hg1]
  simp only [List.length_cons, List.length_nil, Nat.reduceAdd, show List.range 12 = [0, 1, 2, 3, 4, 5, 6, 7, 8, 9, 10, 11] from rfl, List.map_cons, List.map_nil, slotsIn, putL, List.setIfInBounds_toArray, List.set_cons_succ, List.set_cons_zero, e11, List.size_toArray, Nat.reduceLT, if_true, if_false]
  clear hhp e11 q1 q2 q3 hg1 hg2 hG hF hl' hm0 hml hkl hnb HN c32 hB2' hsz2 ho2
  have Ho := Lib.hid ho
  replace hB3 := Lib.hid hB3
  replace hBw := Lib.hid hBw
  clear ho hB0
  go_wp2_with fail
  go_loopw [3, 4] (fun u i w' => ∃ k : Nat, k ≤ h.ops.length ∧ Own w' w0.heap.size u (hp ++ ((h.ops.take k).map opBytes).flatten) ∧ i = .int .i64 k ∧ Below w0.heap.size W w') (fun _ i _ => h.ops.length - (intOf i).toNat)
  case atStart => exact ⟨0, Nat.zero_le _, by simpa using Ho.out, rfl, Below.refl _ _⟩
  case round =>
   obtain ⟨k, hk, hown, rfl, hB⟩ := hrel
   have hz := hB.size
   have c33 : wr.cell? ⟨b1, 33, none⟩ = some (.slice oa h.ops.length oc) := (hB.cell (p := ⟨b1, 33, none⟩) hb1).trans c33
   by_cases hkx : k < h.ops.length
   ·obtain ⟨b, off, e, hbs, hc⟩ := Hr.out.at (by omega)
    have e1 := congrArg Sl.a e
    simp only at e1
    subst e1
    clear e
    obtain ⟨cs, hcx, g1, rfl, hv1⟩ := hc k hkx
    clear hc
    replace hcx := (row?_below _ _ _ (hB3.out.trans hB) hbs).trans hcx
    have hvm := List.all_eq_true.1 Hm.out h.ops[k] (List.getElem_mem _)
    have hfl : ((h.ops.take (k + 1)).map opBytes).flatten = ((h.ops.take k).map opBytes).flatten ++ opBytes h.ops[k] := by
     rw [List.take_succ_eq_append_getElem hkx, List.map_append, List.flatten_append, List.map_cons, List.map_nil, List.flatten_cons, List.flatten_nil, List.append_nil]
    have hlen := ops_len h.ops k Hm.out
    have hvl := opBytes_length hvm
    generalize h.ops[k] = ok at *
    have i0' : (0 : Int) ≤ (k : Int) := by omega
    have i1 : (k : Int) < (h.ops.length : Int) := by omega
    obtain ⟨pre, hpre⟩ : ∃ pre, pre = hp ++ ((h.ops.take k).map opBytes).flatten := ⟨_, rfl⟩
    have hfit : pre.length ≤ 200000 := by
     rw [hpre]
     simp only [List.length_append]
     omega
    have Hfl := Lib.hid (show hp ++ ((h.ops.take (k + 1)).map opBytes).flatten = pre ++ opBytes ok by rw [hpre, hfl, List.append_assoc])
    rw [← hpre] at hown
    obtain ⟨su, rfl⟩ := hown.slice
    have Hv1 := Lib.hid hv1
    have Hown := Lib.hid hown
    have hth := Lib.hid (opMay_three hvm)
    have HBo := Lib.hid hB
    have hgk : 1 ≤ g1.kind ∧ g1.kind ≤ 3 := by
     rw [hv1.1]
     rcases opMay_three hvm with q | q | q <;> omega
    obtain ⟨hgk1, hgk3⟩ := hgk
    clear hpre hfl hv1 hlen hvm hvl hown hB
    go_upto_region 7 with fail
    obtain ⟨w4, hw4, hrow4, -, hB4, hz4⟩ := box_row wr (opA ⟨0, zeroHash, 0, 0, ⟨none, 0, 0⟩⟩) (opA g1) 73 36 (by omega) (by simp) (by simp)
    rw [← hw4]
    clear hw4
    have hlit := Own.lit w4 w4.heap.size [UInt8.ofNat (g1.kind % 256).toNat] #[.int .u8 g1.kind] 5 1 (by rw [List.map_cons, byteV_int g1.kind (by omega) (by omega)]; rfl) rfl (Nat.le_refl _) (by simp [maxLen])
    have hz4' : (w4.alloc (.cells #[.int .u8 g1.kind] 5)).heap.size = wr.heap.size + 2 := by simp; omega
    have hB4' : Below wr.heap.size wr (w4.alloc (.cells #[.int .u8 g1.kind] 5)) := hB4.trans ((bel_a w4 _).mono (by omega))
    have hsr : w0.heap.size ≤ wr.heap.size := by omega
    obtain ⟨s3, w5, hrun', ho5, hg5, hor⟩ := run_appB (Hown.out.keep hB4') (by omega) (Own.reads (s := ⟨some ⟨w4.heap.size, 0, none⟩, 1, 1⟩) hlit) (by simp; omega)
    have hrun : (appB #[su.v, .slice (some ⟨w4.heap.size, 0, none⟩) 1 1]).run Tryz.prog (w4.alloc (.cells #[.int .u8 g1.kind] 5)) = .ok s3.v w5 := hrun'
    have hsu : ∀ g, su.v.ownBlock = some g → g < wr.heap.size := fun g hg => (OwnC.lt Hown.out g hg).2
    obtain ⟨b4, hb4⟩ : ∃ b, b = wr.heap.size := ⟨_, rfl⟩
    rw [← hb4] at hrow4 hz4 hz4' hsu ⊢
    have hb5 : b4 < w5.heap.size := by have := hg5.size; omega
    have row5 : row? w5 b4 0 36 = some (opA g1) := by
     refine (row?_of_block (hg5.block b4 (by omega) fun e => ?_)).trans ((row?_old _ _ _ _ _ (by omega)).trans hrow4)
     have := hsu b4 e.symm
     omega
    have hne5 : some b4 ≠ s3.v.ownBlock := fun e => by
     rcases hor with q | q
     ·have := hsu b4 (q.symm.trans e.symm)
      omega
     ·have := q.symm.trans e.symm
      injection this with this
      omega
    have hBw5 := Lib.hid (show Below w0.heap.size w0 w5 from (hB3.out.trans (HBo.out.trans (hB4'.mono hsr))).grown hg5 (by omega) fun g hg => (OwnC.lt Hown.out g hg).1)
    have hBr5 := Lib.hid (show Below w0.heap.size W w5 from (HBo.out.trans (hB4'.mono hsr)).grown hg5 (by omega) fun g hg => (OwnC.lt Hown.out g hg).1)
    have hsz5 : w0.heap.size ≤ w5.heap.size := by have := hg5.size; omega
    have hw := IntWalk.u8_in g1.kind (by omega)
    obtain ⟨d0, -, d34, -⟩ := opA_cells row5
    obtain ⟨d0', -, -, -⟩ := opA_cells hrow4
    replace hb4 := Lib.hid hb4
    obtain ⟨p1, hp1⟩ : ∃ p, p = pre ++ [UInt8.ofNat (g1.kind % 256).toNat] := ⟨_, rfl⟩
    have hpl1 : p1.length ≤ 200001 := by rw [hp1]; simp; omega
    rw [← hp1] at ho5
    have Ho5 := Lib.hid ho5
    replace hp1 := Lib.hid hp1
    clear ho5 hg5 hor hrun' hsu hlit hz4' hB4' hB4 hcx
    replace hz4 := Lib.hid hz4
    go_upto_region 8 with fail
    have Ho5' := Ho5
    rcases hth.out with q | ⟨q, qv0, qv1, qe⟩ | ⟨q, qv0, qv1, va, vb, qe, qm1, qm2⟩
    ·have hk1 : g1.kind = 1 := Hv1.out.1.trans q
     have hop := Lib.hid (show opBytes ok = [1] ++ g1.key.1 ++ be 8 g1.stake.toNat by
      unfold opBytes
      rw [if_pos q, q, Hv1.out.2.1, Hv1.out.2.2.1]
      rfl)
     have hkb := Lib.hid (show [UInt8.ofNat (g1.kind % 256).toNat] = [1] by rw [hk1]; rfl)
     rw [hk1] at d0
     replace hk1 := Lib.hid hk1
     clear hw d34 hrun d0' hrow4 q
     go_upto_region 10 with fail
     have ho5 := Ho5.out
     refine wp_region_freeI_l (by kernel_rfl) [44, 45, 46, 47, 48, 49, 50, 51, 3]
      [(fun v => v = s3.v), (fun v => v = .pointer (some ⟨b4, 1, none⟩)), (fun v => ∃ s : Sl, v = s.v), (fun v => ∃ s : Sl, v = s.v), (fun v => v = .pointer (some ⟨b4, 33, none⟩)), (fun v => v = .int .u64 (g1.stake.toNat : Int)), (fun v => ∃ s : Sl, v = s.v), (fun v => ∃ s : Sl, v = s.v), (fun v => ∃ s : Sl, v = s.v)]
      [2, 3, 6, 7, 8] (AppI w0.heap.size w5 s3.v p1 g1.key.1 (be 8 g1.stake.toNat)) [[3, 7, 8], [2, 3, 7, 8], [3, 7, 8], [7, 8], [5, 6, 7, 8], [6, 7, 8], [7, 8], [8], []] (by kernel_rfl) (by kernel_rfl) ?_ ?_ ?_
     ·show AppI w0.heap.size w5 s3.v p1 g1.key.1 (be 8 g1.stake.toNat) [false, false, false, false, false] [_, _, _, _, _] _
      exact AppI.zero hsz5 ho5 _
     ·refine ⟨?_, ?_, ?_, ?_, ?_, ?_, ?_, ?_, ?_, trivial⟩
      ·intro L ax W hf hLi hno hd
       try simp [Region.binds] at hd
       refine ⟨fun _ => ?_, fun h => absurd trivial h⟩
       have hG : AppI w0.heap.size w5 s3.v p1 g1.key.1 (be 8 g1.stake.toNat) [L 2, L 3, L 6, L 7, L 8] [sl ax 46, sl ax 47, sl ax 50, sl ax 51, sl ax 3] W := hf.glob
       have e3 : ax.tmps[3]?.getD undef = s3.v := slv ((hf.rest 3 fun i hi hLt he => (by
        have h11 : i = 8 := (show ∀ i, i < 9 → ([44, 45, 46, 47, 48, 49, 50, 51, 3] : List Nat).getD i 0 = 3 → i = 8 from (by decide)) i hi he
        rw [h11, hno 8 (by decide)] at hLt
        cases hLt)).trans rfl)
       refine freeI_run (v := s3.v) rfl hf (by decide) ?_ rfl
       go_simp
      ·intro L ax W hf hLi hno hd
       try simp [Region.binds] at hd
       have e5 : ax.tmps[5]?.getD undef = .pointer (some ⟨b4, 0, none⟩) := hf.out 5 (by decide) rfl
       refine ⟨fun _ => ?_, fun h => absurd trivial h⟩
       refine freeI_run (v := .pointer (some ⟨b4, 1, none⟩)) rfl hf (by decide) ?_ rfl
       go_simp
      ·intro L ax W hf hLi hno hd
       simp [Region.binds] at hd
       have e45 : ax.tmps[45]?.getD undef = .pointer (some ⟨b4, 1, none⟩) := slv (hf.got 1 (by decide) (by simp [hd]))
       refine ⟨fun _ => ?_, fun h => absurd trivial h⟩
       have hG : AppI w0.heap.size w5 s3.v p1 g1.key.1 (be 8 g1.stake.toNat) [L 2, L 3, L 6, L 7, L 8] [sl ax 46, sl ax 47, sl ax 50, sl ax 51, sl ax 3] W := hf.glob
       have hrw := (row?_of_block (off := 0) (n := 36) (hG.far.block b4 hb5 hne5)).trans row5
       refine freeI_val (v := (⟨some ⟨b4, 1, none⟩, 32, 32⟩ : Sl).v) (W' := W) rfl ?_ ⟨_, rfl⟩ (hG.r1 (s := ⟨some ⟨b4, 1, none⟩, 32, 32⟩) (key_reads hrw) fun _ g off e => by
        injection e with e
        injection e with e
        subst e
        exact ⟨hb5, fun q => hne5 q.symm⟩)
       unfold Sl.v
       go_simp
      ·intro L ax W hf hLi hno hd
       simp [Region.binds] at hd
       have e44 : ax.tmps[44]?.getD undef = s3.v := slv (hf.got 0 (by decide) (by simp [hd]))
       have f46 : (fun v => ∃ s : Sl, v = s.v) (sl ax 46) := hf.got 2 (by decide) (by simp [hd])
       refine ⟨fun _ => ?_, fun h => absurd trivial h⟩
       have hG : AppI w0.heap.size w5 s3.v p1 g1.key.1 (be 8 g1.stake.toNat) [L 2, L 3, L 6, L 7, L 8] [sl ax 46, sl ax 47, sl ax 50, sl ax 51, sl ax 3] W := hf.glob
       obtain ⟨s46, e46⟩ := f46
       obtain ⟨s', W', hrun, hH⟩ := hG.a1 (by simp [hd]) hLi (hno 7 (by decide)) (hno 8 (by decide)) (by have := g1.key.2; omega)
       rw [e46] at hrun
       have e46' := slv e46
       refine freeI_val (v := s'.v) (W' := W') rfl ?_ ⟨s', rfl⟩ hH
       go_simp
      ·intro L ax W hf hLi hno hd
       try simp [Region.binds] at hd
       have e5 : ax.tmps[5]?.getD undef = .pointer (some ⟨b4, 0, none⟩) := hf.out 5 (by decide) rfl
       refine ⟨fun _ => ?_, fun h => absurd trivial h⟩
       refine freeI_run (v := .pointer (some ⟨b4, 33, none⟩)) rfl hf (by decide) ?_ rfl
       go_simp
      ·intro L ax W hf hLi hno hd
       simp [Region.binds] at hd
       have e48 : ax.tmps[48]?.getD undef = .pointer (some ⟨b4, 33, none⟩) := slv (hf.got 4 (by decide) (by simp [hd]))
       refine ⟨fun _ => ?_, fun h => absurd trivial h⟩
       have hG : AppI w0.heap.size w5 s3.v p1 g1.key.1 (be 8 g1.stake.toNat) [L 2, L 3, L 6, L 7, L 8] [sl ax 46, sl ax 47, sl ax 50, sl ax 51, sl ax 3] W := hf.glob
       have hrw := (row?_of_block (off := 0) (n := 36) (hG.far.block b4 hb5 hne5)).trans row5
       obtain ⟨-, hst, -, -⟩ := opA_cells hrw
       refine freeI_run (v := .int .u64 (g1.stake.toNat : Int)) rfl hf (by decide) ?_ rfl
       go_simp
      ·intro L ax W hf hLi hno hd
       simp [Region.binds] at hd
       have e49 : ax.tmps[49]?.getD undef = .int .u64 (g1.stake.toNat : Int) := slv (hf.got 5 (by decide) (by simp [hd]))
       refine ⟨fun _ => ?_, fun h => absurd trivial h⟩
       have hG : AppI w0.heap.size w5 s3.v p1 g1.key.1 (be 8 g1.stake.toNat) [L 2, L 3, L 6, L 7, L 8] [sl ax 46, sl ax 47, sl ax 50, sl ax 51, sl ax 3] W := hf.glob
       refine freeI_call (f := 68) (args := #[.int .u64 (g1.stake.toNat : Int), .int .i64 8]) rfl (by go_simp) ?_
       refine (HS g1.stake W).mono ?_
       rintro e w' ⟨x, rfl, ho, hb⟩
       obtain ⟨s, rfl⟩ := ho.slice
       exact ⟨_, rfl, ⟨s, rfl⟩, hG.o2 hb ho⟩
      ·intro L ax W hf hLi hno hd
       simp [Region.binds] at hd
       have f47 : (fun v => ∃ s : Sl, v = s.v) (sl ax 47) := hf.got 3 (by decide) (by simp [hd])
       have f50 : (fun v => ∃ s : Sl, v = s.v) (sl ax 50) := hf.got 6 (by decide) (by simp [hd])
       refine ⟨fun _ => ?_, fun h => absurd trivial h⟩
       have hG : AppI w0.heap.size w5 s3.v p1 g1.key.1 (be 8 g1.stake.toNat) [L 2, L 3, L 6, L 7, L 8] [sl ax 46, sl ax 47, sl ax 50, sl ax 51, sl ax 3] W := hf.glob
       obtain ⟨s47, e47⟩ := f47
       obtain ⟨s50, e50⟩ := f50
       obtain ⟨s', W', hrun, hH⟩ := hG.a2 (by simp [hd]) (by simp [hd]) hLi (hno 8 (by decide)) (by have := g1.key.2; simp [be_length]; omega)
       rw [e47, e50] at hrun
       have e47' := slv e47
       have e50' := slv e50
       refine freeI_val (v := s'.v) (W' := W') rfl ?_ ⟨s', rfl⟩ hH
       go_simp
      ·intro L ax W hf hLi hno hd
       simp [Region.binds] at hd
       have f51 : (fun v => ∃ s : Sl, v = s.v) (sl ax 51) := hf.got 7 (by decide) (by simp [hd])
       refine ⟨fun _ => ?_, fun h => absurd trivial h⟩
       have hG : AppI w0.heap.size w5 s3.v p1 g1.key.1 (be 8 g1.stake.toNat) [L 2, L 3, L 6, L 7, L 8] [sl ax 46, sl ax 47, sl ax 50, sl ax 51, sl ax 3] W := hf.glob
       obtain ⟨s51, e51⟩ := f51
       have e51' := slv e51
       have hH := hG.fin
       refine freeI_val (v := s51.v) (W' := W) rfl ?_ ⟨s51, rfl⟩ ?_
       ·go_simp
       ·rw [e51] at hH
        show AppI _ _ _ _ _ _ [L 2, L 3, L 6, L 7, true] [sl ax 46, sl ax 47, sl ax 50, sl ax 51, s51.v] W
        rw [e51]
        exact hH
     ·intro vs W6 hl' hF hG
      obtain ⟨g', hg1, hg2⟩ := vs_litI vs hl' hF
      obtain ⟨q3, sy, q1, q2⟩ := hG.out
      have hB6 : Below w0.heap.size W W6 := hBr5.out.trans hG.bel
      rw [hg1] at q1 q3
      simp only [List.length_cons, List.length_nil, Nat.reduceAdd, List.map_cons, List.map_nil, show List.range 9 = [0, 1, 2, 3, 4, 5, 6, 7, 8] from rfl, List.getD_cons_zero, List.getD_cons_succ] at q1 q3
      have e8 : g' 8 = sy.v := q3.trans q1
      have hres : Own W6 w0.heap.size sy.v (hp ++ ((h.ops.take (k + 1)).map opBytes).flatten) := by
       rw [Hfl.out, hop.out]
       rw [hp1.out, hkb.out] at q2
       simpa [List.append_assoc] using q2
      rw [hg1]
      simp only [List.length_cons, List.length_nil, Nat.reduceAdd, show List.range 9 = [0, 1, 2, 3, 4, 5, 6, 7, 8] from rfl, List.map_cons, List.map_nil, slotsIn, putL, List.setIfInBounds_toArray, List.set_cons_succ, List.set_cons_zero, e8, List.size_toArray, Nat.reduceLT, if_true, if_false]
      clear hg1 hg2 hG hF hl' q1 q2 q3 e8
      replace hres := Lib.hid hres
      replace hB6 := Lib.hid hB6
      go_wp2_with fail
      go_roundw
      case rel => exact ⟨k + 1, by omega, hres.out, by go_num, hB6.out⟩
      case measure => (first | omega | (simp [intOf]; done) | (simp [intOf]; omega))
    ·have hk2 : g1.kind = 2 := Hv1.out.1.trans q
     have hgv := Hv1.out.2.2.2.1
     have hop := Lib.hid (show opBytes ok = [2] ++ [UInt8.ofNat (g1.validator % 256).toNat] by
      unfold opBytes
      rw [if_neg (by omega), q, qe, hgv]
      rfl)
     have hkb := Lib.hid (show [UInt8.ofNat (g1.kind % 256).toNat] = [2] by rw [hk2]; rfl)
     rw [hk2] at d0
     replace hk2 := Lib.hid hk2
     have hw2 := IntWalk.u8_in g1.validator (by omega)
     have hlit2 := Own.lit w5 w5.heap.size [UInt8.ofNat (g1.validator % 256).toNat] #[.int .u8 g1.validator] 5 1 (by rw [List.map_cons, byteV_int g1.validator (by omega) (by omega)]; rfl) rfl (Nat.le_refl _) (by simp [maxLen])
     have hz5 : (w5.alloc (.cells #[.int .u8 g1.validator] 5)).heap.size = w5.heap.size + 1 := by simp
     obtain ⟨s4, w6, hrun2', ho6, hg6, -⟩ := run_appB (Ho5.out.keep (bel_a w5 _)) (by omega) (Own.reads (s := ⟨some ⟨w5.heap.size, 0, none⟩, 1, 1⟩) hlit2) (by simp; omega)
     have hrun2 : (appB #[s3.v, .slice (some ⟨w5.heap.size, 0, none⟩) 1 1]).run Tryz.prog (w5.alloc (.cells #[.int .u8 g1.validator] 5)) = .ok s4.v w6 := hrun2'
     have hB6 := Lib.hid (show Below w0.heap.size W w6 from (hBr5.out.trans ((bel_a w5 _).mono hsz5)).grown hg6 (by omega) fun g hg => (OwnC.lt Ho5.out g hg).1)
     have hres := Lib.hid (show Own w6 w0.heap.size s4.v (hp ++ ((h.ops.take (k + 1)).map opBytes).flatten) by
      rw [Hfl.out, hop.out]
      rw [hp1.out, hkb.out] at ho6
      simpa [List.append_assoc] using ho6)
     clear hw hrun d0' hrow4 q ho6 hg6 hrun2' hlit2 hz5 qe hgv qv0 qv1
     go_wp2_with fail
     go_roundw
     case rel => exact ⟨k + 1, by omega, hres.out, by go_num, hB6.out⟩
     case measure => (first | omega | (simp [intOf]; done) | (simp [intOf]; omega))
    ·have hk3 : g1.kind = 3 := Hv1.out.1.trans q
     have hgv := Hv1.out.2.2.2.1
     have hop := Lib.hid (show opBytes ok = [3] ++ [UInt8.ofNat (g1.validator % 256).toNat] ++ vtBytes va ++ vtBytes vb by
      unfold opBytes
      rw [if_neg (by omega), q, qe, hgv]
      simp)
     have hkb := Lib.hid (show [UInt8.ofNat (g1.kind % 256).toNat] = [3] by rw [hk3]; rfl)
     rw [hk3] at d0
     replace hk3 := Lib.hid hk3
     have hvr := Hv1.out.2.2.2.2
     rw [qe] at hvr
     obtain ⟨eb, eo, hgev0, heb, hc⟩ := hvr.at (by simp)
     obtain ⟨csa, ra0, ga, rfl, Hva⟩ := hc 0 (by simp)
     obtain ⟨csb, rb0, gb, rfl, Hvb⟩ := hc 1 (by simp)
     have ra : row? w5 eb eo 68 = some (voteA ga) := (row?_below _ _ _ hBw5.out heb).trans (by simpa using ra0)
     have rb : row? w5 eb (eo + 68) 68 = some (voteA gb) := (row?_below _ _ _ hBw5.out heb).trans (by simpa using rb0)
     obtain ⟨ec, hec⟩ : ∃ ec, ec = g1.evidence.c := ⟨_, rfl⟩
     have hgev : g1.evidence = ⟨some ⟨eb, eo, none⟩, 2, ec⟩ := by rw [hec]; exact hgev0
     have Hva' : VoteR w0 ga va := Hva
     have Hvb' : VoteR w0 gb vb := Hvb
     have Hvam := voteMay_out qm1
     have Hvbm := voteMay_out qm2
     have hvla := vtBytes_length va
     have hvlb := vtBytes_length vb
     have hgv1 : 1 ≤ g1.validator := by omega
     have hgv2 : g1.validator ≤ 64 := by omega
     have hvbyte := Lib.hid (show byteV (UInt8.ofNat (g1.validator % 256).toNat) = .int .u8 g1.validator from byteV_int g1.validator (by omega) (by omega))
     replace hgev := hgev
     clear hw d34 hrun d0' hrow4 q qe hgv ra0 rb0 hc hvr hgev0 hec qm1 qm2 qv0 qv1
     go_upto_region 14 with fail
     have ho5 := Ho5.out
     refine wp_region_freeI_l (by kernel_rfl) [62, 63, 64, 65, 66, 67, 68, 69, 70, 71, 72, 73, 74, 75, 76, 77, 78, 79, 3]
      [(fun v => v = s3.v), (fun v => v = .pointer (some ⟨b4, 34, none⟩)), (fun v => v = .int .i64 g1.validator), (fun v => v = .int .u8 g1.validator), (fun v => ∃ s : Sl, v = s.v), (fun v => ∃ s : Sl, v = s.v), (fun v => v = .pointer (some ⟨b4, 35, none⟩)), (fun v => v = .slice (some ⟨eb, eo, none⟩) 2 ec), (fun v => v = .pointer (some ⟨eb, eo, none⟩)), (fun v => v = .agg (voteA ga)), (fun v => ∃ s : Sl, v = s.v), (fun v => ∃ s : Sl, v = s.v), (fun v => v = .pointer (some ⟨b4, 35, none⟩)), (fun v => v = .slice (some ⟨eb, eo, none⟩) 2 ec), (fun v => v = .pointer (some ⟨eb, eo + 68, none⟩)), (fun v => v = .agg (voteA gb)), (fun v => ∃ s : Sl, v = s.v), (fun v => ∃ s : Sl, v = s.v), (fun v => ∃ s : Sl, v = s.v)]
      [4, 5, 10, 11, 16, 17, 18] (AppJ w0.heap.size w5 s3.v p1 [UInt8.ofNat (g1.validator % 256).toNat] (vtBytes va) (vtBytes vb)) [[5, 11, 17, 18], [2, 3, 4, 5, 11, 17, 18], [3, 4, 5, 11, 17, 18], [4, 5, 11, 17, 18], [5, 11, 17, 18], [11, 17, 18], [7, 8, 9, 10, 11, 17, 18], [8, 9, 10, 11, 17, 18], [9, 10, 11, 17, 18], [10, 11, 17, 18], [11, 17, 18], [17, 18], [13, 14, 15, 16, 17, 18], [14, 15, 16, 17, 18], [15, 16, 17, 18], [16, 17, 18], [17, 18], [18], []] (by kernel_rfl) (by kernel_rfl) ?_ ?_ ?_
     ·show AppJ w0.heap.size w5 s3.v p1 [UInt8.ofNat (g1.validator % 256).toNat] (vtBytes va) (vtBytes vb) [false, false, false, false, false, false, false] [_, _, _, _, _, _, _] _
      exact AppJ.zero hsz5 ho5 _
     ·refine ⟨?_, ?_, ?_, ?_, ?_, ?_, ?_, ?_, ?_, ?_, ?_, ?_, ?_, ?_, ?_, ?_, ?_, ?_, ?_, trivial⟩
      ·intro L ax W hf hLi hno hd
       try simp [Region.binds] at hd
       refine ⟨fun _ => ?_, fun h => absurd trivial h⟩
       have hG : AppJ w0.heap.size w5 s3.v p1 [UInt8.ofNat (g1.validator % 256).toNat] (vtBytes va) (vtBytes vb) [L 4, L 5, L 10, L 11, L 16, L 17, L 18] [sl ax 66, sl ax 67, sl ax 72, sl ax 73, sl ax 78, sl ax 79, sl ax 3] W := hf.glob
       have e3 : ax.tmps[3]?.getD undef = s3.v := slv ((hf.rest 3 fun i hi hLt he => (by
        have h11 : i = 18 := (show ∀ i, i < 19 → ([62, 63, 64, 65, 66, 67, 68, 69, 70, 71, 72, 73, 74, 75, 76, 77, 78, 79, 3] : List Nat).getD i 0 = 3 → i = 18 from (by decide)) i hi he
        rw [h11, hno 18 (by decide)] at hLt
        cases hLt)).trans rfl)
       refine freeI_run (v := s3.v) rfl hf (by decide) ?_ rfl
       go_simp
      ·intro L ax W hf hLi hno hd
       try simp [Region.binds] at hd
       have e5 : ax.tmps[5]?.getD undef = .pointer (some ⟨b4, 0, none⟩) := hf.out 5 (by decide) rfl
       refine ⟨fun _ => ?_, fun h => absurd trivial h⟩
       refine freeI_run (v := .pointer (some ⟨b4, 34, none⟩)) rfl hf (by decide) ?_ rfl
       go_simp
      ·intro L ax W hf hLi hno hd
       simp [Region.binds] at hd
       have e63 : ax.tmps[63]?.getD undef = .pointer (some ⟨b4, 34, none⟩) := slv (hf.got 1 (by decide) (by simp [hd]))
       refine ⟨fun _ => ?_, fun h => absurd trivial h⟩
       have hG : AppJ w0.heap.size w5 s3.v p1 [UInt8.ofNat (g1.validator % 256).toNat] (vtBytes va) (vtBytes vb) [L 4, L 5, L 10, L 11, L 16, L 17, L 18] [sl ax 66, sl ax 67, sl ax 72, sl ax 73, sl ax 78, sl ax 79, sl ax 3] W := hf.glob
       have hrw := (row?_of_block (off := 0) (n := 36) (hG.far.block b4 hb5 hne5)).trans row5
       obtain ⟨-, -, hvl, -⟩ := opA_cells hrw
       refine freeI_run (v := .int .i64 g1.validator) rfl hf (by decide) ?_ rfl
       go_simp
      ·intro L ax W hf hLi hno hd
       simp [Region.binds] at hd
       have e64 : ax.tmps[64]?.getD undef = .int .i64 g1.validator := slv (hf.got 2 (by decide) (by simp [hd]))
       refine ⟨fun _ => ?_, fun h => absurd trivial h⟩
       have hG : AppJ w0.heap.size w5 s3.v p1 [UInt8.ofNat (g1.validator % 256).toNat] (vtBytes va) (vtBytes vb) [L 4, L 5, L 10, L 11, L 16, L 17, L 18] [sl ax 66, sl ax 67, sl ax 72, sl ax 73, sl ax 78, sl ax 79, sl ax 3] W := hf.glob
       have hq : IntKind.u8.wrap g1.validator = g1.validator := by rw [IntKind.wrap_u8]; omega
       refine freeI_run (v := .int .u8 g1.validator) rfl hf (by decide) ?_ rfl
       go_simp
      ·intro L ax W hf hLi hno hd
       simp [Region.binds] at hd
       have e65 : ax.tmps[65]?.getD undef = .int .u8 g1.validator := slv (hf.got 3 (by decide) (by simp [hd]))
       refine ⟨fun _ => ?_, fun h => absurd trivial h⟩
       have hG : AppJ w0.heap.size w5 s3.v p1 [UInt8.ofNat (g1.validator % 256).toNat] (vtBytes va) (vtBytes vb) [L 4, L 5, L 10, L 11, L 16, L 17, L 18] [sl ax 66, sl ax 67, sl ax 72, sl ax 73, sl ax 78, sl ax 79, sl ax 3] W := hf.glob
       have ho := Own.lit W W.heap.size [UInt8.ofNat (g1.validator % 256).toNat] #[.int .u8 g1.validator] 5 1 (by rw [← hvbyte.out]; rfl) rfl (Nat.le_refl _) (by simp [maxLen])
       refine freeI_val (v := .slice (some ⟨W.heap.size, 0, none⟩) 1 1) (W' := W.alloc (.cells #[.int .u8 g1.validator] 5)) rfl ?_ ⟨⟨some ⟨W.heap.size, 0, none⟩, 1, 1⟩, rfl⟩ (hG.o1 (bel_a W _) (s := ⟨some ⟨W.heap.size, 0, none⟩, 1, 1⟩) ho)
       go_simp
      ·intro L ax W hf hLi hno hd
       simp [Region.binds] at hd
       have e62 : ax.tmps[62]?.getD undef = s3.v := slv (hf.got 0 (by decide) (by simp [hd]))
       have f66 : (fun v => ∃ s : Sl, v = s.v) (sl ax 66) := hf.got 4 (by decide) (by simp [hd])
       refine ⟨fun _ => ?_, fun h => absurd trivial h⟩
       have hG : AppJ w0.heap.size w5 s3.v p1 [UInt8.ofNat (g1.validator % 256).toNat] (vtBytes va) (vtBytes vb) [L 4, L 5, L 10, L 11, L 16, L 17, L 18] [sl ax 66, sl ax 67, sl ax 72, sl ax 73, sl ax 78, sl ax 79, sl ax 3] W := hf.glob
       obtain ⟨s66, e66⟩ := f66
       obtain ⟨s', W', hrun, hH⟩ := hG.a1 (by simp [hd]) hLi (hno 11 (by decide)) (hno 17 (by decide)) (hno 18 (by decide)) (by simp; omega)
       rw [e66] at hrun
       have e66' := slv e66
       refine freeI_val (v := s'.v) (W' := W') rfl ?_ ⟨s', rfl⟩ hH
       go_simp
      ·intro L ax W hf hLi hno hd
       try simp [Region.binds] at hd
       have e5 : ax.tmps[5]?.getD undef = .pointer (some ⟨b4, 0, none⟩) := hf.out 5 (by decide) rfl
       refine ⟨fun _ => ?_, fun h => absurd trivial h⟩
       refine freeI_run (v := .pointer (some ⟨b4, 35, none⟩)) rfl hf (by decide) ?_ rfl
       go_simp
      ·intro L ax W hf hLi hno hd
       simp [Region.binds] at hd
       have e68 : ax.tmps[68]?.getD undef = .pointer (some ⟨b4, 35, none⟩) := slv (hf.got 6 (by decide) (by simp [hd]))
       refine ⟨fun _ => ?_, fun h => absurd trivial h⟩
       have hG : AppJ w0.heap.size w5 s3.v p1 [UInt8.ofNat (g1.validator % 256).toNat] (vtBytes va) (vtBytes vb) [L 4, L 5, L 10, L 11, L 16, L 17, L 18] [sl ax 66, sl ax 67, sl ax 72, sl ax 73, sl ax 78, sl ax 79, sl ax 3] W := hf.glob
       have hrw := (row?_of_block (off := 0) (n := 36) (hG.far.block b4 hb5 hne5)).trans row5
       obtain ⟨-, -, -, hev⟩ := opA_cells hrw
       rw [hgev] at hev
       unfold Sl.v at hev
       simp only at hev
       refine freeI_run (v := .slice (some ⟨eb, eo, none⟩) 2 ec) rfl hf (by decide) ?_ rfl
       go_simp
      ·intro L ax W hf hLi hno hd
       simp [Region.binds] at hd
       have e69 : ax.tmps[69]?.getD undef = .slice (some ⟨eb, eo, none⟩) 2 ec := slv (hf.got 7 (by decide) (by simp [hd]))
       refine ⟨fun _ => ?_, fun h => absurd trivial h⟩
       refine freeI_run (v := .pointer (some ⟨eb, eo, none⟩)) rfl hf (by decide) ?_ rfl
       go_simp
      ·intro L ax W hf hLi hno hd
       simp [Region.binds] at hd
       have e70 : ax.tmps[70]?.getD undef = .pointer (some ⟨eb, eo, none⟩) := slv (hf.got 8 (by decide) (by simp [hd]))
       refine ⟨fun _ => ?_, fun h => absurd trivial h⟩
       have hG : AppJ w0.heap.size w5 s3.v p1 [UInt8.ofNat (g1.validator % 256).toNat] (vtBytes va) (vtBytes vb) [L 4, L 5, L 10, L 11, L 16, L 17, L 18] [sl ax 66, sl ax 67, sl ax 72, sl ax 73, sl ax 78, sl ax 79, sl ax 3] W := hf.glob
       have hra := (row?_below _ _ _ hG.bel heb).trans ra
       refine freeI_run (v := .agg (voteA ga)) rfl hf (by decide) ?_ rfl
       go_simp
      ·intro L ax W hf hLi hno hd
       simp [Region.binds] at hd
       have e71 : ax.tmps[71]?.getD undef = .agg (voteA ga) := slv (hf.got 9 (by decide) (by simp [hd]))
       refine ⟨fun _ => ?_, fun h => absurd trivial h⟩
       have hG : AppJ w0.heap.size w5 s3.v p1 [UInt8.ofNat (g1.validator % 256).toNat] (vtBytes va) (vtBytes vb) [L 4, L 5, L 10, L 11, L 16, L 17, L 18] [sl ax 66, sl ax 67, sl ax 72, sl ax 73, sl ax 78, sl ax 79, sl ax 3] W := hf.glob
       refine freeI_call (f := 69) (args := #[.agg (voteA ga)]) rfl (by go_simp) ?_
       refine (tvote_c ga va W (Hva.keep' (hBw5.out.trans hG.bel)) Hvam.1 Hvam.2.1 Hvam.2.2.1).mono ?_
       rintro e w' ⟨x, rfl, ho, hb⟩
       obtain ⟨s, rfl⟩ := ho.slice
       exact ⟨_, rfl, ⟨s, rfl⟩, hG.o2 hb ho⟩
      ·intro L ax W hf hLi hno hd
       simp [Region.binds] at hd
       have f67 : (fun v => ∃ s : Sl, v = s.v) (sl ax 67) := hf.got 5 (by decide) (by simp [hd])
       have f72 : (fun v => ∃ s : Sl, v = s.v) (sl ax 72) := hf.got 10 (by decide) (by simp [hd])
       refine ⟨fun _ => ?_, fun h => absurd trivial h⟩
       have hG : AppJ w0.heap.size w5 s3.v p1 [UInt8.ofNat (g1.validator % 256).toNat] (vtBytes va) (vtBytes vb) [L 4, L 5, L 10, L 11, L 16, L 17, L 18] [sl ax 66, sl ax 67, sl ax 72, sl ax 73, sl ax 78, sl ax 79, sl ax 3] W := hf.glob
       obtain ⟨s67, e67⟩ := f67
       obtain ⟨s72, e72⟩ := f72
       obtain ⟨s', W', hrun, hH⟩ := hG.a2 (by simp [hd]) (by simp [hd]) hLi (hno 17 (by decide)) (hno 18 (by decide)) (by simp; omega)
       rw [e67, e72] at hrun
       have e67' := slv e67
       have e72' := slv e72
       refine freeI_val (v := s'.v) (W' := W') rfl ?_ ⟨s', rfl⟩ hH
       go_simp
      ·intro L ax W hf hLi hno hd
       try simp [Region.binds] at hd
       have e5 : ax.tmps[5]?.getD undef = .pointer (some ⟨b4, 0, none⟩) := hf.out 5 (by decide) rfl
       refine ⟨fun _ => ?_, fun h => absurd trivial h⟩
       refine freeI_run (v := .pointer (some ⟨b4, 35, none⟩)) rfl hf (by decide) ?_ rfl
       go_simp
      ·intro L ax W hf hLi hno hd
       simp [Region.binds] at hd
       have e74 : ax.tmps[74]?.getD undef = .pointer (some ⟨b4, 35, none⟩) := slv (hf.got 12 (by decide) (by simp [hd]))
       refine ⟨fun _ => ?_, fun h => absurd trivial h⟩
       have hG : AppJ w0.heap.size w5 s3.v p1 [UInt8.ofNat (g1.validator % 256).toNat] (vtBytes va) (vtBytes vb) [L 4, L 5, L 10, L 11, L 16, L 17, L 18] [sl ax 66, sl ax 67, sl ax 72, sl ax 73, sl ax 78, sl ax 79, sl ax 3] W := hf.glob
       have hrw := (row?_of_block (off := 0) (n := 36) (hG.far.block b4 hb5 hne5)).trans row5
       obtain ⟨-, -, -, hev⟩ := opA_cells hrw
       rw [hgev] at hev
       unfold Sl.v at hev
       simp only at hev
       refine freeI_run (v := .slice (some ⟨eb, eo, none⟩) 2 ec) rfl hf (by decide) ?_ rfl
       go_simp
      ·intro L ax W hf hLi hno hd
       simp [Region.binds] at hd
       have e75 : ax.tmps[75]?.getD undef = .slice (some ⟨eb, eo, none⟩) 2 ec := slv (hf.got 13 (by decide) (by simp [hd]))
       refine ⟨fun _ => ?_, fun h => absurd trivial h⟩
       refine freeI_run (v := .pointer (some ⟨eb, eo + 68, none⟩)) rfl hf (by decide) ?_ rfl
       go_simp
      ·intro L ax W hf hLi hno hd
       simp [Region.binds] at hd
       have e76 : ax.tmps[76]?.getD undef = .pointer (some ⟨eb, eo + 68, none⟩) := slv (hf.got 14 (by decide) (by simp [hd]))
       refine ⟨fun _ => ?_, fun h => absurd trivial h⟩
       have hG : AppJ w0.heap.size w5 s3.v p1 [UInt8.ofNat (g1.validator % 256).toNat] (vtBytes va) (vtBytes vb) [L 4, L 5, L 10, L 11, L 16, L 17, L 18] [sl ax 66, sl ax 67, sl ax 72, sl ax 73, sl ax 78, sl ax 79, sl ax 3] W := hf.glob
       have hrb := (row?_below _ _ _ hG.bel heb).trans rb
       refine freeI_run (v := .agg (voteA gb)) rfl hf (by decide) ?_ rfl
       go_simp
      ·intro L ax W hf hLi hno hd
       simp [Region.binds] at hd
       have e77 : ax.tmps[77]?.getD undef = .agg (voteA gb) := slv (hf.got 15 (by decide) (by simp [hd]))
       refine ⟨fun _ => ?_, fun h => absurd trivial h⟩
       have hG : AppJ w0.heap.size w5 s3.v p1 [UInt8.ofNat (g1.validator % 256).toNat] (vtBytes va) (vtBytes vb) [L 4, L 5, L 10, L 11, L 16, L 17, L 18] [sl ax 66, sl ax 67, sl ax 72, sl ax 73, sl ax 78, sl ax 79, sl ax 3] W := hf.glob
       refine freeI_call (f := 69) (args := #[.agg (voteA gb)]) rfl (by go_simp) ?_
       refine (tvote_c gb vb W (Hvb.keep' (hBw5.out.trans hG.bel)) Hvbm.1 Hvbm.2.1 Hvbm.2.2.1).mono ?_
       rintro e w' ⟨x, rfl, ho, hb⟩
       obtain ⟨s, rfl⟩ := ho.slice
       exact ⟨_, rfl, ⟨s, rfl⟩, hG.o3 hb ho⟩
      ·intro L ax W hf hLi hno hd
       simp [Region.binds] at hd
       have f73 : (fun v => ∃ s : Sl, v = s.v) (sl ax 73) := hf.got 11 (by decide) (by simp [hd])
       have f78 : (fun v => ∃ s : Sl, v = s.v) (sl ax 78) := hf.got 16 (by decide) (by simp [hd])
       refine ⟨fun _ => ?_, fun h => absurd trivial h⟩
       have hG : AppJ w0.heap.size w5 s3.v p1 [UInt8.ofNat (g1.validator % 256).toNat] (vtBytes va) (vtBytes vb) [L 4, L 5, L 10, L 11, L 16, L 17, L 18] [sl ax 66, sl ax 67, sl ax 72, sl ax 73, sl ax 78, sl ax 79, sl ax 3] W := hf.glob
       obtain ⟨s73, e73⟩ := f73
       obtain ⟨s78, e78⟩ := f78
       obtain ⟨s', W', hrun, hH⟩ := hG.a3 (by simp [hd]) (by simp [hd]) hLi (hno 18 (by decide)) (by simp; omega)
       rw [e73, e78] at hrun
       have e73' := slv e73
       have e78' := slv e78
       refine freeI_val (v := s'.v) (W' := W') rfl ?_ ⟨s', rfl⟩ hH
       go_simp
      ·intro L ax W hf hLi hno hd
       simp [Region.binds] at hd
       have f79 : (fun v => ∃ s : Sl, v = s.v) (sl ax 79) := hf.got 17 (by decide) (by simp [hd])
       refine ⟨fun _ => ?_, fun h => absurd trivial h⟩
       have hG : AppJ w0.heap.size w5 s3.v p1 [UInt8.ofNat (g1.validator % 256).toNat] (vtBytes va) (vtBytes vb) [L 4, L 5, L 10, L 11, L 16, L 17, L 18] [sl ax 66, sl ax 67, sl ax 72, sl ax 73, sl ax 78, sl ax 79, sl ax 3] W := hf.glob
       obtain ⟨s79, e79⟩ := f79
       have e79' := slv e79
       have hH := hG.fin
       refine freeI_val (v := s79.v) (W' := W) rfl ?_ ⟨s79, rfl⟩ ?_
       ·go_simp
       ·rw [e79] at hH
        show AppJ _ _ _ _ _ _ _ [L 4, L 5, L 10, L 11, L 16, L 17, true] [sl ax 66, sl ax 67, sl ax 72, sl ax 73, sl ax 78, sl ax 79, s79.v] W
        rw [e79]
        exact hH
     ·intro vs W6 hl' hF hG
      obtain ⟨g', hg1, hg2⟩ := vs_litI vs hl' hF
      obtain ⟨q3, sy, q1, q2⟩ := hG.out
      have hB6 : Below w0.heap.size W W6 := hBr5.out.trans hG.bel
      rw [hg1] at q1 q3
      simp only [List.length_cons, List.length_nil, Nat.reduceAdd, List.map_cons, List.map_nil, show List.range 19 = [0, 1, 2, 3, 4, 5, 6, 7, 8, 9, 10, 11, 12, 13, 14, 15, 16, 17, 18] from rfl, List.getD_cons_zero, List.getD_cons_succ] at q1 q3
      have e8 : g' 18 = sy.v := q3.trans q1
      have hres : Own W6 w0.heap.size sy.v (hp ++ ((h.ops.take (k + 1)).map opBytes).flatten) := by
       rw [Hfl.out, hop.out]
       rw [hp1.out, hkb.out] at q2
       simpa [List.append_assoc] using q2
      rw [hg1]
      simp only [List.length_cons, List.length_nil, Nat.reduceAdd, show List.range 19 = [0, 1, 2, 3, 4, 5, 6, 7, 8, 9, 10, 11, 12, 13, 14, 15, 16, 17, 18] from rfl, List.map_cons, List.map_nil, slotsIn, putL, List.setIfInBounds_toArray, List.set_cons_succ, List.set_cons_zero, e8, List.size_toArray, Nat.reduceLT, if_true, if_false]
      clear hg1 hg2 hG hF hl' q1 q2 q3 e8
      replace hres := Lib.hid hres
      replace hB6 := Lib.hid hB6
      go_wp2_with fail
      go_roundw
      case rel => exact ⟨k + 1, by omega, hres.out, by go_num, hB6.out⟩
      case measure => (first | omega | (simp [intOf]; done) | (simp [intOf]; omega))
   ·have hfl : (h.ops.take k) = h.ops := List.take_of_length_le (by omega)
    rw [hfl, ← hfin.out] at hown
    have Hown := Lib.hid hown
    have hres : Below w.heap.size w wr := hBw.out.trans (hB.mono (by have := hb1e.out; omega))
    clear hfl hown
    go_wp2_with fail
    go_ret
    exact ⟨_, rfl, Hown.out.more (by have := hb1e.out; omega), hres⟩
end Go.Proofs.YthdjhbiigmcecaaGreat

/- The document's constants of SHA-256, plainly: primes, and roots by digits of 16 bits. -/
namespace Go.Proofs.YthdjhbiigmcecaaGreat

/-! primes -/
def prStep (l : List Nat) (n : Nat) : List Nat := if l.all (fun p => n % p != 0) then l ++ [n] else l
/-- the primes below k + 2 -/
def prTo : Nat → List Nat
 | 0 => []
 | k + 1 => prStep (prTo k) (k + 2)
theorem prStep_len (l : List Nat) (n : Nat) : l.length ≤ (prStep l n).length ∧ (prStep l n).length ≤ l.length + 1 := by
 unfold prStep
 split <;> simp
theorem prTo_mono (k : Nat) : ∀ j, k ≤ j → (prTo k).length ≤ (prTo j).length := by
 intro j hj
 induction j with
 | zero =>
      obtain rfl : k = 0 := by omega
      exact Nat.le_refl _
 | succ j ih =>
  by_cases h : k = j + 1
  ·subst h
   exact Nat.le_refl _
  ·exact Nat.le_trans (ih (by omega)) (prStep_len _ _).1
def p64 : List Nat := [2, 3, 5, 7, 11, 13, 17, 19, 23, 29, 31, 37, 41, 43, 47, 53, 59, 61, 67, 71, 73, 79, 83, 89, 97, 101, 103, 107, 109, 113, 127, 131, 137, 139, 149, 151, 157, 163, 167, 173, 179, 181, 191, 193, 197, 199, 211, 223, 227, 229, 233, 239, 241, 251, 257, 263, 269, 271, 277, 281, 283, 293, 307, 311]
set_option maxRecDepth 100000 in
theorem prTo_310 : prTo 310 = p64 := by decide +kernel
set_option maxRecDepth 100000 in
theorem prTo_309 : (prTo 309).length = 63 := by decide +kernel
theorem prTo_low (k : Nat) (h : k < 310) : (prTo k).length < 64 := by
 have := prTo_mono k 309 (by omega)
 rw [prTo_309] at this
 omega
theorem prTo_ge (k : Nat) : ∀ p ∈ prTo k, 2 ≤ p ∧ p ≤ k + 1 := by
 induction k with
 | zero => intro p hp; cases hp
 | succ k ih =>
  intro p hp
  simp only [prTo, prStep] at hp
  split at hp
  ·rcases List.mem_append.1 hp with hp | hp
   ·have := ih p hp
    omega
   ·have := List.mem_singleton.1 hp
    omega
  ·have := ih p hp
   omega

/-! numbers by digits of 16 bits, the lowest first -/
def wval (d : List Nat) : Nat := d.foldr (fun x a => x + 65536 * a) 0
def Wide (d : List Nat) : Prop := d.length = 12 ∧ ∀ x ∈ d, x < 65536
theorem wval_cons (x : Nat) (d : List Nat) : wval (x :: d) = x + 65536 * wval d := rfl
theorem wval_append (a b : List Nat) : wval (a ++ b) = wval a + 65536 ^ a.length * wval b := by
 induction a with
 | nil => simp [wval]
 | cons x a ih =>
  rw [List.cons_append, wval_cons, wval_cons, ih, List.length_cons, Nat.pow_succ, Nat.mul_add, ← Nat.mul_assoc, Nat.mul_comm 65536 (65536 ^ a.length), Nat.add_assoc]
theorem wval_lt (d : List Nat) (h : ∀ x ∈ d, x < 65536) : wval d < 65536 ^ d.length := by
 induction d with
 | nil => simp [wval]
 | cons x d ih =>
  have h1 := ih fun y hy => h y (List.mem_cons_of_mem _ hy)
  have h2 := h x (List.mem_cons_self ..)
  rw [wval_cons, List.length_cons, Nat.pow_succ]
  omega
theorem wval_set (d : List Nat) (j x : Nat) (h : j < d.length) : wval (d.set j x) + d[j] * 65536 ^ j = wval d + x * 65536 ^ j := by
 induction d generalizing j with
 | nil => simp at h
 | cons y d ih =>
  cases j with
  | zero => simp only [List.set_cons_zero, wval_cons, List.getElem_cons_zero, Nat.pow_zero, Nat.mul_one]; omega
  | succ j =>
   simp only [List.set_cons_succ, wval_cons, List.getElem_cons_succ]
   have := ih j (by simpa using h)
   rw [Nat.pow_succ]
   have e1 : d[j]'(by simpa using h) * (65536 ^ j * 65536) = 65536 * (d[j]'(by simpa using h) * 65536 ^ j) := by rw [← Nat.mul_assoc, Nat.mul_comm]
   have e2 : x * (65536 ^ j * 65536) = 65536 * (x * 65536 ^ j) := by rw [← Nat.mul_assoc, Nat.mul_comm]
   rw [e1, e2]
   omega
theorem wval_take_succ (d : List Nat) (k : Nat) (h : k < d.length) : wval (d.take (k + 1)) = wval (d.take k) + d[k] * 65536 ^ k := by
 rw [List.take_succ_eq_append_getElem h, wval_append]
 simp only [wval, List.foldr_cons, List.foldr_nil, Nat.mul_zero, Nat.add_zero, List.length_take]
 rw [Nat.min_eq_left (Nat.le_of_lt h), Nat.mul_comm]
/-- one step of the inner loop -/
theorem times_step {p : List Nat} {i k c x y V0 T s : Nat} (hj : i + k < p.length) (hs : s = p[i + k] + x * y + c)
  (hinv : wval p + c * 65536 ^ (i + k) = V0 + x * 65536 ^ i * T) :
  wval (p.set (i + k) (s % 65536)) + s / 65536 * 65536 ^ (i + (k + 1)) = V0 + x * 65536 ^ i * (T + y * 65536 ^ k) := by
 have h1 := wval_set p (i + k) (s % 65536) hj
 have h2 : s = 65536 * (s / 65536) + s % 65536 := (Nat.div_add_mod s 65536).symm
 have h3 : s * 65536 ^ (i + k) = s / 65536 * 65536 ^ (i + (k + 1)) + s % 65536 * 65536 ^ (i + k) := by
  have : s * 65536 ^ (i + k) = (65536 * (s / 65536) + s % 65536) * 65536 ^ (i + k) := by rw [← h2]
  rw [this, Nat.add_mul, ← Nat.add_assoc i k 1, Nat.pow_succ, Nat.mul_comm 65536 (s / 65536), Nat.mul_assoc, Nat.mul_comm 65536 (65536 ^ (i + k))]
 have h4 : s * 65536 ^ (i + k) = p[i + k] * 65536 ^ (i + k) + x * y * 65536 ^ (i + k) + c * 65536 ^ (i + k) := by rw [hs, Nat.add_mul, Nat.add_mul]
 have h5 : x * 65536 ^ i * (T + y * 65536 ^ k) = x * 65536 ^ i * T + x * y * 65536 ^ (i + k) := by
  rw [Nat.mul_add, Nat.pow_add]
  congr 1
  rw [Nat.mul_assoc x, Nat.mul_assoc x, ← Nat.mul_assoc (65536 ^ i), Nat.mul_comm (65536 ^ i) y, Nat.mul_assoc y]
 rw [h5]
 omega
theorem times_bound {a b c d : Nat} (ha : a < 65536) (hb : b < 65536) (hc : c < 65536) (hd : d < 65536) : d + a * b + c < 4294967296 ∧ (d + a * b + c) / 65536 < 65536 := by
 have h : a * b ≤ 65535 * 65535 := Nat.mul_le_mul (by omega) (by omega)
 omega
/-- the end of the inner loop -/
theorem times_row {p b : List Nat} {i c x V0 : Nat} (hb : b.length = 12) (hi : i ≤ 12) (hinv : wval p + c * 65536 ^ (i + (12 - i)) = V0 + x * 65536 ^ i * wval (b.take (12 - i))) :
  wval p % 65536 ^ 12 = (V0 + x * 65536 ^ i * wval b) % 65536 ^ 12 := by
 have e : wval b = wval (b.take (12 - i)) + 65536 ^ (12 - i) * wval (b.drop (12 - i)) := by
  have := wval_append (b.take (12 - i)) (b.drop (12 - i))
  rw [List.take_append_drop] at this
  rw [this, List.length_take, hb, Nat.min_eq_left (by omega)]
 have h12 : 65536 ^ i * 65536 ^ (12 - i) = 65536 ^ 12 := by rw [← Nat.pow_add, show i + (12 - i) = 12 by omega]
 rw [show i + (12 - i) = 12 by omega] at hinv
 have e2 : V0 + x * 65536 ^ i * wval b = wval p + c * 65536 ^ 12 + 65536 ^ 12 * (x * wval (b.drop (12 - i))) := by
  rw [e, Nat.mul_add, ← Nat.add_assoc, ← hinv, ← h12]
  congr 1
  rw [Nat.mul_assoc x, ← Nat.mul_assoc (65536 ^ i), h12, ← Nat.mul_assoc x, ← Nat.mul_assoc, Nat.mul_comm x]
 rw [e2, Nat.add_mul_mod_self_left, Nat.add_mul_mod_self_right]
theorem times_next {a b : List Nat} {i V : Nat} (hi : i < a.length) (h : V % 65536 ^ 12 = (wval (a.take i) * wval b) % 65536 ^ 12) :
  (V + a[i] * 65536 ^ i * wval b) % 65536 ^ 12 = (wval (a.take (i + 1)) * wval b) % 65536 ^ 12 := by
 rw [wval_take_succ a i hi, Nat.add_mul, Nat.add_mod, h, ← Nat.add_mod]
/-- which number is above -/
theorem above_at {a b : List Nat} (ha : Wide a) (hb : Wide b) (i : Nat) (hi : i < 12) (hhi : ∀ j (h1 : j < a.length) (h2 : j < b.length), i < j → a[j] = b[j]) (hne : a[i]'(by rw [ha.1]; exact hi) ≠ b[i]'(by rw [hb.1]; exact hi)) :
  (b[i]'(by rw [hb.1]; exact hi) < a[i]'(by rw [ha.1]; exact hi)) ↔ wval b < wval a := by
 have hla := ha.1
 have hlb := hb.1
 have split : ∀ d : List Nat, (hd : d.length = 12) → wval d = wval (d.take i) + 65536 ^ i * (d[i]'(by omega) + 65536 * wval (d.drop (i + 1))) := fun d hd => by
  have := wval_append (d.take i) (d.drop i)
  rw [List.take_append_drop, List.length_take, hd, Nat.min_eq_left (by omega)] at this
  rw [this, List.drop_eq_getElem_cons (by omega), wval_cons]
 have htop : a.drop (i + 1) = b.drop (i + 1) := by
  apply List.ext_getElem (by simp [hla, hlb])
  intro j h1 h2
  simp only [List.length_drop] at h1
  rw [List.getElem_drop, List.getElem_drop]
  exact hhi _ _ _ (by omega)
 have lt : ∀ d : List Nat, Wide d → wval (d.take i) < 65536 ^ i := fun d hd => by
  have := wval_lt (d.take i) fun x hx => hd.2 x (List.mem_of_mem_take hx)
  rw [List.length_take, hd.1, Nat.min_eq_left (by omega)] at this
  exact this
 have la := lt a ha
 have lb := lt b hb
 rw [split a hla, split b hlb, htop]
 generalize a[i]'(by omega) = x at *
 generalize b[i]'(by omega) = y at *
 generalize wval (b.drop (i + 1)) = t at *
 generalize wval (a.take i) = u at *
 generalize wval (b.take i) = v at *
 generalize 65536 ^ i = B at *
 constructor
 ·intro h
  have : B * (y + 65536 * t) + B ≤ B * (x + 65536 * t) := by rw [← Nat.mul_succ]; exact Nat.mul_le_mul_left _ (by omega)
  omega
 ·intro h
  rcases Nat.lt_or_ge y x with h' | h'
  ·exact h'
  ·have h3 : x < y := by omega
   have : B * (x + 65536 * t) + B ≤ B * (y + 65536 * t) := by rw [← Nat.mul_succ]; exact Nat.mul_le_mul_left _ (by omega)
   omega
theorem wide_ext {a b : List Nat} (ha : Wide a) (hb : Wide b) (h : ∀ j (h1 : j < a.length) (h2 : j < b.length), a[j] = b[j]) : a = b :=
 List.ext_getElem (by rw [ha.1, hb.1]) fun j h1 h2 => h j h1 h2
/-- a number's digits -/
def digitsL (n : Nat) : List Nat := [n % 65536, n / 65536 % 65536, n / 4294967296 % 65536, n / 281474976710656 % 65536, 0, 0, 0, 0, 0, 0, 0, 0]
theorem digitsL_wide (n : Nat) : Wide (digitsL n) := by
 refine ⟨rfl, fun x hx => ?_⟩
 simp only [digitsL, List.mem_cons, List.not_mem_nil, or_false] at hx
 rcases hx with rfl | rfl | rfl | rfl | rfl | rfl | rfl | rfl | rfl | rfl | rfl | rfl <;> omega
theorem digitsL_val (n : Nat) (h : n < 18446744073709551616) : wval (digitsL n) = n := by
 simp only [digitsL, wval, List.foldr_cons, List.foldr_nil]
 omega
/-- the search of a root -/
def frLoop (P power : Nat) : Nat → Nat → Nat
 | 0, root => root
 | b + 1, root => frLoop P power b (if (root + 2 ^ b) ^ power ≤ P then root + 2 ^ b else root)
def frac (p power : Nat) : Nat := frLoop (p * 2 ^ (32 * power)) power 38 0 % 4294967296
set_option maxRecDepth 100000 in
theorem frac_k : p64.map (fun p => frac p 3) = shaK.map UInt32.toNat := by decide +kernel
set_option maxRecDepth 100000 in
theorem frac_h : (p64.take 8).map (fun p => frac p 2) = shaH.list.map UInt32.toNat := by decide +kernel
end Go.Proofs.YthdjhbiigmcecaaGreat
