/- Texts of this proof, one behind the other: ShaA, ShaE, Wire3, May, Codec1, Concat. -/
import Derived.Test.YthdjhbiigmcecaaPAC
import Derived.Test.YthdjhbiigmcecaaPAB
import Derived.LaidEql
import Derived.WalkSpells
import Derived.Test.YthdjhbiigmcecaaPAA
import Derived.Deep.RegionHeld3
set_option linter.unusedVariables false
set_option linter.unusedSimpArgs false
/- (*sha.stream).add: bytes go in. -/
namespace Go.Proofs.Ythdjhbiigmcecaa
open Go.RowKit

/-- 'copy' as one step of a region that draws its order; what else there is stays -/
theorem step_copy_grown {P : Program} {ops : Array Oper} {o : Oper} {a : Act} {w : World} {K : Act → World → Prop} {Q : Exit → Act → World → Prop} {E : Prop} (hgd : o.guard = none) (d s : Operand) (dT sT : TypeId)
  (ho : o.op = .call { callee := .builtin .copy, args := #[d, s], argTypes := #[dT, sT] }) (elem : TypeId) (hu : P.underlying dT = some (.slice elem)) (hsz : (P.info? elem).map (·.size) = some 1)
  (dp sp : Option Addr) (dLen dCap sLen sCap : Nat) (hd : a.eval d = .slice dp dLen dCap) (hs : a.eval s = .slice sp sLen sCap)
  (g off : Nat) (cur : List Value) (t : TypeId) (hg : w.heap[g]? = some (.cells cur.toArray t (0, 0))) (cs : List Value) (hn : cs.length = Nat.min sLen dLen)
  (hpos : 0 < cs.length → dp = some ⟨g, off, none⟩ ∧ ∃ ad, sp = some ad ∧ ∀ j v, cs[j]? = some v → w.cell? (ad.add j) = some v)
  (hfit : off + cs.length ≤ cur.length) (h1 : ∀ v ∈ cs, v.oneCell' = true)
  (h : ∀ w', RowKit.Hid (w'.heap[g]? = some (.cells (Go.splice cur off cs).toArray t (0, 0))) → RowKit.Hid (w.grownBy w' (some g)) → K (a.put o.dst (goInt cs.length)) w') :
  if Region.wanted o (yielded ops a.tmps) = true then Oper.wp P o a w K Q else E := by
 have hw : Region.wanted o (yielded ops a.tmps) = true := by simp [Region.wanted, hgd]
 rw [if_pos hw]
 by_cases h0 : cs.length = 0
 ·obtain rfl : cs = [] := List.eq_nil_of_length_eq_zero h0
  have hrun := run_copy_none (P := P) w dT sT o.type elem dp sp dLen dCap sLen sCap hu hsz (by simpa using hn.symm)
  unfold Oper.wp
  simp [execOp, ho, resolve, invoke, builtin, hd, hs, hrun, Result.andThen]
  exact h w (show _ = _ by simpa [Go.splice] using hg) (World.grownBy.refl _ _)
 ·obtain ⟨rfl, ad, rfl, hsrc⟩ := hpos (by omega)
  have hrun := run_copy_row (P := P) w dT sT o.type elem g off dLen dCap ad sLen sCap cur.toArray t cs hu hsz hg hn hsrc (by simpa using hfit) h1
  unfold Oper.wp
  simp [execOp, ho, resolve, invoke, builtin, hd, hs, hrun, Result.andThen]
  exact h _ (show _ = _ by simpa [Go.splice] using setRow_heap w g _ _ t _ hg) ⟨rfl, rfl, rfl, by simp [World.setRow], fun k _ hk => setRow_other w g k _ (fun e => hk (by rw [e]))⟩

/-- a stream that took the bytes M -/
def StX (w : World) (r : Nat) (M : List UInt8) (al : Nat) : Prop := ∃ wts, StR w r (shaRun shaH M) wts (M.length % 64) al ∧ wts.take (M.length % 64) = shaTail M
theorem StX.lt {w : World} {r : Nat} {M : List UInt8} {al : Nat} (h : StX w r M al) : r < w.heap.size := by
 obtain ⟨wts, h1, _⟩ := h
 exact h1.lt
theorem StX.keep {w w' : World} {r : Nat} {M : List UInt8} {al : Nat} (h : StX w r M al) (hb : Below w.heap.size w w') : StX w' r M al := by
 obtain ⟨wts, h1, h2⟩ := h
 exact ⟨wts, h1.keep hb, h2⟩
/-- a slice lies in another block -/
def Off (r : Nat) (s : Sl) (l : List UInt8) : Prop := l ≠ [] → ∀ a, s.a = some a → a.block ≠ r
theorem BytesR.keepOff {w w' : World} {r : Nat} {s : Sl} {l : List UInt8} (h : BytesR w s l) (ho : Off r s l) (hg : w.grownBy w' (some r)) : BytesR w' s l :=
 ⟨h.1, h.2.1, fun hl => by
  obtain ⟨b, off, ha, hc⟩ := h.2.2 hl
  refine ⟨b, off, ha, fun i hi => ?_⟩
  have hne := ho hl _ ha
  rw [World.cell?_of_block (a := ⟨b, off + i, none⟩) (hg.block b (lt_of_cell (hc i hi)) (fun e => hne (by injection e)))]
  exact hc i hi⟩
theorem splice_str (s : S8) (m p : List UInt8) (hv al : Nat) (hm : m.length = 64) (k : Nat) (h : k + p.length ≤ 64) :
  Go.splice (strL s m hv al) (72 + k) (p.map byteV) = strL s (Go.splice m k p) hv al := by
 have hl : (s.list.map u32V ++ shaK.map u32V).length = 72 := by simp [S8.list, shaK_length]
 have e : ∀ q, strL s q hv al = (s.list.map u32V ++ shaK.map u32V) ++ (q.map byteV ++ [.int .i64 (hv : Int), .int .u64 (al : Int)]) := fun q => by
  unfold strL strLL
  simp
 rw [e m, e (Go.splice m k p)]
 generalize s.list.map u32V ++ shaK.map u32V = A at *
 unfold Go.splice
 rw [List.length_map, List.take_append, List.drop_append, hl, List.take_of_length_le (by omega), List.drop_of_length_le (by omega), show 72 + k - 72 = k by omega, show 72 + k + p.length - 72 = k + p.length by omega,
  List.take_append_of_le_length (by simp; omega), List.drop_append_of_le_length (by simp; omega)]
 simp [List.map_take, List.map_drop]
theorem splice_len {α : Type} (m p : List α) (k : Nat) (h : k + p.length ≤ m.length) : (Go.splice m k p).length = m.length := Go.length_splice m k p h
theorem splice_take {α : Type} (m p : List α) (k : Nat) (h : k + p.length ≤ m.length) : (Go.splice m k p).take (k + p.length) = m.take k ++ p := by
 unfold Go.splice
 rw [← List.append_assoc, List.take_append_of_le_length (by simp; omega)]
 exact List.take_of_length_le (by simp; omega)
theorem strL_set_all (s : S8) (m : List UInt8) (hv al n : Nat) (hm : m.length = 64) : (strL s m hv al).toArray.setIfInBounds 137 (.int .u64 (n : Int)) = (strL s m hv n).toArray := by
 unfold strL strLL
 rw [List.setIfInBounds_toArray, List.set_append_right _ _ (by simp [S8.list, shaK_length, hm])]
 simp [S8.list, shaK_length, hm]
def slLen (v : Value) : Nat := match v with | .slice _ n _ => n | _ => 0

/-- the stream behind a piece that does not fill it -/
theorem StX.part {w : World} {r : Nat} {M p wts : List UInt8} {al : Nat} (h : StR w r (shaRun shaH M) (Go.splice wts (M.length % 64) p) (M.length % 64 + p.length) al) (ht : wts.take (M.length % 64) = shaTail M) (hl : wts.length = 64) (hp : M.length % 64 + p.length < 64) :
  StX w r (M ++ p) al := by
 obtain ⟨h1, h2⟩ := shaRun_tail M.length shaH M p (Nat.le_refl _) hp
 have e : (M ++ p).length % 64 = M.length % 64 + p.length := by simp; omega
 refine ⟨_, by rw [h1, e]; exact h, ?_⟩
 rw [e, splice_take _ _ _ (by omega), ht, h2]
/-- and behind one that does -/
theorem StX.full {w : World} {r : Nat} {M p wts : List UInt8} {al : Nat} (h : StR w r (shaBlk (shaRun shaH M) (Go.splice wts (M.length % 64) p)) (Go.splice wts (M.length % 64) p) 0 al) (ht : wts.take (M.length % 64) = shaTail M) (hl : wts.length = 64) (hp : M.length % 64 + p.length = 64) :
  StX w r (M ++ p) al := by
 obtain ⟨h1, h2⟩ := shaRun_full M.length shaH M p (Nat.le_refl _) hp
 have e : (M ++ p).length % 64 = 0 := by simp; omega
 have e2 : Go.splice wts (M.length % 64) p = shaTail M ++ p := by
  have := splice_take wts p (M.length % 64) (by omega)
  rw [hp, List.take_of_length_le (by rw [splice_len _ _ _ (by omega)]; omega)] at this
  rw [this, ht]
 rw [e2] at h
 exact ⟨_, by rw [h1, e]; exact h, by rw [e, h2]; rfl⟩

set_option maxRecDepth 100000 in
set_option maxHeartbeats 3200000 in
theorem add_c (r : Nat) (M : List UInt8) (al : Nat) (b : Sl) (l : List UInt8) (w : World) (h : StX w r M al) (hb : BytesR w b l) (hoff : Off r b l) (hal : al + l.length ≤ 1000000000) :
  Calls Try.prog 163 #[.pointer (some ⟨r, 0, none⟩), b.v] w fun e w' => e = .returned (.tuple #[]) ∧ StX w' r (M ++ l) (al + l.length) ∧ w.grownBy w' (some r) := by
 have hlt := h.lt
 obtain ⟨sa, sn, sc⟩ := b
 obtain rfl : sn = l.length := hb.1
 obtain ⟨wts0, h0, ht0⟩ := h
 have hl64 := h0.1
 have c137 := h0.all
 have f137 := h0.frozen 137
 have a0 : (0 : Int) ≤ (al : Int) := by omega
 have a1 : (al : Int) + (l.length : Int) ≤ 1000000000 := by omega
 have a2 : (0 : Int) ≤ (l.length : Int) := by omega
 have hset := heap_set w r 137 _ _ (.int .u64 ((al + l.length : Nat) : Int)) h0.2
 rw [strL_set_all _ _ _ _ _ hl64] at hset
 have hX0 := Lib.hid (show StX (w.setCell ⟨r, 137, none⟩ (.int .u64 ((al + l.length : Nat) : Int))) r (M ++ l.take 0) (al + l.length) from by
  rw [List.take_zero, List.append_nil]
  exact ⟨wts0, ⟨hl64, hset⟩, ht0⟩)
 have hG0 := Lib.hid (grown_set w r 137 (.int .u64 ((al + l.length : Nat) : Int)))
 have hb0 := Lib.hid (hb.keepOff hoff hG0.out)
 replace hoff := Lib.hid hoff
 clear h0 ht0 hset hb
 rw [show ((al + l.length : Nat) : Int) = (al : Int) + (l.length : Int) by omega] at hX0 hG0 hb0
 show Calls Try.prog 163 #[.pointer (some ⟨r, 0, none⟩), .slice sa l.length sc] w _
 go_enter Try.func163, Try.ntmps163
 go_wp2_with fail
 clear c137 f137 a0 a1
 have hzw : (w.setCell ⟨r, 137, none⟩ (.int .u64 ((al : Int) + (l.length : Int)))).heap.size = w.heap.size := by simp
 obtain ⟨tot, htot⟩ : ∃ tot, tot = al + l.length := ⟨_, rfl⟩
 rw [← htot] at hX0
 replace htot := Lib.hid htot
 generalize w.setCell ⟨r, 137, none⟩ (.int .u64 ((al : Int) + (l.length : Int))) = w1 at *
 go_loopw [1, 4] (fun bs _ W => ∃ (j : Nat) (t : Sl), j ≤ l.length ∧ bs = t.v ∧ Hid (BytesR W t (l.drop j)) ∧ Hid (Off r t (l.drop j)) ∧ Hid (StX W r (M ++ l.take j) tot) ∧ Hid (w.grownBy W (some r))) (fun bs _ _ => slLen bs)
 case atStart => exact ⟨0, ⟨sa, l.length, sc⟩, Nat.zero_le _, rfl, hb0, hoff, hX0, hG0⟩
 case round =>
  clear hX0 hG0 hb0 hzw
  obtain ⟨j, t, hj, hbs, hb, hof, hX, hG⟩ := hrel
  obtain ⟨ta, tn, tc⟩ := t
  obtain rfl : tn = (l.drop j).length := hb.out.1
  replace hbs : _ = Value.slice ta (l.drop j).length tc := hbs
  subst hbs
  by_cases hjx : j < l.length
  ·have hd0 : 0 < (l.drop j).length := by simp; omega
   obtain ⟨g, og, e, hg, hc⟩ := hb.out.at hd0
   have e1 := congrArg Sl.a e
   simp only at e1
   subst e1
   clear e
   have hgr : g ≠ r := hof.out (by intro e; rw [e] at hd0; simp at hd0) _ rfl
   obtain ⟨wts, hS, ht⟩ := hX.out
   have hl64 := hS.1
   have hcap : (l.drop j).length ≤ tc := hb.out.2.1
   generalize hdd' : l.drop j = d at *
   have hdd := hdd'.symm
   clear hdd'
   obtain ⟨M1, hM1⟩ : ∃ M1, M1 = M ++ l.take j := ⟨_, rfl⟩
   have hdl : d.length = l.length - j := by rw [hdd]; simp
   replace hdl := Lib.hid hdl
   rw [← hM1] at hS ht
   obtain ⟨n, hn⟩ : ∃ n, n = min d.length (64 - M1.length % 64) := ⟨_, rfl⟩
   have hnext := Lib.hid (show M ++ l.take (j + n) = M1 ++ d.take n ∧ l.drop (j + n) = d.drop n ∧ j + n ≤ l.length from by
    refine ⟨?_, ?_, by have := hdl.out; omega⟩
    ·rw [hM1, hdd, List.append_assoc, List.take_add]
    ·rw [hdd, List.drop_drop])
   have hv64 : M1.length % 64 < 64 := Nat.mod_lt _ (by omega)
   obtain ⟨hv, hhv⟩ : ∃ hv, hv = M1.length % 64 := ⟨_, rfl⟩
   rw [← hhv] at hS ht hn hv64
   have c136 := hS.have_
   have n0 : 0 < n := by omega
   have n1 : n ≤ d.length := by omega
   have n2 : hv + n ≤ 64 := by omega
   obtain ⟨p, hp⟩ : ∃ p, p = d.take n := ⟨_, rfl⟩
   have hpl : p.length = n := by rw [hp, List.length_take]; omega
   obtain ⟨cs, hcs⟩ : ∃ cs, cs = p.map byteV := ⟨_, rfl⟩
   have hcl : cs.length = n := by rw [hcs, List.length_map, hpl]
   have hcn : cs.length = Nat.min d.length (64 - hv) := by rw [hcl, hn]
   have hsrc : ∀ (W : World), Below wr.heap.size wr W → 0 < cs.length → some (⟨r, 72 + hv, none⟩ : Addr) = some ⟨r, 72 + hv, none⟩ ∧ ∃ ad, some (⟨g, og, none⟩ : Addr) = some ad ∧ ∀ i v, cs[i]? = some v → W.cell? (ad.add i) = some v := fun W hW _ => ⟨rfl, _, rfl, fun i v hiv => by
    have hadd : (⟨g, og, none⟩ : Addr).add i = ⟨g, og + i, none⟩ := by unfold Addr.add; split <;> simp_all
    have hi : i < p.length := by
     have := (List.getElem?_eq_some_iff.1 hiv).1
     rw [hcs] at this
     simpa using this
    have hi2 : i < d.length := by omega
    rw [hadd, (hW.cell (p := ⟨g, og + i, none⟩) (lt_of_cell (hc i hi2))), hc i hi2]
    rw [hcs, List.getElem?_map, List.getElem?_eq_getElem hi] at hiv
    simp only [Option.map_some] at hiv
    rw [← hiv]
    simp [hp]⟩
   have hone : ∀ v ∈ cs, v.oneCell' = true := fun v hv' => by
    rw [hcs] at hv'
    obtain ⟨x, _, rfl⟩ := List.mem_map.1 hv'
    rfl
   have hfit : 72 + hv + cs.length ≤ (strL (shaRun shaH M1) wts hv tot).length := by rw [strL_length _ _ _ _ hl64]; omega
   have hspl := splice_str (shaRun shaH M1) wts p hv tot hl64 hv (by omega)
   rw [← hcs] at hspl
   have hlw : (Go.splice wts hv p).length = 64 := by rw [splice_len _ _ _ (by omega), hl64]
   have hdr : wr.drew.heap[r]? = some (.cells (strL (shaRun shaH M1) wts hv tot).toArray 237 (0, 0)) := hS.2
   have hsd := hsrc wr.drew ((Below.refl _ _).drew)
   have i0 : (0 : Int) ≤ (hv : Int) := by omega
   have i1 : (hv : Int) ≤ 64 := by omega
   have i2 : (hv : Int) < 64 := by omega
   have i3 : ¬ hv = 64 := by omega
   have i4 : ¬ 64 = hv := by omega
   have i5 : ¬ (64 : Int) < (hv : Int) := by omega
   have i6 : (0 : Int) < (d.length : Int) := by omega
   have hz := hcl
   replace hcn := Lib.hid hcn
   replace hcl := Lib.hid hcl
   replace hpl := Lib.hid hpl
   replace hspl := Lib.hid hspl
   replace hfit := Lib.hid hfit
   replace hn := Lib.hid hn
   replace hp := Lib.hid hp
   replace hcs := Lib.hid hcs
   replace hhv := Lib.hid hhv
   replace ht := Lib.hid ht
   replace hlw := Lib.hid hlw
   replace hM1 := Lib.hid hM1
   replace hdd := Lib.hid hdd
   clear hz hX hsrc
   go_upto_region 2 with fail
   have hS0 : wr.drew.cell? ⟨r, 136, none⟩ = some (.int .i64 (hv : Int)) := c136
   go_region_held3 (fun W => W.cell? ⟨r, 136, none⟩ = some (.int .i64 (hv : Int)))
    (first | go_keep | (with_reducible assumption))
    (first
     | (refine step_copy_grown (by rfl) (.tmp 25) (.tmp 26) 32 32 (by rfl) 5 Try.underlying32 (by kernel_rfl) (some ⟨r, 72 + hv, none⟩) (some ⟨g, og, none⟩) (64 - hv) (64 - hv) d.length tc (by rfl) (by rfl) r (72 + hv) (strL (shaRun shaH M1) wts hv tot) 237 hdr cs hcn.out hsd hfit.out hone ?_; intro w4 hg4 hb4; have hS4 : w4.cell? ⟨r, 136, none⟩ = some (.int .i64 (hv : Int)) := (cell_of_row w4 r 136 _ _ _ hg4.out).trans (by rw [hspl.out, List.getElem?_toArray]; exact strL_have _ _ _ _ hlw.out)))
   rename_i hHeld
   clear hHeld hS0 hS4 hdr hsd hone c136
   rw [hcl.out]
   have hh4 := hg4.out.trans (by rw [hspl.out] : _ = some (Obj.cells (strL (shaRun shaH M1) (Go.splice wts hv p) hv tot).toArray 237 (0, 0)))
   have q136 := cell_of_row w4 r 136 _ _ _ hh4
   have f136 := frozen_of_row w4 r 136 _ _ hh4
   rw [List.getElem?_toArray, strL_have _ _ _ _ hlw.out] at q136
   have hset5 := heap_set w4 r 136 _ _ (.int .i64 ((hv + n : Nat) : Int)) hh4
   rw [strL_noneWait _ _ _ _ hlw.out] at hset5
   have hG5 := Lib.hid ((hG.out.trans (grown_undrew hb4.out)).trans (grown_set w4 r 136 (.int .i64 ((hv + n : Nat) : Int))))
   have hbW := fun (W' : World) (hh : wr.grownBy W' (some r)) => hb.out.keepOff hof.out hh
   have hwr5 := (grown_undrew hb4.out).trans (grown_set w4 r 136 (.int .i64 ((hv + n : Nat) : Int)))
   rw [show ((hv + n : Nat) : Int) = (hv : Int) + (n : Int) by omega] at hset5 hG5 hwr5
   clear hg4 hb4 hh4
   replace hset5 := Lib.hid hset5
   replace hwr5 := Lib.hid hwr5
   have k0 : (0 : Int) ≤ (n : Int) := by omega
   have k1 : (n : Int) ≤ (d.length : Int) := by omega
   have k2 : (n : Int) ≤ (tc : Int) := by omega
   have k3 : (hv : Int) + (n : Int) ≤ 64 := by omega
   have hend : ∀ (W' : World) (o : Nat) (c : Nat), wr.grownBy W' (some r) → (o = og + n ∧ c = tc - n ∨ d.length = n) → BytesR W' ⟨some ⟨g, o, none⟩, d.length - n, c⟩ (l.drop (j + n)) ∧ Off r ⟨some ⟨g, o, none⟩, d.length - n, c⟩ (l.drop (j + n)) := fun W' o c hh ho => by
    rw [hnext.out.2.1]
    refine ⟨?_, fun _ a ha => by injection ha with ha; subst ha; exact hgr⟩
    by_cases hdn : d.length = n
    ·rw [List.drop_eq_nil_of_le (by omega)]
     exact ⟨by simp; omega, by show d.length - n ≤ c; omega, fun h => absurd rfl h⟩
    ·obtain ⟨rfl, rfl⟩ : o = og + n ∧ c = tc - n := by
      rcases ho with h | h
      ·exact h
      ·exact absurd h hdn
     obtain ⟨b', o', e, hc'⟩ := (hbW W' hh).2.2 (by intro e; rw [e] at hd0; simp at hd0)
     have e1 : (⟨g, og, none⟩ : Addr) = ⟨b', o', none⟩ := by simpa using e
     injection e1 with e1 e2
     subst e1 e2
     exact drop_reads hc' n _ (by omega)
   replace hend := Lib.hid hend
   clear hbW hc hb hof
   by_cases hfull : hv + n = 64
   ·have hq : ((hv : Int) + (n : Int) == 64) = true := by rw [beq_iff_eq]; omega
    have HB := block_c r (shaRun shaH M1) (Go.splice wts hv p) (hv + n) tot _ ⟨hlw.out, hset5.out⟩
    have hful := Lib.hid (show ∀ w6, StR w6 r (shaBlk (shaRun shaH M1) (Go.splice wts hv p)) (Go.splice wts hv p) 0 tot → StX w6 r (M ++ l.take (j + n)) tot from fun w6 h6 => by
     rw [hnext.out.1, ← hp.out]
     refine StX.full (wts := wts) ?_ (by rw [← hhv.out]; exact ht.out) hl64 (by rw [← hhv.out, hpl.out]; exact hfull)
     rw [← hhv.out]
     exact h6)
    replace hfull := Lib.hid hfull
    clear hset5
    by_cases hcp : tc = n
    ·have hdn : d.length = n := by omega
     replace hdn := Lib.hid hdn
     go_wp2_with (go_at_call 200; (with_reducible refine HB.mono ?_); rintro e w6 ⟨rfl, hS6, hg6⟩)
     have hX6 := Lib.hid (hful.out w6 hS6)
     have hG6 := Lib.hid (hG5.out.trans hg6)
     have hw6 := Lib.hid (hwr5.out.trans hg6)
     clear hS6 hg6 HB
     go_roundw
     case rel => exact ⟨j + n, ⟨some ⟨g, og, none⟩, d.length - n, 0⟩, hnext.out.2.2, rfl, Lib.hid (hend.out _ _ _ hw6.out (.inr hdn.out)).1, Lib.hid (hend.out _ og 0 hw6.out (.inr hdn.out)).2, hX6, hG6⟩
     case measure => (first | (simp [slLen]; done) | (simp [slLen]; omega))
    ·go_wp2_with (go_at_call 200; (with_reducible refine HB.mono ?_); rintro e w6 ⟨rfl, hS6, hg6⟩)
     have hX6 := Lib.hid (hful.out w6 hS6)
     have hG6 := Lib.hid (hG5.out.trans hg6)
     have hw6 := Lib.hid (hwr5.out.trans hg6)
     clear hS6 hg6 HB
     go_roundw
     case rel => exact ⟨j + n, ⟨some ⟨g, og + n, none⟩, d.length - n, tc - n⟩, hnext.out.2.2, rfl, Lib.hid (hend.out _ _ _ hw6.out (.inl ⟨rfl, rfl⟩)).1, Lib.hid (hend.out _ _ (tc - n) hw6.out (.inl ⟨rfl, rfl⟩)).2, hX6, hG6⟩
     case measure => (first | (simp [slLen]; done) | (simp [slLen]; omega))
   ·have hq : ((hv : Int) + (n : Int) == 64) = false := by rw [beq_eq_false_iff_ne]; omega
    have hdn : d.length = n := by have := hn.out; omega
    have hX6 := Lib.hid (show StX (w4.setCell ⟨r, 136, none⟩ (.int .i64 ((hv : Int) + (n : Int)))) r (M ++ l.take (j + n)) tot from by
     rw [hnext.out.1, ← hp.out]
     refine StX.part (wts := wts) ⟨by rw [← hhv.out]; exact hlw.out, ?_⟩ (by rw [← hhv.out]; exact ht.out) hl64 (by rw [← hhv.out, hpl.out]; omega)
     rw [← hhv.out, hpl.out]
     exact hset5.out)
    replace hdn := Lib.hid hdn
    clear hset5
    by_cases hcp : tc = n
    ·go_wp2_with fail
     go_roundw
     case rel => exact ⟨j + n, ⟨some ⟨g, og, none⟩, d.length - n, 0⟩, hnext.out.2.2, rfl, Lib.hid (hend.out _ _ _ hwr5.out (.inr hdn.out)).1, Lib.hid (hend.out _ og 0 hwr5.out (.inr hdn.out)).2, hX6, hG5⟩
     case measure => (first | (simp [slLen]; done) | (simp [slLen]; omega))
    ·go_wp2_with fail
     go_roundw
     case rel => exact ⟨j + n, ⟨some ⟨g, og + n, none⟩, d.length - n, tc - n⟩, hnext.out.2.2, rfl, Lib.hid (hend.out _ _ _ hwr5.out (.inr hdn.out)).1, Lib.hid (hend.out _ (og + n) (tc - n) hwr5.out (.inr hdn.out)).2, hX6, hG5⟩
     case measure => (first | (simp [slLen]; done) | (simp [slLen]; omega))
  ·obtain rfl : j = l.length := by omega
   have hX6 := hX.out
   rw [List.take_length] at hX6
   replace hX6 := Lib.hid hX6
   have hd0 : (l.drop l.length).length = 0 := by simp
   rw [hd0]
   clear hX hb hof
   go_wp2_with fail
   go_end0
   exact ⟨rfl, by rw [← htot.out]; exact hX6.out, hG.out⟩
end Go.Proofs.Ythdjhbiigmcecaa

/- (*sha.stream).end and sha.Sum. -/
namespace Go.Proofs.Ythdjhbiigmcecaa
open Go.RowKit

def hvOf (W : World) (r : Nat) : Nat := match W.cell? ⟨r, 136, none⟩ with | some v => (intOf v).toNat | none => 0
theorem StX.haveOf {w : World} {r : Nat} {M : List UInt8} {al : Nat} (h : StX w r M al) : hvOf w r = M.length % 64 := by
 obtain ⟨wts, h1, _⟩ := h
 unfold hvOf
 rw [h1.have_]
 simp only [intOf]
 omega
theorem StX.c136 {w : World} {r : Nat} {M : List UInt8} {al : Nat} (h : StX w r M al) : w.cell? ⟨r, 136, none⟩ = some (.int .i64 ((M.length % 64 : Nat) : Int)) := by
 obtain ⟨wts, h1, _⟩ := h
 exact h1.have_
theorem StX.c137 {w : World} {r : Nat} {M : List UInt8} {al : Nat} (h : StX w r M al) : w.cell? ⟨r, 137, none⟩ = some (.int .u64 (al : Int)) := by
 obtain ⟨wts, h1, _⟩ := h
 exact h1.all
theorem StX.rowE {w : World} {r : Nat} {M : List UInt8} {al : Nat} (h : StX w r M al) : row? w r 0 8 = some (s8A (shaRun shaH M)) := by
 obtain ⟨wts, h1, _⟩ := h
 refine row?_of_cells rfl (by omega) fun j hj => ?_
 have hj8 : j < 8 := hj
 rw [Nat.zero_add, h1.eight j hj8]
 rcases (show j = 0 ∨ j = 1 ∨ j = 2 ∨ j = 3 ∨ j = 4 ∨ j = 5 ∨ j = 6 ∨ j = 7 by omega) with rfl | rfl | rfl | rfl | rfl | rfl | rfl | rfl <;> rfl
/-- a byte of the hash -/
theorem shaOut_get (s : S8) (i k : Nat) (hi : i < 8) (hk : k < 4) : (shaOut s)[4 * i + k]'(by rw [shaOut_length]; omega) = UInt8.ofNat ((s.list[i]'hi).toNat / 256 ^ (3 - k)) := by
 have hl : ∀ x, (be4 x).length = 4 := fun x => be_length 4 _
 have e : shaOut s = be4 s.a ++ be4 s.b ++ be4 s.c ++ be4 s.d ++ be4 s.e ++ be4 s.f ++ be4 s.g ++ be4 s.h := by simp [shaOut, S8.list]
 have hb : ∀ x, (be4 x)[k]? = some (UInt8.ofNat (x.toNat / 256 ^ (3 - k))) := fun x => by
  rw [List.getElem?_eq_getElem (by rw [hl]; exact hk)]
  exact congrArg some (be_get 4 _ k hk)
 have h1 : (shaOut s)[4 * i + k]? = (be4 (s.list[i]'hi))[k]? := by
  rw [e]
  rcases (show i = 0 ∨ i = 1 ∨ i = 2 ∨ i = 3 ∨ i = 4 ∨ i = 5 ∨ i = 6 ∨ i = 7 by omega) with rfl | rfl | rfl | rfl | rfl | rfl | rfl | rfl <;>
   simp [List.getElem?_append, hl, S8.list] <;> (repeat (first | rw [if_neg (by omega)] | rw [if_pos (by omega)])) <;> (try (congr 1; omega))
 rw [hb, List.getElem?_eq_getElem (by rw [shaOut_length]; omega)] at h1
 exact Option.some.inj h1

theorem grown_setN {w W : World} {row : Option Nat} (h : w.grownBy W row) {b : Nat} (hb : w.heap.size ≤ b) (i : Nat) (v : Value) : w.grownBy (W.setCell ⟨b, i, none⟩ v) row :=
 ⟨h.os, h.tape, h.output, by rw [World.size_setCell]; exact h.size, fun k hk hr => (Below.heap_setCell W ⟨b, i, none⟩ v k (by show k ≠ b; omega)).trans (h.block k hk hr)⟩
theorem out_byte (S : S8) (i k : Nat) (hi : i < 8) (hk : k < 4) : byteV ((shaOut S)[4 * i + k]'(by rw [shaOut_length]; omega)) = .int .u8 (u32I (S.at i) / ((256 ^ (3 - k) : Nat) : Int) % 256) := by
 rw [shaOut_get S i k hi hk, S8.at_eq S i hi, byteV_div]
 rfl
theorem fill_word (S : S8) (i : Nat) (hi : i < 8) (W : World) (b : Nat) (T : TypeId) (h : W.heap[b]? = some (.cells (fillA (shaOut S) (4 * i)) T (0, 0))) (x : Int) (hx : x = u32I (S.at i)) (n : Nat) (hn : n = 4 * i) :
  ((((W.setCell ⟨b, n, none⟩ (.int .u8 (x / 16777216))).setCell ⟨b, n + 1, none⟩ (.int .u8 (x / 65536 % 256))).setCell ⟨b, n + 2, none⟩ (.int .u8 (x / 256 % 256))).setCell ⟨b, n + 3, none⟩ (.int .u8 (x % 256))).heap[b]? = some (.cells (fillA (shaOut S) (4 * (i + 1))) T (0, 0)) := by
 subst hn
 have hl := shaOut_length S
 obtain ⟨x0, x1⟩ := u32I_bd (S.at i)
 have e0 := out_byte S i 0 hi (by omega)
 have e1 := out_byte S i 1 hi (by omega)
 have e2 := out_byte S i 2 hi (by omega)
 have e3 := out_byte S i 3 hi (by omega)
 rw [← hx] at e0 e1 e2 e3 x0 x1
 have v0 : Value.int .u8 (x / 16777216) = byteV ((shaOut S)[4 * i + 0]'(by omega)) := by rw [e0]; exact congrArg (Value.int .u8) (by show x / 16777216 = x / 16777216 % 256; omega)
 have v1 : Value.int .u8 (x / 65536 % 256) = byteV ((shaOut S)[4 * i + 1]'(by omega)) := by rw [e1]; rfl
 have v2 : Value.int .u8 (x / 256 % 256) = byteV ((shaOut S)[4 * i + 2]'(by omega)) := by rw [e2]; rfl
 have v3 : Value.int .u8 (x % 256) = byteV ((shaOut S)[4 * i + 3]'(by omega)) := by rw [e3]; exact congrArg (Value.int .u8) (by show x % 256 = x / 1 % 256; omega)
 rw [v0, v1, v2, v3]
 have h' : W.heap[b]? = some (.cells (fillA (shaOut S) (4 * i + 0)) T (0, 0)) := h
 have s0 := heap_set W b (4 * i + 0) _ _ (byteV ((shaOut S)[4 * i + 0]'(by omega))) h'
 rw [fillA_step _ (4 * i + 0) (by omega) (by omega)] at s0
 have s1 := heap_set _ b (4 * i + 1) _ _ (byteV ((shaOut S)[4 * i + 1]'(by omega))) s0
 rw [fillA_step _ (4 * i + 1) (by omega) (by omega)] at s1
 have s2 := heap_set _ b (4 * i + 2) _ _ (byteV ((shaOut S)[4 * i + 2]'(by omega))) s1
 rw [fillA_step _ (4 * i + 2) (by omega) (by omega)] at s2
 have s3 := heap_set _ b (4 * i + 3) _ _ (byteV ((shaOut S)[4 * i + 3]'(by omega))) s2
 rw [fillA_step _ (4 * i + 3) (by omega) (by omega)] at s3
 exact s3
attribute [local go_sem ↓] load_a8_s
attribute [local go_sem] load_a8
theorem idx8 (cs : Array Value) (h : cs.size = 8) (i : Nat) (hi : i < 8) (W : World) : (Instr.index 157 (.agg cs) (.int .i64 (i : Int))).run Try.prog W = .ok (cs.getD i undef) W := by
 have h1 : (0 : Int) ≤ (i : Int) ∧ (i : Int) < ((8 : Nat) : Int) := by omega
 have hs : ∀ W, (Go.sizeOf 156).run Try.prog W = .ok 1 W := fun W => by simp [go_sem]
 simp only [Instr.index, asIntOf, Sem.run_bind, pure_bind, run_underlying Try.underlying157]
 simp only [Result.andThen]
 rw [if_pos h1]
 simp only [Sem.run_bind, hs, Result.andThen, Int.toNat_natCast, Nat.mul_one]
 simp [part, go_sem, h, hi]
theorem idx8S (S : S8) (k : Nat) (hk : k < 8) (W : World) : (Instr.index 157 (.agg #[.int .u32 (u32I (S.at 0)), .int .u32 (u32I (S.at 1)), .int .u32 (u32I (S.at 2)), .int .u32 (u32I (S.at 3)), .int .u32 (u32I (S.at 4)), .int .u32 (u32I (S.at 5)), .int .u32 (u32I (S.at 6)), .int .u32 (u32I (S.at 7))]) (.int .i64 (k : Int))).run Try.prog W = .ok (.int .u32 (u32I (S.at k))) W := by
 rw [idx8 _ rfl k hk]
 rcases (show k = 0 ∨ k = 1 ∨ k = 2 ∨ k = 3 ∨ k = 4 ∨ k = 5 ∨ k = 6 ∨ k = 7 by omega) with rfl | rfl | rfl | rfl | rfl | rfl | rfl | rfl <;> rfl
theorem fillA_full (l : List UInt8) (h : l.length = 32) : fillA l 32 = hashA ⟨l, h⟩ := by
 simp [fillA, hashA, List.take_of_length_le (Nat.le_of_eq h)]
theorem rowHeap {w : World} {b : Nat} {cs : Array Value} {t : TypeId} {n : Nat} (h : w.heap[b]? = some (.cells cs t (0, 0))) (hn : cs.size = n) : row? w b 0 n = some cs := by
 unfold row?
 rw [h]
 simp only [Nat.zero_add]
 rw [if_pos (by omega)]
 subst hn
 simp
theorem fill_byte (S : S8) (i j : Nat) (hi : i < 8) (hj : j < 4) (W : World) (b : Nat) (T : TypeId) (v : Value) (hv : v = .int .u8 (u32I (S.at i) / ((256 ^ (3 - j) : Nat) : Int) % 256)) (h : W.heap[b]? = some (.cells (fillA (shaOut S) (4 * i + j)) T (0, 0))) :
  (W.setCell ⟨b, 4 * i + j, none⟩ v).heap[b]? = some (.cells (fillA (shaOut S) (4 * i + (j + 1))) T (0, 0)) := by
 have hl := shaOut_length S
 have := heap_set W b (4 * i + j) _ _ v h
 rw [hv, ← out_byte S i j hi hj, fillA_step _ (4 * i + j) (by omega) (by omega)] at this
 rw [hv, ← out_byte S i j hi hj]
 exact this
theorem end_res : Try.f164.results = #[.cell 2 24] := by kernel_rfl
set_option maxRecDepth 100000 in
set_option maxHeartbeats 3200000 in
theorem end_c (r : Nat) (M : List UInt8) (w : World) (h : StX w r M M.length) (hM : M.length ≤ 100000000) :
  Calls Try.prog 164 #[.pointer (some ⟨r, 0, none⟩)] w fun e w' => e = .returned (.agg (hashA (shaSum M))) ∧ w.grownBy w' (some r) := by
 have hlt := h.lt
 have c137 := h.c137
 have hne1 : ¬ r = w.heap.size := by omega
 have hne2 : ¬ w.heap.size = r := by omega
 have a0 : (M.length : Int) ≤ 100000000 := by omega
 replace h := Lib.hid h
 go_enter Try.func164, Try.ntmps164
 go_upto_region 2 with fail
 -- the byte 128
 obtain ⟨W1, hW1⟩ : ∃ W1, W1 = (w.alloc (.cells (hashA zeroHash) 24)).alloc (.cells #[.int .u8 128] 5) := ⟨_, rfl⟩
 have hB1 : Below w.heap.size w W1 := by rw [hW1]; (repeat' (first | (with_reducible first | exact Below.refl _ _ | assumption | refine bel_trans (by assumption) ?_ ?_ | refine bel_grown (by assumption) ?_ ?_ ?_ | refine Below.alloc ?_ ?_ _ | refine Below.drew ?_ | refine below_drewN ?_ _ | refine Below.setCell ?_ ?_ _ | refine below_put ?_ ?_ _ _ | exact Nat.le_refl _) | omega | (with_reducible first | refine Nat.le_trans ?_ (Below.size (by assumption)) | refine Nat.le_trans ?_ (World.grownBy.size (by assumption))) | (simp only [World.size_alloc, World.size_setCell, World.size_drew, size_drewN]; omega) | (simp only [World.size_alloc, World.size_setCell, World.size_drew, size_drewN, size_put]; omega) | (intro k hk; simp [Value.ownBlock] at hk; first | done | omega) | (simp [size_drewN] at *; omega)))
 have hsz1 : W1.heap.size = w.heap.size + 2 := by rw [hW1]; simp
 have hH1 : W1.heap[w.heap.size]? = some (.cells (fillA (shaOut (shaRun shaH (shaPad M))) 0) 24 (0, 0)) := by
  rw [hW1, fillA_zero]
  exact (Below.block (B := w.heap.size + 1) (by (repeat' (first | (with_reducible first | exact Below.refl _ _ | assumption | refine bel_trans (by assumption) ?_ ?_ | refine bel_grown (by assumption) ?_ ?_ ?_ | refine Below.alloc ?_ ?_ _ | refine Below.drew ?_ | refine below_drewN ?_ _ | refine Below.setCell ?_ ?_ _ | refine below_put ?_ ?_ _ _ | exact Nat.le_refl _) | omega | (with_reducible first | refine Nat.le_trans ?_ (Below.size (by assumption)) | refine Nat.le_trans ?_ (World.grownBy.size (by assumption))) | (simp only [World.size_alloc, World.size_setCell, World.size_drew, size_drewN]; omega) | (simp only [World.size_alloc, World.size_setCell, World.size_drew, size_drewN, size_put]; omega) | (intro k hk; simp [Value.ownBlock] at hk; first | done | omega) | (simp [size_drewN] at *; omega))) : Below (w.heap.size + 1) (w.alloc (.cells (hashA zeroHash) 24)) _) _ (by omega)).trans (heap_alloc_new w _)
 have hb1 : BytesR W1 ⟨some ⟨w.heap.size + 1, 0, none⟩, 1, 1⟩ [128] := by
  rw [hW1]
  exact BytesR.one _ _ _ _ _ (by simp) rfl
 have HA := add_c r M M.length ⟨some ⟨w.heap.size + 1, 0, none⟩, 1, 1⟩ [128] W1 (h.out.keep hB1) hb1 (fun _ a ha => by injection ha with ha; subst ha; show w.heap.size + 1 ≠ r; omega) (by simp; omega)
 go_wp2_with ((go_at_call 163); rw [← hW1]; (with_reducible refine HA.mono ?_); rintro e w2 ⟨rfl, hX2, hG2⟩)
 have hH2 := Lib.hid ((hG2.block w.heap.size (by omega) (fun e => hne2 (by injection e))).trans hH1)
 have hGw : w.grownBy W1 (some r) := ⟨hB1.os, hB1.tape, hB1.output, hB1.size, fun k hk _ => hB1.block k hk⟩
 have hG3 := Lib.hid (hGw.trans hG2)
 have hX3 := Lib.hid (show StX w2 r (M ++ [128] ++ List.replicate 0 0) (M.length + 1 + 0) from by simpa using hX2)
 obtain ⟨out, hout⟩ : ∃ out, out = shaOut (shaRun shaH (shaPad M)) := ⟨_, rfl⟩
 rw [← hout] at hH2
 have hol : out.length = 32 := by rw [hout]; exact shaOut_length _
 clear hH1 hGw hX2 hG2 HA hb1 hB1 hsz1 hW1 W1 c137
 replace hout := Lib.hid hout
 replace hol := Lib.hid hol
 generalize w2 = w3 at *
 -- loop 1
 go_loopw [20] (fun _ W => ∃ z : Nat, z ≤ shaZeros M.length ∧ Hid (StX W r (M ++ [128] ++ List.replicate z 0) (M.length + 1 + z)) ∧ Hid (W.heap[w.heap.size]? = some (.cells (fillA out 0) 24 (0, 0))) ∧ Hid (w.grownBy W (some r))) (fun _ W => (120 - hvOf W r) % 64)
 case atStart => exact ⟨0, Nat.zero_le _, hX3, hH2, hG3⟩
 case round =>
  clear hX3 hH2 hG3
  obtain ⟨z, hz, hX, hH, hG⟩ := hrel
  have hZ : shaZeros M.length = (119 - M.length % 64) % 64 := rfl
  have hlen : (M ++ [128] ++ List.replicate z (0 : UInt8)).length = M.length + 1 + z := by simp only [List.length_append, List.length_replicate, List.length_singleton]
  have hc := hX.out.c136
  have hv1 := hX.out.haveOf
  rw [hlen] at hc hv1
  have hltr := hX.out.lt
  by_cases hzx : z < shaZeros M.length
  ·have hne56 : (M.length + 1 + z) % 64 ≠ 56 := by omega
   obtain ⟨W1, hW1⟩ : ∃ W1, W1 = wr.alloc (.cells #[.int .u8 0] 5) := ⟨_, rfl⟩
   have hB1 : Below wr.heap.size wr W1 := by rw [hW1]; exact bel_a _ _
   have hb1 : BytesR W1 ⟨some ⟨wr.heap.size, 0, none⟩, 1, 1⟩ [0] := by
    rw [hW1]
    exact BytesR.one _ _ _ _ _ rfl rfl
   have HA := add_c r _ _ ⟨some ⟨wr.heap.size, 0, none⟩, 1, 1⟩ [0] W1 (hX.out.keep hB1) hb1 (fun _ a ha => by injection ha with ha; subst ha; show wr.heap.size ≠ r; omega) (by simp; omega)
   have hlt2 : w.heap.size < wr.heap.size := (Array.getElem?_eq_some_iff.1 hH.out).1
   generalize hhv : (M.length + 1 + z) % 64 = hv at *
   replace hhv := Lib.hid hhv
   have hq : ((hv : Int) != 56) = true := by rw [bne_iff_ne]; omega
   replace hv1 := Lib.hid hv1
   replace hne56 := Lib.hid hne56
   replace hlen := Lib.hid hlen
   replace hZ := Lib.hid hZ
   replace hX := hX
   go_wp2_with ((go_at_call 163); rw [← hW1]; (with_reducible refine HA.mono ?_); rintro e w4 ⟨rfl, hX4, hG4⟩)
   have hH4 := Lib.hid ((hG4.block w.heap.size (by have := hB1.size; omega) (fun e => hne2 (by injection e))).trans ((hB1.block _ hlt2).trans hH.out))
   have hGw : wr.grownBy W1 (some r) := ⟨hB1.os, hB1.tape, hB1.output, hB1.size, fun k hk _ => hB1.block k hk⟩
   have hG5 := Lib.hid (hG.out.trans (hGw.trans hG4))
   have hX5 := Lib.hid (show StX w4 r (M ++ [128] ++ List.replicate (z + 1) 0) (M.length + 1 + (z + 1)) from by
    rw [List.replicate_succ', ← List.append_assoc]
    exact hX4)
   have hv4 := hX5.out.haveOf
   have hlen5 : (M ++ [128] ++ List.replicate (z + 1) (0 : UInt8)).length = M.length + 1 + (z + 1) := by simp only [List.length_append, List.length_replicate, List.length_singleton]
   rw [hlen5] at hv4
   replace hv4 := Lib.hid hv4
   clear hX4 hGw hG4 HA hb1 hB1 hW1 hlen5
   go_roundw
   case rel => exact ⟨z + 1, by omega, hX5, hH4, hG5⟩
   case measure => rw [hv4.out, hv1.out]; have := hne56.out; have := hhv.out; omega
  ·obtain rfl : z = shaZeros M.length := by omega
   have h56 : (M.length + 1 + shaZeros M.length) % 64 = 56 := by omega
   rw [h56] at hc
   have hX6 := hX
   clear hX hv1 hlen hzx hz h56
   obtain ⟨B, hB⟩ : ∃ B, B = M ++ [128] ++ List.replicate (shaZeros M.length) 0 := ⟨_, rfl⟩
   rw [← hB] at hX6
   have hBl : B.length = M.length + 1 + shaZeros M.length := by rw [hB]; simp only [List.length_append, List.length_replicate, List.length_singleton]
   rw [← hBl] at hX6
   have hB64 : B.length ≤ 100000100 := by omega
   replace hBl := Lib.hid hBl
   replace hB := Lib.hid hB
   have hX7 := Lib.hid (show StX wr r (B ++ (be 8 (M.length * 8)).take (0 : Int).toNat) (B.length + (0 : Int).toNat) from by simpa using hX6.out)
   clear hX6 hZ
   generalize wr = w5 at *
   go_wp2_with fail
   clear hc
   -- loop 2
   go_loopw [4, 24] (fun _ i W => ∃ z : Int, i = .int .i64 z ∧ 0 ≤ z ∧ z ≤ 8 ∧ Hid (StX W r (B ++ (be 8 (M.length * 8)).take z.toNat) (B.length + z.toNat)) ∧ Hid (W.heap[w.heap.size]? = some (.cells (fillA out 0) 24 (0, 0))) ∧ Hid (w.grownBy W (some r))) (fun _ i _ => 8 - (intOf i).toNat)
   case atStart => exact ⟨0, rfl, by omega, by omega, hX7, hH, hG⟩
   case round =>
    clear hX7 hH hG
    obtain ⟨z, rfl, hz0, hz8, hX, hH, hG⟩ := hrel
    have hltr := hX.out.lt
    by_cases hzx : z < 8
    ·have HA := fun (x : Int) (c : UInt8) (hx : byteV c = .int .u8 x) => add_c r _ _ ⟨some ⟨wr.heap.size, 0, none⟩, 1, 1⟩ [c] (wr.alloc (.cells #[.int .u8 x] 5)) (hX.out.keep (bel_a _ _)) (BytesR.one _ _ _ _ _ rfl hx) (fun _ a ha => by injection ha with ha; subst ha; show wr.heap.size ≠ r; omega) (by simp; omega)
     have hlt2 : w.heap.size < wr.heap.size := (Array.getElem?_eq_some_iff.1 hH.out).1
     have hend := Lib.hid (show ∀ (o : Obj) (w4 : World), (wr.alloc o).grownBy w4 (some r) → w4.heap[w.heap.size]? = some (.cells (fillA out 0) 24 (0, 0)) ∧ w.grownBy w4 (some r) from fun o w4 hg => by
      have hB1 := bel_a wr o
      have hGw : wr.grownBy (wr.alloc o) (some r) := ⟨hB1.os, hB1.tape, hB1.output, hB1.size, fun k hk _ => hB1.block k hk⟩
      exact ⟨(hg.block w.heap.size (by have := hB1.size; omega) (fun e => hne2 (by injection e))).trans ((hB1.block _ hlt2).trans hH.out), hG.out.trans (hGw.trans hg)⟩)
     clear hX hH hG
     rcases (show z = 0 ∨ z = 1 ∨ z = 2 ∨ z = 3 ∨ z = 4 ∨ z = 5 ∨ z = 6 ∨ z = 7 by omega) with rfl | rfl | rfl | rfl | rfl | rfl | rfl | rfl
     all_goals clear hz0 hz8 hzx
     ·have htk := Lib.hid (show (be 8 (M.length * 8)).take 1 = (be 8 (M.length * 8)).take 0 ++ [UInt8.ofNat (M.length * 8 / 72057594037927936)] from be_take_succ 8 _ 0 (by omega))
      go_wp2_with ((go_at_call 163); (refine (HA _ (UInt8.ofNat (M.length * 8 / 72057594037927936)) (by rw [byteV_of]; exact congrArg (Value.int .u8) (by omega))).mono ?_); rintro e w4 ⟨rfl, hX4, hG4⟩)
      obtain ⟨hH5, hG5⟩ := hend.out _ _ hG4
      have hX5 := Lib.hid (show StX w4 r (B ++ (be 8 (M.length * 8)).take (1 : Int).toNat) (B.length + (1 : Int).toNat) from by
       show StX w4 r (B ++ (be 8 (M.length * 8)).take 1) (B.length + 1)
       rw [htk.out, ← List.append_assoc]
       exact hX4)
      replace hH5 := Lib.hid hH5
      replace hG5 := Lib.hid hG5
      clear hX4 hG4 HA hend
      go_roundw
      case rel => exact ⟨1, rfl, by omega, by omega, hX5, hH5, hG5⟩
      case measure => (first | (simp [intOf]; done) | (simp [intOf]; omega))
     ·have htk := Lib.hid (show (be 8 (M.length * 8)).take 2 = (be 8 (M.length * 8)).take 1 ++ [UInt8.ofNat (M.length * 8 / 281474976710656)] from be_take_succ 8 _ 1 (by omega))
      go_wp2_with ((go_at_call 163); (refine (HA _ (UInt8.ofNat (M.length * 8 / 281474976710656)) (by rw [byteV_of]; exact congrArg (Value.int .u8) (by omega))).mono ?_); rintro e w4 ⟨rfl, hX4, hG4⟩)
      obtain ⟨hH5, hG5⟩ := hend.out _ _ hG4
      have hX5 := Lib.hid (show StX w4 r (B ++ (be 8 (M.length * 8)).take (2 : Int).toNat) (B.length + (2 : Int).toNat) from by
       show StX w4 r (B ++ (be 8 (M.length * 8)).take 2) (B.length + 2)
       rw [htk.out, ← List.append_assoc]
       exact hX4)
      replace hH5 := Lib.hid hH5
      replace hG5 := Lib.hid hG5
      clear hX4 hG4 HA hend
      go_roundw
      case rel => exact ⟨2, rfl, by omega, by omega, hX5, hH5, hG5⟩
      case measure => (first | (simp [intOf]; done) | (simp [intOf]; omega))
     ·have htk := Lib.hid (show (be 8 (M.length * 8)).take 3 = (be 8 (M.length * 8)).take 2 ++ [UInt8.ofNat (M.length * 8 / 1099511627776)] from be_take_succ 8 _ 2 (by omega))
      go_wp2_with ((go_at_call 163); (refine (HA _ (UInt8.ofNat (M.length * 8 / 1099511627776)) (by rw [byteV_of]; exact congrArg (Value.int .u8) (by omega))).mono ?_); rintro e w4 ⟨rfl, hX4, hG4⟩)
      obtain ⟨hH5, hG5⟩ := hend.out _ _ hG4
      have hX5 := Lib.hid (show StX w4 r (B ++ (be 8 (M.length * 8)).take (3 : Int).toNat) (B.length + (3 : Int).toNat) from by
       show StX w4 r (B ++ (be 8 (M.length * 8)).take 3) (B.length + 3)
       rw [htk.out, ← List.append_assoc]
       exact hX4)
      replace hH5 := Lib.hid hH5
      replace hG5 := Lib.hid hG5
      clear hX4 hG4 HA hend
      go_roundw
      case rel => exact ⟨3, rfl, by omega, by omega, hX5, hH5, hG5⟩
      case measure => (first | (simp [intOf]; done) | (simp [intOf]; omega))
     ·have htk := Lib.hid (show (be 8 (M.length * 8)).take 4 = (be 8 (M.length * 8)).take 3 ++ [UInt8.ofNat (M.length * 8 / 4294967296)] from be_take_succ 8 _ 3 (by omega))
      go_wp2_with ((go_at_call 163); (refine (HA _ (UInt8.ofNat (M.length * 8 / 4294967296)) (by rw [byteV_of]; exact congrArg (Value.int .u8) (by omega))).mono ?_); rintro e w4 ⟨rfl, hX4, hG4⟩)
      obtain ⟨hH5, hG5⟩ := hend.out _ _ hG4
      have hX5 := Lib.hid (show StX w4 r (B ++ (be 8 (M.length * 8)).take (4 : Int).toNat) (B.length + (4 : Int).toNat) from by
       show StX w4 r (B ++ (be 8 (M.length * 8)).take 4) (B.length + 4)
       rw [htk.out, ← List.append_assoc]
       exact hX4)
      replace hH5 := Lib.hid hH5
      replace hG5 := Lib.hid hG5
      clear hX4 hG4 HA hend
      go_roundw
      case rel => exact ⟨4, rfl, by omega, by omega, hX5, hH5, hG5⟩
      case measure => (first | (simp [intOf]; done) | (simp [intOf]; omega))
     ·have htk := Lib.hid (show (be 8 (M.length * 8)).take 5 = (be 8 (M.length * 8)).take 4 ++ [UInt8.ofNat (M.length * 8 / 16777216)] from be_take_succ 8 _ 4 (by omega))
      go_wp2_with ((go_at_call 163); (refine (HA _ (UInt8.ofNat (M.length * 8 / 16777216)) (by rw [byteV_of]; exact congrArg (Value.int .u8) (by omega))).mono ?_); rintro e w4 ⟨rfl, hX4, hG4⟩)
      obtain ⟨hH5, hG5⟩ := hend.out _ _ hG4
      have hX5 := Lib.hid (show StX w4 r (B ++ (be 8 (M.length * 8)).take (5 : Int).toNat) (B.length + (5 : Int).toNat) from by
       show StX w4 r (B ++ (be 8 (M.length * 8)).take 5) (B.length + 5)
       rw [htk.out, ← List.append_assoc]
       exact hX4)
      replace hH5 := Lib.hid hH5
      replace hG5 := Lib.hid hG5
      clear hX4 hG4 HA hend
      go_roundw
      case rel => exact ⟨5, rfl, by omega, by omega, hX5, hH5, hG5⟩
      case measure => (first | (simp [intOf]; done) | (simp [intOf]; omega))
     ·have htk := Lib.hid (show (be 8 (M.length * 8)).take 6 = (be 8 (M.length * 8)).take 5 ++ [UInt8.ofNat (M.length * 8 / 65536)] from be_take_succ 8 _ 5 (by omega))
      go_wp2_with ((go_at_call 163); (refine (HA _ (UInt8.ofNat (M.length * 8 / 65536)) (by rw [byteV_of]; exact congrArg (Value.int .u8) (by omega))).mono ?_); rintro e w4 ⟨rfl, hX4, hG4⟩)
      obtain ⟨hH5, hG5⟩ := hend.out _ _ hG4
      have hX5 := Lib.hid (show StX w4 r (B ++ (be 8 (M.length * 8)).take (6 : Int).toNat) (B.length + (6 : Int).toNat) from by
       show StX w4 r (B ++ (be 8 (M.length * 8)).take 6) (B.length + 6)
       rw [htk.out, ← List.append_assoc]
       exact hX4)
      replace hH5 := Lib.hid hH5
      replace hG5 := Lib.hid hG5
      clear hX4 hG4 HA hend
      go_roundw
      case rel => exact ⟨6, rfl, by omega, by omega, hX5, hH5, hG5⟩
      case measure => (first | (simp [intOf]; done) | (simp [intOf]; omega))
     ·have htk := Lib.hid (show (be 8 (M.length * 8)).take 7 = (be 8 (M.length * 8)).take 6 ++ [UInt8.ofNat (M.length * 8 / 256)] from be_take_succ 8 _ 6 (by omega))
      go_wp2_with ((go_at_call 163); (refine (HA _ (UInt8.ofNat (M.length * 8 / 256)) (by rw [byteV_of]; exact congrArg (Value.int .u8) (by omega))).mono ?_); rintro e w4 ⟨rfl, hX4, hG4⟩)
      obtain ⟨hH5, hG5⟩ := hend.out _ _ hG4
      have hX5 := Lib.hid (show StX w4 r (B ++ (be 8 (M.length * 8)).take (7 : Int).toNat) (B.length + (7 : Int).toNat) from by
       show StX w4 r (B ++ (be 8 (M.length * 8)).take 7) (B.length + 7)
       rw [htk.out, ← List.append_assoc]
       exact hX4)
      replace hH5 := Lib.hid hH5
      replace hG5 := Lib.hid hG5
      clear hX4 hG4 HA hend
      go_roundw
      case rel => exact ⟨7, rfl, by omega, by omega, hX5, hH5, hG5⟩
      case measure => (first | (simp [intOf]; done) | (simp [intOf]; omega))
     ·have htk := Lib.hid (show (be 8 (M.length * 8)).take 8 = (be 8 (M.length * 8)).take 7 ++ [UInt8.ofNat (M.length * 8 / 1)] from be_take_succ 8 _ 7 (by omega))
      go_wp2_with ((go_at_call 163); (refine (HA _ (UInt8.ofNat (M.length * 8 / 1)) (by rw [byteV_of]; exact congrArg (Value.int .u8) (by omega))).mono ?_); rintro e w4 ⟨rfl, hX4, hG4⟩)
      obtain ⟨hH5, hG5⟩ := hend.out _ _ hG4
      have hX5 := Lib.hid (show StX w4 r (B ++ (be 8 (M.length * 8)).take (8 : Int).toNat) (B.length + (8 : Int).toNat) from by
       show StX w4 r (B ++ (be 8 (M.length * 8)).take 8) (B.length + 8)
       rw [htk.out, ← List.append_assoc]
       exact hX4)
      replace hH5 := Lib.hid hH5
      replace hG5 := Lib.hid hG5
      clear hX4 hG4 HA hend
      go_roundw
      case rel => exact ⟨8, rfl, by omega, by omega, hX5, hH5, hG5⟩
      case measure => (first | (simp [intOf]; done) | (simp [intOf]; omega))
    ·obtain rfl : z = 8 := by omega
     have hX8 := Lib.hid (show StX wr r (shaPad M) (shaPad M).length from by
      have := hX.out
      rw [hB.out, List.take_of_length_le (by rw [be_length]; decide)] at this
      have e : M ++ [128] ++ List.replicate (shaZeros M.length) 0 ++ be 8 (M.length * 8) = shaPad M := rfl
      rw [e] at this
      have e2 : (M ++ [128] ++ List.replicate (shaZeros M.length) (0 : UInt8)).length + (8 : Int).toNat = (shaPad M).length := by
       rw [← e, List.length_append (bs := be 8 (M.length * 8)), be_length]
       rfl
      rw [e2] at this
      exact this)
     clear hX
     obtain ⟨S, hS⟩ : ∃ S, S = shaRun shaH (shaPad M) := ⟨_, rfl⟩
     have hrow : row? wr r 0 8 = some #[.int .u32 (u32I (S.at 0)), .int .u32 (u32I (S.at 1)), .int .u32 (u32I (S.at 2)), .int .u32 (u32I (S.at 3)), .int .u32 (u32I (S.at 4)), .int .u32 (u32I (S.at 5)), .int .u32 (u32I (S.at 6)), .int .u32 (u32I (S.at 7))] := by
      rw [hS]
      exact hX8.out.rowE
     have hb0 := u32I_bd (S.at 0)
     have hb1 := u32I_bd (S.at 1)
     have hb2 := u32I_bd (S.at 2)
     have hb3 := u32I_bd (S.at 3)
     have hb4 := u32I_bd (S.at 4)
     have hb5 := u32I_bd (S.at 5)
     have hb6 := u32I_bd (S.at 6)
     have hb7 := u32I_bd (S.at 7)
     have hfw := Lib.hid (fun i hi W h => fill_word S i hi W w.heap.size 24 h (u32I (S.at i)) rfl)
     have hoS : out = shaOut S := by rw [hout.out, hS]
     subst hoS
     replace hS := Lib.hid hS
     clear hout hol hB hBl hX8
     go_wp2_with fail
     -- loop 3
     go_loopw [5, 6, 7, 41, 45] (fun _ _ _ i _ W => ∃ k : Nat, i = .int .i64 k ∧ k ≤ 8 ∧ Hid (W.heap[w.heap.size]? = some (.cells (fillA (shaOut S) (4 * k)) 24 (0, 0))) ∧ Hid (w.grownBy W (some r))) (fun _ _ _ i _ _ => 8 - (intOf i).toNat)
     case atStart => exact ⟨0, rfl, by omega, hH, hG⟩
     case round =>
      clear hH hG hrow
      obtain ⟨k, rfl, hk8, hH, hG⟩ := hrel
      have k0 : (0 : Int) ≤ (k : Int) := by omega
      by_cases hkx : k < 8
      ·have hix := idx8S S k hkx
       have hbk := u32I_bd (S.at k)
       have hfb := Lib.hid (fun (j : Nat) (hj : j < 4) (W : World) (v : Value) => fill_byte S k j hkx hj W w.heap.size 24 v)
       have hol := Lib.hid (shaOut_length S)
       obtain ⟨sA, hsA⟩ : ∃ sA : Value, sA = .agg #[.int .u32 (u32I (S.at 0)), .int .u32 (u32I (S.at 1)), .int .u32 (u32I (S.at 2)), .int .u32 (u32I (S.at 3)), .int .u32 (u32I (S.at 4)), .int .u32 (u32I (S.at 5)), .int .u32 (u32I (S.at 6)), .int .u32 (u32I (S.at 7))] := ⟨_, rfl⟩
       rw [← hsA] at hix
       rw [← hsA]
       replace hsA := Lib.hid hsA
       clear hb0 hb1 hb2 hb3 hb4 hb5 hb6 hb7 hfw hS
       generalize u32I (S.at k) = x at *
       obtain ⟨x0, x1⟩ := hbk
       have t0 : (4 * (k : Int)).toNat = 4 * k := by omega
       have t1 : (4 * (k : Int) + 1).toNat = 4 * k + 1 := by omega
       have t2 : (4 * (k : Int) + 2).toNat = 4 * k + 2 := by omega
       have t3 : (4 * (k : Int) + 3).toNat = 4 * k + 3 := by omega
       have k8 : (k : Int) < 8 := by omega
       go_wp2_with fail
       obtain ⟨wo, hwo⟩ : ∃ wo : World, wo = wr := ⟨_, rfl⟩
       clear hix
       subst hwo
       go_loopw [7, 45] (fun _ i W => ∃ z : Int, i = .int .i64 z ∧ 0 ≤ z ∧ z ≤ 4 ∧ Hid (W.heap[w.heap.size]? = some (.cells (fillA (shaOut S) (4 * k + z.toNat)) 24 (0, 0))) ∧ Hid (w.grownBy W (some r))) (fun _ i _ => 4 - (intOf i).toNat)
       case atStart => exact ⟨0, rfl, by omega, by omega, hH, hG⟩
       case round =>
        clear hH hG
        obtain ⟨z, rfl, hz0, hz4, hH, hG⟩ := hrel
        by_cases hzx : z < 4
        ·have hsz := fillA_size (shaOut S) (4 * k + z.toNat) (by have := hol.out; omega) (by have := hol.out; omega)
         have hq := fun i => cell_of_row wr w.heap.size i _ _ _ hH.out
         have hf := fun i => frozen_of_row wr w.heap.size i _ _ hH.out
         have hg : ∀ (n : Nat), n < 32 → ∃ v, wr.cell? ⟨w.heap.size, n, none⟩ = some v := fun n hn => ⟨_, (hq n).trans (Array.getElem?_eq_getElem (by omega))⟩
         have hGn := Lib.hid (fun (n : Nat) (v : Value) => grown_setN hG.out (Nat.le_refl _) n v)
         rcases (show z = 0 ∨ z = 1 ∨ z = 2 ∨ z = 3 by omega) with rfl | rfl | rfl | rfl
         ·obtain ⟨v0, c0⟩ := hg (4 * k) (by omega)
          have f0 := hf (4 * k)
          have hw2 := Lib.hid (hfb.out 0 (by omega) wr (.int .u8 (x / 16777216)) (congrArg (Value.int .u8) (by show x / 16777216 = x / 16777216 % 256; omega)) hH.out)
          have hG2 := Lib.hid (hGn.out (4 * k) (.int .u8 (x / 16777216)))
          clear hg hf hq hsz hH hG hz0 hz4 hzx hGn
          go_wp2_with fail
          go_roundw
          case rel => exact ⟨1, rfl, by omega, by omega, hw2, hG2⟩
          case measure => (first | (simp [intOf]; done) | (simp [intOf]; omega))
         ·obtain ⟨v0, c0⟩ := hg (4 * k + 1) (by omega)
          have f0 := hf (4 * k + 1)
          have hw2 := Lib.hid (hfb.out 1 (by omega) wr (.int .u8 (x / 65536 % 256)) (congrArg (Value.int .u8) (by rfl)) hH.out)
          have hG2 := Lib.hid (hGn.out (4 * k + 1) (.int .u8 (x / 65536 % 256)))
          clear hg hf hq hsz hH hG hz0 hz4 hzx hGn
          go_wp2_with fail
          go_roundw
          case rel => exact ⟨2, rfl, by omega, by omega, hw2, hG2⟩
          case measure => (first | (simp [intOf]; done) | (simp [intOf]; omega))
         ·obtain ⟨v0, c0⟩ := hg (4 * k + 2) (by omega)
          have f0 := hf (4 * k + 2)
          have hw2 := Lib.hid (hfb.out 2 (by omega) wr (.int .u8 (x / 256 % 256)) (congrArg (Value.int .u8) (by rfl)) hH.out)
          have hG2 := Lib.hid (hGn.out (4 * k + 2) (.int .u8 (x / 256 % 256)))
          clear hg hf hq hsz hH hG hz0 hz4 hzx hGn
          go_wp2_with fail
          go_roundw
          case rel => exact ⟨3, rfl, by omega, by omega, hw2, hG2⟩
          case measure => (first | (simp [intOf]; done) | (simp [intOf]; omega))
         ·obtain ⟨v0, c0⟩ := hg (4 * k + 3) (by omega)
          have f0 := hf (4 * k + 3)
          have hw2 := Lib.hid (hfb.out 3 (by omega) wr (.int .u8 (x % 256)) (congrArg (Value.int .u8) (by show x % 256 = x / 1 % 256; omega)) hH.out)
          have hG2 := Lib.hid (hGn.out (4 * k + 3) (.int .u8 (x % 256)))
          clear hg hf hq hsz hH hG hz0 hz4 hzx hGn
          go_wp2_with fail
          go_roundw
          case rel => exact ⟨4, rfl, by omega, by omega, hw2, hG2⟩
          case measure => (first | (simp [intOf]; done) | (simp [intOf]; omega))
        ·obtain rfl : z = 4 := by omega
         have hH2 := Lib.hid (show wr.heap[w.heap.size]? = some (.cells (fillA (shaOut S) (4 * (k + 1))) 24 (0, 0)) from hH.out)
         go_wp2_with fail
         go_roundw
         case rel => exact ⟨k + 1, by go_num, by omega, hH2, hG⟩
         case measure => (first | (simp [intOf]; done) | (simp [intOf]; omega))
      ·obtain rfl : k = 8 := by omega
       have hHH := hH.out
       rw [show 4 * 8 = 32 from rfl, fillA_full _ (shaOut_length _)] at hHH
       have hsum := Lib.hid (show (⟨shaOut S, shaOut_length S⟩ : Hash) = shaSum M by
        apply Subtype.ext
        show shaOut S = shaOut (shaRun shaH (shaPad M))
        rw [hS.out])
       obtain ⟨hv, hhv⟩ : ∃ hv : Hash, hv = ⟨shaOut S, shaOut_length S⟩ := ⟨_, rfl⟩
       rw [← hhv] at hHH hsum
       replace hhv := Lib.hid hhv
       have hrowH : row? wr w.heap.size 0 32 = some (hashA hv) := rowHeap hHH (by simp)
       have hth : there wr w.heap.size 0 32 := there_block hHH (by simp)
       clear hHH hH hfw hS hb0 hb1 hb2 hb3 hb4 hb5 hb6 hb7
       go_wp2_with (with_reducible refine ret_row Try.isAgg24 Try.sizeOf24 end_res (x := .pointer (some ⟨w.heap.size, 0, none⟩)) (w.heap.size) 0 ?rrhx (Eq.refl _) ?rrh ?rrhd ?rrhR; (case rrhx => simp only [Array.getD_eq_getD_getElem?, List.getElem?_toArray, List.getElem?_cons_succ, List.getElem?_cons_zero, Option.getD_some]); (case rrhd => exact rfl); (case rrh => go_simp); (case rrhR => ((rw [← hsum.out]; refine ⟨?_, grown_below (D := w.heap.size) hG.out ?_ (Nat.le_refl _)⟩; (case refine_1 => (go_simp; done)); (case refine_2 => ((repeat' (first | (with_reducible first | exact Below.refl _ _ | assumption | refine bel_trans (by assumption) ?_ ?_ | refine bel_grown (by assumption) ?_ ?_ ?_ | refine Below.alloc ?_ ?_ _ | refine Below.drew ?_ | refine below_drewN ?_ _ | refine Below.setCell ?_ ?_ _ | refine below_put ?_ ?_ _ _ | exact Nat.le_refl _) | omega | (with_reducible first | refine Nat.le_trans ?_ (Below.size (by assumption)) | refine Nat.le_trans ?_ (World.grownBy.size (by assumption))) | (simp only [World.size_alloc, World.size_setCell, World.size_drew, size_drewN]; omega) | (simp only [World.size_alloc, World.size_setCell, World.size_drew, size_drewN, size_put]; omega) | (intro k hk; simp [Value.ownBlock] at hk; first | done | omega) | (simp [size_drewN] at *; omega)))))))))
end Go.Proofs.Ythdjhbiigmcecaa

/- Contracts of package wire: Blob, Join, Read. -/
namespace Go.Proofs.Ythdjhbiigmcecaa
open Go.RowKit

/-- a slice as the shelf's contracts hand it over -/
theorem own_of_fresh {w : World} {base : Nat} {v : Value} {l : List UInt8} (h : Lib.FreshBytes base w v l) (hl : 0 < l.length ∨ ∃ g c, v = .slice (some ⟨g, 0, none⟩) l.length c ∧ g < w.heap.size) : Own w base v l := by
 obtain ⟨g, cap, zs, rfl, hB, hlc, hm, hz, hr, hb, hc, hf⟩ := h
 have hg : g < w.heap.size := by
  rcases hl with hl | ⟨g', c, he, hlt⟩
  ·exact lt_of_cell (hc 0 (by omega))
  ·injection he with h1 h2 h3; injection h1 with h1; injection h1 with h1; omega
 refine ⟨by simp, .inr ⟨g, cap, rfl, hB, hg, hlc, hm, fun j hj => by rw [hc j (by omega)]; rfl, fun j hj => hf j (by omega), fun j u hu => ?_⟩⟩
 have hj : j < l.length := by
  rcases Nat.lt_or_ge j l.length with hj | hj
  ·exact hj
  ·rw [List.getElem?_eq_none (by simpa using hj)] at hu; cases hu
 rw [hc j (by omega)]
 have e1 : l[j]? = (Lib.bytesOf (zs.take l.length))[j]? := by rw [hb]
 have hjz : j < zs.length := by omega
 simp only [Lib.bytesOf, List.getElem?_map, List.getElem?_take, hj, if_true, List.getElem?_eq_getElem hjz, Option.map_some] at e1
 rw [List.getElem?_map, e1] at hu
 injection hu with hu
 rw [← hu]
 obtain ⟨h0, h1⟩ := hr zs[j] (List.getElem_mem _)
 simp only [List.getD_eq_getElem?_getD, List.getElem?_eq_getElem hjz, Option.getD_some, byteV]
 congr 2
 have : zs[j].toNat < 256 := by omega
 simp [Nat.mod_eq_of_lt this]
 omega

theorem flatten_intersperse (ls : List (List UInt8)) : (List.intersperse [] ls).flatten = ls.flatten := by
 induction ls with
 | nil => rfl
 | cons a r ih =>
  cases r with
  | nil => rfl
  | cons b r => simp only [List.intersperse, List.flatten_cons, List.nil_append] at ih ⊢; rw [ih]
theorem join_nil_sep (ls : List (List UInt8)) : Lib.join ls [] = ls.flatten := by
 simp [Lib.join, List.intercalate, flatten_intersperse]

set_option maxRecDepth 100000 in
set_option maxHeartbeats 800000 in
theorem blob_c (s : Sl) (l : List UInt8) (w : World) (hs : BytesR w s l) (hl : l.length ≤ 65535) :
  Calls Try.prog 141 #[s.v] w fun e w' => ∃ v, e = .returned (.tuple #[v, .int .i64 0]) ∧ Own w' w.heap.size v (be 2 l.length ++ l) ∧ Below w.heap.size w w' := by
 obtain ⟨i0, hi, hz0, hz1, hz2⟩ := info_parts info_u8
 have h1 : s.n = l.length := hs.1
 obtain ⟨sa, sn, sc⟩ := s
 simp only at h1
 subst h1
 have n1 : ¬ ((65535 : Int) < l.length) := by omega
 have Hs := Lib.hid hs
 clear hs
 change Calls Try.prog _ #[.slice sa l.length sc] w _
 go_enter Try.func141, Try.ntmps141
 go_wp2_with (at_builtin; refine wpList_append_bytes _ rfl (.tmp 14) (.tmp 15) _ rfl w.heap.size 5 i0 _ Try.underlying32 hi hz0 hz1 hz2 rfl (.slice (some ⟨w.heap.size, 0, none⟩) 2 2) (be 2 l.length) rfl ?_ ⟨sa, l.length, sc⟩ l rfl (Hs.out.keep (by (repeat' (first | (with_reducible first | exact Below.refl _ _ | assumption | refine bel_trans (by assumption) ?_ ?_ | refine bel_grown (by assumption) ?_ ?_ ?_ | refine Below.alloc ?_ ?_ _ | refine Below.drew ?_ | refine below_drewN ?_ _ | refine Below.setCell ?_ ?_ _ | refine below_put ?_ ?_ _ _ | exact Nat.le_refl _) | omega | (with_reducible first | refine Nat.le_trans ?_ (Below.size (by assumption)) | refine Nat.le_trans ?_ (World.grownBy.size (by assumption))) | (simp only [World.size_alloc, World.size_setCell, World.size_drew, size_drewN]; omega) | (simp only [World.size_alloc, World.size_setCell, World.size_drew, size_drewN, size_put]; omega) | (intro k hk; simp [Value.ownBlock] at hk; first | done | omega) | (simp [size_drewN] at *; omega))))) ?_ ?_ ?_; rotate_left 3; intro v' w1 hown hg _)
 ·go_ret2
  exact ⟨v', rfl, hown, by (repeat' (first | (with_reducible first | exact Below.refl _ _ | assumption | refine bel_trans (by assumption) ?_ ?_ | refine bel_grown (by assumption) ?_ ?_ ?_ | refine Below.alloc ?_ ?_ _ | refine Below.drew ?_ | refine below_drewN ?_ _ | refine Below.setCell ?_ ?_ _ | refine below_put ?_ ?_ _ _ | exact Nat.le_refl _) | omega | (with_reducible first | refine Nat.le_trans ?_ (Below.size (by assumption)) | refine Nat.le_trans ?_ (World.grownBy.size (by assumption))) | (simp only [World.size_alloc, World.size_setCell, World.size_drew, size_drewN]; omega) | (simp only [World.size_alloc, World.size_setCell, World.size_drew, size_drewN, size_put]; omega) | (intro k hk; simp [Value.ownBlock] at hk; first | done | omega) | (simp [size_drewN] at *; omega)))⟩
 ·exact Own.lit w _ _ _ _ 2 (by simp [be, byteV_of]; omega) (by simp [be_length]) (Nat.le_refl _) (by simp [be_length, maxLen])
 ·simp [be_length]; omega

/-- a list of slices of bytes, as the shelf's bytes.Join asks for it -/
theorem holds_of {w : World} {s : Sl} {l : List UInt8} (h : BytesR w s l) : Lib.HoldsBytes w s.v l := by
 obtain ⟨a, n, c⟩ := s
 obtain rfl : n = l.length := h.1
 by_cases hl : l = []
 ·subst hl
  exact ⟨a, c, rfl, fun _ => rfl, fun a ha i x hx => by simp at hx⟩
 ·obtain ⟨b, off, ha, hc⟩ := h.2.2 hl
  simp only at ha
  subst ha
  refine ⟨some ⟨b, off, none⟩, c, rfl, fun h => (by cases h), fun a ha i x hx => ?_⟩
  injection ha with ha
  subst ha
  have hj : i < l.length := by
   rcases Nat.lt_or_ge i l.length with hj | hj
   ·exact hj
   ·rw [List.getElem?_eq_none (by simpa using hj)] at hx; cases hx
  have hadd : (⟨b, off, none⟩ : Addr).add i = ⟨b, off + i, none⟩ := by unfold Addr.add; split <;> simp_all
  rw [hadd, hc i hj]
  rw [List.getElem?_eq_getElem hj] at hx
  injection hx with hx
  rw [hx]; rfl

/-- Join of two pieces or more -/
theorem join_c (b o c : Nat) (ss : List Sl) (ls : List (List UInt8)) (w : World) (h2 : 2 ≤ ls.length) (hlen : ss.length = ls.length) (hcap : ls.length ≤ c)
  (hcell : ∀ (i : Nat) (h : i < ss.length), w.cell? ⟨b, o + i, none⟩ = some ss[i].v) (hr : ∀ (i : Nat) (h : i < ss.length) (h' : i < ls.length), BytesR w ss[i] ls[i])
  (hsum : Lib.lens ls ≤ 140737488355328) (hpos : 0 < ls.flatten.length) (hbig : ls.length ≤ 140737488355328) :
  Calls Try.prog 139 #[.slice (some ⟨b, o, none⟩) ls.length c] w fun e w' => ∃ v, e = .returned v ∧ Own w' w.heap.size v ls.flatten ∧ Below w.heap.size w w' := by
 have HC := Try.bytes_Join_many b o ls.length c (ss.map Sl.v) ls (.slice none 0 0) [] w rfl h2 ⟨by simpa using hlen, fun i v hv => by
   have hi : i < ss.length := by
    rcases Nat.lt_or_ge i ss.length with hj | hj
    ·exact hj
    ·rw [List.getElem?_eq_none (by simpa using hj)] at hv; cases hv
   have hadd : (⟨b, o, none⟩ : Addr).add i = ⟨b, o + i, none⟩ := by unfold Addr.add; split <;> simp_all
   rw [hadd, hcell i hi]
   simpa [hi] using hv, fun i v l hv hl => by
   have hi : i < ss.length := by
    rcases Nat.lt_or_ge i ss.length with hj | hj
    ·exact hj
    ·rw [List.getElem?_eq_none (by simpa using hj)] at hv; cases hv
   have hi' : i < ls.length := by omega
   have e1 : v = ss[i].v := by simpa [hi] using hv.symm
   have e2 : l = ls[i] := by simpa [hi'] using hl.symm
   rw [e1, e2]
   exact holds_of (hr i hi hi')⟩ hcap ⟨none, 0, rfl, fun _ => rfl, fun a ha => by cases ha⟩ hbig (by simpa using hsum)
 rw [join_nil_sep] at HC
 have Hp := Lib.hid hpos
 clear hpos hr hcell hlen h2 hcap hsum
 go_enter Try.func139, Try.ntmps139
 go_wp2_with fail
 refine HC.mono ?_
 rintro e w1 ⟨v, rfl, hf, hb⟩
 clear HC
 go_wp2_with fail
 go_ret
 exact ⟨v, rfl, own_of_fresh hf (.inl Hp.out), hb⟩

/-- Join of four pieces, of a list made on the spot -/
theorem join4 (t : TypeId) (s1 s2 s3 s4 : Sl) (l1 l2 l3 l4 : List UInt8) (w : World) (r1 : BytesR w s1 l1) (r2 : BytesR w s2 l2) (r3 : BytesR w s3 l3) (r4 : BytesR w s4 l4)
  (hpos : 0 < l1.length) (hlen : l1.length + l2.length + l3.length + l4.length ≤ 140737488355328) :
  Calls Try.prog 139 #[.slice (some ⟨w.heap.size, 0, none⟩) 4 4] (w.alloc (.cells #[s1.v, s2.v, s3.v, s4.v] t)) fun e w' => ∃ v, e = .returned v ∧ Own w' w.heap.size v (l1 ++ l2 ++ l3 ++ l4) ∧ Below w.heap.size w w' := by
 have hb : Below w.heap.size w (w.alloc (.cells #[s1.v, s2.v, s3.v, s4.v] t)) := (Below.refl _ _).alloc (Nat.le_refl _) _
 have h := join_c w.heap.size 0 4 [s1, s2, s3, s4] [l1, l2, l3, l4] (w.alloc (.cells #[s1.v, s2.v, s3.v, s4.v] t)) (by simp) rfl (by simp)
  (by
   intro i h
   have hh : i = 0 ∨ i = 1 ∨ i = 2 ∨ i = 3 := by simp at h; omega
   rcases hh with rfl | rfl | rfl | rfl <;> simp)
  (by
   intro i h _
   have hh : i = 0 ∨ i = 1 ∨ i = 2 ∨ i = 3 := by simp at h; omega
   rcases hh with rfl | rfl | rfl | rfl
   ·exact r1.keep hb
   ·exact r2.keep hb
   ·exact r3.keep hb
   ·exact r4.keep hb)
  (by simp [Lib.lens]; omega) (by simp; omega) (by simp)
 exact h.mono fun e w' ⟨v, he, ho, hb'⟩ => ⟨v, he, by have := ho.more (base' := w.heap.size) (by simp); simpa using this, hb.trans (hb'.mono (by simp))⟩
end Go.Proofs.Ythdjhbiigmcecaa

/- Contracts: codec.MayPoint, mayMember, MayVote. -/
namespace Go.Proofs.Ythdjhbiigmcecaa
open Go.RowKit

def mayPt (p : Pt) : Bool := decide (p.epoch.toNat ≤ 4611686018427387904)
def mayMem (n : Int) : Bool := decide (1 ≤ n ∧ n ≤ 64)
def mayV (v : GVote) : Bool := mayMem v.validator && mayPt v.source && mayPt v.target && decide (v.sig.n ≤ 4096)

theorem mayPoint_c (p : Pt) (w : World) : Calls Try.prog 129 #[.agg (pointA p)] w fun e w' => e = .returned (.bool (mayPt p)) ∧ Below w.heap.size w w' := by
 go_enter Try.func129, Try.ntmps129
 go_wp2_with fail
 go_ret
 exact ⟨ret_bool (by simp [mayPt]; omega), by (repeat' (first | (with_reducible first | exact Below.refl _ _ | assumption | refine bel_trans (by assumption) ?_ ?_ | refine bel_grown (by assumption) ?_ ?_ ?_ | refine Below.alloc ?_ ?_ _ | refine Below.drew ?_ | refine below_drewN ?_ _ | refine Below.setCell ?_ ?_ _ | refine below_put ?_ ?_ _ _ | exact Nat.le_refl _) | omega | (with_reducible first | refine Nat.le_trans ?_ (Below.size (by assumption)) | refine Nat.le_trans ?_ (World.grownBy.size (by assumption))) | (simp only [World.size_alloc, World.size_setCell, World.size_drew, size_drewN]; omega) | (simp only [World.size_alloc, World.size_setCell, World.size_drew, size_drewN, size_put]; omega) | (intro k hk; simp [Value.ownBlock] at hk; first | done | omega) | (simp [size_drewN] at *; omega)))⟩
theorem mayMember_c (n : Int) (w : World) : Calls Try.prog 160 #[.int .i64 n] w fun e w' => e = .returned (.bool (mayMem n)) ∧ Below w.heap.size w w' := by
 go_enter Try.func160, Try.ntmps160
 go_wp2_with fail
 all_goals go_ret
 ·exact ⟨ret_bool (by simp [*, mayMem]), Below.refl _ _⟩
 ·exact ⟨ret_bool (by simp [mayMem]; omega), Below.refl _ _⟩

set_option maxRecDepth 100000 in
theorem mayVote_c (v : GVote) (w : World) : Calls Try.prog 136 #[.agg (voteA v)] w fun e w' => e = .returned (.bool (mayV v)) ∧ Below w.heap.size w w' := by
 go_enter Try.func136, Try.ntmps136
 go_wp2_with (first
  | (go_at_call 160; refine (mayMember_c _ _).mono ?_; rintro e w1 ⟨rfl, hb⟩; obtain ⟨k1, k2, k3⟩ := kept hb; have hz : w.heap.size < w1.heap.size := by (have := hb.size; simp at this; omega))
  | (go_at_call 129; refine (mayPoint_c _ _).mono ?_; rintro e w1 ⟨rfl, hb⟩; obtain ⟨k1, k2, k3⟩ := kept hb; have hz : w.heap.size < w1.heap.size := by (have := hb.size; omega)))
 all_goals go_ret
 all_goals exact ⟨ret_bool (by simp_all [mayV] <;> omega), by (repeat' (first | (with_reducible first | exact Below.refl _ _ | assumption | refine bel_trans (by assumption) ?_ ?_ | refine bel_grown (by assumption) ?_ ?_ ?_ | refine Below.alloc ?_ ?_ _ | refine Below.drew ?_ | refine below_drewN ?_ _ | refine Below.setCell ?_ ?_ _ | refine below_put ?_ ?_ _ _ | exact Nat.le_refl _) | omega | (with_reducible first | refine Nat.le_trans ?_ (Below.size (by assumption)) | refine Nat.le_trans ?_ (World.grownBy.size (by assumption))) | (simp only [World.size_alloc, World.size_setCell, World.size_drew, size_drewN]; omega) | (simp only [World.size_alloc, World.size_setCell, World.size_drew, size_drewN, size_put]; omega) | (intro k hk; simp [Value.ownBlock] at hk; first | done | omega) | (simp [size_drewN] at *; omega)))⟩
end Go.Proofs.Ythdjhbiigmcecaa

/- Contracts of package codec: numbers, points, votes as bytes. -/
namespace Go.Proofs.Ythdjhbiigmcecaa
open Go.RowKit

theorem number8 (n : Nat) (w : World) (hn : n < 18446744073709551616) : Calls Try.prog 166 #[.int .u64 n, .int .i64 8] w fun e w' => ∃ v, e = .returned v ∧ Own w' w.heap.size v (be 8 n) ∧ Below w.heap.size w w' := by
 have HC := put8 n w hn
 clear hn
 go_enter Try.func166, Try.ntmps166
 go_wp2_with fail
 refine HC.mono ?_
 clear HC
 rintro e w1 ⟨v, rfl, ho, hb⟩
 go_wp2_with fail
 go_ret
 exact ⟨v, rfl, ho, hb⟩
theorem number1 (n : Nat) (w : World) (hn : n < 256) : Calls Try.prog 166 #[.int .u64 n, .int .i64 1] w fun e w' => ∃ v, e = .returned v ∧ Own w' w.heap.size v (be 1 n) ∧ Below w.heap.size w w' := by
 have HC := put1 n w hn
 clear hn
 go_enter Try.func166, Try.ntmps166
 go_wp2_with fail
 refine HC.mono ?_
 clear HC
 rintro e w1 ⟨v, rfl, ho, hb⟩
 go_wp2_with fail
 go_ret
 exact ⟨v, rfl, ho, hb⟩

/-- a point's bytes -/
def ptBytes (p : Pt) : List UInt8 := be 8 p.epoch.toNat ++ p.name.1
theorem ptBytes_length (p : Pt) : (ptBytes p).length = 40 := by simp [ptBytes, be_length, p.name.2]

/-- the name's cells of a point that lies in memory -/
theorem name_reads {w : World} {b off : Nat} {p : Pt} (h : row? w b off 33 = some (pointA p)) (c : Nat) (hc : 32 ≤ c) : BytesR w ⟨some ⟨b, off + 1, none⟩, 32, c⟩ p.name.1 := by
 obtain ⟨cs, t, fr, hg, hle, hl⟩ := row?_some h
 refine ⟨p.name.2.symm, hc, fun _ => ⟨b, off + 1, rfl, fun i hi => ?_⟩⟩
 rw [cell_of_row w b _ cs t fr hg]
 have e1 : (pointA p)[1 + i]? = some (byteV p.name.1[i]) := by
  have := p.name.2
  rw [pointA, Array.getElem?_append_right (by simp)]
  simp [hashA, hi]
 rw [hl, Array.getElem?_extract] at e1
 have := p.name.2
 simp only [show 1 + i < min (off + 33) cs.size - off by omega, if_true] at e1
 rw [← e1]
 congr 1
 omega

set_option maxRecDepth 100000 in
set_option maxHeartbeats 800000 in
theorem point_c (p : Pt) (w : World) : Calls Try.prog 146 #[.agg (pointA p)] w fun e w' => ∃ v, e = .returned v ∧ Own w' w.heap.size v (ptBytes p) ∧ Below w.heap.size w w' := by
 obtain ⟨i0, hi, hz0, hz1, hz2⟩ := info_parts info_u8
 have hn := p.epoch.toNat_lt
 have HC := fun W => number8 p.epoch.toNat W (by omega)
 clear hn
 go_enter Try.func146, Try.ntmps146
 go_wp2_with fail
 go_region_held3 (fun w' => w'.cell? ⟨w.heap.size, 0, none⟩ = some (.int .u64 (p.epoch.toNat : Int)))
  (first | go_keep | (rw [k1 _ _ (by simp)]; simp) | (rw [hb2.cell (p := ⟨w.heap.size, 0, none⟩) (by simp)]; simp))
  (first
   | (go_simp; go_at_call 166; refine (HC _).mono ?_; clear HC; rintro e w1 ⟨v, rfl, ho, hb⟩; obtain ⟨k1, k2, k3⟩ := kept hb)
   | (refine step_append_bytes _ (by rfl) (.tmp 5) (.tmp 7) _ (by rfl) w.heap.size 5 i0 _ Try.underlying32 hi hz0 hz1 hz2 rfl v (be 8 p.epoch.toNat) (by rfl) (ho.more (by simp)) ⟨some ⟨w.heap.size, 1, none⟩, 32, 32⟩ p.name.1 (by rfl) (name_reads (off := 0) (by rw [k3 _ _ _ (by simp)]; simp [row?_drew, row?_new, ext_self]) 32 (Nat.le_refl _)) (by simp [be_length, p.name.2]) (by have := hb.size; simp at this; omega) ?_; intro v' w2 hown hg _; have hb2 := bel_grown hg hb hb.size (fun k hk => (ho.lt k hk).1)))
 go_wp2_with fail
 go_ret
 exact ⟨v', rfl, hown, by (repeat' (first | (with_reducible first | exact Below.refl _ _ | assumption | refine bel_trans (by assumption) ?_ ?_ | refine bel_grown (by assumption) ?_ ?_ ?_ | refine Below.alloc ?_ ?_ _ | refine Below.drew ?_ | refine below_drewN ?_ _ | refine Below.setCell ?_ ?_ _ | refine below_put ?_ ?_ _ _ | exact Nat.le_refl _) | omega | (with_reducible first | refine Nat.le_trans ?_ (Below.size (by assumption)) | refine Nat.le_trans ?_ (World.grownBy.size (by assumption))) | (simp only [World.size_alloc, World.size_setCell, World.size_drew, size_drewN]; omega) | (simp only [World.size_alloc, World.size_setCell, World.size_drew, size_drewN, size_put]; omega) | (intro k hk; simp [Value.ownBlock] at hk; first | done | omega) | (simp [size_drewN] at *; omega)))⟩
end Go.Proofs.Ythdjhbiigmcecaa

/- Contracts: slices.Grow of nil, slices.Concat, of bytes. -/
namespace Go.Proofs.Ythdjhbiigmcecaa
open Go.RowKit

theorem run_append_zeros {P : Program} (w : World) (t tx ty e : TypeId) (i : TypeInfo) (z : Value) (ht : P.underlying t = some (.slice e)) (hx : P.underlying tx = some (.int .i64)) (hi : P.info? e = some i) (hz : i.zero = some z) (hs : i.size = 1) (hb : i.bytes = 1)
  (n : Nat) (h0 : 0 < n) (hn : n ≤ 140737488355328) :
  (Builtin.append_ #[t, tx] ty #[.slice none 0 0, .int .i64 (n : Int)]).run P w =
   .ok (.slice (some ⟨w.heap.size, 0, none⟩) n (grownCap w n 0 e)) (w.drew.alloc (.cells (Builtin.zeroCells z.cells n ++ Builtin.zeroCells z.cells (grownCap w n 0 e - n)) e)) := by
 have hw : IntKind.i64.wrap (n : Int) = n := IntWalk.i64_in _ (by omega)
 have h1 : ¬ ((n : Int) < 0) := by omega
 have h2 : ¬ (281474976710656 < (n : Int)) := by omega
 have h3 : ¬ (9223372036854775807 < (n : Int)) := by omega
 have h4 : ¬ (281474976710656 < Builtin.nextslicecap n 0) := by
  have := nextslicecap_zero h0
  omega
 have h5 : n ≠ 0 := by omega
 simp [Builtin.append_, run_underlying ht, run_underlying hx, sizeOf, typeInfo, zeroValue, hi, hz, hs, hb, hw, h1, h2, h3, h4, h5, asInt, asIntOf, Builtin.firstCells, Question.forced, newRow, grownCap]

theorem wpList_append_run {P : Program} (w : World) {ops : Array Oper} {rest : List Oper} {o : Oper} {a : Act} {Q : Exit → Act → World → Prop} (hgd : o.guard = none) (px py : Operand) (t tx : TypeId)
  (ho : o.op = .call { callee := .builtin .append, args := #[px, py], argTypes := #[t, tx] }) (x y v' : Value) (w' : World) (hx : a.eval px = x) (hy : a.eval py = y)
  (hrun : (Builtin.append_ #[t, tx] o.type #[x, y]).run P w = .ok v' w') (h : wpList P ops Q rest (a.put o.dst v') w') : wpList P ops Q (o :: rest) a w :=
 wpList_plain hgd fun K hK => by
  unfold Oper.wp execOp
  simp only [ho, resolve, invoke, builtin, Sem.run_bind, Sem.run_pure, Result.andThen_ok, List.map_toArray, List.map_cons, List.map_nil, hx, hy, hrun]
  exact hK _ _ h

set_option maxRecDepth 100000 in
theorem growBytes_c (n : Nat) (w : World) (h0 : 0 < n) (hn : n ≤ 140737488355328) :
  Calls Try.prog 201 #[.slice none 0 0, .int .i64 n] w fun e w' => ∃ v, e = .returned v ∧ Own w' w.heap.size v [] ∧ Below w.heap.size w w' := by
 obtain ⟨i0, hi, hz0, hz1, hz2⟩ := info_parts info_u8
 have hr := fun ty W => run_append_zeros (P := Try.prog) W 32 3 ty 5 i0 _ Try.underlying32 Try.underlying3 hi hz0 hz1 hz2 n h0 hn
 have hge := grownCap_ge w n 0 5
 have hle := grownCap_le_maxLen w n 0 5 (by simp only [maxLen]; omega)
 have HO : Own (w.drew.alloc (.cells (Builtin.zeroCells (Value.int .u8 0).cells n ++ Builtin.zeroCells (Value.int .u8 0).cells (grownCap w n 0 5 - n)) 5)) w.heap.size (.slice (some ⟨w.heap.size, 0, none⟩) 0 (grownCap w n 0 5)) [] := by
  refine ⟨by simp, .inr ⟨w.heap.size, _, rfl, Nat.le_refl _, by simp, Nat.zero_le _, hle, fun j hj => ?_, fun j _ => frozen_of_row _ w.heap.size j _ 5 (heap_alloc_new w.drew _), fun j u hu => by simp at hu⟩⟩
  rw [cell_of_row _ w.heap.size j _ 5 _ (heap_alloc_new w.drew _)]
  have hsz : (Builtin.zeroCells (Value.int .u8 0).cells n ++ Builtin.zeroCells (Value.int .u8 0).cells (grownCap w n 0 5 - n)).size = grownCap w n 0 5 := by
   rw [Array.size_append, size_zeroCells, size_zeroCells]
   simp [Value.cells]
   omega
  rw [Array.getElem?_eq_getElem (by rw [hsz]; omega)]
  rfl
 have HO := Lib.hid HO
 have h1 : ¬ ((n : Int) < 0) := by omega
 have i0' : (0 : Int) ≤ (n : Int) := by omega
 generalize hcap : grownCap w n 0 5 = cap at *
 have Hcap := Lib.hid hcap
 clear hle
 have hce : (0 : Int) ≤ (cap : Int) := by omega
 go_enter Try.func201, Try.ntmps201
 go_wp2_with (at_builtin; refine wpList_append_run _ rfl _ _ _ _ rfl _ _ _ _ rfl rfl (hr _ _) ?_)
 go_ret
 exact ⟨_, rfl, HO.out, by (repeat' (first | (with_reducible first | exact Below.refl _ _ | assumption | refine bel_trans (by assumption) ?_ ?_ | refine bel_grown (by assumption) ?_ ?_ ?_ | refine Below.alloc ?_ ?_ _ | refine Below.drew ?_ | refine below_drewN ?_ _ | refine Below.setCell ?_ ?_ _ | refine below_put ?_ ?_ _ _ | exact Nat.le_refl _) | omega | (with_reducible first | refine Nat.le_trans ?_ (Below.size (by assumption)) | refine Nat.le_trans ?_ (World.grownBy.size (by assumption))) | (simp only [World.size_alloc, World.size_setCell, World.size_drew, size_drewN]; omega) | (simp only [World.size_alloc, World.size_setCell, World.size_drew, size_drewN, size_put]; omega) | (intro k hk; simp [Value.ownBlock] at hk; first | done | omega) | (simp [size_drewN] at *; omega)))⟩

/-- pieces, in a row of slices -/
def PiecesAt (w : World) (b : Nat) (ss : List Sl) (ls : List (List UInt8)) : Prop := ss.length = ls.length ∧ (∀ (i : Nat) (h : i < ss.length), w.cell? ⟨b, i, none⟩ = some ss[i].v) ∧ ∀ (i : Nat) (h : i < ss.length) (h' : i < ls.length), BytesR w ss[i] ls[i]
def sumLen (ls : List (List UInt8)) : Nat := (ls.map List.length).sum
theorem sumLen_succ (ls : List (List UInt8)) (k : Nat) (h : k < ls.length) : sumLen (ls.take (k + 1)) = sumLen (ls.take k) + ls[k].length := by
 rw [List.take_succ_eq_append_getElem h, sumLen, List.map_append, List.sum_append]
 rfl
theorem sumLen_le (ls : List (List UInt8)) (k : Nat) : sumLen (ls.take k) ≤ sumLen ls := by
 have := congrArg sumLen (List.take_append_drop k ls)
 simp only [sumLen, List.map_append, List.sum_append] at this ⊢
 omega
theorem flatten_length' (ls : List (List UInt8)) : ls.flatten.length = sumLen ls := by simp [sumLen, List.length_flatten]
theorem flatten_succ (ls : List (List UInt8)) (k : Nat) (h : k < ls.length) : (ls.take (k + 1)).flatten = (ls.take k).flatten ++ ls[k] := by
 rw [List.take_succ_eq_append_getElem h, List.flatten_append]
 simp only [List.flatten_cons, List.flatten_nil, List.append_nil]

set_option maxRecDepth 100000 in
set_option maxHeartbeats 800000 in
theorem concat_c (b c : Nat) (ss : List Sl) (ls : List (List UInt8)) (w : World) (hp : PiecesAt w b ss ls) (hn : ls.length ≤ 1000) (h0 : 0 < sumLen ls) (hs : sumLen ls ≤ 140737488355328) :
  Calls Try.prog 165 #[.slice (some ⟨b, 0, none⟩) ls.length c] w fun e w' => ∃ v, e = .returned v ∧ Own w' w.heap.size v ls.flatten ∧ Below w.heap.size w w' := by
 obtain ⟨i0, hi, hz0, hz1, hz2⟩ := info_parts info_u8
 obtain ⟨hl, hc, hr⟩ := hp
 have Hl := Lib.hid hl
 have Hc := Lib.hid hc
 have Hr := Lib.hid hr
 clear hl hc hr
 go_enter Try.func165, Try.ntmps165
 go_wp2_with fail
 go_loop [3, 11] (fun u i => ∃ k : Nat, k ≤ ls.length ∧ u = .int .i64 (sumLen (ls.take k) : Nat) ∧ i = .int .i64 k) (fun _ i => ls.length - (intOf i).toNat)
 case atStart => exact ⟨0, Nat.zero_le _, rfl, rfl⟩
 case round =>
  obtain ⟨k, hk, rfl, rfl⟩ := hrel
  have hle := sumLen_le ls k
  have i0' : (0 : Int) ≤ (k : Int) := by omega
  by_cases hkx : k < ls.length
  ·have hks : k < ss.length := by have := Hl.out; omega
   have hcell := Hc.out k hks
   have hlen := (Hr.out k hks hkx).1
   have hsu := sumLen_succ ls k hkx
   have hle1 := sumLen_le ls (k + 1)
   have i1 : (k : Int) < (ls.length : Int) := by omega
   generalize ls[k] = lk at *
   generalize ss[k] = sk at *
   obtain ⟨sa, sn, sc⟩ := sk
   simp only at hlen
   subst hlen
   dsimp only [Sl.v] at hcell
   generalize sumLen (ls.take k) = sk at *
   have Hsu := Lib.hid hsu
   have i2 : sk + lk.length ≤ sumLen ls := by omega
   have i3 : ¬ ((sk : Int) + (lk.length : Int) < 0) := by omega
   clear hsu hle1
   go_wp2_with fail
   go_round
   case rel => exact ⟨k + 1, by omega, by rw [Hsu.out]; go_num, by go_num⟩
   case measure => simp [intOf]; omega
  ·have hsu : sumLen (ls.take k) = sumLen ls := by rw [List.take_of_length_le (by omega)]
   rw [hsu]
   clear hsu hle
   go_wp2_with fail
   refine (growBytes_c (sumLen ls) w h0 hs).mono ?_
   rintro e w1 ⟨v, rfl, ho, hb1⟩
   go_wp2_with fail
   go_loopw [6, 27] (fun u i w' => ∃ k : Nat, k ≤ ls.length ∧ Own w' w.heap.size u (ls.take k).flatten ∧ i = .int .i64 k ∧ Below w.heap.size w w') (fun _ i _ => ls.length - (intOf i).toNat)
   case atStart => exact ⟨0, Nat.zero_le _, ho, rfl, hb1⟩
   case round =>
    obtain ⟨k, hk, hown, rfl, hB⟩ := hrel
    have i0' : (0 : Int) ≤ (k : Int) := by omega
    by_cases hkx : k < ls.length
    ·have hks : k < ss.length := by have := Hl.out; omega
     have hbl := lt_of_cell (Hc.out k hks)
     have hcell := (hB.cell (p := ⟨b, k, none⟩) hbl).trans (Hc.out k hks)
     have hread := (Hr.out k hks hkx).keep hB
     have hfl := flatten_succ ls k hkx
     have hlen := flatten_length' (ls.take k)
     have hle := sumLen_le ls (k + 1)
     have hsu := sumLen_succ ls k hkx
     have i1 : (k : Int) < (ls.length : Int) := by omega
     have hfit : (ls.take k).flatten.length + ls[k].length ≤ 140737488355328 := by omega
     generalize ls[k] = lk at *
     generalize ss[k] = sk at *
     have Hfl := Lib.hid hfl
     have Hread := Lib.hid hread
     clear hfl hread hlen hle hsu
     have hz := hB.size
     go_wp2_with (at_builtin; refine wpList_append_bytes _ rfl _ _ _ rfl w.heap.size 5 i0 _ Try.underlying32 hi hz0 hz1 hz2 rfl _ _ rfl hown sk lk rfl Hread.out hfit hz ?_; intro v' w2 hown2 hg2 _)
     have hB2 : Below w.heap.size w w2 := bel_grown hg2 hB hz (fun k hk => (hown.lt k hk).1)
     go_roundw
     case rel => exact ⟨k + 1, by omega, by rw [Hfl.out]; exact hown2, by go_num, hB2⟩
     case measure => simp [intOf]; omega
    ·have hfl : (ls.take k).flatten = ls.flatten := by rw [List.take_of_length_le (by omega)]
     rw [hfl] at hown
     clear hfl
     go_wp2_with fail
     go_ret
     exact ⟨_, rfl, hown, hB⟩
end Go.Proofs.Ythdjhbiigmcecaa
