/- Texts of this proof, one behind the other: RegJ, RegK. -/
import Derived.Test.YtkocpihfdpahpaaRA
import Derived.Test.YtkocpihfdpahpaaRC
import Derived.Test.YtkocpihfdpahpaaRD
set_option linter.unusedVariables false
set_option linter.unusedSimpArgs false
/- Plain: a line of deposits, and how it turns; all stake, without going round. -/
namespace Go.Proofs.Ytkocpihfdpahpaa

theorem actI_at (r : Reg) (j : Nat) : actI r ((j : Int) + 1) = actAt r j := by
  unfold actI actAt
  rw [decide_eq_true (by omega), Bool.true_and, show ((j : Int) + 1 - 1).toNat = j by omega]
  by_cases h : j < r.members.length
  · rw [decide_eq_true (by omega), Bool.true_and]
  · rw [decide_eq_false (by omega), Bool.false_and, List.getD_eq_getElem?_getD, List.getElem?_eq_none (by omega)]
    rfl
theorem stakeI_at (r : Reg) (j : Nat) : stakeI r ((j : Int) + 1) = totT r j := by
  unfold stakeI totT stk stakeAt
  rw [actI_at, show ((j : Int) + 1 - 1).toNat = j by omega]
theorem totW_eq {r : Reg} (h : RegP r) : ∀ k, k ≤ r.members.length → totW r k = sumTo (totT r) k
  | 0, _ => rfl
  | k + 1, hk => by
    have h1 := tot_le h (k + 1) hk
    rw [totW, totW_eq h k (by omega), stakeI_at, ← sumTo_succ, Nat.mod_eq_of_lt (by omega)]
theorem totW_tot {r : Reg} (h : RegP r) : totW r r.members.length = totN r := totW_eq h _ (Nat.le_refl _)

/-! nobody goes -/
theorem goOut_nil {r : Reg} (hg : r.going = []) (lim : Nat) : goOut r lim = [] := by simp [goOut, hg]
theorem come_nodup {r : Reg} (h : RegP r) (lim : Nat) : (comeIn r lim).Nodup := h.coming.nodup.sublist (List.take_sublist _ _)
theorem turned_tot {r : Reg} (h : RegP r) (hg : r.going = []) (lim : Nat) : totN (turned r lim) = totN r + sumL r.members (comeIn r lim) := by
  have hgo := goOut_nil hg lim
  have hc : sumL r.members (comeIn r lim) = sumTo (fun i => (comeIn r lim).count ((i : Int) + 1) * (r.members.getD i zeroMbr).stake.toNat) r.members.length := by
    rw [line_sum]
    unfold sumL
    congr 1
    refine List.map_congr_left fun n hn => ?_
    have := h.coming.range n (List.mem_of_mem_take hn)
    rw [if_pos this]
  unfold totN
  rw [turned_length, hc, ← sumTo_add]
  refine sumTo_congr _ fun j hj => ?_
  have hm := get_some hj zeroMbr
  have ht := turned_get h lim j
  rw [hm, hgo] at ht
  simp only [Option.map_some] at ht
  unfold totT actAt stk
  rw [getD_of ht]
  have hm' := hm
  generalize r.members.getD j zeroMbr = m at *
  by_cases hin : ((j : Int) + 1) ∈ comeIn r lim
  · have h1 := come_st h hm' hin
    have hct : (comeIn r lim).count ((j : Int) + 1) = 1 := (come_nodup h lim).count.trans (if_pos hin)
    simp [tst, hin, h1, votes, hct]
  · have hct : (comeIn r lim).count ((j : Int) + 1) = 0 := List.count_eq_zero.2 hin
    simp [tst, hin, hct]

/-- a register that deposits alone have made -/
structure JP (c : UInt64) (n : Nat) (r : Reg) : Prop where
  may : RegP r
  goi : r.going = []
  chn : r.churn = c
  sml : ∀ m ∈ r.members, m.stake.toNat ≤ c.toNat
  len : r.members.length = n + 1
  key : ∀ (i : Nat) (m : Mbr), r.members[i]? = some m → m.key = if i = 0 then nmk 255 else nmk (i - 1)
theorem JP.turn {c : UInt64} {n : Nat} {r : Reg} (h : JP c n r) (lim : Nat) : JP c n (turned r lim) := by
  refine ⟨turned_may h.may lim, ?_, h.chn, fun m hm => ?_, by rw [turned_length, h.len], fun i m hi => ?_⟩
  · show List.drop _ r.going = []
    rw [h.goi]
    simp
  · obtain ⟨i, hi⟩ := mem_get.1 hm
    obtain ⟨m0, h0, rfl⟩ := turned_at h.may hi
    exact h.sml m0 (mem_get.2 ⟨i, h0⟩)
  · obtain ⟨m0, h0, rfl⟩ := turned_at h.may hi
    exact h.key i m0 h0
def plainHdr (e : UInt64) : Hdr := ⟨zeroHash, e, []⟩
def depHdr (e : UInt64) (k : Hash) (s : UInt64) : Hdr := ⟨zeroHash, e, [⟨1, k, s, 0, []⟩]⟩
theorem next_plain {r : Reg} (h : RegP r) (a e : UInt64) (he : e.toNat = a.toNat + 1) (hle : e.toNat ≤ 1000000) : regNext r (plainHdr e) a = (turned r r.churn.toNat, 0) := by
  have h1 : hdrMay (plainHdr e) = true := by
    simp only [hdrMay, plainHdr, Bool.and_eq_true, decide_eq_true_eq, List.all_nil, and_true, List.length_nil]
    exact ⟨decide_eq_true ⟨by omega, by omega⟩, rfl⟩
  have h2 : nextIn r (plainHdr e) a = true := by
    simp only [nextIn, Bool.and_eq_true, decide_eq_true_eq]
    exact ⟨⟨(regMay_iff r).2 h, h1⟩, by show a.toNat < e.toNat; omega⟩
  rw [regNext, if_pos h2]
  show regOps (turned r ((e.toNat - a.toNat) * r.churn.toNat)) [] = _
  rw [he, Nat.add_sub_cancel_left, Nat.one_mul]
  rfl
theorem nmk_inj {a b : Nat} (ha : a < 256) (hb : b < 256) (h : nmk a = nmk b) : a = b := by
  have h1 : UInt8.ofNat a = UInt8.ofNat b := by
    have := congrArg (fun x : Hash => x.1.head?) h
    simpa [nmk] using this
  have h2 := congrArg UInt8.toNat h1
  simp only [UInt8.toNat_ofNat'] at h2
  omega
def regDep (r : Reg) (k : Hash) (s : UInt64) : Reg := ⟨(turned r r.churn.toNat).members ++ [⟨k, s, 1, false⟩], (turned r r.churn.toNat).coming ++ [(r.members.length : Int) + 1], [], r.churn⟩
theorem dep_may {e : UInt64} {k : Hash} {s : UInt64} (h1 : 1 ≤ e.toNat) (h2 : e.toNat ≤ 1000000) (h3 : 1 ≤ s.toNat) (h4 : s.toNat ≤ 1048576) : hdrMay (depHdr e k s) = true := by
  simp only [hdrMay, depHdr, Bool.and_eq_true, decide_eq_true_eq, List.all_cons, List.all_nil, and_true, List.length_singleton, opMay, bareO]
  refine ⟨⟨decide_eq_true ⟨h1, by omega⟩, rfl⟩, rfl, ?_⟩
  exact decide_eq_true ⟨h3, by omega⟩
theorem next_dep {c : UInt64} {n : Nat} {r : Reg} (h : JP c n r) (hc : c.toNat ≤ 1048576) (hn : n < 20) {a e s : UInt64} (he : e.toNat = n + 1) (ha : a.toNat = n) (h3 : 1 ≤ s.toNat) (h4 : s.toNat ≤ c.toNat) :
    regNext r (depHdr e (nmk n) s) a = (regDep r (nmk n) s, 0) ∧ JP c (n + 1) (regDep r (nmk n) s) := by
  have h1 : hdrMay (depHdr e (nmk n) s) = true := dep_may (by omega) (by omega) h3 (by omega)
  have h2 : nextIn r (depHdr e (nmk n) s) a = true := by
    simp only [nextIn, Bool.and_eq_true, decide_eq_true_eq]
    exact ⟨⟨(regMay_iff r).2 h.may, h1⟩, by show a.toNat < e.toNat; omega⟩
  have ht := h.turn r.churn.toNat
  have hk : keyIn (nmk n) (turned r r.churn.toNat).members = false := by
    rw [Bool.eq_false_iff]
    intro hk
    obtain ⟨i, m, hi, he⟩ := (keyIn_iff _ _).1 hk
    have hl := lt_of_get hi
    rw [ht.len] at hl
    rw [ht.key i m hi] at he
    split at he
    · exact absurd (nmk_inj (by omega) (by omega) he) (by omega)
    · have := nmk_inj (by omega) (by omega) he
      omega
  have hz : regNext r (depHdr e (nmk n) s) a = (regDep r (nmk n) s, 0) := by
    rw [regNext, if_pos h2]
    show regOps (turned r ((e.toNat - a.toNat) * r.churn.toNat)) [⟨1, nmk n, s, 0, []⟩] = _
    rw [he, ha, Nat.add_sub_cancel_left, Nat.one_mul]
    have ho : regOp (turned r r.churn.toNat) ⟨1, nmk n, s, 0, []⟩ = (regDep r (nmk n) s, 0) := by
      unfold regOp
      rw [if_pos rfl, if_neg (by rw [hk]; simp only [Bool.false_eq_true, false_or, Nat.not_lt]; rw [ht.chn]; exact h4), if_neg (by rw [ht.len]; omega)]
      unfold regDep
      rw [turned_length, ht.goi]
      rfl
    rw [regOps, if_pos (by rw [ho]), ho]
    rfl
  refine ⟨hz, ?_, rfl, h.chn, fun m hm => ?_, ?_, fun i m hi => ?_⟩
  · have := regNext_may (r := r) (h := depHdr e (nmk n) s) (p := a) (by rw [hz])
    rwa [hz] at this
  · rcases List.mem_append.1 hm with hm | hm
    · exact ht.sml m hm
    · rw [List.mem_singleton] at hm
      subst hm
      exact h4
  · show (List.length (_ ++ _)) = _
    rw [List.length_append, ht.len]
    rfl
  · have hi' : ((turned r r.churn.toNat).members ++ [⟨nmk n, s, 1, false⟩])[i]? = some m := hi
    by_cases hlt : i < n + 1
    · rw [List.getElem?_append_left (by rw [ht.len]; exact hlt)] at hi'
      exact ht.key i m hi'
    · have hl := lt_of_get hi'
      rw [List.length_append, ht.len] at hl
      simp only [List.length_singleton] at hl
      obtain rfl : i = n + 1 := by omega
      rw [List.getElem?_append_right (by rw [ht.len]; omega), ht.len, Nat.sub_self] at hi'
      injection hi' with hi'
      subst hi'
      rw [if_neg (by omega)]
      rfl

/-! how many turn, one by one -/
theorem sumL_snoc (ms : List Mbr) (l : List Int) (k : Nat) (n : Int) (h : l[k]? = some n) : sumL ms (l.take (k + 1)) = sumL ms (l.take k) + stakeAt ms n := by
  obtain ⟨hlt, he⟩ := List.getElem?_eq_some_iff.1 h
  rw [List.take_succ_eq_append_getElem hlt, he]
  simp [sumL]
theorem turnN_walk (ms : List Mbr) (lim : Nat) (l : List Int) : ∀ k, k ≤ turnN ms lim l 0 → turnN ms lim l 0 = k + turnN ms lim (l.drop k) (sumL ms (l.take k))
  | 0, _ => by simp [sumL]
  | k + 1, hk => by
    have h1 := turnN_walk ms lim l k (by omega)
    have hlt : k < l.length := by have := turnN_le ms lim l 0; omega
    have hg := List.getElem?_eq_getElem hlt
    rw [List.drop_eq_getElem_cons hlt, turnN] at h1
    rw [sumL_snoc ms l k _ hg]
    split at h1
    · omega
    · rw [h1]
      omega
theorem turnN_test (ms : List Mbr) (lim : Nat) (l : List Int) (k : Nat) (hk : k ≤ turnN ms lim l 0) (n : Int) (h : l[k]? = some n) : (sumL ms (l.take k) + stakeAt ms n ≤ lim ↔ k < turnN ms lim l 0) := by
  obtain ⟨hlt, he⟩ := List.getElem?_eq_some_iff.1 h
  have h1 := turnN_walk ms lim l k hk
  rw [List.drop_eq_getElem_cons hlt, he, turnN] at h1
  split at h1
  · constructor <;> omega
  · constructor <;> omega
theorem turnN_one {ms : List Mbr} {lim : Nat} {l : List Int} (h0 : 0 < l.length) (hs : ∀ m ∈ ms, m.stake.toNat ≤ lim) : 1 ≤ turnN ms lim l 0 := by
  have hg := List.getElem?_eq_getElem h0
  have := (turnN_test ms lim l 0 (Nat.zero_le _) _ hg).1 (by
    simp only [List.take_zero, sumL, List.map_nil, List.sum_nil, Nat.zero_add]
    unfold stakeAt
    by_cases hh : (l[0] - 1).toNat < ms.length
    · exact hs _ (mem_get.2 ⟨_, get_some hh zeroMbr⟩)
    · rw [List.getD_eq_getElem?_getD, List.getElem?_eq_none (by omega)]
      exact Nat.zero_le _)
  omega
def jAnc (c : UInt64) : Anc := ⟨⟨0, zeroHash⟩, [⟨nmk 255, 1⟩], c, 0⟩
theorem jp_start {c : UInt64} (h1 : 1 ≤ c.toNat) (h2 : c.toNat ≤ 1048576) : ancMay (jAnc c) = true ∧ JP c 0 (firstReg (jAnc c)) := by
  have hm : ancMay (jAnc c) = true := by
    simp only [ancMay, ancHead, jAnc, Bool.and_eq_true, decide_eq_true_eq, churnOk, List.length_singleton, upto_iff]
    refine ⟨⟨⟨⟨rfl, rfl⟩, decide_eq_true ⟨h1, by omega⟩⟩, rfl⟩, fun i hi => ?_⟩
    obtain rfl : i = 0 := by omega
    decide
  refine ⟨hm, first_may hm, rfl, rfl, fun m hm => ?_, rfl, fun i m hi => ?_⟩
  · rw [show (firstReg (jAnc c)).members = [⟨nmk 255, 1, 2, false⟩] from rfl, List.mem_singleton] at hm
    subst hm
    exact h1
  · have hl := lt_of_get hi
    rw [show (firstReg (jAnc c)).members = [⟨nmk 255, 1, 2, false⟩] from rfl] at hi hl
    simp only [List.length_singleton] at hl
    obtain rfl : i = 0 := by omega
    injection hi with hi
    subst hi
    rfl
end Go.Proofs.Ytkocpihfdpahpaa

/- Lists of registers, and of epochs, in memory. -/
namespace Go.Proofs.Ytkocpihfdpahpaa
open Go.RowKit

/-- a register whose memory does not hang on the blocks of a set -/
def RegM (M : Nat → Prop) (W : World) (g : GReg) (r : Reg) : Prop := ∀ W2 : World, W.heap.size ≤ W2.heap.size → (∀ k, ¬ M k → k < W.heap.size → W2.heap[k]? = W.heap[k]?) → RegR W2 g r
theorem RegM.reg {M : Nat → Prop} {W : World} {g : GReg} {r : Reg} (h : RegM M W g r) : RegR W g r := h W (Nat.le_refl _) fun _ _ _ => rfl
theorem RegM.step {M M' : Nat → Prop} {W W' : World} {g : GReg} {r : Reg} (h : RegM M W g r) (hs : W.heap.size ≤ W'.heap.size) (hb : ∀ k, ¬ M k → k < W.heap.size → W'.heap[k]? = W.heap[k]?) (hM : ∀ k, k < W.heap.size → M' k → M k) : RegM M' W' g r := fun W2 h2 hb2 =>
  h W2 (Nat.le_trans hs h2) fun k hk hl => (hb2 k (fun h => hk (hM k hl h)) (Nat.lt_of_lt_of_le hl hs)).trans (hb k hk hl)
theorem RegM.keep {M : Nat → Prop} {W W' : World} {g : GReg} {r : Reg} (h : RegM M W g r) (hb : Below W.heap.size W W') : RegM M W' g r := h.step hb.size (fun k _ hl => hb.block k hl) fun _ _ h => h
theorem RegAt.toM {B : Nat} {M : Nat → Prop} {W : World} {g : GReg} {r : Reg} (h : RegAt B W g r) (hM : ∀ k, k < W.heap.size → M k → k < B) : RegM M W g r := fun W2 h2 hb2 =>
  h W2 h2 fun k h3 h4 => hb2 k (fun hm => absurd (hM k h4 hm) (by omega)) h4

def epA (u : UInt64) : Array Value := #[.int .u64 (u.toNat : Int)]
theorem epA_size (u : UInt64) : (epA u).size = 1 := rfl
theorem epA_one (e : UInt64) : ∀ u ∈ (epA e).toList, u.oneCell' = true := by
  intro u hu
  simp only [epA, List.mem_singleton] at hu
  subst hu
  rfl
theorem regA_one (g : GReg) : ∀ u ∈ (regA g).toList, u.oneCell' = true := by
  intro u hu
  simp only [regA, List.mem_cons, List.not_mem_nil, or_false] at hu
  rcases hu with rfl | rfl | rfl | rfl <;> rfl
theorem info_regs : (Try.prog.info? 103).map (fun i => (i.zero, i.size, i.bytes)) = some (some (.agg (regA zeroG4)), 4, 80) := by kernel_rfl
theorem info_eps : (Try.prog.info? 22).map (fun i => (i.zero, i.size, i.bytes)) = some (some (.int .u64 0), 1, 8) := by kernel_rfl
def bsR (n : Nat) (parts : Array (Nat × Value)) : Sem Value := Instr.buildSlice 118 n parts
theorem fold_bsR (n : Nat) (parts : Array (Nat × Value)) : Instr.buildSlice 118 n parts = bsR n parts := rfl
theorem bsR_one (g : GReg) (w : World) : (bsR 1 #[(0, .agg (regA g))]).run Try.prog w = .ok (.slice (some ⟨w.heap.size, 0, none⟩) 1 1) (w.alloc (.cells (regA g) 103)) := by
  obtain ⟨i0, hi, hy0, hy1, hy2⟩ := info_parts info_regs
  exact run_buildSlice_one w Try.underlying118 hi hy0 hy1 (by simp [Value.cells, regA]) (by omega) (by omega) _ (by simp [regA])
def appR (args : Array Value) : Sem Value := Builtin.append_ #[118, 118] 118 args
theorem fold_appR (args : Array Value) : Builtin.append_ #[118, 118] 118 args = appR args := rfl
def bsE (n : Nat) (parts : Array (Nat × Value)) : Sem Value := Instr.buildSlice 91 n parts
theorem fold_bsE (n : Nat) (parts : Array (Nat × Value)) : Instr.buildSlice 91 n parts = bsE n parts := rfl
theorem bsE_one (x : UInt64) (w : World) : (bsE 1 #[(0, .int .u64 (x.toNat : Int))]).run Try.prog w = .ok (.slice (some ⟨w.heap.size, 0, none⟩) 1 1) (w.alloc (.cells (epA x) 22)) := by
  obtain ⟨i0, hi, hy0, hy1, hy2⟩ := info_parts info_eps
  have h := run_buildSlice_one (P := Try.prog) w (t := 91) (e := 22) (xs := epA x) Try.underlying91 hi hy0 hy1 (by simp [Value.cells]) (by omega) (by omega) (by rfl)
  have e : Instr.buildSlice 91 1 #[(0, Value.agg (epA x))] = Instr.buildSlice 91 1 #[(0, .int .u64 (x.toNat : Int))] := by
    simp [Instr.buildSlice, Instr.fill, Value.cells, epA]
  rw [e] at h
  exact h
def appE (args : Array Value) : Sem Value := Builtin.append_ #[91, 91] 91 args
theorem fold_appE (args : Array Value) : Builtin.append_ #[91, 91] 91 args = appE args := rfl

/-- what an append leaves as it was -/
structure AppF (B : Nat) (W W' : World) (s s' : Sl) : Prop where
  below : Below B W W'
  size : W.heap.size < W'.heap.size
  block : ∀ k, k < W.heap.size → s.v.ownBlock ≠ some k → W'.heap[k]? = W.heap[k]?
  own : ∀ k, k < W.heap.size → s'.v.ownBlock = some k → s.v.ownBlock = some k
def OwnRs (w : World) (base : Nat) (v : Value) (gs : List GReg) : Prop := OwnC w base 4 v gs.length (flatC regA gs)
def OwnEs (w : World) (base : Nat) (v : Value) (es : List UInt64) : Prop := OwnC w base 1 v es.length (flatC epA es)
theorem app_frame {W W' : World} {B : Nat} {s s' : Sl} {n k : Nat} {xs : List Value} {o : Obj} (h : OwnC W B k s.v n xs) (hB : B ≤ W.heap.size) (e3 : (W.alloc o).grownBy W' s.v.ownBlock) (e4 : s'.v.ownBlock = s.v.ownBlock ∨ s'.v.ownBlock = some (W.alloc o).heap.size) : AppF B W W' s s' := by
  have hsz : (W.alloc o).heap.size = W.heap.size + 1 := by simp
  have hz := e3.size
  rw [hsz] at hz e4
  refine ⟨((Below.refl B W).alloc hB _).grown e3 (by omega) (fun k hk => (h.lt k hk).1), by omega, fun k hk hne => ?_, fun k hk he => ?_⟩
  · exact (e3.block k (by omega) (fun e => hne e.symm)).trans (Below.heap_alloc W _ k hk)
  · rcases e4 with e4 | e4
    · rw [← e4, he]
    · rw [e4] at he
      injection he with he
      omega
theorem app_reg {W : World} {B : Nat} {s : Sl} {gs : List GReg} (h : OwnRs W B s.v gs) (hB : B ≤ W.heap.size) (hl : gs.length ≤ 1000000) (g : GReg) :
    ∃ (s' : Sl) (w' : World), (appR #[s.v, .slice (some ⟨W.heap.size, 0, none⟩) 1 1]).run Try.prog (W.alloc (.cells (regA g) 103)) = .ok s'.v w' ∧ OwnRs w' B s'.v (gs ++ [g]) ∧ AppF B W w' s s' := by
  obtain ⟨i0, hi, hy0, hy1, hy2⟩ := info_parts info_regs
  have hA : Below W.heap.size W (W.alloc (.cells (regA g) 103)) := bel_a W _
  have hsz : (W.alloc (.cells (regA g) 103)).heap.size = W.heap.size + 1 := by simp
  obtain ⟨s', w', e1, e2, e3, e4⟩ := run_append_one (P := Try.prog) regA regA_size (W.alloc (.cells (regA g) 103)) 118 regA_one B 103 i0 _ 80 Try.underlying118 hi hy0 hy1 hy2 (by simp [Value.cells, regA]) s.v gs (OwnC.keep h hA) W.heap.size 1 g (heap_alloc_new W _) hl (by omega) (by omega)
  exact ⟨s', w', e1, e2, app_frame h hB e3 e4⟩
theorem app_ep {W : World} {B : Nat} {s : Sl} {es : List UInt64} (h : OwnEs W B s.v es) (hB : B ≤ W.heap.size) (hl : es.length ≤ 1000000) (x : UInt64) :
    ∃ (s' : Sl) (w' : World), (appE #[s.v, .slice (some ⟨W.heap.size, 0, none⟩) 1 1]).run Try.prog (W.alloc (.cells (epA x) 22)) = .ok s'.v w' ∧ OwnEs w' B s'.v (es ++ [x]) ∧ AppF B W w' s s' := by
  obtain ⟨i0, hi, hy0, hy1, hy2⟩ := info_parts info_eps
  have hA : Below W.heap.size W (W.alloc (.cells (epA x) 22)) := bel_a W _
  have hsz : (W.alloc (.cells (epA x) 22)).heap.size = W.heap.size + 1 := by simp
  obtain ⟨s', w', e1, e2, e3, e4⟩ := run_append_one (P := Try.prog) epA epA_size (W.alloc (.cells (epA x) 22)) 91 epA_one B 22 i0 _ 8 Try.underlying91 hi hy0 hy1 hy2 (by simp [Value.cells]) s.v es (OwnC.keep h hA) W.heap.size 1 x (heap_alloc_new W _) hl (by omega) (by omega)
  exact ⟨s', w', e1, e2, app_frame h hB e3 e4⟩
theorem OwnC.far {w w' : World} {base k n : Nat} {v : Value} {xs : List Value} (h : OwnC w base k v n xs) (hs : w.heap.size ≤ w'.heap.size) (hb : ∀ g, v.ownBlock = some g → g < w.heap.size → w'.heap[g]? = w.heap[g]?) : OwnC w' base k v n xs := h.keepB hs hb

abbrev Ent := GReg × Reg × UInt64
/-- a branch's registers and epochs, in memory -/
structure BrM (W : World) (B p : Nat) (sa se : Sl) (xs : List Ent) : Prop where
  all : OwnRs W B sa.v (xs.map (·.1))
  eps : OwnEs W B se.v (xs.map (·.2.2))
  dis : ∀ k, sa.v.ownBlock = some k → se.v.ownBlock ≠ some k
  hp : p < B
  hB : B ≤ W.heap.size
  regs : ∀ x ∈ xs, RegM (fun k => k = p ∨ sa.v.ownBlock = some k ∨ se.v.ownBlock = some k) W x.1 x.2.1
theorem BrM.keep {W W' : World} {B p : Nat} {sa se : Sl} {xs : List Ent} (h : BrM W B p sa se xs) (hb : Below W.heap.size W W') : BrM W' B p sa se xs :=
  ⟨OwnC.keep h.all hb, OwnC.keep h.eps hb, h.dis, h.hp, Nat.le_trans h.hB hb.size, fun x hx => (h.regs x hx).keep hb⟩
/-- the variable turns -/
theorem BrM.put {W : World} {B p : Nat} {sa se : Sl} {xs : List Ent} (h : BrM W B p sa se xs) (off : Nat) (vs : Array Value) : BrM (putRow W p off vs) B p sa se xs := by
  have hs : (putRow W p off vs).heap.size = W.heap.size := size_put _ _ _ _
  have hf : ∀ k, k ≠ p → (putRow W p off vs).heap[k]? = W.heap[k]? := fun k hk => put_far _ _ _ _ k hk
  have hp := h.hp
  refine ⟨OwnC.far h.all (by rw [hs]; exact Nat.le_refl _) fun g hg _ => hf g ?_, OwnC.far h.eps (by rw [hs]; exact Nat.le_refl _) fun g hg _ => hf g ?_, h.dis, h.hp, by rw [hs]; exact h.hB, fun x hx => (h.regs x hx).step (by rw [hs]; exact Nat.le_refl _) (fun k hk _ => hf k fun e => hk (.inl e)) fun _ _ h => h⟩
  · have := (h.all.lt g hg).1; omega
  · have := (h.eps.lt g hg).1; omega
/-- one register, and one epoch, more -/
theorem BrM.app {W W1 W2 : World} {B p : Nat} {sa se sa' se' : Sl} {xs : List Ent} (h : BrM W B p sa se xs) (x : Ent) (hx : RegM (fun k => k = p ∨ sa.v.ownBlock = some k ∨ se.v.ownBlock = some k) W x.1 x.2.1)
    (ha : OwnRs W1 B sa'.v (xs.map (·.1) ++ [x.1])) (fa : AppF B W W1 sa sa') (he : OwnEs W2 B se'.v (xs.map (·.2.2) ++ [x.2.2])) (fe : AppF B W1 W2 se se') : BrM W2 B p sa' se' (xs ++ [x]) := by
  have hp := h.hp
  have hB := h.hB
  have s1 := fa.size
  have s2 := fe.size
  have hsl : ∀ k, se.v.ownBlock = some k → k < W.heap.size := fun k hk => (h.eps.lt k hk).2
  have hal : ∀ k, sa'.v.ownBlock = some k → k < W1.heap.size := fun k hk => (ha.lt k hk).2
  have hda : ∀ k, sa'.v.ownBlock = some k → se.v.ownBlock ≠ some k := fun k hk he => h.dis k (fa.own k (hsl k he) hk) he
  have hr : ∀ y ∈ xs ++ [x], RegM (fun k => k = p ∨ sa.v.ownBlock = some k ∨ se.v.ownBlock = some k) W y.1 y.2.1 := fun y hy => by
    rcases List.mem_append.1 hy with hy | hy
    · exact h.regs y hy
    · rw [List.mem_singleton] at hy
      subst hy
      exact hx
  refine ⟨?_, ?_, fun k hk hk2 => ?_, hp, by omega, fun y hy => ?_⟩
  · rw [List.map_append]
    exact OwnC.far ha (Nat.le_of_lt s2) fun g hg hl => fe.block g hl (hda g hg)
  · rw [List.map_append]
    exact he
  · exact hda k hk (fe.own k (hal k hk) hk2)
  · refine ((hr y hy).step (M' := fun k => k = p ∨ sa'.v.ownBlock = some k ∨ se.v.ownBlock = some k) (Nat.le_of_lt s1) (fun k hk hl => fa.block k hl fun e => hk (.inr (.inl e))) fun k hl hk => ?_).step (Nat.le_of_lt s2) (fun k hk hl => fe.block k hl fun e => hk (.inr (.inr e))) fun k hl hk => ?_
    · rcases hk with hk | hk | hk
      · exact .inl hk
      · exact .inr (.inl (fa.own k hl hk))
      · exact .inr (.inr hk)
    · rcases hk with hk | hk | hk
      · exact .inl hk
      · exact .inr (.inl hk)
      · exact .inr (.inr (fe.own k hl hk))
theorem BrM.eps1 {W W1 : World} {B p : Nat} {sa se sa' : Sl} {xs : List Ent} (h : BrM W B p sa se xs) (fa : AppF B W W1 sa sa') : OwnEs W1 B se.v (xs.map (·.2.2)) :=
  OwnC.far h.eps (Nat.le_of_lt fa.size) fun g hg hl => fa.block g hl fun e => h.dis g e hg
theorem regs_at {W : World} {B p : Nat} {sa se : Sl} {xs : List Ent} (h : BrM W B p sa se xs) (h0 : 0 < xs.length) :
    ∃ b1 o1 b2 o2, sa = ⟨some ⟨b1, o1, none⟩, xs.length, sa.c⟩ ∧ se = ⟨some ⟨b2, o2, none⟩, xs.length, se.c⟩ ∧ b1 < W.heap.size ∧ b2 < W.heap.size ∧ xs.length ≤ sa.c ∧ xs.length ≤ se.c ∧
      (∀ (i : Nat) (hi : i < xs.length), row? W b1 (o1 + i * 4) 4 = some (regA xs[i].1)) ∧ ∀ (i : Nat) (hi : i < xs.length), W.cell? ⟨b2, o2 + i, none⟩ = some (.int .u64 (xs[i].2.2.toNat : Int)) := by
  have r1 := rows_of_own regA regA_size (by omega) h.all
  have r2 := rows_of_own epA epA_size (by omega) h.eps
  obtain ⟨b1, o1, e1, hb1, hc1⟩ := r1.at (by rw [List.length_map]; exact h0)
  obtain ⟨b2, o2, e2, hb2, hc2⟩ := r2.at (by rw [List.length_map]; exact h0)
  have n1 := r1.2.1
  have n2 := r2.2.1
  have m1 := r1.1
  have m2 := r2.1
  rw [List.length_map] at e1 e2 m1 m2
  refine ⟨b1, o1, b2, o2, e1, e2, hb1, hb2, by omega, by omega, fun i hi => ?_, fun i hi => ?_⟩
  · obtain ⟨cs, hr, hcs⟩ := hc1 i (by rw [List.length_map]; exact hi)
    rw [hr, hcs, List.getElem_map]
  · obtain ⟨cs, hr, hcs⟩ := hc2 i (by rw [List.length_map]; exact hi)
    have hcell := cell_of_row? hr 0 (by omega)
    rw [hcs, List.getElem_map] at hcell
    simpa [epA] using hcell
end Go.Proofs.Ytkocpihfdpahpaa
