/- Texts of this proof, one behind the other: CrtOf, CrtROf, CrtRound. -/
import Derived.Test.YtkocpihfdpahpaaQD
import Derived.Test.YtkocpihfdpahpaaQA
import Derived.Deep.CutBlock
import Derived.Test.YtkocpihfdpahpaaQC
set_option linter.unusedVariables false
set_option linter.unusedSimpArgs false
/- Contract: cert.Of. -/
namespace Go.Proofs.Ytkocpihfdpahpaa
open Go.RowKit

theorem store_cert_s (x v : Value) : Instr.storeAt 31 x v = storeAgg 31 x v := rfl
theorem info_cert : (Try.prog.info? 31).map (·.size) = some 67 := by kernel_rfl
theorem store_cert (w : World) (b off : Nat) (xs : Array Value) (hn : xs.size = 67) (h1 : oneCells xs) (ht : there w b off 67) : (storeAgg 31 (.pointer (some ⟨b, off, none⟩)) (.agg xs)).run Try.prog w = .ok () (putRow w b off xs) := run_storeAgg info_cert w b off xs hn h1 ht
attribute [go_sem ↓] store_cert_s
attribute [go_sem] store_cert
def zeroG : GCert := ⟨⟨zeroPt, zeroPt⟩, ⟨none, 0, 0⟩⟩
theorem zc_cert : Try.zeroCells31 = certA zeroG := by kernel_rfl
@[simp] theorem certA_one (g : GCert) : oneCells (certA g) := by
  have h1 := onesLink g.link
  unfold oneCells at *
  show ((linkA g.link ++ #[g.votes.v]).all (·.oneCell')) = true
  rw [Array.all_append, h1]
  simp [Value.oneCell']
theorem splice_cert_votes (u : GCert) (s : Sl) : splice (certA u) 66 #[s.v] = certA { u with votes := s } := by
  apply Array.ext_getElem?
  intro i
  rw [splice_get _ _ _ (by simp)]
  obtain ⟨l, v⟩ := u
  simp only [certA]
  have hsz : (linkA l).size = 66 := linkA_size l
  by_cases hi : 66 ≤ i ∧ i < 66 + (#[s.v] : Array Value).size
  · rw [if_pos hi]
    have h2 : i < 67 := hi.2
    obtain rfl : i = 66 := by omega
    rw [Array.getElem?_append_right (by omega), hsz]
  · rw [if_neg hi]
    have h2 : ¬ (66 ≤ i ∧ i < 67) := hi
    by_cases h66 : i < 66
    · rw [Array.getElem?_append_left (by omega), Array.getElem?_append_left (by omega)]
    · rw [Array.getElem?_eq_none (by simp; omega), Array.getElem?_eq_none (by simp; omega)]

/-- a certificate of the call's own, in a row of its own -/
def CV (W : World) (b : Nat) (u : GCert) : Prop := row? W b 0 67 = some (certA u) ∧ there W b 0 67
theorem CV.grown {w w' : World} {r b : Nat} {u : GCert} (h : CV w b u) (hg : w.grownBy w' (some r)) (hb : b < w.heap.size) (hr : b ≠ r) : CV w' b u := ⟨(row_grown hg hb hr).trans h.1, there_grown hg hb hr h.2⟩
theorem CV.below {w w' : World} {B b : Nat} {u : GCert} (h : CV w b u) (hB : Below B w w') (hb : b < B) : CV w' b u := ⟨(row?_below _ _ _ hB hb).trans h.1, there_below hB hb h.2⟩
theorem CV.lt {w : World} {b : Nat} {u : GCert} (h : CV w b u) : b < w.heap.size := lt_of_row h.1
theorem CV.source {w : World} {b : Nat} {u : GCert} (h : CV w b u) (p : Pt) : CV (putRow w b 0 (pointA p)) b { u with link := { u.link with source := p } } :=
  ⟨by
    rw [there_row h.1 0 (pointA p) (by simp) (by omega)]
    congr 1
    apply Array.ext_getElem?
    intro i
    rw [splice_get _ _ _ (by simp)]
    obtain ⟨⟨s, t⟩, v⟩ := u
    simp only [certA, linkA, pointA_size, Nat.zero_add, Nat.zero_le, true_and]
    split
    · rename_i hi
      rw [Array.getElem?_append_left (by simp; omega), Array.getElem?_append_left (by simp; omega)]
      rfl
    · rename_i hi
      by_cases h66 : i < 66
      · rw [Array.getElem?_append_left (by simp; omega), Array.getElem?_append_right (by simp; omega), Array.getElem?_append_left (by simp; omega), Array.getElem?_append_right (by simp; omega)]
        simp
      · rw [Array.getElem?_append_right (by simp; omega), Array.getElem?_append_right (by simp; omega)]
        simp, there_put _ _ _ _ _ _ _ h.2⟩
theorem CV.target {w : World} {b : Nat} {u : GCert} (h : CV w b u) (p : Pt) : CV (putRow w b 33 (pointA p)) b { u with link := { u.link with target := p } } :=
  ⟨by
    rw [there_row h.1 33 (pointA p) (by simp) (by omega)]
    congr 1
    apply Array.ext_getElem?
    intro i
    rw [splice_get _ _ _ (by simp)]
    obtain ⟨⟨s, t⟩, v⟩ := u
    simp only [certA, linkA, pointA_size]
    split
    · rename_i hi
      rw [Array.getElem?_append_left (by simp; omega), Array.getElem?_append_right (by simp; omega)]
      simp
    · rename_i hi
      by_cases h66 : i < 66
      · rw [Array.getElem?_append_left (by simp; omega), Array.getElem?_append_left (by simp; omega), Array.getElem?_append_left (by simp; omega), Array.getElem?_append_left (by simp; omega)]
      · rw [Array.getElem?_append_right (by simp; omega), Array.getElem?_append_right (by simp; omega)]
        simp, there_put _ _ _ _ _ _ _ h.2⟩
theorem CV.votes {w : World} {b : Nat} {u : GCert} (h : CV w b u) (s : Sl) : CV (w.setCell ⟨b, 66, none⟩ s.v) b { u with votes := s } := by
  refine ⟨?_, there_set _ _ _ _ _ _ h.2⟩
  rw [row?_set_in' _ _ _ _ _ (by omega), h.1, Option.map_some, splice_cert_votes]
theorem CV.new (w : World) (u : GCert) (t : TypeId) : CV (w.alloc (.cells (certA u) t)) w.heap.size u := ⟨by rw [row?_new]; simp, there_new w _ _ _ _ (by simp)⟩
theorem CV.cell66 {W : World} {b : Nat} {u : GCert} (h : CV W b u) : W.cell? ⟨b, 66, none⟩ = some u.votes.v ∧ W.frozen? ⟨b, 66, none⟩ = false :=
  ⟨(cell_row h.1 66 (by omega)).trans (by simp), by simpa using (h.2 66 (by omega)).2⟩

/-- a vote whose signature lies above a block, and not in the row of votes -/
def SigOk (W : World) (B1 : Nat) (ob : Option Nat) (g : GVote) (v : Vote) : Prop := VoteR W g v ∧ (v.sig ≠ [] → ∀ a, g.sig.a = some a → B1 < a.block ∧ a.block < W.heap.size ∧ some a.block ≠ ob)
theorem SigOk.keep {W W' : World} {B1 : Nat} {ob ob' : Option Nat} {g : GVote} {v : Vote} (h : SigOk W B1 ob g v) (hk : ∀ k, k < W.heap.size → B1 < k → some k ≠ ob → W'.heap[k]? = W.heap[k]?) (hs : W.heap.size ≤ W'.heap.size)
    (hob : ∀ k, k < W.heap.size → some k ≠ ob → some k ≠ ob') : SigOk W' B1 ob' g v := by
  obtain ⟨⟨h1, h2, h3, h4⟩, hl⟩ := h
  refine ⟨⟨h1, h2, h3, h4.1, h4.2.1, fun hne => ?_⟩, fun hne a ha => ?_⟩
  · obtain ⟨b, off, ha, hc⟩ := h4.2.2 hne
    obtain ⟨l1, l2, l3⟩ := hl hne _ ha
    exact ⟨b, off, ha, fun i hi => (World.cell?_of_block (a := ⟨b, off + i, none⟩) (hk b l2 l1 l3)).trans (hc i hi)⟩
  · obtain ⟨l1, l2, l3⟩ := hl hne a ha
    exact ⟨l1, Nat.lt_of_lt_of_le l2 hs, hob _ l2 l3⟩
theorem voteA_onecell (g : GVote) : ∀ u ∈ (voteA g).toList, u.oneCell' = true := by
  intro u hu
  have := onesVote g
  simp only [oneCells, Array.all_eq_true_iff_forall_mem] at this
  exact this u (by simpa using hu)
/-- the votes that were read, and where they lie -/
structure CVs (W : World) (B1 : Nat) (l : Lnk) (s : Sl) (gs : List GVote) (vs : List Vote) : Prop where
  row : CV W B1 ⟨l, s⟩
  own : OwnC W (B1 + 1) 68 s.v gs.length (flatC voteA gs)
  len : gs.length = vs.length
  sig : ∀ (i : Nat) (h : i < gs.length) (h' : i < vs.length), SigOk W B1 s.v.ownBlock gs[i] vs[i]
theorem CVs.reads {W : World} {B1 : Nat} {l : Lnk} {s : Sl} {gs : List GVote} {vs : List Vote} (h : CVs W B1 l s gs vs) : CertR W ⟨l, s⟩ ⟨l, vs⟩ := by
  refine ⟨rfl, ?_⟩
  obtain ⟨h1, h2, h3⟩ := rows_of_own voteA (k := 68) (fun x => voteA_size x) (by omega) h.own
  refine ⟨h1.trans h.len, h2, fun hne => ?_⟩
  obtain ⟨b, off, ha, hc⟩ := h3 (fun e => hne (by have := h.len; rw [e] at this; exact List.eq_nil_of_length_eq_zero this.symm))
  refine ⟨b, off, ha, fun i hi => ?_⟩
  have hi : i < vs.length := hi
  have hl := h.len
  obtain ⟨cs, hr, rfl⟩ := hc i (by omega)
  exact ⟨_, hr, _, rfl, (h.sig i (by omega) hi).1⟩
theorem CVs.grown {W W' : World} {B1 r : Nat} {l : Lnk} {s : Sl} {gs : List GVote} {vs : List Vote} (h : CVs W B1 l s gs vs) (hg : W.grownBy W' (some r)) (hr : r < B1) : CVs W' B1 l s gs vs :=
  ⟨h.row.grown hg h.row.lt (by omega), h.own.keepG hg (by
    cases hob : s.v.ownBlock with
    | none => exact .inl rfl
    | some b => exact .inr (fun e => by injection e with e; have := (h.own.lt b hob).1; omega)), h.len, fun i h1 h2 => (h.sig i h1 h2).keep (fun k h3 h4 h5 => hg.block k h3 (by intro e; injection e; omega)) hg.size (fun _ _ h => h)⟩
theorem CVs.below {W W' : World} {B1 : Nat} {l : Lnk} {s : Sl} {gs : List GVote} {vs : List Vote} (h : CVs W B1 l s gs vs) (hb : Below W.heap.size W W') : CVs W' B1 l s gs vs :=
  ⟨h.row.below hb h.row.lt, h.own.keep hb, h.len, fun i h1 h2 => (h.sig i h1 h2).keep (fun k h3 _ _ => hb.block k h3) hb.size (fun _ _ h => h)⟩
/-- one vote more -/
theorem CVs.more {W W' : World} {B1 : Nat} {l : Lnk} {s s' : Sl} {gs : List GVote} {vs : List Vote} {g : GVote} {v : Vote} (h : CVs W B1 l s gs vs) (hg : W.grownBy W' s.v.ownBlock) (ho : OwnC W' (B1 + 1) 68 s'.v (gs ++ [g]).length (flatC voteA (gs ++ [g])))
    (hb : s'.v.ownBlock = s.v.ownBlock ∨ s'.v.ownBlock = some W.heap.size) (hv : SigOk W B1 s.v.ownBlock g v) : CVs (W'.setCell ⟨B1, 66, none⟩ s'.v) B1 l s' (gs ++ [g]) (vs ++ [v]) := by
  have hB : ∀ b, s.v.ownBlock = some b → B1 ≠ b := fun b hb => by have := (h.own.lt b hb).1; omega
  have hB' : ∀ b, s'.v.ownBlock = some b → B1 + 1 ≤ b := fun b hb => (ho.lt b hb).1
  have hrow : CV W' B1 ⟨l, s⟩ := by
    have hk := hg.block B1 h.row.lt (fun e => hB B1 e.symm rfl)
    refine ⟨?_, fun j hj => ?_⟩
    · unfold row?
      rw [hk]
      exact h.row.1
    · obtain ⟨q1, q2⟩ := h.row.2 j hj
      exact ⟨by rw [World.cell?_of_block (a := ⟨B1, 0 + j, none⟩) hk]; exact q1, by rw [World.frozen?_of_block (a := ⟨B1, 0 + j, none⟩) hk]; exact q2⟩
  have hset : W'.grownBy (W'.setCell ⟨B1, 66, none⟩ s'.v) (some B1) := grown_set W' B1 66 s'.v
  have hsig : ∀ g v, SigOk W B1 s.v.ownBlock g v → SigOk (W'.setCell ⟨B1, 66, none⟩ s'.v) B1 s'.v.ownBlock g v := fun g v hs => by
    refine (hs.keep (W' := W') (ob' := s'.v.ownBlock) (fun k h3 h4 h5 => hg.block k h3 h5) hg.size (fun k h3 h5 => ?_)).keep (fun k h3 h4 h5 => hset.block k h3 (by intro e; injection e; omega)) hset.size (fun _ _ h => h)
    rcases hb with hb | hb
    · rw [hb]; exact h5
    · rw [hb]; intro e; injection e; omega
  refine ⟨hrow.votes s', ho.keepG hset ?_, by simp [h.len], fun i h1 h2 => ?_⟩
  · cases hob : s'.v.ownBlock with
    | none => exact .inl rfl
    | some b => exact .inr (fun e => by injection e with e; have := hB' b hob; omega)
  · have hl := h.len
    by_cases hi : i < gs.length
    · rw [List.getElem_append_left hi, List.getElem_append_left (by omega)]
      exact hsig _ _ (h.sig i hi (by omega))
    · have e : i = gs.length := by simp at h1; omega
      subst e
      have e1 : (gs ++ [g])[gs.length]'h1 = g := by simp
      have e2 : (vs ++ [v])[gs.length]'h2 = v := by simp [hl]
      rw [e1, e2]
      exact hsig _ _ hv
theorem info_vote3 : (Try.prog.info? 85).map (fun i => (i.zero, i.size, i.bytes)) = some (some (.agg (voteA ⟨0, zeroPt, zeroPt, ⟨none, 0, 0⟩⟩)), 68, 112) := by kernel_rfl
def bsVote (n : Nat) (parts : Array (Nat × Value)) : Sem Value := Instr.buildSlice 29 n parts
theorem fold_bsVote (n : Nat) (parts : Array (Nat × Value)) : Instr.buildSlice 29 n parts = bsVote n parts := rfl
theorem bs_vote (g : GVote) (w : World) : (bsVote 1 #[(0, .agg (voteA g))]).run Try.prog w = .ok (.slice (some ⟨w.heap.size, 0, none⟩) 1 1) (w.alloc (.cells (voteA g) 85)) := by
  obtain ⟨i0, hi, hy0, hy1, hy2⟩ := info_parts info_vote3
  exact run_buildSlice_one w Try.underlying29 hi hy0 hy1 (by simp [Value.cells]) (by omega) (by omega) _ (voteA_size g)
def appVote (args : Array Value) : Sem Value := Builtin.append_ #[29, 29] 29 args
theorem fold_appVote (args : Array Value) : Builtin.append_ #[29, 29] 29 args = appVote args := rfl
attribute [local go_sem ↓] fold_bsVote fold_appVote
attribute [local go_sem] bs_vote
theorem cof_res : Try.f23.results = #[.cell 2 31, .tmp 3] := by kernel_rfl
theorem rdNum1_lt (st : Option (List UInt8)) : (rdNum st 1).2 < 256 := rdNum_lt st 1

set_option maxRecDepth 100000 in
set_option maxHeartbeats 3200000 in
theorem crtOf_c (s : Sl) (l : List UInt8) (w : World) (hs : BytesR w s l) (hl : l.length ≤ 140737488355328) :
    Calls Try.prog 23 #[s.v] w fun e w' => ∃ g, e = .returned (.tuple #[.agg (certA g), .int .i64 (certOf l).2]) ∧ CertR w' g (certOf l).1 ∧ Below w.heap.size w w' := by
  obtain ⟨X, hX⟩ : ∃ X, X = certOf l := ⟨_, rfl⟩
  rw [← hX]
  have HX := Lib.hid (hX.trans (show certOf l = crtPick l (crtP l).1 (crtQ l).1 (rdVotes (crtN l).2 (crtN l).1) from rfl))
  have hP : crtP l = pointOf (rdBytes (some l) 40).2 := rfl
  have hQ : crtQ l = pointOf (rdBytes (rdBytes (some l) 40).1 40).2 := rfl
  have hN : crtN l = rdNum (rdBytes (rdBytes (some l) 40).1 40).1 1 := rfl
  have hn256 := rdNum1_lt (rdBytes (rdBytes (some l) 40).1 40).1
  rw [← hN] at hn256
  generalize crtP l = P at *
  generalize crtQ l = Q at *
  generalize crtN l = N at *
  have hlen1 : (rdBytes (some l) 40).2.length ≤ 140737488355328 := by rcases rdBytes_len (some l) 40 with h | h <;> (simp only [show ((40 : Nat) : Int) = 40 from rfl] at h; omega)
  have hlen2 : (rdBytes (rdBytes (some l) 40).1 40).2.length ≤ 140737488355328 := by rcases rdBytes_len (rdBytes (some l) 40).1 40 with h | h <;> (simp only [show ((40 : Nat) : Int) = 40 from rfl] at h; omega)
  have HB1 := fun lo r W (h : RdR lo W r (some l)) => rbytes_c r (some l) 40 W h (by omega) (by omega)
  generalize rdBytes (some l) 40 = R1 at *
  obtain ⟨st1, b1⟩ := R1
  simp only at HB1 hP hQ hN hlen1 hlen2
  have HP := fun s W (h : BytesR W s b1) => pointOf_c s b1 W h hlen1
  rw [← hP] at HP
  have HB2 := fun lo r W (h : RdR lo W r st1) => rbytes_c r st1 40 W h (by omega) (by omega)
  generalize rdBytes st1 40 = R2 at *
  obtain ⟨st2, b2⟩ := R2
  simp only at HB2 hQ hN hlen2
  have HQ := fun s W (h : BytesR W s b2) => pointOf_c s b2 W h hlen2
  rw [← hQ] at HQ
  have HN := fun lo r W (h : RdR lo W r st2) => rnum_c r st2 1 W h (by omega)
  rw [← hN] at HN
  obtain ⟨st3, n⟩ := N
  obtain ⟨P, pe⟩ := P
  obtain ⟨Q, qe⟩ := Q
  simp only at HP HQ HN HX hn256
  have HR := fun W (h : BytesR W s l) => read_c s l W h hl
  have Hs := Lib.hid hs
  have hzc := zc_cert
  clear hX hP hQ hN hlen1 hlen2 hs
  have hB0 : Below w.heap.size w (w.alloc (.cells (certA zeroG) 31)) := bel_a _ _
  have hV0 := CV.new w zeroG 31
  go_enter Try.func23, Try.ntmps23
  go_upto_region 1 with fail
  generalize w.alloc (.cells (certA zeroG) 31) = w0 at *
  have hs0 := Lib.hid (Hs.out.keep hB0)
  go_wp2_with fail
  refine (HR _ hs0.out).mono ?_
  clear HR
  rintro e w1 ⟨r, rfl, hlr, hr1, hb1⟩
  have hz1 := hb1.size
  have hV1 := hV0.below hb1 hV0.lt
  have hB1 : Below w.heap.size w w1 := hB0.trans (hb1.mono hB0.size)
  have hv0 := hV0.lt
  have hrl := hr1.lt
  clear hb1 hV0 hB0 hs0
  go_upto_region 3 with fail
  obtain ⟨B1, hBB⟩ : ∃ B1, B1 = w1.heap.size := ⟨_, rfl⟩
  have hC2 := CV.new w1 zeroG 31
  rw [← hBB] at hC2
  have hbel2 := bel_a w1 (.cells (certA zeroG) 31)
  have hV2 := hV1.below hbel2 hV1.lt
  have hB2 : Below w.heap.size w (w1.alloc (.cells (certA zeroG) 31)) := hB1.trans (hbel2.mono hB1.size)
  have hr2 := hr1.keep hbel2
  rw [← hBB]
  generalize w1.alloc (.cells (certA zeroG) 31) = w2 at *
  have hrB : r < B1 := by omega
  have hwB : w.heap.size < r := by omega
  clear hbel2 hr1 hV1 hB1 hz1 hBB hrl hlr
  go_wp2_with fail
  refine (HB1 _ r _ hr2).mono ?_
  clear HB1
  rintro e w3 ⟨s1, rfl, o1, _, hr3, hg3⟩
  have hV3 := hV2.grown hg3 hV2.lt (by omega)
  have hC3 := hC2.grown hg3 hC2.lt (by omega)
  have hB3 : Below w.heap.size w w3 := bel_grown hg3 hB2 hB2.size (fun j hj => by injection hj with hj; omega)
  have o1 : BytesR w3 s1 b1 := o1.1
  clear hg3 hV2 hC2 hB2 hr2
  go_wp2_with fail
  refine (HP _ _ o1).mono ?_
  clear HP
  rintro e w4 ⟨rfl, hb4⟩
  have hV4 := hV3.below hb4 hV3.lt
  have hC4 := hC3.below hb4 hC3.lt
  have hr4 := hr3.keep hb4
  have hB4 : Below w.heap.size w w4 := hB3.trans (hb4.mono hB3.size)
  have th4 : there w4 B1 0 33 := there_part hC4.2 (by omega) (by omega)
  have hp4 : Below B1 w4 (putRow w4 B1 0 (pointA P)) := below_put (Below.refl _ _) (Nat.le_refl _) _ _
  have hC5 := hC4.source P
  have hV5 := hV4.below hp4 (by omega)
  have hr5 := hr4.keepB hrB hp4
  have hB5 : Below w.heap.size w (putRow w4 B1 0 (pointA P)) := hB4.trans (hp4.mono (by omega))
  clear o1 hb4 hV3 hC3 hr3 hB3 hp4 hC4 hV4 hr4 hB4
  go_upto_region 4 with fail
  generalize putRow w4 B1 0 (pointA P) = w5 at *
  clear th4
  go_wp2_with fail
  refine (HB2 _ r _ hr5).mono ?_
  clear HB2
  rintro e w6 ⟨s2, rfl, o2, _, hr6, hg6⟩
  have hV6 := hV5.grown hg6 hV5.lt (by omega)
  have hC6 := hC5.grown hg6 hC5.lt (by omega)
  have hB6 : Below w.heap.size w w6 := bel_grown hg6 hB5 hB5.size (fun j hj => by injection hj with hj; omega)
  have o2 : BytesR w6 s2 b2 := o2.1
  clear hg6 hV5 hC5 hB5 hr5
  go_wp2_with fail
  refine (HQ _ _ o2).mono ?_
  clear HQ
  rintro e w7 ⟨rfl, hb7⟩
  have hV7 := hV6.below hb7 hV6.lt
  have hC7 := hC6.below hb7 hC6.lt
  have hr7 := hr6.keep hb7
  have hB7 : Below w.heap.size w w7 := hB6.trans (hb7.mono hB6.size)
  have th7 : there w7 B1 33 33 := there_part hC7.2 (by omega) (by omega)
  have hp7 : Below B1 w7 (putRow w7 B1 33 (pointA Q)) := below_put (Below.refl _ _) (Nat.le_refl _) _ _
  have hC8 := hC7.target Q
  have hV8 := hV7.below hp7 (by omega)
  have hr8 := hr7.keepB hrB hp7
  have hB8 : Below w.heap.size w (putRow w7 B1 33 (pointA Q)) := hB7.trans (hp7.mono (by omega))
  clear o2 hb7 hV6 hC6 hr6 hB6 hp7 hC7 hV7 hr7 hB7
  go_upto_region 5 with fail
  generalize putRow w7 B1 33 (pointA Q) = w8 at *
  clear th7
  go_wp2_with fail
  refine (HN _ r _ hr8).mono ?_
  clear HN
  rintro e w9 ⟨rfl, hr9, hg9⟩
  have hV9 := Lib.hid (hV8.grown hg9 hV8.lt (by omega))
  have hC9 := hC8.grown hg9 hC8.lt (by omega)
  have hB9 := Lib.hid (show Below w.heap.size w w9 from bel_grown hg9 hB8 hB8.size (fun j hj => by injection hj with hj; omega))
  have hr9 := Lib.hid hr9
  have hC9 := Lib.hid (show CVs w9 B1 ⟨P, Q⟩ ⟨none, 0, 0⟩ [] [] from ⟨hC9, OwnC.nil _ _ _, rfl, fun i h => by simp at h⟩)
  clear hg9 hV8 hC8 hB8 hr8
  obtain ⟨TOT, hT⟩ : ∃ TOT, TOT = rdVotes n st3 := ⟨_, rfl⟩
  rw [← hT] at HX
  have HT := Lib.hid (show rdOnto [] (rdVotes (n - 0) st3) = TOT by rw [rdOnto_nil, hT]; rfl)
  clear hT
  go_wp2_with fail
  go_loopw [6, 7, 28] (fun _ _ i W => ∃ (k : Nat) (st : Option (List UInt8)) (sv : Sl) (gs : List GVote) (vs : List Vote), k ≤ n ∧ i = .int .u64 k ∧ Hid (gs.length = k) ∧ Hid (rdOnto vs (rdVotes (n - k) st) = TOT) ∧ Hid (RdR w0.heap.size W r st) ∧ Hid (CVs W B1 ⟨P, Q⟩ sv gs vs) ∧ Hid (CV W w.heap.size zeroG) ∧ Hid (Below w.heap.size w W)) (fun _ _ i _ => n - (intOf i).toNat)
  case atStart => exact ⟨0, st3, ⟨none, 0, 0⟩, [], [], Nat.zero_le _, rfl, Lib.hid rfl, HT, hr9, hC9, hV9, hB9⟩
  case round =>
    clear HT hr9 hC9 hV9 hB9
    obtain ⟨k, st, sv, gs, vs, hk, rfl, hgk, hT, hR, hC, hV, hB⟩ := hrel
    have i0 : (0 : Int) ≤ (k : Int) := by omega
    have hzB := hC.out.row.lt
    by_cases hkx : k < n
    · have i1 : (k : Int) < (n : Int) := by omega
      have HBl := fun W (h : RdR w0.heap.size W r st) => rblob_c r st W h
      have hyes := rdOnto_yes vs (n - (k + 1)) st
      have hno := rdOnto_no vs (n - (k + 1)) st
      rw [show n - (k + 1) + 1 = n - k by omega] at hyes hno
      have hbl : (rdBlob st).2.length ≤ 140737488355328 := by
        have := rdBytes_len (rdNum st 2).1 (rdNum st 2).2
        have h2 := rdNum_lt st 2
        unfold rdBlob
        omega
      generalize rdBlob st = D at *
      obtain ⟨st', d⟩ := D
      simp only at HBl hyes hno hbl
      have HVO := fun s W (h : BytesR W s d) => voteOf_c s d W h hbl
      have hcode := voteOf_code d
      generalize voteOf d = V at *
      obtain ⟨v, ve⟩ := V
      simp only at HVO hyes hno hcode
      have Hyes := Lib.hid hyes
      have Hno := Lib.hid hno
      clear hyes hno hbl
      go_wp2_with fail
      refine (HBl _ hR.out).mono ?_
      clear HBl
      rintro e x1 ⟨s1, rfl, o1, _, hr1, hg1⟩
      have o1 : BytesR x1 s1 d := o1.1
      have hC1 := hC.out.grown hg1 hrB
      have hV1 := hV.out.grown hg1 hV.out.lt (by omega)
      have hB1 : Below w.heap.size w x1 := bel_grown hg1 hB.out hB.out.size (fun j hj => by injection hj with hj; omega)
      clear hg1 hR hC hV hB
      go_wp2_with fail
      refine (HVO _ _ o1).mono ?_
      clear HVO
      rintro e x2 ⟨g, rfl, ov, hb2⟩
      have hC2 := hC1.below hb2
      have hV2 := hV1.below hb2 hV1.lt
      have hr2 := hr1.keep hb2
      have hB2 : Below w.heap.size w x2 := hB1.trans (hb2.mono hB1.size)
      have hz12 := hb2.size
      have hob := hC1.own.lt
      have hc1l := hC1.row.lt
      have hsig : SigOk x2 B1 sv.v.ownBlock g v := ⟨ov.r, fun hne a ha => by
        have := ov.2.2.2.2 hne a ha
        refine ⟨by omega, this.2, fun e => ?_⟩
        have := (hob _ e.symm).2
        omega⟩
      have hC2 := Lib.hid hC2
      have hV2 := Lib.hid hV2
      have hr2 := Lib.hid hr2
      have hB2 := Lib.hid hB2
      have hsig := Lib.hid hsig
      clear o1 hC1 hV1 hr1 hB1 hb2 ov hob hc1l
      rcases hcode with rfl | rfl
      · have hzv := zc_vote
        obtain ⟨i0', hi, hy0, hy1, hy2⟩ := info_parts info_vote3
        have hT2 := Lib.hid (show rdOnto (vs ++ [v]) (rdVotes (n - (k + 1)) st') = TOT by rw [← hT.out, Hyes.out rfl])
        have hlen : gs.length ≤ 1000000 := by have := hgk.out; omega
        clear hT Hyes Hno HX
        go_upto_region 8 with fail
        have hrow3 : row? (putRow (x2.alloc (.cells (voteA ⟨0, zeroPt, zeroPt, ⟨none, 0, 0⟩⟩) 85)) x2.heap.size 0 (voteA g)) x2.heap.size 0 68 = some (voteA g) := by go_simp
        have hb3 : Below x2.heap.size x2 (putRow (x2.alloc (.cells (voteA ⟨0, zeroPt, zeroPt, ⟨none, 0, 0⟩⟩) 85)) x2.heap.size 0 (voteA g)) := by (repeat' (first | (with_reducible exact Below.refl _ _) | (with_reducible assumption) | (with_reducible refine bel_trans (by assumption) ?_ ?_) | (with_reducible refine bel_grown (by assumption) ?_ ?_ ?_) | (with_reducible refine Below.alloc ?_ ?_ _) | (with_reducible refine Below.drew ?_) | (with_reducible refine below_drewN ?_ _) | (with_reducible refine Below.setCell ?_ ?_ _) | (with_reducible refine below_put ?_ ?_ _ _) | (with_reducible exact Nat.le_refl _) | omega | (with_reducible refine Nat.le_trans ?_ (Below.size (by assumption))) | (with_reducible refine Nat.le_trans ?_ (World.grownBy.size (by assumption))) | (simp only [World.size_alloc, World.size_setCell, World.size_drew, size_drewN]; omega) | (simp only [World.size_alloc, World.size_setCell, World.size_drew, size_drewN, size_put]; omega) | (intro k hk; simp [Value.ownBlock] at hk; done) | (intro k hk; simp [Value.ownBlock] at hk; omega) | (simp [size_drewN] at *; omega)))
        generalize putRow (x2.alloc (.cells (voteA ⟨0, zeroPt, zeroPt, ⟨none, 0, 0⟩⟩) 85)) x2.heap.size 0 (voteA g) = x3 at *
        have hC3 := hC2.out.below hb3
        have hV3 := hV2.out.below hb3 hV2.out.lt
        have hr3 := hr2.out.keep hb3
        have hB3 : Below w.heap.size w x3 := hB2.out.trans (hb3.mono hB2.out.size)
        have hs3 : SigOk x3 B1 sv.v.ownBlock g v := hsig.out.keep (fun k h3 _ _ => hb3.block k h3) hb3.size (fun _ _ h => h)
        have hb4 := bel_a x3 (.cells (voteA g) 85)
        have hC4 := hC3.below hb4
        have hV4 := hV3.below hb4 hV3.lt
        have hr4 := hr3.keep hb4
        have hB4 : Below w.heap.size w (x3.alloc (.cells (voteA g) 85)) := hB3.trans (hb4.mono hB3.size)
        have hs4 : SigOk (x3.alloc (.cells (voteA g) 85)) B1 sv.v.ownBlock g v := hs3.keep (fun k h3 _ _ => hb4.block k h3) hb4.size (fun _ _ h => h)
        obtain ⟨c66, f66⟩ := hC3.row.cell66
        dsimp only at c66
        have hbase : B1 + 1 ≤ (x3.alloc (.cells (voteA g) 85)).heap.size := hC4.row.lt
        have hl3 := hC3.row.lt
        have HC4 := Lib.hid hC4
        have HV4 := Lib.hid hV4
        have Hr4 := Lib.hid hr4
        have HB4 := Lib.hid hB4
        have Hs4 := Lib.hid hs4
        clear hb3 hC2 hV2 hr2 hB2 hsig hC3 hV3 hr3 hB3 hs3 hb4 hC4 hV4 hr4 hB4 hs4
        obtain ⟨sva, svn, svc⟩ := sv
        dsimp only [Sl.v] at c66
        have hown4 := HC4.out.own
        have hnw := heap_alloc_new x3 (.cells (voteA g) 85)
        obtain ⟨s5, x5, hrun, hown5, hg5, hob5⟩ := run_append_one (P := Try.prog) voteA voteA_size (x3.alloc (.cells (voteA g) 85)) 29 voteA_onecell (B1 + 1) 85 i0' _ 112 Try.underlying29 hi hy0 hy1 hy2 (by simp [Value.cells]) _ gs hown4 x3.heap.size 1 g hnw hlen (by omega) hbase
        have hb1 : ∀ b, (Value.slice sva svn svc).ownBlock = some b → B1 ≠ b := fun b hb => by have := (hown4.lt b hb).1; omega
        have hk5 := hg5.block B1 hbase (fun e => hb1 B1 e.symm rfl)
        have c66' : x5.cell? ⟨B1, 66, none⟩ = some (.slice sva svn svc) := (World.cell?_of_block (a := ⟨B1, 66, none⟩) hk5).trans HC4.out.row.cell66.1
        have f66' : x5.frozen? ⟨B1, 66, none⟩ = false := (World.frozen?_of_block (a := ⟨B1, 66, none⟩) hk5).trans HC4.out.row.cell66.2
        have hC6 := Lib.hid (HC4.out.more (s' := s5) hg5 hown5 hob5 Hs4.out)
        have hset : x5.grownBy (x5.setCell ⟨B1, 66, none⟩ s5.v) (some B1) := grown_set x5 B1 66 s5.v
        have hV6 := Lib.hid (show CV (x5.setCell ⟨B1, 66, none⟩ s5.v) w.heap.size zeroG from by
          have hbe : Below B1 (x3.alloc (.cells (voteA g) 85)) (x5.setCell ⟨B1, 66, none⟩ s5.v) := ((Below.refl _ _).grown hg5 (Nat.le_of_lt (Nat.lt_of_lt_of_le (Nat.lt_succ_self _) hbase)) (fun j hj => by have := (hown4.lt j hj).1; omega)).setCell (Nat.le_refl _) _
          exact HV4.out.below hbe (by omega))
        have hR6 := Lib.hid (show RdR w0.heap.size (x5.setCell ⟨B1, 66, none⟩ s5.v) r st' from by
          have hbe : Below B1 (x3.alloc (.cells (voteA g) 85)) (x5.setCell ⟨B1, 66, none⟩ s5.v) := ((Below.refl _ _).grown hg5 (Nat.le_of_lt (Nat.lt_of_lt_of_le (Nat.lt_succ_self _) hbase)) (fun j hj => by have := (hown4.lt j hj).1; omega)).setCell (Nat.le_refl _) _
          exact Hr4.out.keepB hrB hbe)
        have hB6 := Lib.hid (show Below w.heap.size w (x5.setCell ⟨B1, 66, none⟩ s5.v) from by
          have hbe : Below B1 (x3.alloc (.cells (voteA g) 85)) (x5.setCell ⟨B1, 66, none⟩ s5.v) := ((Below.refl _ _).grown hg5 (Nat.le_of_lt (Nat.lt_of_lt_of_le (Nat.lt_succ_self _) hbase)) (fun j hj => by have := (hown4.lt j hj).1; omega)).setCell (Nat.le_refl _) _
          exact HB4.out.trans (hbe.mono (by omega)))
        have hgk6 := Lib.hid (show (gs ++ [g]).length = k + 1 by rw [List.length_append, hgk.out]; rfl)
        obtain ⟨s5a, s5n, s5c⟩ := s5
        rw [fold_appVote] at hrun
        replace hrun := hrun.trans (rfl : _ = Result.ok (Value.slice s5a s5n s5c) x5)
        clear hown4 hnw hown5 hg5 hob5 hk5 hset HC4 HV4 Hr4 HB4 Hs4 f66 hi hy0 hy1 hy2
        dsimp only [Sl.v] at hC6 hV6 hR6 hB6
        go_wp2_with fail
        go_roundw
        case rel => exact ⟨k + 1, st', ⟨s5a, s5n, s5c⟩, gs ++ [g], vs ++ [v], by omega, by go_num, hgk6, hT2, hR6, hC6, hV6, hB6⟩
        case measure => (first | (simp [intOf]; done) | (simp [intOf]; omega))
      · have hX : X = (zeroCrt, 4) := by rw [HX.out, ← hT.out, Hno.out (by decide)]; rfl
        subst hX
        have hzv := zc_vote
        have hthV := hV2.out.2
        have hrowV := hV2.out.1
        have hltV := hV2.out.lt
        have hltV' : w.heap.size < x2.heap.size + 1 := by omega
        have hneV : w.heap.size ≠ x2.heap.size := by omega
        have hBV := hB2.out
        clear hC2 hr2 hsig Hyes Hno hT HX
        go_wp2_with (with_reducible refine ret_row2 Try.isAgg31 Try.sizeOf31 cof_res (x := .pointer (some ⟨w.heap.size, 0, none⟩)) (y := .int .i64 4) (w.heap.size) 0 ?rrhx (Eq.refl _) ?rrhy ?rrh ?rrhd ?rrhR; (case rrhx => simp only [Array.getD_eq_getD_getElem?, List.getElem?_toArray, List.getElem?_cons_succ, List.getElem?_cons_zero, Option.getD_some]); (case rrhy => simp only [Array.getD_eq_getD_getElem?, List.getElem?_toArray, List.getElem?_cons_succ, List.getElem?_cons_zero, Option.getD_some]); (case rrhd => exact rfl); (case rrh => go_simp); (case rrhR => ((refine ⟨zeroG, ?_, CertR.zero _ none 0, ?_⟩; (case refine_1 => (go_simp; done)); (case refine_2 => ((repeat' (first | (with_reducible exact Below.refl _ _) | (with_reducible assumption) | (with_reducible refine bel_trans (by assumption) ?_ ?_) | (with_reducible refine bel_grown (by assumption) ?_ ?_ ?_) | (with_reducible refine Below.alloc ?_ ?_ _) | (with_reducible refine Below.drew ?_) | (with_reducible refine below_drewN ?_ _) | (with_reducible refine Below.setCell ?_ ?_ _) | (with_reducible refine below_put ?_ ?_ _ _) | (with_reducible exact Nat.le_refl _) | omega | (with_reducible refine Nat.le_trans ?_ (Below.size (by assumption))) | (with_reducible refine Nat.le_trans ?_ (World.grownBy.size (by assumption))) | (simp only [World.size_alloc, World.size_setCell, World.size_drew, size_drewN]; omega) | (simp only [World.size_alloc, World.size_setCell, World.size_drew, size_drewN, size_put]; omega) | (intro k hk; simp [Value.ownBlock] at hk; done) | (intro k hk; simp [Value.ownBlock] at hk; omega) | (simp [size_drewN] at *; omega)))))))))
    · obtain rfl : k = n := by omega
      have hTT : TOT = some (st, vs) := by rw [← hT.out, Nat.sub_self, rdOnto_zero]
      rw [hTT] at HX
      clear hTT hT
      have HE := fun W (h : RdR w0.heap.size W r st) => rend_c r st W h
      have hthV := hV.out.2
      have hrowV := hV.out.1
      have hltV := hV.out.lt
      have hBV := hB.out
      by_cases hst : st = some []
      case neg =>
        have hb := rdEnd_ne st hst
        have hX : X = (zeroCrt, 4) := by rw [HX.out]; simp [crtPick, hst]
        subst hX
        clear hst
        go_wp2_with fail
        refine (HE _ hR.out).mono ?_
        rintro e x1 ⟨rfl, rfl⟩
        go_wp2_with (with_reducible refine ret_row2 Try.isAgg31 Try.sizeOf31 cof_res (x := .pointer (some ⟨w.heap.size, 0, none⟩)) (y := .int .i64 4) (w.heap.size) 0 ?rrhx (Eq.refl _) ?rrhy ?rrh ?rrhd ?rrhR; (case rrhx => simp only [Array.getD_eq_getD_getElem?, List.getElem?_toArray, List.getElem?_cons_succ, List.getElem?_cons_zero, Option.getD_some]); (case rrhy => simp only [Array.getD_eq_getD_getElem?, List.getElem?_toArray, List.getElem?_cons_succ, List.getElem?_cons_zero, Option.getD_some]); (case rrhd => exact rfl); (case rrh => go_simp); (case rrhR => ((refine ⟨zeroG, ?_, CertR.zero _ none 0, ?_⟩; (case refine_1 => (go_simp; done)); (case refine_2 => ((repeat' (first | (with_reducible exact Below.refl _ _) | (with_reducible assumption) | (with_reducible refine bel_trans (by assumption) ?_ ?_) | (with_reducible refine bel_grown (by assumption) ?_ ?_ ?_) | (with_reducible refine Below.alloc ?_ ?_ _) | (with_reducible refine Below.drew ?_) | (with_reducible refine below_drewN ?_ _) | (with_reducible refine Below.setCell ?_ ?_ _) | (with_reducible refine below_put ?_ ?_ _ _) | (with_reducible exact Nat.le_refl _) | omega | (with_reducible refine Nat.le_trans ?_ (Below.size (by assumption))) | (with_reducible refine Nat.le_trans ?_ (World.grownBy.size (by assumption))) | (simp only [World.size_alloc, World.size_setCell, World.size_drew, size_drewN]; omega) | (simp only [World.size_alloc, World.size_setCell, World.size_drew, size_drewN, size_put]; omega) | (intro k hk; simp [Value.ownBlock] at hk; done) | (intro k hk; simp [Value.ownBlock] at hk; omega) | (simp [size_drewN] at *; omega)))))))))
      subst hst
      have hb := rdEnd_eq
      have hcr := hC.out.reads
      have hvl : vs.length ≤ 9223372036854775807 := by have := hC.out.len; have := hgk.out; omega
      have hM := crtMay_c ⟨⟨P, Q⟩, sv⟩ ⟨⟨P, Q⟩, vs⟩ wr hcr hvl
      obtain ⟨hrowC, hthC⟩ := hC.out.row
      have hltC := hC.out.row.lt
      have HX2 := Lib.hid (show X = if crtMay ⟨⟨P, Q⟩, vs⟩ = true ∧ crtBytes ⟨⟨P, Q⟩, vs⟩ = l then (⟨⟨P, Q⟩, vs⟩, 0) else (zeroCrt, 4) by rw [HX.out]; simp [crtPick])
      have HC := Lib.hid hC.out
      have HV := Lib.hid hV.out
      clear HX hcr hgk hV
      cases hm : crtMay ⟨⟨P, Q⟩, vs⟩
      · have hX : X = (zeroCrt, 4) := by rw [HX2.out]; simp [hm]
        rw [hm] at hM
        subst hX
        clear hm HX2 hC
        go_wp2_with fail
        refine (HE _ hR.out).mono ?_
        rintro e x1 ⟨rfl, rfl⟩
        go_wp2_with fail
        refine hM.mono ?_
        rintro e x2 ⟨rfl, hb2⟩
        have hV2 := HV.out.below hb2 hltV
        have hB2 : Below w.heap.size w x2 := hBV.trans (hb2.mono hBV.size)
        have hlt2 := hV2.lt
        obtain ⟨hrow2, hth2⟩ := hV2
        clear hb2 hM hrowV hthV hltV hBV hrowC hthC hltC
        go_wp2_with (with_reducible refine ret_row2 Try.isAgg31 Try.sizeOf31 cof_res (x := .pointer (some ⟨w.heap.size, 0, none⟩)) (y := .int .i64 4) (w.heap.size) 0 ?rrhx (Eq.refl _) ?rrhy ?rrh ?rrhd ?rrhR; (case rrhx => simp only [Array.getD_eq_getD_getElem?, List.getElem?_toArray, List.getElem?_cons_succ, List.getElem?_cons_zero, Option.getD_some]); (case rrhy => simp only [Array.getD_eq_getD_getElem?, List.getElem?_toArray, List.getElem?_cons_succ, List.getElem?_cons_zero, Option.getD_some]); (case rrhd => exact rfl); (case rrh => go_simp); (case rrhR => ((refine ⟨zeroG, ?_, CertR.zero _ none 0, ?_⟩; (case refine_1 => (go_simp; done)); (case refine_2 => ((repeat' (first | (with_reducible exact Below.refl _ _) | (with_reducible assumption) | (with_reducible refine bel_trans (by assumption) ?_ ?_) | (with_reducible refine bel_grown (by assumption) ?_ ?_ ?_) | (with_reducible refine Below.alloc ?_ ?_ _) | (with_reducible refine Below.drew ?_) | (with_reducible refine below_drewN ?_ _) | (with_reducible refine Below.setCell ?_ ?_ _) | (with_reducible refine below_put ?_ ?_ _ _) | (with_reducible exact Nat.le_refl _) | omega | (with_reducible refine Nat.le_trans ?_ (Below.size (by assumption))) | (with_reducible refine Nat.le_trans ?_ (World.grownBy.size (by assumption))) | (simp only [World.size_alloc, World.size_setCell, World.size_drew, size_drewN]; omega) | (simp only [World.size_alloc, World.size_setCell, World.size_drew, size_drewN, size_put]; omega) | (intro k hk; simp [Value.ownBlock] at hk; done) | (intro k hk; simp [Value.ownBlock] at hk; omega) | (simp [size_drewN] at *; omega)))))))))
      rw [hm] at hM
      have hbl := crtBytes_len hm
      have Hm := Lib.hid hm
      have HBy := fun W (h : CertR W ⟨⟨P, Q⟩, sv⟩ ⟨⟨P, Q⟩, vs⟩) => crtBytes_c ⟨⟨P, Q⟩, sv⟩ ⟨⟨P, Q⟩, vs⟩ W h hm
      clear hm hC
      go_wp2_with fail
      refine (HE _ hR.out).mono ?_
      rintro e x1 ⟨rfl, rfl⟩
      go_wp2_with fail
      refine hM.mono ?_
      rintro e x2 ⟨rfl, hb2⟩
      have hV2 := HV.out.below hb2 hltV
      have hB2 : Below w.heap.size w x2 := hBV.trans (hb2.mono hBV.size)
      have hrow2 := (row?_below _ 0 67 hb2 hltC).trans hrowC
      have hC2 := Lib.hid (HC.out.below hb2)
      have hl2 : B1 < x2.heap.size := by have := hb2.size; omega
      clear hb2 hM hrowV hthV hltV hBV hrowC hthC hltC HC HV
      go_wp2_with fail
      refine (HBy _ hC2.out.reads).mono ?_
      rintro e x3 ⟨v, rfl, ho, hb3⟩
      obtain ⟨s3, rfl⟩ := ho.slice
      have hV3 := hV2.below hb3 hV2.lt
      have hB3 : Below w.heap.size w x3 := hB2.trans (hb3.mono hB2.size)
      have hrow3 := (row?_below _ 0 67 hb3 hl2).trans hrow2
      have hC3 := Lib.hid (hC2.out.below hb3)
      have hl3 : B1 < x3.heap.size := by have := hb3.size; omega
      have ho3 := ho.reads
      have hs3 := Hs.out.keep hB3
      clear hb3 hrow2 hC2 hl2 hV2 hB2 HBy ho
      go_wp2_with fail
      (with_reducible refine (sequal_c s3 s (crtBytes ⟨⟨P, Q⟩, vs⟩) l x3 ho3 hs3 (by omega)).mono ?_)
      rintro e x4 ⟨rfl, m, hx4⟩
      have hb4 : Below x3.heap.size x3 x4 := by rw [hx4]; exact below_drewN (Below.refl _ _) m
      clear hx4
      have hV4 := hV3.below hb4 hV3.lt
      have hB4 : Below w.heap.size w x4 := hB3.trans (hb4.mono hB3.size)
      have hrow4 := (row?_below _ 0 67 hb4 hl3).trans hrow3
      have hC4 := Lib.hid (hC3.out.below hb4)
      have hl4 : B1 < x4.heap.size := by have := hb4.size; omega
      have hltV := hV4.lt
      obtain ⟨hrowV, hthV⟩ := hV4
      clear hb4 hrow3 hC3 hl3 hV3 hB3 hs3 ho3
      have hneB : w.heap.size ≠ B1 := by omega
      by_cases he : crtBytes ⟨⟨P, Q⟩, vs⟩ = l
      · have hX : X = (⟨⟨P, Q⟩, vs⟩, 0) := by rw [HX2.out]; simp [Hm.out, he]
        subst hX
        have hd := dec_true he
        clear he HX2
        have hCf := Lib.hid (show CertR (putRow x4 w.heap.size 0 (certA ⟨⟨P, Q⟩, sv⟩)) ⟨⟨P, Q⟩, sv⟩ ⟨⟨P, Q⟩, vs⟩ from
          (hC4.out.grown (r := w.heap.size) ⟨(below_put (Below.refl 0 x4) (Nat.zero_le _) _ _).os, (below_put (Below.refl 0 x4) (Nat.zero_le _) _ _).tape, (below_put (Below.refl 0 x4) (Nat.zero_le _) _ _).output, by rw [size_put]; exact Nat.le_refl _, fun k _ hk => put_block _ _ _ _ _ (fun e => hk (by rw [e]))⟩ (by omega)).reads)
        go_wp2_with (with_reducible refine ret_row2 Try.isAgg31 Try.sizeOf31 cof_res (x := .pointer (some ⟨w.heap.size, 0, none⟩)) (y := .int .i64 0) (w.heap.size) 0 ?rrhx (Eq.refl _) ?rrhy ?rrh ?rrhd ?rrhR; (case rrhx => simp only [Array.getD_eq_getD_getElem?, List.getElem?_toArray, List.getElem?_cons_succ, List.getElem?_cons_zero, Option.getD_some]); (case rrhy => simp only [Array.getD_eq_getD_getElem?, List.getElem?_toArray, List.getElem?_cons_succ, List.getElem?_cons_zero, Option.getD_some]); (case rrhd => exact rfl); (case rrh => go_simp); (case rrhR => ((refine ⟨⟨⟨P, Q⟩, sv⟩, ?_, hCf.out, ?_⟩; (case refine_1 => (go_simp; done)); (case refine_2 => ((repeat' (first | (with_reducible exact Below.refl _ _) | (with_reducible assumption) | (with_reducible refine bel_trans (by assumption) ?_ ?_) | (with_reducible refine bel_grown (by assumption) ?_ ?_ ?_) | (with_reducible refine Below.alloc ?_ ?_ _) | (with_reducible refine Below.drew ?_) | (with_reducible refine below_drewN ?_ _) | (with_reducible refine Below.setCell ?_ ?_ _) | (with_reducible refine below_put ?_ ?_ _ _) | (with_reducible exact Nat.le_refl _) | omega | (with_reducible refine Nat.le_trans ?_ (Below.size (by assumption))) | (with_reducible refine Nat.le_trans ?_ (World.grownBy.size (by assumption))) | (simp only [World.size_alloc, World.size_setCell, World.size_drew, size_drewN]; omega) | (simp only [World.size_alloc, World.size_setCell, World.size_drew, size_drewN, size_put]; omega) | (intro k hk; simp [Value.ownBlock] at hk; done) | (intro k hk; simp [Value.ownBlock] at hk; omega) | (simp [size_drewN] at *; omega)))))))))
      · have hX : X = (zeroCrt, 4) := by rw [HX2.out]; simp [he]
        subst hX
        have hd := dec_false he
        clear he HX2
        go_wp2_with (with_reducible refine ret_row2 Try.isAgg31 Try.sizeOf31 cof_res (x := .pointer (some ⟨w.heap.size, 0, none⟩)) (y := .int .i64 4) (w.heap.size) 0 ?rrhx (Eq.refl _) ?rrhy ?rrh ?rrhd ?rrhR; (case rrhx => simp only [Array.getD_eq_getD_getElem?, List.getElem?_toArray, List.getElem?_cons_succ, List.getElem?_cons_zero, Option.getD_some]); (case rrhy => simp only [Array.getD_eq_getD_getElem?, List.getElem?_toArray, List.getElem?_cons_succ, List.getElem?_cons_zero, Option.getD_some]); (case rrhd => exact rfl); (case rrh => go_simp); (case rrhR => ((refine ⟨zeroG, ?_, CertR.zero _ none 0, ?_⟩; (case refine_1 => (go_simp; done)); (case refine_2 => ((repeat' (first | (with_reducible exact Below.refl _ _) | (with_reducible assumption) | (with_reducible refine bel_trans (by assumption) ?_ ?_) | (with_reducible refine bel_grown (by assumption) ?_ ?_ ?_) | (with_reducible refine Below.alloc ?_ ?_ _) | (with_reducible refine Below.drew ?_) | (with_reducible refine below_drewN ?_ _) | (with_reducible refine Below.setCell ?_ ?_ _) | (with_reducible refine below_put ?_ ?_ _ _) | (with_reducible exact Nat.le_refl _) | omega | (with_reducible refine Nat.le_trans ?_ (Below.size (by assumption))) | (with_reducible refine Nat.le_trans ?_ (World.grownBy.size (by assumption))) | (simp only [World.size_alloc, World.size_setCell, World.size_drew, size_drewN]; omega) | (simp only [World.size_alloc, World.size_setCell, World.size_drew, size_drewN, size_put]; omega) | (intro k hk; simp [Value.ownBlock] at hk; done) | (intro k hk; simp [Value.ownBlock] at hk; omega) | (simp [size_drewN] at *; omega)))))))))
end Go.Proofs.Ytkocpihfdpahpaa

/- Contract: landmarkref15.Of. -/
namespace Go.Proofs.Ytkocpihfdpahpaa
open Go.RowKit

theorem splice_cert_link (u : GCert) (l : Lnk) : splice (certA u) 0 (linkA l) = certA { u with link := l } := by
  apply Array.ext_getElem?
  intro i
  rw [splice_get _ _ _ (by simp)]
  obtain ⟨l0, v⟩ := u
  simp only [certA]
  have hsz : (linkA l).size = 66 := linkA_size l
  have hsz0 : (linkA l0).size = 66 := linkA_size l0
  by_cases hi : i < 66
  · rw [if_pos ⟨by omega, by omega⟩, Array.getElem?_append_left (by omega)]
    rfl
  · rw [if_neg (by omega), Array.getElem?_append_right (by omega), Array.getElem?_append_right (by omega), hsz, hsz0]
theorem CV.link {w : World} {b : Nat} {u : GCert} (h : CV w b u) (l : Lnk) : CV (putRow w b 0 (linkA l)) b { u with link := l } :=
  ⟨by rw [there_row h.1 0 (linkA l) (by simp) (by omega), splice_cert_link], there_put _ _ _ _ _ _ _ h.2⟩
/-- the votes that were read by the document's reader; their signatures lie in the bytes that came in -/
structure CVr (w W : World) (B1 : Nat) (l : Lnk) (s : Sl) (gs : List GVote) (vs : List Vote) : Prop where
  row : CV W B1 ⟨l, s⟩
  own : OwnC W (B1 + 1) 68 s.v gs.length (flatC voteA gs)
  len : gs.length = vs.length
  sig : ∀ (i : Nat) (h : i < gs.length) (h' : i < vs.length), VoteR w gs[i] vs[i]
theorem CVr.reads {w W : World} {B1 : Nat} {l : Lnk} {s : Sl} {gs : List GVote} {vs : List Vote} (h : CVr w W B1 l s gs vs) (hb : Below w.heap.size w W) : CertR W ⟨l, s⟩ ⟨l, vs⟩ := by
  refine ⟨rfl, ?_⟩
  obtain ⟨h1, h2, h3⟩ := rows_of_own voteA (k := 68) (fun x => voteA_size x) (by omega) h.own
  refine ⟨h1.trans h.len, h2, fun hne => ?_⟩
  obtain ⟨b, off, ha, hc⟩ := h3 (fun e => hne (by have := h.len; rw [e] at this; exact List.eq_nil_of_length_eq_zero this.symm))
  refine ⟨b, off, ha, fun i hi => ?_⟩
  have hi : i < vs.length := hi
  have hl := h.len
  obtain ⟨cs, hr, rfl⟩ := hc i (by omega)
  exact ⟨_, hr, _, rfl, (h.sig i (by omega) hi).keep' hb⟩
theorem CVr.grown {w W W' : World} {B1 r : Nat} {l : Lnk} {s : Sl} {gs : List GVote} {vs : List Vote} (h : CVr w W B1 l s gs vs) (hg : W.grownBy W' (some r)) (hr : r < B1) : CVr w W' B1 l s gs vs :=
  ⟨h.row.grown hg h.row.lt (by omega), h.own.keepG hg (by
    cases hob : s.v.ownBlock with
    | none => exact .inl rfl
    | some b => exact .inr (fun e => by injection e with e; have := (h.own.lt b hob).1; omega)), h.len, h.sig⟩
theorem CVr.below {w W W' : World} {B1 : Nat} {l : Lnk} {s : Sl} {gs : List GVote} {vs : List Vote} (h : CVr w W B1 l s gs vs) (hb : Below W.heap.size W W') : CVr w W' B1 l s gs vs :=
  ⟨h.row.below hb h.row.lt, h.own.keep hb, h.len, h.sig⟩
theorem CVr.more {w W W' : World} {B1 : Nat} {l : Lnk} {s s' : Sl} {gs : List GVote} {vs : List Vote} {g : GVote} {v : Vote} (h : CVr w W B1 l s gs vs) (hg : W.grownBy W' s.v.ownBlock) (ho : OwnC W' (B1 + 1) 68 s'.v (gs ++ [g]).length (flatC voteA (gs ++ [g])))
    (hv : VoteR w g v) : CVr w (W'.setCell ⟨B1, 66, none⟩ s'.v) B1 l s' (gs ++ [g]) (vs ++ [v]) := by
  have hB : ∀ b, s.v.ownBlock = some b → B1 ≠ b := fun b hb => by have := (h.own.lt b hb).1; omega
  have hB' : ∀ b, s'.v.ownBlock = some b → B1 + 1 ≤ b := fun b hb => (ho.lt b hb).1
  have hrow : CV W' B1 ⟨l, s⟩ := by
    have hk := hg.block B1 h.row.lt (fun e => hB B1 e.symm rfl)
    refine ⟨?_, fun j hj => ?_⟩
    · unfold row?
      rw [hk]
      exact h.row.1
    · obtain ⟨q1, q2⟩ := h.row.2 j hj
      exact ⟨by rw [World.cell?_of_block (a := ⟨B1, 0 + j, none⟩) hk]; exact q1, by rw [World.frozen?_of_block (a := ⟨B1, 0 + j, none⟩) hk]; exact q2⟩
  have hset : W'.grownBy (W'.setCell ⟨B1, 66, none⟩ s'.v) (some B1) := grown_set W' B1 66 s'.v
  refine ⟨hrow.votes s', ho.keepG hset ?_, by simp [h.len], fun i h1 h2 => ?_⟩
  · cases hob : s'.v.ownBlock with
    | none => exact .inl rfl
    | some b => exact .inr (fun e => by injection e with e; have := hB' b hob; omega)
  · have hl := h.len
    by_cases hi : i < gs.length
    · rw [List.getElem_append_left hi, List.getElem_append_left (by omega)]
      exact h.sig i hi (by omega)
    · have e : i = gs.length := by simp at h1; omega
      subst e
      have e1 : (gs ++ [g])[gs.length]'h1 = g := by simp
      have e2 : (vs ++ [v])[gs.length]'h2 = v := by simp [hl]
      rw [e1, e2]
      exact hv
/-- a vote that lies low, read in the world that there was -/
theorem VoteR.back {w W : World} {g : GVote} {v : Vote} (h : VoteR W g v) (hl : LowSl 0 w.heap.size g.sig v.sig) (hb : Below w.heap.size w W) : VoteR w g v :=
  ⟨h.1, h.2.1, h.2.2.1, h.2.2.2.keepLow hl (fun b hb' => (hb.block b hb').symm)⟩
attribute [local go_sem ↓] fold_bsVote fold_appVote
attribute [local go_sem] bs_vote
theorem fold0_spl (A B : Array Value) (n : Nat) (hn : B.size = n) (h : n ≤ A.size) : Array.foldl (fun cs (x : Value × Nat) => cs.setIfInBounds x.2 x.1) A B.zipIdx 0 n = splice A 0 B := by
  have := fold_splice A B 0 n hn (by omega)
  simpa using this
theorem zc_link : Try.zeroCells28 = linkA ⟨zeroPt, zeroPt⟩ := by kernel_rfl
attribute [local go_sem] fold0_spl
theorem rof_res : Try.f25.results = #[.cell 2 31, .tmp 3] := by kernel_rfl

set_option maxRecDepth 100000 in
set_option maxHeartbeats 3200000 in
theorem rcrtOf_c (s : Sl) (l : List UInt8) (w : World) (hs : BytesR w s l) (hl : l.length ≤ 140737488355328) :
    Calls Try.prog 25 #[s.v] w fun e w' => ∃ g, e = .returned (.tuple #[.agg (certA g), .bool (decide ((certOf l).2 = 0))]) ∧ CertR w' g (certOf l).1 ∧ Below w.heap.size w w' := by
  rw [← certOfR_eq]
  obtain ⟨X, hX⟩ : ∃ X, X = certOfR l := ⟨_, rfl⟩
  rw [← hX]
  have HX := Lib.hid (hX.trans (show certOfR l = if (crtP l).2 = 0 ∧ (crtQ l).2 = 0 then crtPickR l (crtP l).1 (crtQ l).1 (rdVotes (crtN l).2 (crtN l).1) else (zeroCrt, 4) from rfl))
  have hP : crtP l = pointOf (rdBytes (some l) 40).2 := rfl
  have hQ : crtQ l = pointOf (rdBytes (rdBytes (some l) 40).1 40).2 := rfl
  have hN : crtN l = rdNum (rdBytes (rdBytes (some l) 40).1 40).1 1 := rfl
  have hn256 := rdNum1_lt (rdBytes (rdBytes (some l) 40).1 40).1
  rw [← hN] at hn256
  generalize crtP l = P at *
  generalize crtQ l = Q at *
  generalize crtN l = N at *
  have hlen1 : (rdBytes (some l) 40).2.length ≤ 140737488355328 := by rcases rdBytes_len (some l) 40 with h | h <;> (simp only [show ((40 : Nat) : Int) = 40 from rfl] at h; omega)
  have hlen2 : (rdBytes (rdBytes (some l) 40).1 40).2.length ≤ 140737488355328 := by rcases rdBytes_len (rdBytes (some l) 40).1 40 with h | h <;> (simp only [show ((40 : Nat) : Int) = 40 from rfl] at h; omega)
  have HB1 := fun r W (h : RfR w.heap.size W r (some l)) => fbytes_c r (some l) 40 W h (by omega) (by omega)
  generalize rdBytes (some l) 40 = R1 at *
  obtain ⟨st1, b1⟩ := R1
  simp only at HB1 hP hQ hN hlen1 hlen2
  have HP := fun s W (h : BytesR W s b1) => fpointOf_c s b1 W h hlen1
  rw [← hP] at HP
  have HB2 := fun r W (h : RfR w.heap.size W r st1) => fbytes_c r st1 40 W h (by omega) (by omega)
  generalize rdBytes st1 40 = R2 at *
  obtain ⟨st2, b2⟩ := R2
  simp only at HB2 hQ hN hlen2
  have HQ := fun s W (h : BytesR W s b2) => fpointOf_c s b2 W h hlen2
  rw [← hQ] at HQ
  have HN := fun r W (h : RfR w.heap.size W r st2) => fnum_c r st2 1 W h (by omega)
  rw [← hN] at HN
  obtain ⟨st3, n⟩ := N
  obtain ⟨P, pe⟩ := P
  obtain ⟨Q, qe⟩ := Q
  simp only at HP HQ HN HX hn256
  have Hs := Lib.hid hs
  have hzc := zc_cert
  have hzl := zc_link
  generalize ho : decide (pe = 0) = o at *
  generalize hq : decide (qe = 0) = q at *
  have Ho := Lib.hid ho
  have Hq := Lib.hid hq
  clear hX hP hQ hN hlen1 hlen2 hs ho hq
  -- the memory of the call's own: the certificate's result, the reader, the certificate
  have hB0 : Below w.heap.size w (w.alloc (.cells (certA zeroG) 31)) := bel_a _ _
  have hR1 := RfR.new Hs.out hl (w.alloc (.cells (certA zeroG) 31)) hB0 (w.heap.size + 1) (by simp)
  have hV1 := (CV.new w zeroG 31).below (bel_a (w.alloc (.cells (certA zeroG) 31)) (.cells #[s.v, .int .i64 0, .bool false] 164)) (by simp)
  have hB1 : Below w.heap.size w ((w.alloc (.cells (certA zeroG) 31)).alloc (.cells #[s.v, .int .i64 0, .bool false] 164)) := by (repeat' (first | (with_reducible exact Below.refl _ _) | (with_reducible assumption) | (with_reducible refine bel_trans (by assumption) ?_ ?_) | (with_reducible refine bel_grown (by assumption) ?_ ?_ ?_) | (with_reducible refine Below.alloc ?_ ?_ _) | (with_reducible refine Below.drew ?_) | (with_reducible refine below_drewN ?_ _) | (with_reducible refine Below.setCell ?_ ?_ _) | (with_reducible refine below_put ?_ ?_ _ _) | (with_reducible exact Nat.le_refl _) | omega | (with_reducible refine Nat.le_trans ?_ (Below.size (by assumption))) | (with_reducible refine Nat.le_trans ?_ (World.grownBy.size (by assumption))) | (simp only [World.size_alloc, World.size_setCell, World.size_drew, size_drewN]; omega) | (simp only [World.size_alloc, World.size_setCell, World.size_drew, size_drewN, size_put]; omega) | (intro k hk; simp [Value.ownBlock] at hk; done) | (intro k hk; simp [Value.ownBlock] at hk; omega) | (simp [size_drewN] at *; omega)))
  have hz1 : ((w.alloc (.cells (certA zeroG) 31)).alloc (.cells #[s.v, .int .i64 0, .bool false] 164)).heap.size = w.heap.size + 2 := by simp
  go_enter Try.func25, Try.ntmps25
  go_upto_region 2 with fail
  generalize (w.alloc (.cells (certA zeroG) 31)).alloc (.cells #[s.v, .int .i64 0, .bool false] 164) = w1 at *
  go_upto_region 3 with fail
  have hC2 := CV.new w1 zeroG 31
  have hbel2 := bel_a w1 (.cells (certA zeroG) 31)
  have hV2 := hV1.below hbel2 hV1.lt
  have hB2 : Below w.heap.size w (w1.alloc (.cells (certA zeroG) 31)) := hB1.trans (hbel2.mono hB1.size)
  have hr2 := hR1.keep hbel2
  obtain ⟨B1, hBB⟩ : ∃ B1, B1 = w.heap.size + 2 := ⟨_, rfl⟩
  rw [hz1] at hC2
  obtain ⟨r, hrr⟩ : ∃ r, r = w.heap.size + 1 := ⟨_, rfl⟩
  rw [← hBB] at hC2 ⊢
  rw [← hrr] at hr2 ⊢
  generalize w1.alloc (.cells (certA zeroG) 31) = w2 at *
  have hrB : r < B1 := by omega
  have hwB : w.heap.size < r := by omega
  clear hbel2 hR1 hV1 hB1 hz1 hBB hrr hB0
  go_wp2_with fail
  refine (HB1 r _ hr2).mono ?_
  clear HB1
  rintro e w3 ⟨s1, rfl, o1, _, hr3, hg3⟩
  have hV3 := hV2.grown hg3 hV2.lt (by omega)
  have hC3 := hC2.grown hg3 hC2.lt (by omega)
  have hB3 : Below w.heap.size w w3 := bel_grown hg3 hB2 hB2.size (fun j hj => by injection hj with hj; omega)
  clear hg3 hV2 hC2 hB2 hr2
  go_wp2_with fail
  refine (HP _ _ o1).mono ?_
  clear HP
  rintro e w4 ⟨rfl, hb4⟩
  have hV4 := hV3.below hb4 hV3.lt
  have hC4 := hC3.below hb4 hC3.lt
  have hr4 := hr3.keep hb4
  have hB4 : Below w.heap.size w w4 := hB3.trans (hb4.mono hB3.size)
  clear o1 hb4 hV3 hC3 hr3 hB3
  go_upto_region 4 with fail
  have hrP : row? (putRow (w4.alloc (.cells (pointA zeroPt) 26)) w4.heap.size 0 (pointA P)) w4.heap.size 0 33 = some (pointA P) := by go_simp
  have hb5 : Below w4.heap.size w4 (putRow (w4.alloc (.cells (pointA zeroPt) 26)) w4.heap.size 0 (pointA P)) := by (repeat' (first | (with_reducible exact Below.refl _ _) | (with_reducible assumption) | (with_reducible refine bel_trans (by assumption) ?_ ?_) | (with_reducible refine bel_grown (by assumption) ?_ ?_ ?_) | (with_reducible refine Below.alloc ?_ ?_ _) | (with_reducible refine Below.drew ?_) | (with_reducible refine below_drewN ?_ _) | (with_reducible refine Below.setCell ?_ ?_ _) | (with_reducible refine below_put ?_ ?_ _ _) | (with_reducible exact Nat.le_refl _) | omega | (with_reducible refine Nat.le_trans ?_ (Below.size (by assumption))) | (with_reducible refine Nat.le_trans ?_ (World.grownBy.size (by assumption))) | (simp only [World.size_alloc, World.size_setCell, World.size_drew, size_drewN]; omega) | (simp only [World.size_alloc, World.size_setCell, World.size_drew, size_drewN, size_put]; omega) | (intro k hk; simp [Value.ownBlock] at hk; done) | (intro k hk; simp [Value.ownBlock] at hk; omega) | (simp [size_drewN] at *; omega)))
  have hlP : w4.heap.size < (putRow (w4.alloc (.cells (pointA zeroPt) 26)) w4.heap.size 0 (pointA P)).heap.size := by simp [size_put]
  generalize putRow (w4.alloc (.cells (pointA zeroPt) 26)) w4.heap.size 0 (pointA P) = w5 at *
  obtain ⟨bp, hbp⟩ : ∃ bp, bp = w4.heap.size := ⟨_, rfl⟩
  rw [← hbp] at hrP hlP ⊢
  have hV5 := hV4.below hb5 hV4.lt
  have hC5 := hC4.below hb5 hC4.lt
  have hr5 := hr4.keep hb5
  have hB5 : Below w.heap.size w w5 := hB4.trans (hb5.mono hB4.size)
  have hBp : B1 < bp := by have := hC4.lt; omega
  clear hb5 hV4 hC4 hr4 hB4 hbp
  go_wp2_with fail
  refine (HB2 r _ hr5).mono ?_
  clear HB2
  rintro e w6 ⟨s2, rfl, o2, _, hr6, hg6⟩
  have hV6 := hV5.grown hg6 hV5.lt (by omega)
  have hC6 := hC5.grown hg6 hC5.lt (by omega)
  have hB6 : Below w.heap.size w w6 := bel_grown hg6 hB5 hB5.size (fun j hj => by injection hj with hj; omega)
  have hrP6 := (row_grown hg6 hlP (by omega)).trans hrP
  have hlP6 : bp < w6.heap.size := Nat.lt_of_lt_of_le hlP hg6.size
  clear hg6 hV5 hC5 hB5 hr5 hrP hlP
  go_wp2_with fail
  refine (HQ _ _ o2).mono ?_
  clear HQ
  rintro e w7 ⟨rfl, hb7⟩
  have hV7 := hV6.below hb7 hV6.lt
  have hC7 := hC6.below hb7 hC6.lt
  have hr7 := hr6.keep hb7
  have hB7 : Below w.heap.size w w7 := hB6.trans (hb7.mono hB6.size)
  have hrP7 := (row?_below _ 0 33 hb7 hlP6).trans hrP6
  have hlP7 : bp < w7.heap.size := Nat.lt_of_lt_of_le hlP6 hb7.size
  clear o2 hb7 hV6 hC6 hr6 hB6 hrP6 hlP6
  go_upto_region 5 with fail
  have hrQ : row? (putRow (w7.alloc (.cells (pointA zeroPt) 26)) w7.heap.size 0 (pointA Q)) w7.heap.size 0 33 = some (pointA Q) := by go_simp
  have hb8 : Below w7.heap.size w7 (putRow (w7.alloc (.cells (pointA zeroPt) 26)) w7.heap.size 0 (pointA Q)) := by (repeat' (first | (with_reducible exact Below.refl _ _) | (with_reducible assumption) | (with_reducible refine bel_trans (by assumption) ?_ ?_) | (with_reducible refine bel_grown (by assumption) ?_ ?_ ?_) | (with_reducible refine Below.alloc ?_ ?_ _) | (with_reducible refine Below.drew ?_) | (with_reducible refine below_drewN ?_ _) | (with_reducible refine Below.setCell ?_ ?_ _) | (with_reducible refine below_put ?_ ?_ _ _) | (with_reducible exact Nat.le_refl _) | omega | (with_reducible refine Nat.le_trans ?_ (Below.size (by assumption))) | (with_reducible refine Nat.le_trans ?_ (World.grownBy.size (by assumption))) | (simp only [World.size_alloc, World.size_setCell, World.size_drew, size_drewN]; omega) | (simp only [World.size_alloc, World.size_setCell, World.size_drew, size_drewN, size_put]; omega) | (intro k hk; simp [Value.ownBlock] at hk; done) | (intro k hk; simp [Value.ownBlock] at hk; omega) | (simp [size_drewN] at *; omega)))
  generalize putRow (w7.alloc (.cells (pointA zeroPt) 26)) w7.heap.size 0 (pointA Q) = w8 at *
  have hV8 := hV7.below hb8 hV7.lt
  have hC8 := hC7.below hb8 hC7.lt
  have hr8 := hr7.keep hb8
  have hB8 : Below w.heap.size w w8 := hB7.trans (hb8.mono hB7.size)
  have hrP8 := (row?_below _ 0 33 hb8 hlP7).trans hrP7
  have th8 : there w8 B1 0 66 := there_part hC8.2 (by omega) (by omega)
  have hp8 : Below B1 w8 (putRow w8 B1 0 (linkA ⟨P, Q⟩)) := below_put (Below.refl _ _) (Nat.le_refl _) _ _
  have hC9 := hC8.link ⟨P, Q⟩
  have hV9 := hV8.below hp8 (by omega)
  have hr9 := hr8.keepB hrB hp8
  have hB9 : Below w.heap.size w (putRow w8 B1 0 (linkA ⟨P, Q⟩)) := hB8.trans (hp8.mono (by omega))
  clear hb8 hV7 hC7 hr7 hB7 hrP7 hlP7 hV8 hC8 hr8 hB8 hp8
  go_upto_region 6 with fail
  generalize putRow w8 B1 0 (linkA ⟨P, Q⟩) = w9 at *
  clear th8 hrQ hrP8
  go_wp2_with fail
  refine (HN r _ hr9).mono ?_
  clear HN
  rintro e x0 ⟨rfl, hr10, hg10⟩
  have hV10 := Lib.hid (hV9.grown hg10 hV9.lt (by omega))
  have hC10 := hC9.grown hg10 hC9.lt (by omega)
  have hB10 := Lib.hid (show Below w.heap.size w x0 from bel_grown hg10 hB9 hB9.size (fun j hj => by injection hj with hj; omega))
  have hr10 := Lib.hid hr10
  have hC10 := Lib.hid (show CVr w x0 B1 ⟨P, Q⟩ ⟨none, 0, 0⟩ [] [] from ⟨hC10, OwnC.nil _ _ _, rfl, fun i h => by simp at h⟩)
  clear hg10 hV9 hC9 hB9 hr9
  obtain ⟨TOT, hT⟩ : ∃ TOT, TOT = rdVotes n st3 := ⟨_, rfl⟩
  rw [← hT] at HX
  have HT := Lib.hid (show rdOnto [] (rdVotes (n - 0) st3) = TOT by rw [rdOnto_nil, hT]; rfl)
  have hwn : IntKind.i64.wrap (n : Int) = n := IntWalk.i64_in _ (by omega)
  clear hT
  have hzw : w.heap.size < B1 := by omega
  go_upto_block 0 with fail
  clear hwn
  go_cut [9, 11, 12, 13] from 36 to 59 (fun u _ _ _ W => ∃ (is : Bool) (sv : Sl) (gs : List GVote) (vs : List Vote), u = .bool is ∧ Hid (o = false ∨ (is = true ∧ q = true ∧ ∃ st, TOT = some (st, vs)) ∨ (is = false ∧ (q = false ∨ TOT = none))) ∧ Hid (vs.length ≤ 256) ∧ Hid (CVr w W B1 ⟨P, Q⟩ sv gs vs) ∧ Hid (CV W w.heap.size zeroG) ∧ Hid (Below w.heap.size w W))
  case first =>
    go_wp2_with fail
    go_loopw [9, 11, 12, 13] (fun u i _ _ W => ∃ (k : Nat) (is : Bool) (st : Option (List UInt8)) (sv : Sl) (gs : List GVote) (vs : List Vote), k ≤ n ∧ u = .bool is ∧ i = .int .i64 k ∧ Hid (gs.length = k) ∧ Hid (o = false ∨ (is = true ∧ q = true ∧ rdOnto vs (rdVotes (n - k) st) = TOT) ∨ (is = false ∧ (q = false ∨ TOT = none))) ∧ Hid (RfR w.heap.size W r st) ∧ Hid (CVr w W B1 ⟨P, Q⟩ sv gs vs) ∧ Hid (CV W w.heap.size zeroG) ∧ Hid (Below w.heap.size w W)) (fun _ i _ _ _ => n - (intOf i).toNat)
    case atStart =>
      refine ⟨0, q, st3, ⟨none, 0, 0⟩, [], [], Nat.zero_le _, rfl, rfl, Lib.hid rfl, Lib.hid ?_, hr10, hC10, hV10, hB10⟩
      cases q
      · exact .inr (.inr ⟨rfl, .inl rfl⟩)
      · exact .inr (.inl ⟨rfl, rfl, HT.out⟩)
    case round =>
      clear HT hr10 hC10 hV10 hB10
      obtain ⟨k, is, st, sv, gs, vs, hk, rfl, rfl, hgk, hcs, hR, hC, hV, hB⟩ := hrel
      have i0 : (0 : Int) ≤ (k : Int) := by omega
      have hlg := hC.out.len
      have hvl : vs.length ≤ 256 := by have := hgk.out; omega
      by_cases hgo : k < n ∧ o = true ∧ is = true
      · obtain ⟨hkx, rfl, rfl⟩ := hgo
        have hT : q = true ∧ rdOnto vs (rdVotes (n - k) st) = TOT := by
          rcases hcs.out with h | h | h
          · cases h
          · exact h.2
          · cases h.1
        obtain ⟨hqt, hT⟩ := hT
        replace hT := Lib.hid hT
        replace hqt := Lib.hid hqt
        have i1 : (k : Int) < (n : Int) := by omega
        have HBl := fun W (h : RfR w.heap.size W r st) => fblob_c r st W h
        have hyes := rdOnto_yes vs (n - (k + 1)) st
        have hno := rdOnto_no vs (n - (k + 1)) st
        rw [show n - (k + 1) + 1 = n - k by omega] at hyes hno
        have hbl : (rdBlob st).2.length ≤ 140737488355328 := by
          have := rdBytes_len (rdNum st 2).1 (rdNum st 2).2
          have h2 := rdNum_lt st 2
          unfold rdBlob
          omega
        generalize rdBlob st = D at *
        obtain ⟨st', d⟩ := D
        simp only at HBl hyes hno hbl
        have HVO := fun s W (hD : w.heap.size ≤ W.heap.size) (hlo : LowSl 0 w.heap.size s d) (h : BytesR W s d) => fvoteOfD_c w.heap.size s d W hD hlo h hbl
        have hcode := voteOf_code d
        generalize voteOf d = V at *
        obtain ⟨v, ve⟩ := V
        simp only at HVO hyes hno hcode
        have Hyes := Lib.hid hyes
        have Hno := Lib.hid hno
        clear hyes hno hbl hcs hlg hvl
        generalize hvb : decide (ve = 0) = vb at *
        have Hvb := Lib.hid hvb
        clear hvb
        go_wp2_with fail
        refine (HBl _ hR.out).mono ?_
        clear HBl
        rintro e x1 ⟨s1, rfl, o1, lo1, hr1, hg1⟩
        have hC1 := hC.out.grown hg1 hrB
        have hV1 := hV.out.grown hg1 hV.out.lt (by omega)
        have hB1 : Below w.heap.size w x1 := bel_grown hg1 hB.out hB.out.size (fun j hj => by injection hj with hj; omega)
        clear hg1 hR hC hV hB
        go_wp2_with fail
        refine (HVO _ _ hB1.size lo1 o1).mono ?_
        clear HVO
        rintro e x2 ⟨g, rfl, ⟨ov, lov⟩, hb2⟩
        have hC2 := hC1.below hb2
        have hV2 := hV1.below hb2 hV1.lt
        have hr2 := hr1.keep hb2
        have hB2 : Below w.heap.size w x2 := hB1.trans (hb2.mono hB1.size)
        have hsig := Lib.hid (VoteR.back ov lov hB2)
        have hzv := zc_vote
        obtain ⟨i0', hi, hy0, hy1, hy2⟩ := info_parts info_vote3
        have hlen : gs.length ≤ 1000000 := by have := hgk.out; omega
        clear o1 lo1 hC1 hV1 hr1 hB1 hb2 ov lov
        go_upto_region 11 with fail
        have hrow3 : row? (putRow (x2.alloc (.cells (voteA ⟨0, zeroPt, zeroPt, ⟨none, 0, 0⟩⟩) 85)) x2.heap.size 0 (voteA g)) x2.heap.size 0 68 = some (voteA g) := by go_simp
        have hb3 : Below x2.heap.size x2 (putRow (x2.alloc (.cells (voteA ⟨0, zeroPt, zeroPt, ⟨none, 0, 0⟩⟩) 85)) x2.heap.size 0 (voteA g)) := by (repeat' (first | (with_reducible exact Below.refl _ _) | (with_reducible assumption) | (with_reducible refine bel_trans (by assumption) ?_ ?_) | (with_reducible refine bel_grown (by assumption) ?_ ?_ ?_) | (with_reducible refine Below.alloc ?_ ?_ _) | (with_reducible refine Below.drew ?_) | (with_reducible refine below_drewN ?_ _) | (with_reducible refine Below.setCell ?_ ?_ _) | (with_reducible refine below_put ?_ ?_ _ _) | (with_reducible exact Nat.le_refl _) | omega | (with_reducible refine Nat.le_trans ?_ (Below.size (by assumption))) | (with_reducible refine Nat.le_trans ?_ (World.grownBy.size (by assumption))) | (simp only [World.size_alloc, World.size_setCell, World.size_drew, size_drewN]; omega) | (simp only [World.size_alloc, World.size_setCell, World.size_drew, size_drewN, size_put]; omega) | (intro k hk; simp [Value.ownBlock] at hk; done) | (intro k hk; simp [Value.ownBlock] at hk; omega) | (simp [size_drewN] at *; omega)))
        generalize putRow (x2.alloc (.cells (voteA ⟨0, zeroPt, zeroPt, ⟨none, 0, 0⟩⟩) 85)) x2.heap.size 0 (voteA g) = x3 at *
        have hb4 := bel_a x3 (.cells (voteA g) 85)
        have hC3 := hC2.below hb3
        have HC4 := Lib.hid (hC3.below hb4)
        have HV4 := Lib.hid ((hV2.below hb3 hV2.lt).below hb4 (hV2.below hb3 hV2.lt).lt)
        have Hr4 := Lib.hid ((hr2.keep hb3).keep hb4)
        have HB4 := Lib.hid ((hB2.trans (hb3.mono hB2.size)).trans (hb4.mono (hB2.trans (hb3.mono hB2.size)).size))
        obtain ⟨c66, f66⟩ := hC3.row.cell66
        dsimp only at c66
        have hbase : B1 + 1 ≤ (x3.alloc (.cells (voteA g) 85)).heap.size := HC4.out.row.lt
        have hl3 := hC3.row.lt
        clear hb3 hC2 hV2 hr2 hB2 hC3 hb4
        obtain ⟨sva, svn, svc⟩ := sv
        dsimp only [Sl.v] at c66
        have hown4 := HC4.out.own
        have hnw := heap_alloc_new x3 (.cells (voteA g) 85)
        obtain ⟨s5, x5, hrun, hown5, hg5, hob5⟩ := run_append_one (P := Try.prog) voteA voteA_size (x3.alloc (.cells (voteA g) 85)) 29 voteA_onecell (B1 + 1) 85 i0' _ 112 Try.underlying29 hi hy0 hy1 hy2 (by simp [Value.cells]) _ gs hown4 x3.heap.size 1 g hnw hlen (by omega) hbase
        have hb1 : ∀ b, (Value.slice sva svn svc).ownBlock = some b → B1 ≠ b := fun b hb => by have := (hown4.lt b hb).1; omega
        have hk5 := hg5.block B1 hbase (fun e => hb1 B1 e.symm rfl)
        have c66' : x5.cell? ⟨B1, 66, none⟩ = some (.slice sva svn svc) := (World.cell?_of_block (a := ⟨B1, 66, none⟩) hk5).trans HC4.out.row.cell66.1
        have f66' : x5.frozen? ⟨B1, 66, none⟩ = false := (World.frozen?_of_block (a := ⟨B1, 66, none⟩) hk5).trans HC4.out.row.cell66.2
        have hC6 := Lib.hid (HC4.out.more (s' := s5) hg5 hown5 hsig.out)
        have hbe : Below B1 (x3.alloc (.cells (voteA g) 85)) (x5.setCell ⟨B1, 66, none⟩ s5.v) := ((Below.refl _ _).grown hg5 (Nat.le_of_lt (Nat.lt_of_lt_of_le (Nat.lt_succ_self _) hbase)) (fun j hj => by have := (hown4.lt j hj).1; omega)).setCell (Nat.le_refl _) _
        have hV6 := Lib.hid (HV4.out.below hbe (by omega))
        have hR6 := Lib.hid (Hr4.out.keepB hrB hbe)
        have hB6 := Lib.hid (HB4.out.trans (hbe.mono (by omega)))
        have hgk6 := Lib.hid (show (gs ++ [g]).length = k + 1 by rw [List.length_append, hgk.out]; rfl)
        have hcs6 := Lib.hid (show (true : Bool) = false ∨ (vb = true ∧ q = true ∧ rdOnto (vs ++ [v]) (rdVotes (n - (k + 1)) st') = TOT) ∨ (vb = false ∧ (q = false ∨ TOT = none)) from by
          rcases hcode with h | h
          · subst h
            have hv := Hvb.out
            simp only [decide_true] at hv
            exact .inr (.inl ⟨hv.symm, hqt.out, by rw [← hT.out, Hyes.out rfl]⟩)
          · subst h
            have hv := Hvb.out
            exact .inr (.inr ⟨by rw [← hv]; rfl, .inr (by rw [← hT.out, Hno.out (by decide)])⟩))
        obtain ⟨s5a, s5n, s5c⟩ := s5
        rw [fold_appVote] at hrun
        replace hrun := hrun.trans (rfl : _ = Result.ok (Value.slice s5a s5n s5c) x5)
        clear hown4 hnw hown5 hg5 hob5 hk5 HC4 HV4 Hr4 HB4 f66 hi hy0 hy1 hy2 hbe hcode Hyes Hno hT hqt
        dsimp only [Sl.v] at hC6 hV6 hR6 hB6
        go_wp2_with fail
        go_roundw
        case rel =>
          exact ⟨k + 1, vb, st', ⟨s5a, s5n, s5c⟩, gs ++ [g], vs ++ [v], by omega, rfl, by go_num, hgk6, hcs6, hR6, hC6, hV6, hB6⟩
        case measure => (first | (simp [intOf]; done) | (simp [intOf]; omega))
      · have hfin : o = false ∨ (is = true ∧ q = true ∧ ∃ st, TOT = some (st, vs)) ∨ (is = false ∧ (q = false ∨ TOT = none)) := by
          rcases hcs.out with h | h | h
          · exact .inl h
          · obtain ⟨h1, h2, h3⟩ := h
            rcases Bool.eq_false_or_eq_true o with ho | ho
            · have : k = n := by
                rcases Nat.lt_or_ge k n with h | h
                · exact absurd ⟨h, ho, h1⟩ hgo
                · omega
              subst this
              rw [Nat.sub_self, rdOnto_zero] at h3
              exact .inr (.inl ⟨h1, h2, st, h3.symm⟩)
            · exact .inl ho
          · exact .inr (.inr h)
        replace hfin := Lib.hid hfin
        have Hvl := Lib.hid hvl
        clear hcs hR hlg hvl
        by_cases hkx : k < n
        · have i1 : (k : Int) < (n : Int) := by omega
          cases o
          · go_wp2_with fail
            go_meet
            case rel => exact ⟨is, sv, gs, vs, rfl, hfin, Hvl, hC, hV, hB⟩
          · cases is
            · go_wp2_with fail
              go_meet
              case rel => exact ⟨false, sv, gs, vs, rfl, Lib.hid (by have := hfin.out; simpa using this), Hvl, hC, hV, hB⟩
            · exact absurd ⟨hkx, rfl, rfl⟩ hgo
        · have i1 : ¬ (k : Int) < (n : Int) := by omega
          clear hgo
          go_wp2_with fail
          go_meet
          case rel => exact ⟨is, sv, gs, vs, rfl, hfin, Hvl, hC, hV, hB⟩
  case rest =>
    obtain ⟨is, sv, gs, vs, rfl, hcs, hvl, hC, hV, hB⟩ := hcut
    have hrC := hC.out.row.1
    have hlC := hC.out.row.lt
    have hneV : w.heap.size ≠ B1 := by omega
    have hsl := fun W (hW : Below wc.heap.size wc W) => Hs.out.keep (hB.out.trans (hW.mono hB.out.size))
    clear HT hr10 hC10 hV10 hB10
    go_upto_region 13 with fail
    cases o
    · have hX : X = (zeroCrt, 4) := by rw [HX.out, if_neg (fun h => by have := Ho.out; simp [h.1] at this)]
      subst hX
      refine wp_region_freeG_l (fun W W' => Below W.heap.size W W') (by kernel_rfl) [60, 61, 62, 63, 64, 65, 66, 67, 68, 69, 70, 71, 72, 73, 74, 75, 76, 77, 78]
        [Is (.bool false), Is (.bool true), Is (.bool true), Is (undef), Is (undef), Is (.bool true), Is (.bool true), Is (undef), Is (undef), Is (undef), Is (.bool true), Is (.bool true), Is (undef), Is (undef), Is (undef), Is (undef), Is (undef), Is (undef), Is (.bool true)]
        (by kernel_rfl) (fun W W' h hb => hb.trans (h.mono hb.size)) ?_ ?_ ?_
      · intro f hf
        simp only [List.mem_cons, List.not_mem_nil, or_false] at hf
        rcases hf with rfl | rfl | rfl | rfl | rfl | rfl | rfl | rfl | rfl | rfl | rfl | rfl | rfl | rfl | rfl | rfl | rfl | rfl | rfl <;> intro x W W' h hr <;> first | exact h | exact IsB.keepB h hr
      · refine ⟨?_, ?_, ?_, ?_, ?_, ?_, ?_, ?_, ?_, ?_, ?_, ?_, ?_, ?_, ?_, ?_, ?_, ?_, ?_, trivial⟩
        · intro L ax W hf hd
          try simp [Region.binds] at hd
          have e7 : ax.tmps[7]?.getD undef = .bool false := hf.out 7 (by decide) rfl
          refine ⟨fun _ => ?_, fun h => absurd trivial h⟩
          refine free_run (v := .bool false) (W' := W) rfl ?_ rfl (Below.refl _ _)
          go_simp
        · intro L ax W hf hd
          simp [Region.binds] at hd
          have e60 : ax.tmps[60]?.getD undef = .bool false := slv (hf.got 0 (by decide) (by simp [hd]))
          refine ⟨fun _ => ?_, fun h => absurd trivial h⟩
          refine free_run (v := .bool true) (W' := W) rfl ?_ rfl (Below.refl _ _)
          go_simp
        · intro L ax W hf hd
          simp [Region.binds] at hd
          have e61 : ax.tmps[61]?.getD undef = .bool true := slv (hf.got 1 (by decide) (by simp [hd]))
          refine ⟨fun _ => ?_, fun h => absurd trivial h⟩
          refine free_run (v := .bool true) (W' := W) rfl ?_ rfl (Below.refl _ _)
          go_simp
        · intro L ax W hf hd
          simp [Region.binds] at hd
          have e9 : ax.tmps[9]?.getD undef = .bool is := hf.out 9 (by decide) rfl
          have g0 : sl ax 62 = .bool true := hf.got 2 (by decide) (by simp [hd])
          refine ⟨fun hh => ?_, fun hh => ?_⟩
          · first
              | (exact absurd (g0.symm.trans hh) (undef_ne _))
              | (exact absurd (g0.symm.trans hh) (bool_ne (by decide)))
              | (exfalso; revert hh; simp [Held, g0, *]; done)
              | (refine free_run (v := undef) (W' := W) rfl ?_ rfl (Below.refl _ _); go_simp)
          · first
              | (exact absurd g0 hh)
              | (exfalso; revert hh; simp [Held, g0, *]; done)
              | (show undef = _; first | rfl | (simp [*]; done))
        · intro L ax W hf hd
          simp [Region.binds] at hd
          have e63 : ax.tmps[63]?.getD undef = undef := slv (hf.got 3 (by decide) (by simp [hd]))
          have g0 : sl ax 62 = .bool true := hf.got 2 (by decide) (by simp [hd])
          refine ⟨fun hh => ?_, fun hh => ?_⟩
          · first
              | (exact absurd (g0.symm.trans hh) (undef_ne _))
              | (exact absurd (g0.symm.trans hh) (bool_ne (by decide)))
              | (exfalso; revert hh; simp [Held, g0, *]; done)
              | (refine free_run (v := undef) (W' := W) rfl ?_ rfl (Below.refl _ _); go_simp)
          · first
              | (exact absurd g0 hh)
              | (exfalso; revert hh; simp [Held, g0, *]; done)
              | (show undef = _; first | rfl | (simp [*]; done))
        · intro L ax W hf hd
          simp [Region.binds] at hd
          have e62 : ax.tmps[62]?.getD undef = .bool true := slv (hf.got 2 (by decide) (by simp [hd]))
          have e64 : ax.tmps[64]?.getD undef = undef := slv (hf.got 4 (by decide) (by simp [hd]))
          refine ⟨fun _ => ?_, fun h => absurd trivial h⟩
          refine free_run (v := .bool true) (W' := W) rfl ?_ rfl (Below.refl _ _)
          go_simp
        · intro L ax W hf hd
          simp [Region.binds] at hd
          have e65 : ax.tmps[65]?.getD undef = .bool true := slv (hf.got 5 (by decide) (by simp [hd]))
          refine ⟨fun _ => ?_, fun h => absurd trivial h⟩
          refine free_run (v := .bool true) (W' := W) rfl ?_ rfl (Below.refl _ _)
          go_simp
        · intro L ax W hf hd
          simp [Region.binds] at hd
          have e5 : ax.tmps[5]?.getD undef = .pointer (some ⟨B1, 0, none⟩) := hf.out 5 (by decide) rfl
          have g0 : sl ax 66 = .bool true := hf.got 6 (by decide) (by simp [hd])
          refine ⟨fun hh => ?_, fun hh => ?_⟩
          · first
              | (exact absurd (g0.symm.trans hh) (undef_ne _))
              | (exact absurd (g0.symm.trans hh) (bool_ne (by decide)))
              | (exfalso; revert hh; simp [Held, g0, *]; done)
              | (refine free_run (v := undef) (W' := W) rfl ?_ rfl (Below.refl _ _); go_simp)
          · first
              | (exact absurd g0 hh)
              | (exfalso; revert hh; simp [Held, g0, *]; done)
              | (show undef = _; first | rfl | (simp [*]; done))
        · intro L ax W hf hd
          simp [Region.binds] at hd
          have e67 : ax.tmps[67]?.getD undef = undef := slv (hf.got 7 (by decide) (by simp [hd]))
          have g0 : sl ax 66 = .bool true := hf.got 6 (by decide) (by simp [hd])
          refine ⟨fun hh => ?_, fun hh => ?_⟩
          · first
              | (exact absurd (g0.symm.trans hh) (undef_ne _))
              | (exact absurd (g0.symm.trans hh) (bool_ne (by decide)))
              | (exfalso; revert hh; simp [Held, g0, *]; done)
              | (refine free_run (v := undef) (W' := W) rfl ?_ rfl (Below.refl _ _); go_simp)
          · first
              | (exact absurd g0 hh)
              | (exfalso; revert hh; simp [Held, g0, *]; done)
              | (show undef = _; first | rfl | (simp [*]; done))
        · intro L ax W hf hd
          simp [Region.binds] at hd
          have e68 : ax.tmps[68]?.getD undef = undef := slv (hf.got 8 (by decide) (by simp [hd]))
          have g0 : sl ax 66 = .bool true := hf.got 6 (by decide) (by simp [hd])
          refine ⟨fun hh => ?_, fun hh => ?_⟩
          · first
              | (exact absurd (g0.symm.trans hh) (undef_ne _))
              | (exact absurd (g0.symm.trans hh) (bool_ne (by decide)))
              | (exfalso; revert hh; simp [Held, g0, *]; done)
              | (refine free_run (v := undef) (W' := W) rfl ?_ rfl (Below.refl _ _); go_simp)
          · first
              | (exact absurd g0 hh)
              | (exfalso; revert hh; simp [Held, g0, *]; done)
              | (show undef = _; first | rfl | (simp [*]; done))
        · intro L ax W hf hd
          simp [Region.binds] at hd
          have e66 : ax.tmps[66]?.getD undef = .bool true := slv (hf.got 6 (by decide) (by simp [hd]))
          have e69 : ax.tmps[69]?.getD undef = undef := slv (hf.got 9 (by decide) (by simp [hd]))
          refine ⟨fun _ => ?_, fun h => absurd trivial h⟩
          refine free_run (v := .bool true) (W' := W) rfl ?_ rfl (Below.refl _ _)
          go_simp
        · intro L ax W hf hd
          simp [Region.binds] at hd
          have e70 : ax.tmps[70]?.getD undef = .bool true := slv (hf.got 10 (by decide) (by simp [hd]))
          refine ⟨fun _ => ?_, fun h => absurd trivial h⟩
          refine free_run (v := .bool true) (W' := W) rfl ?_ rfl (Below.refl _ _)
          go_simp
        · intro L ax W hf hd
          simp [Region.binds] at hd
          have e5 : ax.tmps[5]?.getD undef = .pointer (some ⟨B1, 0, none⟩) := hf.out 5 (by decide) rfl
          have g0 : sl ax 71 = .bool true := hf.got 11 (by decide) (by simp [hd])
          refine ⟨fun hh => ?_, fun hh => ?_⟩
          · first
              | (exact absurd (g0.symm.trans hh) (undef_ne _))
              | (exact absurd (g0.symm.trans hh) (bool_ne (by decide)))
              | (exfalso; revert hh; simp [Held, g0, *]; done)
              | (refine free_run (v := undef) (W' := W) rfl ?_ rfl (Below.refl _ _); go_simp)
          · first
              | (exact absurd g0 hh)
              | (exfalso; revert hh; simp [Held, g0, *]; done)
              | (show undef = _; first | rfl | (simp [*]; done))
        · intro L ax W hf hd
          simp [Region.binds] at hd
          have e72 : ax.tmps[72]?.getD undef = undef := slv (hf.got 12 (by decide) (by simp [hd]))
          have g0 : sl ax 71 = .bool true := hf.got 11 (by decide) (by simp [hd])
          refine ⟨fun hh => ?_, fun hh => ?_⟩
          · first
              | (exact absurd (g0.symm.trans hh) (undef_ne _))
              | (exact absurd (g0.symm.trans hh) (bool_ne (by decide)))
              | (exfalso; revert hh; simp [Held, g0, *]; done)
              | (refine free_run (v := undef) (W' := W) rfl ?_ rfl (Below.refl _ _); go_simp)
          · first
              | (exact absurd g0 hh)
              | (exfalso; revert hh; simp [Held, g0, *]; done)
              | (show undef = _; first | rfl | (simp [*]; done))
        · intro L ax W hf hd
          simp [Region.binds] at hd
          have e73 : ax.tmps[73]?.getD undef = undef := slv (hf.got 13 (by decide) (by simp [hd]))
          have g0 : sl ax 71 = .bool true := hf.got 11 (by decide) (by simp [hd])
          refine ⟨fun hh => ?_, fun hh => ?_⟩
          · first
              | (exact absurd (g0.symm.trans hh) (undef_ne _))
              | (exact absurd (g0.symm.trans hh) (bool_ne (by decide)))
              | (exfalso; revert hh; simp [Held, g0, *]; done)
              | (refine free_run (v := undef) (W' := W) rfl ?_ rfl (Below.refl _ _); go_simp)
          · first
              | (exact absurd g0 hh)
              | (exfalso; revert hh; simp [Held, g0, *]; done)
              | (show undef = _; first | rfl | (simp [*]; done))
        · intro L ax W hf hd
          simp [Region.binds] at hd
          have e0 : ax.tmps[0]?.getD undef = s.v := hf.out 0 (by decide) rfl
          have g0 : sl ax 71 = .bool true := hf.got 11 (by decide) (by simp [hd])
          refine ⟨fun hh => ?_, fun hh => ?_⟩
          · first
              | (exact absurd (g0.symm.trans hh) (undef_ne _))
              | (exact absurd (g0.symm.trans hh) (bool_ne (by decide)))
              | (exfalso; revert hh; simp [Held, g0, *]; done)
              | (refine free_run (v := undef) (W' := W) rfl ?_ rfl (Below.refl _ _); go_simp)
          · first
              | (exact absurd g0 hh)
              | (exfalso; revert hh; simp [Held, g0, *]; done)
              | (show undef = _; first | rfl | (simp [*]; done))
        · intro L ax W hf hd
          simp [Region.binds] at hd
          have e75 : ax.tmps[75]?.getD undef = undef := slv (hf.got 15 (by decide) (by simp [hd]))
          have g0 : sl ax 71 = .bool true := hf.got 11 (by decide) (by simp [hd])
          refine ⟨fun hh => ?_, fun hh => ?_⟩
          · first
              | (exact absurd (g0.symm.trans hh) (undef_ne _))
              | (exact absurd (g0.symm.trans hh) (bool_ne (by decide)))
              | (exfalso; revert hh; simp [Held, g0, *]; done)
              | (refine free_run (v := undef) (W' := W) rfl ?_ rfl (Below.refl _ _); go_simp)
          · first
              | (exact absurd g0 hh)
              | (exfalso; revert hh; simp [Held, g0, *]; done)
              | (show undef = _; first | rfl | (simp [*]; done))
        · intro L ax W hf hd
          simp [Region.binds] at hd
          have e74 : ax.tmps[74]?.getD undef = undef := slv (hf.got 14 (by decide) (by simp [hd]))
          have e76 : ax.tmps[76]?.getD undef = undef := slv (hf.got 16 (by decide) (by simp [hd]))
          have g0 : sl ax 71 = .bool true := hf.got 11 (by decide) (by simp [hd])
          refine ⟨fun hh => ?_, fun hh => ?_⟩
          · first
              | (exact absurd (g0.symm.trans hh) (undef_ne _))
              | (exact absurd (g0.symm.trans hh) (bool_ne (by decide)))
              | (exfalso; revert hh; simp [Held, g0, *]; done)
              | (refine free_run (v := undef) (W' := W) rfl ?_ rfl (Below.refl _ _); go_simp)
          · first
              | (exact absurd g0 hh)
              | (exfalso; revert hh; simp [Held, g0, *]; done)
              | (show undef = _; first | rfl | (simp [*]; done))
        · intro L ax W hf hd
          simp [Region.binds] at hd
          have e71 : ax.tmps[71]?.getD undef = .bool true := slv (hf.got 11 (by decide) (by simp [hd]))
          have e77 : ax.tmps[77]?.getD undef = undef := slv (hf.got 17 (by decide) (by simp [hd]))
          refine ⟨fun _ => ?_, fun h => absurd trivial h⟩
          refine free_run (v := .bool true) (W' := W) rfl ?_ rfl (Below.refl _ _)
          go_simp
      · intro vs' W hl' hF hb
        obtain ⟨g', hg1, hg2⟩ := vs_lit vs' hl' hF
        have e78 : g' 18 = .bool true := hg2 18 (by decide)
        rw [hg1]
        clear hF hg1 hg2 hl'
        have hV2 := hV.out.below hb hV.out.lt
        have hB2 : Below w.heap.size w W := hB.out.trans (hb.mono hB.out.size)
        have hltV := hV2.lt
        obtain ⟨hrowV, hthV⟩ := hV2
        clear hb hV hB hC
        simp only [List.length_cons, List.length_nil, Nat.reduceAdd, show List.range 19 = [0, 1, 2, 3, 4, 5, 6, 7, 8, 9, 10, 11, 12, 13, 14, 15, 16, 17, 18] from rfl, List.map_cons, List.map_nil, putL, List.zip_cons_cons, List.zip_nil_right, List.setIfInBounds_toArray, List.set_cons_succ, List.set_cons_zero, e78]
        go_wp2_with (with_reducible refine ret_row2 Try.isAgg31 Try.sizeOf31 rof_res (x := .pointer (some ⟨w.heap.size, 0, none⟩)) (y := .bool false) (w.heap.size) 0 ?rrhx (Eq.refl _) ?rrhy ?rrh ?rrhd ?rrhR; (case rrhx => simp only [Array.getD_eq_getD_getElem?, List.getElem?_toArray, List.getElem?_cons_succ, List.getElem?_cons_zero, Option.getD_some]); (case rrhy => simp only [Array.getD_eq_getD_getElem?, List.getElem?_toArray, List.getElem?_cons_succ, List.getElem?_cons_zero, Option.getD_some]); (case rrhd => exact rfl); (case rrh => go_simp); (case rrhR => ((refine ⟨zeroG, ?_, CertR.zero _ none 0, ?_⟩; (case refine_1 => (go_simp; done)); (case refine_2 => ((repeat' (first | (with_reducible exact Below.refl _ _) | (with_reducible assumption) | (with_reducible refine bel_trans (by assumption) ?_ ?_) | (with_reducible refine bel_grown (by assumption) ?_ ?_ ?_) | (with_reducible refine Below.alloc ?_ ?_ _) | (with_reducible refine Below.drew ?_) | (with_reducible refine below_drewN ?_ _) | (with_reducible refine Below.setCell ?_ ?_ _) | (with_reducible refine below_put ?_ ?_ _ _) | (with_reducible exact Nat.le_refl _) | omega | (with_reducible refine Nat.le_trans ?_ (Below.size (by assumption))) | (with_reducible refine Nat.le_trans ?_ (World.grownBy.size (by assumption))) | (simp only [World.size_alloc, World.size_setCell, World.size_drew, size_drewN]; omega) | (simp only [World.size_alloc, World.size_setCell, World.size_drew, size_drewN, size_put]; omega) | (intro k hk; simp [Value.ownBlock] at hk; done) | (intro k hk; simp [Value.ownBlock] at hk; omega) | (simp [size_drewN] at *; omega)))))))))
    cases is
    · have hX : X = (zeroCrt, 4) := by
        rw [HX.out]
        rcases hcs.out with h | h | h
        · cases h
        · cases h.1
        · rcases h.2 with h | h
          · rw [if_neg (fun h2 => by have := Hq.out; simp [h2.2, h] at this)]
          · rw [h]; simp [crtPickR]
      subst hX
      refine wp_region_freeG_l (fun W W' => Below W.heap.size W W') (by kernel_rfl) [60, 61, 62, 63, 64, 65, 66, 67, 68, 69, 70, 71, 72, 73, 74, 75, 76, 77, 78]
        [Is (.bool true), Is (.bool false), Is (.bool false), Is (.bool false), Is (.bool true), Is (.bool true), Is (.bool true), Is (undef), Is (undef), Is (undef), Is (.bool true), Is (.bool true), Is (undef), Is (undef), Is (undef), Is (undef), Is (undef), Is (undef), Is (.bool true)]
        (by kernel_rfl) (fun W W' h hb => hb.trans (h.mono hb.size)) ?_ ?_ ?_
      · intro f hf
        simp only [List.mem_cons, List.not_mem_nil, or_false] at hf
        rcases hf with rfl | rfl | rfl | rfl | rfl | rfl | rfl | rfl | rfl | rfl | rfl | rfl | rfl | rfl | rfl | rfl | rfl | rfl | rfl <;> intro x W W' h hr <;> first | exact h | exact IsB.keepB h hr
      · refine ⟨?_, ?_, ?_, ?_, ?_, ?_, ?_, ?_, ?_, ?_, ?_, ?_, ?_, ?_, ?_, ?_, ?_, ?_, ?_, trivial⟩
        · intro L ax W hf hd
          try simp [Region.binds] at hd
          have e7 : ax.tmps[7]?.getD undef = .bool true := hf.out 7 (by decide) rfl
          refine ⟨fun _ => ?_, fun h => absurd trivial h⟩
          refine free_run (v := .bool true) (W' := W) rfl ?_ rfl (Below.refl _ _)
          go_simp
        · intro L ax W hf hd
          simp [Region.binds] at hd
          have e60 : ax.tmps[60]?.getD undef = .bool true := slv (hf.got 0 (by decide) (by simp [hd]))
          refine ⟨fun _ => ?_, fun h => absurd trivial h⟩
          refine free_run (v := .bool false) (W' := W) rfl ?_ rfl (Below.refl _ _)
          go_simp
        · intro L ax W hf hd
          simp [Region.binds] at hd
          have e61 : ax.tmps[61]?.getD undef = .bool false := slv (hf.got 1 (by decide) (by simp [hd]))
          refine ⟨fun _ => ?_, fun h => absurd trivial h⟩
          refine free_run (v := .bool false) (W' := W) rfl ?_ rfl (Below.refl _ _)
          go_simp
        · intro L ax W hf hd
          simp [Region.binds] at hd
          have e9 : ax.tmps[9]?.getD undef = .bool false := hf.out 9 (by decide) rfl
          have g0 : sl ax 62 = .bool false := hf.got 2 (by decide) (by simp [hd])
          refine ⟨fun hh => ?_, fun hh => ?_⟩
          · first
              | (exact absurd (g0.symm.trans hh) (undef_ne _))
              | (exact absurd (g0.symm.trans hh) (bool_ne (by decide)))
              | (exfalso; revert hh; simp [Held, g0, *]; done)
              | (refine free_run (v := .bool false) (W' := W) rfl ?_ rfl (Below.refl _ _); go_simp)
          · first
              | (exact absurd g0 hh)
              | (exfalso; revert hh; simp [Held, g0, *]; done)
              | (show undef = _; first | rfl | (simp [*]; done))
        · intro L ax W hf hd
          simp [Region.binds] at hd
          have e63 : ax.tmps[63]?.getD undef = .bool false := slv (hf.got 3 (by decide) (by simp [hd]))
          have g0 : sl ax 62 = .bool false := hf.got 2 (by decide) (by simp [hd])
          refine ⟨fun hh => ?_, fun hh => ?_⟩
          · first
              | (exact absurd (g0.symm.trans hh) (undef_ne _))
              | (exact absurd (g0.symm.trans hh) (bool_ne (by decide)))
              | (exfalso; revert hh; simp [Held, g0, *]; done)
              | (refine free_run (v := .bool true) (W' := W) rfl ?_ rfl (Below.refl _ _); go_simp)
          · first
              | (exact absurd g0 hh)
              | (exfalso; revert hh; simp [Held, g0, *]; done)
              | (show undef = _; first | rfl | (simp [*]; done))
        · intro L ax W hf hd
          simp [Region.binds] at hd
          have e62 : ax.tmps[62]?.getD undef = .bool false := slv (hf.got 2 (by decide) (by simp [hd]))
          have e64 : ax.tmps[64]?.getD undef = .bool true := slv (hf.got 4 (by decide) (by simp [hd]))
          refine ⟨fun _ => ?_, fun h => absurd trivial h⟩
          refine free_run (v := .bool true) (W' := W) rfl ?_ rfl (Below.refl _ _)
          go_simp
        · intro L ax W hf hd
          simp [Region.binds] at hd
          have e65 : ax.tmps[65]?.getD undef = .bool true := slv (hf.got 5 (by decide) (by simp [hd]))
          refine ⟨fun _ => ?_, fun h => absurd trivial h⟩
          refine free_run (v := .bool true) (W' := W) rfl ?_ rfl (Below.refl _ _)
          go_simp
        · intro L ax W hf hd
          simp [Region.binds] at hd
          have e5 : ax.tmps[5]?.getD undef = .pointer (some ⟨B1, 0, none⟩) := hf.out 5 (by decide) rfl
          have g0 : sl ax 66 = .bool true := hf.got 6 (by decide) (by simp [hd])
          refine ⟨fun hh => ?_, fun hh => ?_⟩
          · first
              | (exact absurd (g0.symm.trans hh) (undef_ne _))
              | (exact absurd (g0.symm.trans hh) (bool_ne (by decide)))
              | (exfalso; revert hh; simp [Held, g0, *]; done)
              | (refine free_run (v := undef) (W' := W) rfl ?_ rfl (Below.refl _ _); go_simp)
          · first
              | (exact absurd g0 hh)
              | (exfalso; revert hh; simp [Held, g0, *]; done)
              | (show undef = _; first | rfl | (simp [*]; done))
        · intro L ax W hf hd
          simp [Region.binds] at hd
          have e67 : ax.tmps[67]?.getD undef = undef := slv (hf.got 7 (by decide) (by simp [hd]))
          have g0 : sl ax 66 = .bool true := hf.got 6 (by decide) (by simp [hd])
          refine ⟨fun hh => ?_, fun hh => ?_⟩
          · first
              | (exact absurd (g0.symm.trans hh) (undef_ne _))
              | (exact absurd (g0.symm.trans hh) (bool_ne (by decide)))
              | (exfalso; revert hh; simp [Held, g0, *]; done)
              | (refine free_run (v := undef) (W' := W) rfl ?_ rfl (Below.refl _ _); go_simp)
          · first
              | (exact absurd g0 hh)
              | (exfalso; revert hh; simp [Held, g0, *]; done)
              | (show undef = _; first | rfl | (simp [*]; done))
        · intro L ax W hf hd
          simp [Region.binds] at hd
          have e68 : ax.tmps[68]?.getD undef = undef := slv (hf.got 8 (by decide) (by simp [hd]))
          have g0 : sl ax 66 = .bool true := hf.got 6 (by decide) (by simp [hd])
          refine ⟨fun hh => ?_, fun hh => ?_⟩
          · first
              | (exact absurd (g0.symm.trans hh) (undef_ne _))
              | (exact absurd (g0.symm.trans hh) (bool_ne (by decide)))
              | (exfalso; revert hh; simp [Held, g0, *]; done)
              | (refine free_run (v := undef) (W' := W) rfl ?_ rfl (Below.refl _ _); go_simp)
          · first
              | (exact absurd g0 hh)
              | (exfalso; revert hh; simp [Held, g0, *]; done)
              | (show undef = _; first | rfl | (simp [*]; done))
        · intro L ax W hf hd
          simp [Region.binds] at hd
          have e66 : ax.tmps[66]?.getD undef = .bool true := slv (hf.got 6 (by decide) (by simp [hd]))
          have e69 : ax.tmps[69]?.getD undef = undef := slv (hf.got 9 (by decide) (by simp [hd]))
          refine ⟨fun _ => ?_, fun h => absurd trivial h⟩
          refine free_run (v := .bool true) (W' := W) rfl ?_ rfl (Below.refl _ _)
          go_simp
        · intro L ax W hf hd
          simp [Region.binds] at hd
          have e70 : ax.tmps[70]?.getD undef = .bool true := slv (hf.got 10 (by decide) (by simp [hd]))
          refine ⟨fun _ => ?_, fun h => absurd trivial h⟩
          refine free_run (v := .bool true) (W' := W) rfl ?_ rfl (Below.refl _ _)
          go_simp
        · intro L ax W hf hd
          simp [Region.binds] at hd
          have e5 : ax.tmps[5]?.getD undef = .pointer (some ⟨B1, 0, none⟩) := hf.out 5 (by decide) rfl
          have g0 : sl ax 71 = .bool true := hf.got 11 (by decide) (by simp [hd])
          refine ⟨fun hh => ?_, fun hh => ?_⟩
          · first
              | (exact absurd (g0.symm.trans hh) (undef_ne _))
              | (exact absurd (g0.symm.trans hh) (bool_ne (by decide)))
              | (exfalso; revert hh; simp [Held, g0, *]; done)
              | (refine free_run (v := undef) (W' := W) rfl ?_ rfl (Below.refl _ _); go_simp)
          · first
              | (exact absurd g0 hh)
              | (exfalso; revert hh; simp [Held, g0, *]; done)
              | (show undef = _; first | rfl | (simp [*]; done))
        · intro L ax W hf hd
          simp [Region.binds] at hd
          have e72 : ax.tmps[72]?.getD undef = undef := slv (hf.got 12 (by decide) (by simp [hd]))
          have g0 : sl ax 71 = .bool true := hf.got 11 (by decide) (by simp [hd])
          refine ⟨fun hh => ?_, fun hh => ?_⟩
          · first
              | (exact absurd (g0.symm.trans hh) (undef_ne _))
              | (exact absurd (g0.symm.trans hh) (bool_ne (by decide)))
              | (exfalso; revert hh; simp [Held, g0, *]; done)
              | (refine free_run (v := undef) (W' := W) rfl ?_ rfl (Below.refl _ _); go_simp)
          · first
              | (exact absurd g0 hh)
              | (exfalso; revert hh; simp [Held, g0, *]; done)
              | (show undef = _; first | rfl | (simp [*]; done))
        · intro L ax W hf hd
          simp [Region.binds] at hd
          have e73 : ax.tmps[73]?.getD undef = undef := slv (hf.got 13 (by decide) (by simp [hd]))
          have g0 : sl ax 71 = .bool true := hf.got 11 (by decide) (by simp [hd])
          refine ⟨fun hh => ?_, fun hh => ?_⟩
          · first
              | (exact absurd (g0.symm.trans hh) (undef_ne _))
              | (exact absurd (g0.symm.trans hh) (bool_ne (by decide)))
              | (exfalso; revert hh; simp [Held, g0, *]; done)
              | (refine free_run (v := undef) (W' := W) rfl ?_ rfl (Below.refl _ _); go_simp)
          · first
              | (exact absurd g0 hh)
              | (exfalso; revert hh; simp [Held, g0, *]; done)
              | (show undef = _; first | rfl | (simp [*]; done))
        · intro L ax W hf hd
          simp [Region.binds] at hd
          have e0 : ax.tmps[0]?.getD undef = s.v := hf.out 0 (by decide) rfl
          have g0 : sl ax 71 = .bool true := hf.got 11 (by decide) (by simp [hd])
          refine ⟨fun hh => ?_, fun hh => ?_⟩
          · first
              | (exact absurd (g0.symm.trans hh) (undef_ne _))
              | (exact absurd (g0.symm.trans hh) (bool_ne (by decide)))
              | (exfalso; revert hh; simp [Held, g0, *]; done)
              | (refine free_run (v := undef) (W' := W) rfl ?_ rfl (Below.refl _ _); go_simp)
          · first
              | (exact absurd g0 hh)
              | (exfalso; revert hh; simp [Held, g0, *]; done)
              | (show undef = _; first | rfl | (simp [*]; done))
        · intro L ax W hf hd
          simp [Region.binds] at hd
          have e75 : ax.tmps[75]?.getD undef = undef := slv (hf.got 15 (by decide) (by simp [hd]))
          have g0 : sl ax 71 = .bool true := hf.got 11 (by decide) (by simp [hd])
          refine ⟨fun hh => ?_, fun hh => ?_⟩
          · first
              | (exact absurd (g0.symm.trans hh) (undef_ne _))
              | (exact absurd (g0.symm.trans hh) (bool_ne (by decide)))
              | (exfalso; revert hh; simp [Held, g0, *]; done)
              | (refine free_run (v := undef) (W' := W) rfl ?_ rfl (Below.refl _ _); go_simp)
          · first
              | (exact absurd g0 hh)
              | (exfalso; revert hh; simp [Held, g0, *]; done)
              | (show undef = _; first | rfl | (simp [*]; done))
        · intro L ax W hf hd
          simp [Region.binds] at hd
          have e74 : ax.tmps[74]?.getD undef = undef := slv (hf.got 14 (by decide) (by simp [hd]))
          have e76 : ax.tmps[76]?.getD undef = undef := slv (hf.got 16 (by decide) (by simp [hd]))
          have g0 : sl ax 71 = .bool true := hf.got 11 (by decide) (by simp [hd])
          refine ⟨fun hh => ?_, fun hh => ?_⟩
          · first
              | (exact absurd (g0.symm.trans hh) (undef_ne _))
              | (exact absurd (g0.symm.trans hh) (bool_ne (by decide)))
              | (exfalso; revert hh; simp [Held, g0, *]; done)
              | (refine free_run (v := undef) (W' := W) rfl ?_ rfl (Below.refl _ _); go_simp)
          · first
              | (exact absurd g0 hh)
              | (exfalso; revert hh; simp [Held, g0, *]; done)
              | (show undef = _; first | rfl | (simp [*]; done))
        · intro L ax W hf hd
          simp [Region.binds] at hd
          have e71 : ax.tmps[71]?.getD undef = .bool true := slv (hf.got 11 (by decide) (by simp [hd]))
          have e77 : ax.tmps[77]?.getD undef = undef := slv (hf.got 17 (by decide) (by simp [hd]))
          refine ⟨fun _ => ?_, fun h => absurd trivial h⟩
          refine free_run (v := .bool true) (W' := W) rfl ?_ rfl (Below.refl _ _)
          go_simp
      · intro vs' W hl' hF hb
        obtain ⟨g', hg1, hg2⟩ := vs_lit vs' hl' hF
        have e78 : g' 18 = .bool true := hg2 18 (by decide)
        rw [hg1]
        clear hF hg1 hg2 hl'
        have hV2 := hV.out.below hb hV.out.lt
        have hB2 : Below w.heap.size w W := hB.out.trans (hb.mono hB.out.size)
        have hltV := hV2.lt
        obtain ⟨hrowV, hthV⟩ := hV2
        clear hb hV hB hC
        simp only [List.length_cons, List.length_nil, Nat.reduceAdd, show List.range 19 = [0, 1, 2, 3, 4, 5, 6, 7, 8, 9, 10, 11, 12, 13, 14, 15, 16, 17, 18] from rfl, List.map_cons, List.map_nil, putL, List.zip_cons_cons, List.zip_nil_right, List.setIfInBounds_toArray, List.set_cons_succ, List.set_cons_zero, e78]
        go_wp2_with (with_reducible refine ret_row2 Try.isAgg31 Try.sizeOf31 rof_res (x := .pointer (some ⟨w.heap.size, 0, none⟩)) (y := .bool false) (w.heap.size) 0 ?rrhx (Eq.refl _) ?rrhy ?rrh ?rrhd ?rrhR; (case rrhx => simp only [Array.getD_eq_getD_getElem?, List.getElem?_toArray, List.getElem?_cons_succ, List.getElem?_cons_zero, Option.getD_some]); (case rrhy => simp only [Array.getD_eq_getD_getElem?, List.getElem?_toArray, List.getElem?_cons_succ, List.getElem?_cons_zero, Option.getD_some]); (case rrhd => exact rfl); (case rrh => go_simp); (case rrhR => ((refine ⟨zeroG, ?_, CertR.zero _ none 0, ?_⟩; (case refine_1 => (go_simp; done)); (case refine_2 => ((repeat' (first | (with_reducible exact Below.refl _ _) | (with_reducible assumption) | (with_reducible refine bel_trans (by assumption) ?_ ?_) | (with_reducible refine bel_grown (by assumption) ?_ ?_ ?_) | (with_reducible refine Below.alloc ?_ ?_ _) | (with_reducible refine Below.drew ?_) | (with_reducible refine below_drewN ?_ _) | (with_reducible refine Below.setCell ?_ ?_ _) | (with_reducible refine below_put ?_ ?_ _ _) | (with_reducible exact Nat.le_refl _) | omega | (with_reducible refine Nat.le_trans ?_ (Below.size (by assumption))) | (with_reducible refine Nat.le_trans ?_ (World.grownBy.size (by assumption))) | (simp only [World.size_alloc, World.size_setCell, World.size_drew, size_drewN]; omega) | (simp only [World.size_alloc, World.size_setCell, World.size_drew, size_drewN, size_put]; omega) | (intro k hk; simp [Value.ownBlock] at hk; done) | (intro k hk; simp [Value.ownBlock] at hk; omega) | (simp [size_drewN] at *; omega)))))))))
    have hXX : X = if crtMay ⟨⟨P, Q⟩, vs⟩ = true ∧ crtBytes ⟨⟨P, Q⟩, vs⟩ = l then (⟨⟨P, Q⟩, vs⟩, 0) else (zeroCrt, 4) := by
      rw [HX.out]
      rcases hcs.out with h | h | h
      · cases h
      · obtain ⟨_, h2, st, h3⟩ := h
        have e1 := of_decide_eq_true Ho.out
        have e2 := of_decide_eq_true (Hq.out.trans h2)
        rw [if_pos ⟨e1, e2⟩, h3]
        rfl
      · cases h.1
    have HXX := Lib.hid hXX
    have hM := fun W (hW : Below wc.heap.size wc W) => rcrtMay_c ⟨⟨P, Q⟩, sv⟩ ⟨⟨P, Q⟩, vs⟩ W ((hC.out.reads hB.out).keep hW) (Nat.le_trans hvl.out (by omega))
    clear hXX HX hcs
    cases hm : crtMay ⟨⟨P, Q⟩, vs⟩
    · rw [hm] at hM
      have hX : X = (zeroCrt, 4) := by rw [HXX.out]; simp [hm]
      subst hX
      clear hm HXX
      refine wp_region_freeG_l (fun W W' => Below W.heap.size W W') (by kernel_rfl) [60, 61, 62, 63, 64, 65, 66, 67, 68, 69, 70, 71, 72, 73, 74, 75, 76, 77, 78]
        [Is (.bool true), Is (.bool false), Is (.bool false), Is (.bool true), Is (.bool false), Is (.bool false), Is (.bool false), Is (.agg (certA ⟨⟨P, Q⟩, sv⟩)), Is (.bool false), Is (.bool true), Is (.bool true), Is (.bool true), Is (undef), Is (undef), Is (undef), Is (undef), Is (undef), Is (undef), Is (.bool true)]
        (by kernel_rfl) (fun W W' h hb => hb.trans (h.mono hb.size)) ?_ ?_ ?_
      · intro f hf
        simp only [List.mem_cons, List.not_mem_nil, or_false] at hf
        rcases hf with rfl | rfl | rfl | rfl | rfl | rfl | rfl | rfl | rfl | rfl | rfl | rfl | rfl | rfl | rfl | rfl | rfl | rfl | rfl <;> intro x W W' h hr <;> first | exact h | exact IsB.keepB h hr
      · refine ⟨?_, ?_, ?_, ?_, ?_, ?_, ?_, ?_, ?_, ?_, ?_, ?_, ?_, ?_, ?_, ?_, ?_, ?_, ?_, trivial⟩
        · intro L ax W hf hd
          try simp [Region.binds] at hd
          have e7 : ax.tmps[7]?.getD undef = .bool true := hf.out 7 (by decide) rfl
          refine ⟨fun _ => ?_, fun h => absurd trivial h⟩
          refine free_run (v := .bool true) (W' := W) rfl ?_ rfl (Below.refl _ _)
          go_simp
        · intro L ax W hf hd
          simp [Region.binds] at hd
          have e60 : ax.tmps[60]?.getD undef = .bool true := slv (hf.got 0 (by decide) (by simp [hd]))
          refine ⟨fun _ => ?_, fun h => absurd trivial h⟩
          refine free_run (v := .bool false) (W' := W) rfl ?_ rfl (Below.refl _ _)
          go_simp
        · intro L ax W hf hd
          simp [Region.binds] at hd
          have e61 : ax.tmps[61]?.getD undef = .bool false := slv (hf.got 1 (by decide) (by simp [hd]))
          refine ⟨fun _ => ?_, fun h => absurd trivial h⟩
          refine free_run (v := .bool false) (W' := W) rfl ?_ rfl (Below.refl _ _)
          go_simp
        · intro L ax W hf hd
          simp [Region.binds] at hd
          have e9 : ax.tmps[9]?.getD undef = .bool true := hf.out 9 (by decide) rfl
          have g0 : sl ax 62 = .bool false := hf.got 2 (by decide) (by simp [hd])
          refine ⟨fun hh => ?_, fun hh => ?_⟩
          · first
              | (exact absurd (g0.symm.trans hh) (undef_ne _))
              | (exact absurd (g0.symm.trans hh) (bool_ne (by decide)))
              | (exfalso; revert hh; simp [Held, g0, *]; done)
              | (refine free_run (v := .bool true) (W' := W) rfl ?_ rfl (Below.refl _ _); go_simp)
          · first
              | (exact absurd g0 hh)
              | (exfalso; revert hh; simp [Held, g0, *]; done)
              | (show undef = _; first | rfl | (simp [*]; done))
        · intro L ax W hf hd
          simp [Region.binds] at hd
          have e63 : ax.tmps[63]?.getD undef = .bool true := slv (hf.got 3 (by decide) (by simp [hd]))
          have g0 : sl ax 62 = .bool false := hf.got 2 (by decide) (by simp [hd])
          refine ⟨fun hh => ?_, fun hh => ?_⟩
          · first
              | (exact absurd (g0.symm.trans hh) (undef_ne _))
              | (exact absurd (g0.symm.trans hh) (bool_ne (by decide)))
              | (exfalso; revert hh; simp [Held, g0, *]; done)
              | (refine free_run (v := .bool false) (W' := W) rfl ?_ rfl (Below.refl _ _); go_simp)
          · first
              | (exact absurd g0 hh)
              | (exfalso; revert hh; simp [Held, g0, *]; done)
              | (show undef = _; first | rfl | (simp [*]; done))
        · intro L ax W hf hd
          simp [Region.binds] at hd
          have e62 : ax.tmps[62]?.getD undef = .bool false := slv (hf.got 2 (by decide) (by simp [hd]))
          have e64 : ax.tmps[64]?.getD undef = .bool false := slv (hf.got 4 (by decide) (by simp [hd]))
          refine ⟨fun _ => ?_, fun h => absurd trivial h⟩
          refine free_run (v := .bool false) (W' := W) rfl ?_ rfl (Below.refl _ _)
          go_simp
        · intro L ax W hf hd
          simp [Region.binds] at hd
          have e65 : ax.tmps[65]?.getD undef = .bool false := slv (hf.got 5 (by decide) (by simp [hd]))
          refine ⟨fun _ => ?_, fun h => absurd trivial h⟩
          refine free_run (v := .bool false) (W' := W) rfl ?_ rfl (Below.refl _ _)
          go_simp
        · intro L ax W hf hd
          simp [Region.binds] at hd
          have e5 : ax.tmps[5]?.getD undef = .pointer (some ⟨B1, 0, none⟩) := hf.out 5 (by decide) rfl
          have g0 : sl ax 66 = .bool false := hf.got 6 (by decide) (by simp [hd])
          refine ⟨fun hh => ?_, fun hh => ?_⟩
          · first
              | (exact absurd (g0.symm.trans hh) (undef_ne _))
              | (exact absurd (g0.symm.trans hh) (bool_ne (by decide)))
              | (exfalso; revert hh; simp [Held, g0, *]; done)
              | ((have r1 := (row?_below _ 0 67 hf.below hlC).trans hrC); refine free_run (v := .agg (certA ⟨⟨P, Q⟩, sv⟩)) (W' := W) rfl ?_ rfl (Below.refl _ _); go_simp)
          · first
              | (exact absurd g0 hh)
              | (exfalso; revert hh; simp [Held, g0, *]; done)
              | (show undef = _; first | rfl | (simp [*]; done))
        · intro L ax W hf hd
          simp [Region.binds] at hd
          have e67 : ax.tmps[67]?.getD undef = .agg (certA ⟨⟨P, Q⟩, sv⟩) := slv (hf.got 7 (by decide) (by simp [hd]))
          have g0 : sl ax 66 = .bool false := hf.got 6 (by decide) (by simp [hd])
          refine ⟨fun hh => ?_, fun hh => ?_⟩
          · first
              | (exact absurd (g0.symm.trans hh) (undef_ne _))
              | (exact absurd (g0.symm.trans hh) (bool_ne (by decide)))
              | (exfalso; revert hh; simp [Held, g0, *]; done)
              | (refine free_call (f := 21) (args := #[.agg (certA ⟨⟨P, Q⟩, sv⟩)]) rfl (by go_simp) ?_; refine (hM W hf.below).mono ?_; rintro e w' ⟨rfl, hb⟩; exact ⟨_, rfl, rfl, hb⟩)
          · first
              | (exact absurd g0 hh)
              | (exfalso; revert hh; simp [Held, g0, *]; done)
              | (show undef = _; first | rfl | (simp [*]; done))
        · intro L ax W hf hd
          simp [Region.binds] at hd
          have e68 : ax.tmps[68]?.getD undef = .bool false := slv (hf.got 8 (by decide) (by simp [hd]))
          have g0 : sl ax 66 = .bool false := hf.got 6 (by decide) (by simp [hd])
          refine ⟨fun hh => ?_, fun hh => ?_⟩
          · first
              | (exact absurd (g0.symm.trans hh) (undef_ne _))
              | (exact absurd (g0.symm.trans hh) (bool_ne (by decide)))
              | (exfalso; revert hh; simp [Held, g0, *]; done)
              | (refine free_run (v := .bool true) (W' := W) rfl ?_ rfl (Below.refl _ _); go_simp)
          · first
              | (exact absurd g0 hh)
              | (exfalso; revert hh; simp [Held, g0, *]; done)
              | (show undef = _; first | rfl | (simp [*]; done))
        · intro L ax W hf hd
          simp [Region.binds] at hd
          have e66 : ax.tmps[66]?.getD undef = .bool false := slv (hf.got 6 (by decide) (by simp [hd]))
          have e69 : ax.tmps[69]?.getD undef = .bool true := slv (hf.got 9 (by decide) (by simp [hd]))
          refine ⟨fun _ => ?_, fun h => absurd trivial h⟩
          refine free_run (v := .bool true) (W' := W) rfl ?_ rfl (Below.refl _ _)
          go_simp
        · intro L ax W hf hd
          simp [Region.binds] at hd
          have e70 : ax.tmps[70]?.getD undef = .bool true := slv (hf.got 10 (by decide) (by simp [hd]))
          refine ⟨fun _ => ?_, fun h => absurd trivial h⟩
          refine free_run (v := .bool true) (W' := W) rfl ?_ rfl (Below.refl _ _)
          go_simp
        · intro L ax W hf hd
          simp [Region.binds] at hd
          have e5 : ax.tmps[5]?.getD undef = .pointer (some ⟨B1, 0, none⟩) := hf.out 5 (by decide) rfl
          have g0 : sl ax 71 = .bool true := hf.got 11 (by decide) (by simp [hd])
          refine ⟨fun hh => ?_, fun hh => ?_⟩
          · first
              | (exact absurd (g0.symm.trans hh) (undef_ne _))
              | (exact absurd (g0.symm.trans hh) (bool_ne (by decide)))
              | (exfalso; revert hh; simp [Held, g0, *]; done)
              | (refine free_run (v := undef) (W' := W) rfl ?_ rfl (Below.refl _ _); go_simp)
          · first
              | (exact absurd g0 hh)
              | (exfalso; revert hh; simp [Held, g0, *]; done)
              | (show undef = _; first | rfl | (simp [*]; done))
        · intro L ax W hf hd
          simp [Region.binds] at hd
          have e72 : ax.tmps[72]?.getD undef = undef := slv (hf.got 12 (by decide) (by simp [hd]))
          have g0 : sl ax 71 = .bool true := hf.got 11 (by decide) (by simp [hd])
          refine ⟨fun hh => ?_, fun hh => ?_⟩
          · first
              | (exact absurd (g0.symm.trans hh) (undef_ne _))
              | (exact absurd (g0.symm.trans hh) (bool_ne (by decide)))
              | (exfalso; revert hh; simp [Held, g0, *]; done)
              | (refine free_run (v := undef) (W' := W) rfl ?_ rfl (Below.refl _ _); go_simp)
          · first
              | (exact absurd g0 hh)
              | (exfalso; revert hh; simp [Held, g0, *]; done)
              | (show undef = _; first | rfl | (simp [*]; done))
        · intro L ax W hf hd
          simp [Region.binds] at hd
          have e73 : ax.tmps[73]?.getD undef = undef := slv (hf.got 13 (by decide) (by simp [hd]))
          have g0 : sl ax 71 = .bool true := hf.got 11 (by decide) (by simp [hd])
          refine ⟨fun hh => ?_, fun hh => ?_⟩
          · first
              | (exact absurd (g0.symm.trans hh) (undef_ne _))
              | (exact absurd (g0.symm.trans hh) (bool_ne (by decide)))
              | (exfalso; revert hh; simp [Held, g0, *]; done)
              | (refine free_run (v := undef) (W' := W) rfl ?_ rfl (Below.refl _ _); go_simp)
          · first
              | (exact absurd g0 hh)
              | (exfalso; revert hh; simp [Held, g0, *]; done)
              | (show undef = _; first | rfl | (simp [*]; done))
        · intro L ax W hf hd
          simp [Region.binds] at hd
          have e0 : ax.tmps[0]?.getD undef = s.v := hf.out 0 (by decide) rfl
          have g0 : sl ax 71 = .bool true := hf.got 11 (by decide) (by simp [hd])
          refine ⟨fun hh => ?_, fun hh => ?_⟩
          · first
              | (exact absurd (g0.symm.trans hh) (undef_ne _))
              | (exact absurd (g0.symm.trans hh) (bool_ne (by decide)))
              | (exfalso; revert hh; simp [Held, g0, *]; done)
              | (refine free_run (v := undef) (W' := W) rfl ?_ rfl (Below.refl _ _); go_simp)
          · first
              | (exact absurd g0 hh)
              | (exfalso; revert hh; simp [Held, g0, *]; done)
              | (show undef = _; first | rfl | (simp [*]; done))
        · intro L ax W hf hd
          simp [Region.binds] at hd
          have e75 : ax.tmps[75]?.getD undef = undef := slv (hf.got 15 (by decide) (by simp [hd]))
          have g0 : sl ax 71 = .bool true := hf.got 11 (by decide) (by simp [hd])
          refine ⟨fun hh => ?_, fun hh => ?_⟩
          · first
              | (exact absurd (g0.symm.trans hh) (undef_ne _))
              | (exact absurd (g0.symm.trans hh) (bool_ne (by decide)))
              | (exfalso; revert hh; simp [Held, g0, *]; done)
              | (refine free_run (v := undef) (W' := W) rfl ?_ rfl (Below.refl _ _); go_simp)
          · first
              | (exact absurd g0 hh)
              | (exfalso; revert hh; simp [Held, g0, *]; done)
              | (show undef = _; first | rfl | (simp [*]; done))
        · intro L ax W hf hd
          simp [Region.binds] at hd
          have e74 : ax.tmps[74]?.getD undef = undef := slv (hf.got 14 (by decide) (by simp [hd]))
          have e76 : ax.tmps[76]?.getD undef = undef := slv (hf.got 16 (by decide) (by simp [hd]))
          have g0 : sl ax 71 = .bool true := hf.got 11 (by decide) (by simp [hd])
          refine ⟨fun hh => ?_, fun hh => ?_⟩
          · first
              | (exact absurd (g0.symm.trans hh) (undef_ne _))
              | (exact absurd (g0.symm.trans hh) (bool_ne (by decide)))
              | (exfalso; revert hh; simp [Held, g0, *]; done)
              | (refine free_run (v := undef) (W' := W) rfl ?_ rfl (Below.refl _ _); go_simp)
          · first
              | (exact absurd g0 hh)
              | (exfalso; revert hh; simp [Held, g0, *]; done)
              | (show undef = _; first | rfl | (simp [*]; done))
        · intro L ax W hf hd
          simp [Region.binds] at hd
          have e71 : ax.tmps[71]?.getD undef = .bool true := slv (hf.got 11 (by decide) (by simp [hd]))
          have e77 : ax.tmps[77]?.getD undef = undef := slv (hf.got 17 (by decide) (by simp [hd]))
          refine ⟨fun _ => ?_, fun h => absurd trivial h⟩
          refine free_run (v := .bool true) (W' := W) rfl ?_ rfl (Below.refl _ _)
          go_simp
      · intro vs' W hl' hF hb
        obtain ⟨g', hg1, hg2⟩ := vs_lit vs' hl' hF
        have e78 : g' 18 = .bool true := hg2 18 (by decide)
        rw [hg1]
        clear hF hg1 hg2 hl'
        have hV2 := hV.out.below hb hV.out.lt
        have hB2 : Below w.heap.size w W := hB.out.trans (hb.mono hB.out.size)
        have hltV := hV2.lt
        obtain ⟨hrowV, hthV⟩ := hV2
        clear hb hV hB hC
        simp only [List.length_cons, List.length_nil, Nat.reduceAdd, show List.range 19 = [0, 1, 2, 3, 4, 5, 6, 7, 8, 9, 10, 11, 12, 13, 14, 15, 16, 17, 18] from rfl, List.map_cons, List.map_nil, putL, List.zip_cons_cons, List.zip_nil_right, List.setIfInBounds_toArray, List.set_cons_succ, List.set_cons_zero, e78]
        go_wp2_with (with_reducible refine ret_row2 Try.isAgg31 Try.sizeOf31 rof_res (x := .pointer (some ⟨w.heap.size, 0, none⟩)) (y := .bool false) (w.heap.size) 0 ?rrhx (Eq.refl _) ?rrhy ?rrh ?rrhd ?rrhR; (case rrhx => simp only [Array.getD_eq_getD_getElem?, List.getElem?_toArray, List.getElem?_cons_succ, List.getElem?_cons_zero, Option.getD_some]); (case rrhy => simp only [Array.getD_eq_getD_getElem?, List.getElem?_toArray, List.getElem?_cons_succ, List.getElem?_cons_zero, Option.getD_some]); (case rrhd => exact rfl); (case rrh => go_simp); (case rrhR => ((refine ⟨zeroG, ?_, CertR.zero _ none 0, ?_⟩; (case refine_1 => (go_simp; done)); (case refine_2 => ((repeat' (first | (with_reducible exact Below.refl _ _) | (with_reducible assumption) | (with_reducible refine bel_trans (by assumption) ?_ ?_) | (with_reducible refine bel_grown (by assumption) ?_ ?_ ?_) | (with_reducible refine Below.alloc ?_ ?_ _) | (with_reducible refine Below.drew ?_) | (with_reducible refine below_drewN ?_ _) | (with_reducible refine Below.setCell ?_ ?_ _) | (with_reducible refine below_put ?_ ?_ _ _) | (with_reducible exact Nat.le_refl _) | omega | (with_reducible refine Nat.le_trans ?_ (Below.size (by assumption))) | (with_reducible refine Nat.le_trans ?_ (World.grownBy.size (by assumption))) | (simp only [World.size_alloc, World.size_setCell, World.size_drew, size_drewN]; omega) | (simp only [World.size_alloc, World.size_setCell, World.size_drew, size_drewN, size_put]; omega) | (intro k hk; simp [Value.ownBlock] at hk; done) | (intro k hk; simp [Value.ownBlock] at hk; omega) | (simp [size_drewN] at *; omega)))))))))
    · rw [hm] at hM
      have hbl := crtBytes_len hm
      have HBy := fun W (hW : Below wc.heap.size wc W) => rcrtBytes_c ⟨⟨P, Q⟩, sv⟩ ⟨⟨P, Q⟩, vs⟩ W ((hC.out.reads hB.out).keep hW) hm
      have Hm := Lib.hid hm
      clear hm
      refine wp_region_freeG_l (fun W W' => Below W.heap.size W W') (by kernel_rfl) [60, 61, 62, 63, 64, 65, 66, 67, 68, 69, 70, 71, 72, 73, 74, 75, 76, 77, 78]
        [Is (.bool true), Is (.bool false), Is (.bool false), Is (.bool true), Is (.bool false), Is (.bool false), Is (.bool false), Is (.agg (certA ⟨⟨P, Q⟩, sv⟩)), Is (.bool true), Is (.bool false), Is (.bool false), Is (.bool false), Is (.agg (certA ⟨⟨P, Q⟩, sv⟩)), IsB (crtBytes ⟨⟨P, Q⟩, vs⟩), Is (.string ⟨(crtBytes ⟨⟨P, Q⟩, vs⟩).toArray⟩), Is (s.v), Is (.string ⟨l.toArray⟩), Is (.bool (!decide (crtBytes ⟨⟨P, Q⟩, vs⟩ = l))), Is (.bool (!decide (crtBytes ⟨⟨P, Q⟩, vs⟩ = l)))]
        (by kernel_rfl) (fun W W' h hb => hb.trans (h.mono hb.size)) ?_ ?_ ?_
      · intro f hf
        simp only [List.mem_cons, List.not_mem_nil, or_false] at hf
        rcases hf with rfl | rfl | rfl | rfl | rfl | rfl | rfl | rfl | rfl | rfl | rfl | rfl | rfl | rfl | rfl | rfl | rfl | rfl | rfl <;> intro x W W' h hr <;> first | exact h | exact IsB.keepB h hr
      · refine ⟨?_, ?_, ?_, ?_, ?_, ?_, ?_, ?_, ?_, ?_, ?_, ?_, ?_, ?_, ?_, ?_, ?_, ?_, ?_, trivial⟩
        · intro L ax W hf hd
          try simp [Region.binds] at hd
          have e7 : ax.tmps[7]?.getD undef = .bool true := hf.out 7 (by decide) rfl
          refine ⟨fun _ => ?_, fun h => absurd trivial h⟩
          refine free_run (v := .bool true) (W' := W) rfl ?_ rfl (Below.refl _ _)
          go_simp
        · intro L ax W hf hd
          simp [Region.binds] at hd
          have e60 : ax.tmps[60]?.getD undef = .bool true := slv (hf.got 0 (by decide) (by simp [hd]))
          refine ⟨fun _ => ?_, fun h => absurd trivial h⟩
          refine free_run (v := .bool false) (W' := W) rfl ?_ rfl (Below.refl _ _)
          go_simp
        · intro L ax W hf hd
          simp [Region.binds] at hd
          have e61 : ax.tmps[61]?.getD undef = .bool false := slv (hf.got 1 (by decide) (by simp [hd]))
          refine ⟨fun _ => ?_, fun h => absurd trivial h⟩
          refine free_run (v := .bool false) (W' := W) rfl ?_ rfl (Below.refl _ _)
          go_simp
        · intro L ax W hf hd
          simp [Region.binds] at hd
          have e9 : ax.tmps[9]?.getD undef = .bool true := hf.out 9 (by decide) rfl
          have g0 : sl ax 62 = .bool false := hf.got 2 (by decide) (by simp [hd])
          refine ⟨fun hh => ?_, fun hh => ?_⟩
          · first
              | (exact absurd (g0.symm.trans hh) (undef_ne _))
              | (exact absurd (g0.symm.trans hh) (bool_ne (by decide)))
              | (exfalso; revert hh; simp [Held, g0, *]; done)
              | (refine free_run (v := .bool true) (W' := W) rfl ?_ rfl (Below.refl _ _); go_simp)
          · first
              | (exact absurd g0 hh)
              | (exfalso; revert hh; simp [Held, g0, *]; done)
              | (show undef = _; first | rfl | (simp [*]; done))
        · intro L ax W hf hd
          simp [Region.binds] at hd
          have e63 : ax.tmps[63]?.getD undef = .bool true := slv (hf.got 3 (by decide) (by simp [hd]))
          have g0 : sl ax 62 = .bool false := hf.got 2 (by decide) (by simp [hd])
          refine ⟨fun hh => ?_, fun hh => ?_⟩
          · first
              | (exact absurd (g0.symm.trans hh) (undef_ne _))
              | (exact absurd (g0.symm.trans hh) (bool_ne (by decide)))
              | (exfalso; revert hh; simp [Held, g0, *]; done)
              | (refine free_run (v := .bool false) (W' := W) rfl ?_ rfl (Below.refl _ _); go_simp)
          · first
              | (exact absurd g0 hh)
              | (exfalso; revert hh; simp [Held, g0, *]; done)
              | (show undef = _; first | rfl | (simp [*]; done))
        · intro L ax W hf hd
          simp [Region.binds] at hd
          have e62 : ax.tmps[62]?.getD undef = .bool false := slv (hf.got 2 (by decide) (by simp [hd]))
          have e64 : ax.tmps[64]?.getD undef = .bool false := slv (hf.got 4 (by decide) (by simp [hd]))
          refine ⟨fun _ => ?_, fun h => absurd trivial h⟩
          refine free_run (v := .bool false) (W' := W) rfl ?_ rfl (Below.refl _ _)
          go_simp
        · intro L ax W hf hd
          simp [Region.binds] at hd
          have e65 : ax.tmps[65]?.getD undef = .bool false := slv (hf.got 5 (by decide) (by simp [hd]))
          refine ⟨fun _ => ?_, fun h => absurd trivial h⟩
          refine free_run (v := .bool false) (W' := W) rfl ?_ rfl (Below.refl _ _)
          go_simp
        · intro L ax W hf hd
          simp [Region.binds] at hd
          have e5 : ax.tmps[5]?.getD undef = .pointer (some ⟨B1, 0, none⟩) := hf.out 5 (by decide) rfl
          have g0 : sl ax 66 = .bool false := hf.got 6 (by decide) (by simp [hd])
          refine ⟨fun hh => ?_, fun hh => ?_⟩
          · first
              | (exact absurd (g0.symm.trans hh) (undef_ne _))
              | (exact absurd (g0.symm.trans hh) (bool_ne (by decide)))
              | (exfalso; revert hh; simp [Held, g0, *]; done)
              | ((have r1 := (row?_below _ 0 67 hf.below hlC).trans hrC); refine free_run (v := .agg (certA ⟨⟨P, Q⟩, sv⟩)) (W' := W) rfl ?_ rfl (Below.refl _ _); go_simp)
          · first
              | (exact absurd g0 hh)
              | (exfalso; revert hh; simp [Held, g0, *]; done)
              | (show undef = _; first | rfl | (simp [*]; done))
        · intro L ax W hf hd
          simp [Region.binds] at hd
          have e67 : ax.tmps[67]?.getD undef = .agg (certA ⟨⟨P, Q⟩, sv⟩) := slv (hf.got 7 (by decide) (by simp [hd]))
          have g0 : sl ax 66 = .bool false := hf.got 6 (by decide) (by simp [hd])
          refine ⟨fun hh => ?_, fun hh => ?_⟩
          · first
              | (exact absurd (g0.symm.trans hh) (undef_ne _))
              | (exact absurd (g0.symm.trans hh) (bool_ne (by decide)))
              | (exfalso; revert hh; simp [Held, g0, *]; done)
              | (refine free_call (f := 21) (args := #[.agg (certA ⟨⟨P, Q⟩, sv⟩)]) rfl (by go_simp) ?_; refine (hM W hf.below).mono ?_; rintro e w' ⟨rfl, hb⟩; exact ⟨_, rfl, rfl, hb⟩)
          · first
              | (exact absurd g0 hh)
              | (exfalso; revert hh; simp [Held, g0, *]; done)
              | (show undef = _; first | rfl | (simp [*]; done))
        · intro L ax W hf hd
          simp [Region.binds] at hd
          have e68 : ax.tmps[68]?.getD undef = .bool true := slv (hf.got 8 (by decide) (by simp [hd]))
          have g0 : sl ax 66 = .bool false := hf.got 6 (by decide) (by simp [hd])
          refine ⟨fun hh => ?_, fun hh => ?_⟩
          · first
              | (exact absurd (g0.symm.trans hh) (undef_ne _))
              | (exact absurd (g0.symm.trans hh) (bool_ne (by decide)))
              | (exfalso; revert hh; simp [Held, g0, *]; done)
              | (refine free_run (v := .bool false) (W' := W) rfl ?_ rfl (Below.refl _ _); go_simp)
          · first
              | (exact absurd g0 hh)
              | (exfalso; revert hh; simp [Held, g0, *]; done)
              | (show undef = _; first | rfl | (simp [*]; done))
        · intro L ax W hf hd
          simp [Region.binds] at hd
          have e66 : ax.tmps[66]?.getD undef = .bool false := slv (hf.got 6 (by decide) (by simp [hd]))
          have e69 : ax.tmps[69]?.getD undef = .bool false := slv (hf.got 9 (by decide) (by simp [hd]))
          refine ⟨fun _ => ?_, fun h => absurd trivial h⟩
          refine free_run (v := .bool false) (W' := W) rfl ?_ rfl (Below.refl _ _)
          go_simp
        · intro L ax W hf hd
          simp [Region.binds] at hd
          have e70 : ax.tmps[70]?.getD undef = .bool false := slv (hf.got 10 (by decide) (by simp [hd]))
          refine ⟨fun _ => ?_, fun h => absurd trivial h⟩
          refine free_run (v := .bool false) (W' := W) rfl ?_ rfl (Below.refl _ _)
          go_simp
        · intro L ax W hf hd
          simp [Region.binds] at hd
          have e5 : ax.tmps[5]?.getD undef = .pointer (some ⟨B1, 0, none⟩) := hf.out 5 (by decide) rfl
          have g0 : sl ax 71 = .bool false := hf.got 11 (by decide) (by simp [hd])
          refine ⟨fun hh => ?_, fun hh => ?_⟩
          · first
              | (exact absurd (g0.symm.trans hh) (undef_ne _))
              | (exact absurd (g0.symm.trans hh) (bool_ne (by decide)))
              | (exfalso; revert hh; simp [Held, g0, *]; done)
              | ((have r1 := (row?_below _ 0 67 hf.below hlC).trans hrC); refine free_run (v := .agg (certA ⟨⟨P, Q⟩, sv⟩)) (W' := W) rfl ?_ rfl (Below.refl _ _); go_simp)
          · first
              | (exact absurd g0 hh)
              | (exfalso; revert hh; simp [Held, g0, *]; done)
              | (show undef = _; first | rfl | (simp [*]; done))
        · intro L ax W hf hd
          simp [Region.binds] at hd
          have e72 : ax.tmps[72]?.getD undef = .agg (certA ⟨⟨P, Q⟩, sv⟩) := slv (hf.got 12 (by decide) (by simp [hd]))
          have g0 : sl ax 71 = .bool false := hf.got 11 (by decide) (by simp [hd])
          refine ⟨fun hh => ?_, fun hh => ?_⟩
          · first
              | (exact absurd (g0.symm.trans hh) (undef_ne _))
              | (exact absurd (g0.symm.trans hh) (bool_ne (by decide)))
              | (exfalso; revert hh; simp [Held, g0, *]; done)
              | (refine free_call (f := 24) (args := #[.agg (certA ⟨⟨P, Q⟩, sv⟩)]) rfl (by go_simp) ?_; refine (HBy W hf.below).mono ?_; rintro e w' ⟨x, rfl, ho, hb⟩; obtain ⟨s2, rfl⟩ := ho.slice; exact ⟨_, rfl, ⟨s2, rfl, ho.reads⟩, hb⟩)
          · first
              | (exact absurd g0 hh)
              | (exfalso; revert hh; simp [Held, g0, *]; done)
              | (show undef = _; first | rfl | (simp [*]; done))
        · intro L ax W hf hd
          simp [Region.binds] at hd
          have f73 : IsB (crtBytes ⟨⟨P, Q⟩, vs⟩) (sl ax 73) W := hf.got 13 (by decide) (by simp [hd])
          have g0 : sl ax 71 = .bool false := hf.got 11 (by decide) (by simp [hd])
          refine ⟨fun hh => ?_, fun hh => ?_⟩
          · first
              | (exact absurd (g0.symm.trans hh) (undef_ne _))
              | (exact absurd (g0.symm.trans hh) (bool_ne (by decide)))
              | (exfalso; revert hh; simp [Held, g0, *]; done)
              | (obtain ⟨s2, e14, h14⟩ := f73; have e14 := slv e14; have hcv := str_run h14; refine free_run (v := .string ⟨(crtBytes ⟨⟨P, Q⟩, vs⟩).toArray⟩) (W' := W) rfl ?_ rfl (Below.refl _ _); go_simp)
          · first
              | (exact absurd g0 hh)
              | (exfalso; revert hh; simp [Held, g0, *]; done)
              | (show undef = _; first | rfl | (simp [*]; done))
        · intro L ax W hf hd
          simp [Region.binds] at hd
          have e0 : ax.tmps[0]?.getD undef = s.v := hf.out 0 (by decide) rfl
          have g0 : sl ax 71 = .bool false := hf.got 11 (by decide) (by simp [hd])
          refine ⟨fun hh => ?_, fun hh => ?_⟩
          · first
              | (exact absurd (g0.symm.trans hh) (undef_ne _))
              | (exact absurd (g0.symm.trans hh) (bool_ne (by decide)))
              | (exfalso; revert hh; simp [Held, g0, *]; done)
              | (refine free_run (v := s.v) (W' := W) rfl ?_ rfl (Below.refl _ _); go_simp)
          · first
              | (exact absurd g0 hh)
              | (exfalso; revert hh; simp [Held, g0, *]; done)
              | (show undef = _; first | rfl | (simp [*]; done))
        · intro L ax W hf hd
          simp [Region.binds] at hd
          have e75 : ax.tmps[75]?.getD undef = s.v := slv (hf.got 15 (by decide) (by simp [hd]))
          have g0 : sl ax 71 = .bool false := hf.got 11 (by decide) (by simp [hd])
          refine ⟨fun hh => ?_, fun hh => ?_⟩
          · first
              | (exact absurd (g0.symm.trans hh) (undef_ne _))
              | (exact absurd (g0.symm.trans hh) (bool_ne (by decide)))
              | (exfalso; revert hh; simp [Held, g0, *]; done)
              | ((have hcv := str_run (hsl W hf.below)); refine free_run (v := .string ⟨l.toArray⟩) (W' := W) rfl ?_ rfl (Below.refl _ _); go_simp)
          · first
              | (exact absurd g0 hh)
              | (exfalso; revert hh; simp [Held, g0, *]; done)
              | (show undef = _; first | rfl | (simp [*]; done))
        · intro L ax W hf hd
          simp [Region.binds] at hd
          have e74 : ax.tmps[74]?.getD undef = .string ⟨(crtBytes ⟨⟨P, Q⟩, vs⟩).toArray⟩ := slv (hf.got 14 (by decide) (by simp [hd]))
          have e76 : ax.tmps[76]?.getD undef = .string ⟨l.toArray⟩ := slv (hf.got 16 (by decide) (by simp [hd]))
          have g0 : sl ax 71 = .bool false := hf.got 11 (by decide) (by simp [hd])
          refine ⟨fun hh => ?_, fun hh => ?_⟩
          · first
              | (exact absurd (g0.symm.trans hh) (undef_ne _))
              | (exact absurd (g0.symm.trans hh) (bool_ne (by decide)))
              | (exfalso; revert hh; simp [Held, g0, *]; done)
              | ((have hbe : (crtBytes ⟨⟨P, Q⟩, vs⟩ == l) = decide (crtBytes ⟨⟨P, Q⟩, vs⟩ = l) := by (rw [Bool.eq_iff_iff]; simp)); refine free_run (v := .bool (!decide (crtBytes ⟨⟨P, Q⟩, vs⟩ = l))) (W' := W) rfl ?_ rfl (Below.refl _ _); go_simp)
          · first
              | (exact absurd g0 hh)
              | (exfalso; revert hh; simp [Held, g0, *]; done)
              | (show undef = _; first | rfl | (simp [*]; done))
        · intro L ax W hf hd
          simp [Region.binds] at hd
          have e71 : ax.tmps[71]?.getD undef = .bool false := slv (hf.got 11 (by decide) (by simp [hd]))
          have e77 : ax.tmps[77]?.getD undef = .bool (!decide (crtBytes ⟨⟨P, Q⟩, vs⟩ = l)) := slv (hf.got 17 (by decide) (by simp [hd]))
          refine ⟨fun _ => ?_, fun h => absurd trivial h⟩
          refine free_run (v := .bool (!decide (crtBytes ⟨⟨P, Q⟩, vs⟩ = l))) (W' := W) rfl ?_ rfl (Below.refl _ _)
          go_simp
      · intro vs' W hl' hF hb
        obtain ⟨g', hg1, hg2⟩ := vs_lit vs' hl' hF
        have e78 : g' 18 = .bool (!decide (crtBytes ⟨⟨P, Q⟩, vs⟩ = l)) := hg2 18 (by decide)
        rw [hg1]
        clear hF hg1 hg2 hl'
        have hV2 := hV.out.below hb hV.out.lt
        have hB2 : Below w.heap.size w W := hB.out.trans (hb.mono hB.out.size)
        have hltV := hV2.lt
        obtain ⟨hrowV, hthV⟩ := hV2
        have hC2 := hC.out.below hb
        have hrow4 := (row?_below _ 0 67 hb hlC).trans hrC
        have hCf := Lib.hid (show CertR (putRow W w.heap.size 0 (certA ⟨⟨P, Q⟩, sv⟩)) ⟨⟨P, Q⟩, sv⟩ ⟨⟨P, Q⟩, vs⟩ from
          (hC2.grown (r := w.heap.size) ⟨(below_put (Below.refl 0 W) (Nat.zero_le _) _ _).os, (below_put (Below.refl 0 W) (Nat.zero_le _) _ _).tape, (below_put (Below.refl 0 W) (Nat.zero_le _) _ _).output, by rw [size_put]; exact Nat.le_refl _, fun k _ hk => put_block _ _ _ _ _ (fun e => hk (by rw [e]))⟩ (by omega)).reads (hB2.trans (below_put (Below.refl _ _) (by omega) _ _ |>.mono (Nat.le_refl _))))
        by_cases he : crtBytes ⟨⟨P, Q⟩, vs⟩ = l
        · have hX : X = (⟨⟨P, Q⟩, vs⟩, 0) := by rw [HXX.out]; simp [Hm.out, he]
          subst hX
          rw [show (!decide (crtBytes ⟨⟨P, Q⟩, vs⟩ = l)) = false by simp [he]] at e78
          clear hb hV hB hC hC2 he HXX hrC
          simp only [List.length_cons, List.length_nil, Nat.reduceAdd, show List.range 19 = [0, 1, 2, 3, 4, 5, 6, 7, 8, 9, 10, 11, 12, 13, 14, 15, 16, 17, 18] from rfl, List.map_cons, List.map_nil, putL, List.zip_cons_cons, List.zip_nil_right, List.setIfInBounds_toArray, List.set_cons_succ, List.set_cons_zero, e78]
          go_wp2_with (with_reducible refine ret_row2 Try.isAgg31 Try.sizeOf31 rof_res (x := .pointer (some ⟨w.heap.size, 0, none⟩)) (y := .bool true) (w.heap.size) 0 ?rrhx (Eq.refl _) ?rrhy ?rrh ?rrhd ?rrhR; (case rrhx => simp only [Array.getD_eq_getD_getElem?, List.getElem?_toArray, List.getElem?_cons_succ, List.getElem?_cons_zero, Option.getD_some]); (case rrhy => simp only [Array.getD_eq_getD_getElem?, List.getElem?_toArray, List.getElem?_cons_succ, List.getElem?_cons_zero, Option.getD_some]); (case rrhd => exact rfl); (case rrh => go_simp); (case rrhR => ((refine ⟨⟨⟨P, Q⟩, sv⟩, ?_, hCf.out, ?_⟩; (case refine_1 => (go_simp; done)); (case refine_2 => ((repeat' (first | (with_reducible exact Below.refl _ _) | (with_reducible assumption) | (with_reducible refine bel_trans (by assumption) ?_ ?_) | (with_reducible refine bel_grown (by assumption) ?_ ?_ ?_) | (with_reducible refine Below.alloc ?_ ?_ _) | (with_reducible refine Below.drew ?_) | (with_reducible refine below_drewN ?_ _) | (with_reducible refine Below.setCell ?_ ?_ _) | (with_reducible refine below_put ?_ ?_ _ _) | (with_reducible exact Nat.le_refl _) | omega | (with_reducible refine Nat.le_trans ?_ (Below.size (by assumption))) | (with_reducible refine Nat.le_trans ?_ (World.grownBy.size (by assumption))) | (simp only [World.size_alloc, World.size_setCell, World.size_drew, size_drewN]; omega) | (simp only [World.size_alloc, World.size_setCell, World.size_drew, size_drewN, size_put]; omega) | (intro k hk; simp [Value.ownBlock] at hk; done) | (intro k hk; simp [Value.ownBlock] at hk; omega) | (simp [size_drewN] at *; omega)))))))))
        · have hX : X = (zeroCrt, 4) := by rw [HXX.out]; simp [he]
          subst hX
          rw [show (!decide (crtBytes ⟨⟨P, Q⟩, vs⟩ = l)) = true by simp [he]] at e78
          clear hb hV hB hC hC2 he HXX hrC hCf
          simp only [List.length_cons, List.length_nil, Nat.reduceAdd, show List.range 19 = [0, 1, 2, 3, 4, 5, 6, 7, 8, 9, 10, 11, 12, 13, 14, 15, 16, 17, 18] from rfl, List.map_cons, List.map_nil, putL, List.zip_cons_cons, List.zip_nil_right, List.setIfInBounds_toArray, List.set_cons_succ, List.set_cons_zero, e78]
          go_wp2_with (with_reducible refine ret_row2 Try.isAgg31 Try.sizeOf31 rof_res (x := .pointer (some ⟨w.heap.size, 0, none⟩)) (y := .bool false) (w.heap.size) 0 ?rrhx (Eq.refl _) ?rrhy ?rrh ?rrhd ?rrhR; (case rrhx => simp only [Array.getD_eq_getD_getElem?, List.getElem?_toArray, List.getElem?_cons_succ, List.getElem?_cons_zero, Option.getD_some]); (case rrhy => simp only [Array.getD_eq_getD_getElem?, List.getElem?_toArray, List.getElem?_cons_succ, List.getElem?_cons_zero, Option.getD_some]); (case rrhd => exact rfl); (case rrh => go_simp); (case rrhR => ((refine ⟨zeroG, ?_, CertR.zero _ none 0, ?_⟩; (case refine_1 => (go_simp; done)); (case refine_2 => ((repeat' (first | (with_reducible exact Below.refl _ _) | (with_reducible assumption) | (with_reducible refine bel_trans (by assumption) ?_ ?_) | (with_reducible refine bel_grown (by assumption) ?_ ?_ ?_) | (with_reducible refine Below.alloc ?_ ?_ _) | (with_reducible refine Below.drew ?_) | (with_reducible refine below_drewN ?_ _) | (with_reducible refine Below.setCell ?_ ?_ _) | (with_reducible refine below_put ?_ ?_ _ _) | (with_reducible exact Nat.le_refl _) | omega | (with_reducible refine Nat.le_trans ?_ (Below.size (by assumption))) | (with_reducible refine Nat.le_trans ?_ (World.grownBy.size (by assumption))) | (simp only [World.size_alloc, World.size_setCell, World.size_drew, size_drewN]; omega) | (simp only [World.size_alloc, World.size_setCell, World.size_drew, size_drewN, size_put]; omega) | (intro k hk; simp [Value.ownBlock] at hk; done) | (intro k hk; simp [Value.ownBlock] at hk; omega) | (simp [size_drewN] at *; omega)))))))))
end Go.Proofs.Ytkocpihfdpahpaa

/- What was written is read, plainly: numbers, hashes, checkpoints, votes, certificates. -/
namespace Go.Proofs.Ytkocpihfdpahpaa
open Go.RowKit

theorem numOf_be : ∀ (k n : Nat), n < 256 ^ k → numOf (be k n) = n
  | 0, n, h => by
    have : n = 0 := by simpa using h
    subst this
    rfl
  | k + 1, n, h => by
    have e : be (k + 1) n = be k (n / 256) ++ [UInt8.ofNat n] := rfl
    have h2 : n / 256 < 256 ^ k := by
      rw [Nat.pow_succ] at h
      exact Nat.div_lt_of_lt_mul (by rw [Nat.mul_comm]; exact h)
    rw [e, numOf_snoc, numOf_be k (n / 256) h2]
    have : (UInt8.ofNat n).toNat = n % 256 := by simp
    omega
theorem rdBytes_app (a r : List UInt8) (k : Nat) (h : a.length = k) : rdBytes (some (a ++ r)) (k : Int) = (some r, a) := by
  subst h
  rw [rdBytes_all (by simp), List.drop_left' rfl, List.take_left' rfl]
theorem rdNum_be (k n : Nat) (r : List UInt8) (h : n < 256 ^ k) : rdNum (some (be k n ++ r)) k = (some r, n) := by
  unfold rdNum
  rw [rdBytes_app _ _ k (be_length k n), numOf_be k n h]
theorem rdHash_app (h : Hash) (r : List UInt8) : rdHash (some (h.1 ++ r)) = (some r, h) := by
  unfold rdHash
  have := rdBytes_app h.1 r 32 h.2
  simp only [show ((32 : Nat) : Int) = 32 from rfl] at this
  rw [this]
  simp only [toHash, h.2, dif_pos]
theorem rdPoint_app (p : Pt) (r : List UInt8) : rdPoint (some (ptBytes p ++ r)) = (some r, p) := by
  unfold rdPoint ptBytes
  rw [List.append_assoc, rdNum_be 8 _ _ (by have := p.epoch.toNat_lt; omega)]
  simp only
  rw [rdHash_app]
  simp
theorem rdBlob_app (x r : List UInt8) (h : x.length < 65536) : rdBlob (some (be 2 x.length ++ (x ++ r))) = (some r, x) := by
  unfold rdBlob
  rw [rdNum_be 2 _ _ (by omega)]
  exact rdBytes_app x r x.length rfl
theorem rdVote_app (v : Vote) (r : List UInt8) (h1 : 1 ≤ v.validator) (h2 : v.validator ≤ 64) (h3 : v.sig.length ≤ 4096) : rdVote (some (vtBytes v ++ r)) = (some r, v) := by
  unfold rdVote vtBytes
  simp only [List.append_assoc]
  rw [rdNum_be 1 _ _ (by omega)]
  simp only
  rw [rdPoint_app]
  simp only
  rw [rdPoint_app]
  simp only
  rw [rdBlob_app _ _ (by omega)]
  simp only
  rw [Int.toNat_of_nonneg (by omega)]
theorem voteOf_bytes {v : Vote} (h : voteMay v = true) : voteOf (vtBytes v) = (v, 0) := by
  obtain ⟨h1, h2, h3, _⟩ := voteMay_out h
  have := rdVote_app v [] h1 h2 h3
  rw [List.append_nil] at this
  unfold voteOf
  rw [this]
  simp [h]
theorem pointOf_bytes {p : Pt} (h : mayPt p = true) : pointOf (ptBytes p) = (p, 0) := by
  have := rdPoint_app p []
  rw [List.append_nil] at this
  unfold pointOf
  rw [this]
  simp [h]
theorem rdVotes_bytes : ∀ (vs : List Vote) (r : List UInt8), vs.all voteMay = true → rdVotes vs.length (some ((vs.map vblob).flatten ++ r)) = some (some r, vs)
  | [], r, _ => rfl
  | v :: vs, r, h => by
    simp only [List.all_cons, Bool.and_eq_true] at h
    have hl := voteMay_len h.1
    have e : rdBlob (some (((v :: vs).map vblob).flatten ++ r)) = (some ((vs.map vblob).flatten ++ r), vtBytes v) := by
      rw [List.map_cons, List.flatten_cons, vblob, List.append_assoc, List.append_assoc]
      exact rdBlob_app _ _ (by omega)
    rw [List.length_cons]
    simp only [rdVotes]
    rw [e]
    simp only
    rw [voteOf_bytes h.1, if_pos rfl, rdVotes_bytes vs r h.2]
    rfl
theorem certOf_bytes {c : Crt} (h : crtMay c = true) : certOf (crtBytes c) = (c, 0) := by
  obtain ⟨m1, m2, m3, m4, m5⟩ := crtMay_out h
  have e1 : rdBytes (some (crtBytes c)) 40 = (some (ptBytes c.link.target ++ ([UInt8.ofNat c.votes.length] ++ (c.votes.map vblob).flatten)), ptBytes c.link.source) := by
    rw [crtBytes, crtFront, List.append_assoc, List.append_assoc]
    exact rdBytes_app _ _ 40 (ptBytes_length _)
  have e2 : rdBytes (some (ptBytes c.link.target ++ ([UInt8.ofNat c.votes.length] ++ (c.votes.map vblob).flatten))) 40 = (some ([UInt8.ofNat c.votes.length] ++ (c.votes.map vblob).flatten), ptBytes c.link.target) :=
    rdBytes_app _ _ 40 (ptBytes_length _)
  have e3 : rdNum (some ([UInt8.ofNat c.votes.length] ++ (c.votes.map vblob).flatten)) 1 = (some ((c.votes.map vblob).flatten), c.votes.length) :=
    rdNum_be 1 c.votes.length _ (by omega)
  have e4 := rdVotes_bytes c.votes [] m5
  rw [List.append_nil] at e4
  unfold certOf crtN crtP crtQ
  rw [e1]
  simp only
  rw [e2]
  simp only
  rw [e3, pointOf_bytes m1, pointOf_bytes m2]
  simp only
  rw [e4]
  simp only [crtPick]
  rw [if_pos ⟨trivial, h, trivial⟩]
theorem certOf_votes (l : List UInt8) : (certOf l).1.votes.length ≤ 64 := by
  unfold certOf
  cases rdVotes (crtN l).2 (crtN l).1 with
  | none => exact Nat.zero_le _
  | some r =>
    simp only [crtPick]
    split
    · rename_i h
      exact (crtMay_out h.2.1).2.2.2.1
    · exact Nat.zero_le _
end Go.Proofs.Ytkocpihfdpahpaa
