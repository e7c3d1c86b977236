/- Texts of this proof, one behind the other: Crt, CrtMay, CrtSame, CrtMuch, CrtBytes. -/
import Derived.Test.YtkocpihfdpahpaaQC
import Derived.WalkMore
import Derived.Deep.CutRange
import Derived.Test.YtkocpihfdpahpaaShelf
import Derived.Test.YtkocpihfdpahpaaQE
set_option linter.unusedVariables false
set_option linter.unusedSimpArgs false
/- Certificates as data; how they lie in memory; their bytes, and the certificate of bytes, plainly. -/
namespace Go.Proofs.Ytkocpihfdpahpaa
open Go.RowKit

/-- api.Cert -/
structure Crt where
  link : Lnk
  votes : List Vote
  deriving DecidableEq
structure GCert where
  link : Lnk
  votes : Sl
def certA (g : GCert) : Array Value := linkA g.link ++ #[g.votes.v]
@[simp] theorem certA_size (g : GCert) : (certA g).size = 67 := by simp [certA]
@[simp] theorem certA_all (g : GCert) : (certA g).extract 0 67 = certA g := ext_self _ _ (by simp)
@[simp] theorem certA_link (g : GCert) : (certA g).extract 0 66 = linkA g.link := by
  simp [certA, Array.extract_append, ext_self, ext_none]
@[simp] theorem certA_source (g : GCert) : (certA g).extract 0 33 = pointA g.link.source := by
  simp [certA, linkA, Array.extract_append, ext_self, ext_none]
@[simp] theorem certA_target (g : GCert) : (certA g).extract 33 66 = pointA g.link.target := by
  simp [certA, linkA, Array.extract_append, ext_self, ext_none]
@[simp] theorem certA_votes (g : GCert) : (certA g)[66]? = some g.votes.v := by
  simp only [certA]
  rw [Array.getElem?_append_right (by simp)]
  simp
@[simp] theorem certA_votes' (g : GCert) (h) : (certA g)[66]'h = g.votes.v := by
  have := certA_votes g
  rwa [Array.getElem?_eq_getElem h, Option.some.injEq] at this
def CertR (w : World) (g : GCert) (c : Crt) : Prop := g.link = c.link ∧ VotesR w g.votes c.votes
theorem CertR.keep {w w' : World} {g : GCert} {c : Crt} (h : CertR w g c) (hb : Below w.heap.size w w') : CertR w' g c := ⟨h.1, VotesR.keep' h.2 hb⟩
def zeroCrt : Crt := ⟨⟨zeroPt, zeroPt⟩, []⟩
theorem CertR.zero (w : World) (a : Option Addr) (c : Nat) : CertR w ⟨⟨zeroPt, zeroPt⟩, ⟨a, 0, c⟩⟩ zeroCrt := ⟨rfl, SlR.nil _ _ _ _ _⟩

/-! which may be -/
def crtOf (l : Lnk) (v : Vote) : Bool := voteMay v && decide (v.source = l.source) && decide (v.target = l.target)
def crtAll (l : Lnk) : Int → List Vote → Bool
  | _, [] => true
  | n, v :: vs => (crtOf l v && decide (n < v.validator)) && crtAll l v.validator vs
def lastV : Int → List Vote → Int
  | n, [] => n
  | _, v :: vs => lastV v.validator vs
theorem crtAll_append (l : Lnk) : ∀ (n : Int) (xs ys : List Vote), crtAll l n (xs ++ ys) = (crtAll l n xs && crtAll l (lastV n xs) ys)
  | n, [], ys => by simp [crtAll, lastV]
  | n, v :: xs, ys => by
    simp only [List.cons_append, crtAll, lastV, crtAll_append l v.validator xs ys, Bool.and_assoc]
theorem lastV_append : ∀ (n : Int) (xs : List Vote) (v : Vote), lastV n (xs ++ [v]) = v.validator
  | _, [], _ => rfl
  | _, _ :: xs, v => lastV_append _ xs v
theorem crtAll_succ (l : Lnk) (vs : List Vote) (k : Nat) (h : k < vs.length) : crtAll l 0 (vs.take (k + 1)) = (crtAll l 0 (vs.take k) && (crtOf l vs[k] && decide (lastV 0 (vs.take k) < vs[k].validator))) := by
  rw [List.take_succ_eq_append_getElem h, crtAll_append]
  simp [crtAll]
theorem lastV_succ (vs : List Vote) (k : Nat) (h : k < vs.length) : lastV 0 (vs.take (k + 1)) = vs[k].validator := by
  rw [List.take_succ_eq_append_getElem h, lastV_append]
theorem crtAll_false (l : Lnk) (vs : List Vote) (k : Nat) (h : crtAll l 0 (vs.take k) = false) : crtAll l 0 vs = false := by
  rw [← List.take_append_drop k vs, crtAll_append, h, Bool.false_and]
def crtHead (c : Crt) : Bool := mayPt c.link.source && mayPt c.link.target && decide (1 ≤ c.votes.length ∧ c.votes.length ≤ 64)
def crtMay (c : Crt) : Bool := crtHead c && crtAll c.link 0 c.votes
theorem crtAll_all {l : Lnk} : ∀ {n : Int} {vs : List Vote}, crtAll l n vs = true → vs.all voteMay = true
  | _, [], _ => rfl
  | n, v :: vs, h => by
    simp only [crtAll, crtOf, Bool.and_eq_true] at h
    rw [List.all_cons, h.1.1.1.1, crtAll_all h.2]
    rfl
theorem crtMay_out {c : Crt} (h : crtMay c = true) : mayPt c.link.source = true ∧ mayPt c.link.target = true ∧ 1 ≤ c.votes.length ∧ c.votes.length ≤ 64 ∧ c.votes.all voteMay = true := by
  simp only [crtMay, crtHead, Bool.and_eq_true, decide_eq_true_eq] at h
  exact ⟨h.1.1.1, h.1.1.2, h.1.2.1, h.1.2.2, crtAll_all h.2⟩

/-! bytes -/
def vblob (v : Vote) : List UInt8 := be 2 (vtBytes v).length ++ vtBytes v
def crtFront (c : Crt) : List UInt8 := ptBytes c.link.source ++ ptBytes c.link.target ++ [UInt8.ofNat c.votes.length]
def crtBytes (c : Crt) : List UInt8 := crtFront c ++ (c.votes.map vblob).flatten
theorem crtFront_length (c : Crt) : (crtFront c).length = 81 := by simp [crtFront, ptBytes_length]
theorem vblob_length (v : Vote) : (vblob v).length = 2 + (vtBytes v).length := by simp [vblob, be_length]
theorem vblobs_succ (vs : List Vote) (k : Nat) (h : k < vs.length) : ((vs.take (k + 1)).map vblob).flatten = ((vs.take k).map vblob).flatten ++ vblob vs[k] := by
  rw [List.take_succ_eq_append_getElem h, List.map_append, List.flatten_append, List.map_cons, List.map_nil, List.flatten_cons, List.flatten_nil, List.append_nil]
theorem voteMay_len {v : Vote} (h : voteMay v = true) : (vtBytes v).length ≤ 4179 := by
  obtain ⟨_, _, h3, _⟩ := voteMay_out h
  rw [vtBytes_length]
  omega
theorem vblobs_len : ∀ (vs : List Vote), vs.all voteMay = true → ((vs.map vblob).flatten).length ≤ vs.length * 4181
  | [], _ => by simp
  | v :: vs, h => by
    simp only [List.all_cons, Bool.and_eq_true] at h
    have h1 := vblobs_len vs h.2
    have h2 := voteMay_len h.1
    simp only [List.map_cons, List.flatten_cons, List.length_append, List.length_cons, vblob_length]
    omega
theorem all_take {α : Type} {p : α → Bool} {l : List α} (k : Nat) (h : l.all p = true) : (l.take k).all p = true :=
  List.all_eq_true.2 fun x hx => List.all_eq_true.1 h x (List.mem_of_mem_take hx)
theorem crtBytes_len {c : Crt} (h : crtMay c = true) : (crtBytes c).length ≤ 300000 := by
  obtain ⟨_, _, _, h64, ha⟩ := crtMay_out h
  have := vblobs_len c.votes ha
  rw [crtBytes, List.length_append, crtFront_length]
  omega

/-! the certificate of bytes -/
def rdVotes : Nat → Option (List UInt8) → Option (Option (List UInt8) × List Vote)
  | 0, st => some (st, [])
  | n + 1, st => if (voteOf (rdBlob st).2).2 = 0 then (rdVotes n (rdBlob st).1).map (fun p => (p.1, (voteOf (rdBlob st).2).1 :: p.2)) else none
/-- what is read after so many votes, onto these -/
def rdOnto (acc : List Vote) (r : Option (Option (List UInt8) × List Vote)) : Option (Option (List UInt8) × List Vote) := r.map fun p => (p.1, acc ++ p.2)
theorem rdOnto_nil (r : Option (Option (List UInt8) × List Vote)) : rdOnto [] r = r := by cases r <;> rfl
theorem rdOnto_zero (acc : List Vote) (st : Option (List UInt8)) : rdOnto acc (rdVotes 0 st) = some (st, acc) := by simp [rdOnto, rdVotes]
theorem rdOnto_yes (acc : List Vote) (n : Nat) (st : Option (List UInt8)) (h : (voteOf (rdBlob st).2).2 = 0) : rdOnto acc (rdVotes (n + 1) st) = rdOnto (acc ++ [(voteOf (rdBlob st).2).1]) (rdVotes n (rdBlob st).1) := by
  simp only [rdOnto, rdVotes, if_pos h]
  cases rdVotes n (rdBlob st).1 <;> simp
theorem rdOnto_no (acc : List Vote) (n : Nat) (st : Option (List UInt8)) (h : (voteOf (rdBlob st).2).2 ≠ 0) : rdOnto acc (rdVotes (n + 1) st) = none := by
  simp only [rdOnto, rdVotes, if_neg h]
  rfl
/-- the head of what is read: two checkpoints, how many votes, where the reader stands -/
def crtP (l : List UInt8) : Pt × Int := pointOf (rdBytes (some l) 40).2
def crtQ (l : List UInt8) : Pt × Int := pointOf (rdBytes (rdBytes (some l) 40).1 40).2
def crtN (l : List UInt8) : Option (List UInt8) × Nat := rdNum (rdBytes (rdBytes (some l) 40).1 40).1 1
def crtPick (l : List UInt8) (p q : Pt) : Option (Option (List UInt8) × List Vote) → Crt × Int
  | none => (zeroCrt, 4)
  | some (st, vs) => if st = some [] ∧ crtMay ⟨⟨p, q⟩, vs⟩ = true ∧ crtBytes ⟨⟨p, q⟩, vs⟩ = l then (⟨⟨p, q⟩, vs⟩, 0) else (zeroCrt, 4)
def certOf (l : List UInt8) : Crt × Int := crtPick l (crtP l).1 (crtQ l).1 (rdVotes (crtN l).2 (crtN l).1)
/-- the document's -/
def crtPickR (l : List UInt8) (p q : Pt) : Option (Option (List UInt8) × List Vote) → Crt × Int
  | none => (zeroCrt, 4)
  | some (_, vs) => if crtMay ⟨⟨p, q⟩, vs⟩ = true ∧ crtBytes ⟨⟨p, q⟩, vs⟩ = l then (⟨⟨p, q⟩, vs⟩, 0) else (zeroCrt, 4)
def certOfR (l : List UInt8) : Crt × Int := if (crtP l).2 = 0 ∧ (crtQ l).2 = 0 then crtPickR l (crtP l).1 (crtQ l).1 (rdVotes (crtN l).2 (crtN l).1) else (zeroCrt, 4)

theorem voteOf_ok {l : List UInt8} (h : (voteOf l).2 = 0) : vtBytes (voteOf l).1 = l ∧ voteMay (voteOf l).1 = true := by
  rw [voteOf_eq] at h ⊢
  split at h
  · rename_i hh
    rw [if_pos hh]
    exact ⟨hh.2, hh.1⟩
  · simp at h
theorem voteOf_code (l : List UInt8) : (voteOf l).2 = 0 ∨ (voteOf l).2 = 4 := by
  rw [voteOf_eq]
  split <;> simp
theorem rdBlob_ok {st : Option (List UInt8)} (h : (rdBlob st).2 ≠ []) : ∃ l l', st = some l ∧ (rdBlob st).1 = some l' ∧ l.length = 2 + (rdBlob st).2.length + l'.length := by
  cases st with
  | none => exact absurd rfl h
  | some l =>
    unfold rdBlob at h ⊢
    by_cases h2 : 2 ≤ l.length
    · rw [rdNum_some h2] at h ⊢
      simp only at h ⊢
      unfold rdBytes at h ⊢
      simp only at h ⊢
      split at h
      · rename_i hh
        rw [if_pos hh]
        refine ⟨l, _, rfl, rfl, ?_⟩
        simp only [List.length_take, List.length_drop] at hh ⊢
        omega
      · exact absurd rfl h
    · exfalso
      apply h
      have hn : (rdNum (some l) 2).1 = none := by
        unfold rdNum rdBytes
        simp only
        rw [if_neg (by omega)]
      rw [hn]
      rfl
theorem rdVotes_len : ∀ (n : Nat) (st st' : Option (List UInt8)) (vs : List Vote), rdVotes n st = some (st', vs) → vs.length = n ∧ (n = 0 ∧ st' = st ∨ ∃ l l', st = some l ∧ st' = some l' ∧ l.length = ((vs.map vblob).flatten).length + l'.length)
  | 0, st, st', vs, h => by
    simp only [rdVotes, Option.some.injEq, Prod.mk.injEq] at h
    obtain ⟨rfl, rfl⟩ := h
    exact ⟨rfl, .inl ⟨rfl, rfl⟩⟩
  | n + 1, st, st', vs, h => by
    simp only [rdVotes] at h
    split at h
    · rename_i h0
      obtain ⟨hv, _⟩ := voteOf_ok h0
      cases hr : rdVotes n (rdBlob st).1 with
      | none => rw [hr] at h; cases h
      | some p =>
        rw [hr] at h
        simp only [Option.map_some, Option.some.injEq, Prod.mk.injEq] at h
        obtain ⟨rfl, rfl⟩ := h
        have hne : (rdBlob st).2 ≠ [] := fun e => by
          rw [e] at hv
          have := congrArg List.length hv
          rw [vtBytes_length] at this
          simp at this
        obtain ⟨l, l', rfl, e2, e3⟩ := rdBlob_ok hne
        obtain ⟨h1, h2⟩ := rdVotes_len n _ p.1 p.2 hr
        refine ⟨by simp [h1], .inr ⟨l, ?_⟩⟩
        have hvl : (vblob (voteOf (rdBlob (some l)).2).1).length = 2 + (rdBlob (some l)).2.length := by rw [vblob_length, hv]
        rcases h2 with ⟨rfl, h2⟩ | ⟨m, m', h2, h3, h4⟩
        · have hp2 : p.2 = [] := List.eq_nil_of_length_eq_zero h1
          refine ⟨l', rfl, by rw [h2, e2], ?_⟩
          simp only [hp2, List.map_cons, List.map_nil, List.flatten_cons, List.flatten_nil, List.append_nil, hvl]
          exact e3
        · rw [e2] at h2
          injection h2 with h2
          subst h2
          refine ⟨m', rfl, h3, ?_⟩
          simp only [List.map_cons, List.flatten_cons, List.length_append, hvl]
          omega
    · cases h

theorem pointOf_zero : pointOf (ptBytes zeroPt) = (zeroPt, 0) := by decide +kernel
theorem pointOf_bad {l : List UInt8} (h : (pointOf l).2 ≠ 0) : (pointOf l).1 = zeroPt := by
  unfold pointOf at h ⊢
  split at h
  · simp at h
  · rename_i hh
    rw [if_neg hh]
/-- the two are one -/
theorem certOfR_eq (l : List UInt8) : certOfR l = certOf l := by
  unfold certOfR certOf
  by_cases h81 : 81 ≤ l.length
  · have e1 : rdBytes (some l) 40 = (some (l.drop 40), l.take 40) := rdBytes_all (l := l) (k := 40) (by omega)
    have e2 : rdBytes (some (l.drop 40)) 40 = (some (l.drop 80), (l.drop 40).take 40) := by
      have := rdBytes_all (l := l.drop 40) (k := 40) (by rw [List.length_drop]; omega)
      rw [List.drop_drop] at this
      exact this
    have e3 : crtN l = (some (l.drop 81), numOf ((l.drop 80).take 1)) := by
      unfold crtN
      rw [e1]
      simp only
      rw [e2]
      simp only
      rw [rdNum_some (by rw [List.length_drop]; omega), List.drop_drop]
    have eP : crtP l = pointOf (l.take 40) := by unfold crtP; rw [e1]
    have eQ : crtQ l = pointOf ((l.drop 40).take 40) := by unfold crtQ; rw [e1]; simp only; rw [e2]
    cases hr : rdVotes (crtN l).2 (crtN l).1 with
    | none => simp [crtPickR, crtPick]
    | some r =>
      obtain ⟨st, vs⟩ := r
      simp only [crtPickR, crtPick]
      by_cases hm : crtMay ⟨⟨(crtP l).1, (crtQ l).1⟩, vs⟩ = true ∧ crtBytes ⟨⟨(crtP l).1, (crtQ l).1⟩, vs⟩ = l
      · obtain ⟨hm1, hm2⟩ := hm
        have hst : st = some [] := by
          obtain ⟨_, _, hv1, _, _⟩ := crtMay_out hm1
          obtain ⟨h1, h2⟩ := rdVotes_len _ _ _ _ hr
          have hl := congrArg List.length hm2
          rw [crtBytes, List.length_append, crtFront_length] at hl
          simp only at hl hv1
          rw [e3] at h1 h2
          simp only at h1 h2
          rcases h2 with ⟨h2, _⟩ | ⟨m, m', h3, h4, h5⟩
          · omega
          · injection h3 with h3
            subst h3
            rw [List.length_drop] at h5
            have : m' = [] := List.eq_nil_of_length_eq_zero (by omega)
            rw [h4, this]
        have hp : l.take 40 = ptBytes (crtP l).1 := by
          conv => lhs; rw [← hm2]
          rw [crtBytes, crtFront, List.append_assoc, List.append_assoc, List.take_left' (ptBytes_length _)]
        have hq : (l.drop 40).take 40 = ptBytes (crtQ l).1 := by
          conv => lhs; rw [← hm2]
          rw [crtBytes, crtFront, List.append_assoc, List.append_assoc, List.drop_left' (ptBytes_length _), List.take_left' (ptBytes_length _)]
        have zp : (crtP l).2 = 0 := by
          rcases Classical.em ((crtP l).2 = 0) with h | h
          · exact h
          · exfalso
            have hz : (crtP l).1 = zeroPt := by rw [eP] at h ⊢; exact pointOf_bad h
            rw [eP, hp, hz, pointOf_zero] at h
            exact h rfl
        have zq : (crtQ l).2 = 0 := by
          rcases Classical.em ((crtQ l).2 = 0) with h | h
          · exact h
          · exfalso
            have hz : (crtQ l).1 = zeroPt := by rw [eQ] at h ⊢; exact pointOf_bad h
            rw [eQ, hq, hz, pointOf_zero] at h
            exact h rfl
        rw [if_pos ⟨zp, zq⟩, if_pos ⟨hm1, hm2⟩, if_pos ⟨hst, hm1, hm2⟩]
      · have h1 : ¬ (st = some [] ∧ crtMay ⟨⟨(crtP l).1, (crtQ l).1⟩, vs⟩ = true ∧ crtBytes ⟨⟨(crtP l).1, (crtQ l).1⟩, vs⟩ = l) := fun h => hm h.2
        simp only [if_neg hm, if_neg h1, ite_self]
  · have hlen : ∀ c : Crt, crtBytes c ≠ l := fun c e => by
      have := congrArg List.length e
      rw [crtBytes, List.length_append, crtFront_length] at this
      omega
    cases hr : rdVotes (crtN l).2 (crtN l).1 with
    | none => simp [crtPickR, crtPick]
    | some r =>
      have h1 : ∀ c : Crt, ¬ (crtMay c = true ∧ crtBytes c = l) := fun c h => hlen c h.2
      have h2 : ∀ c : Crt, ¬ (r.1 = some [] ∧ crtMay c = true ∧ crtBytes c = l) := fun c h => hlen c h.2.2
      simp only [crtPickR, crtPick, if_neg (h1 _), if_neg (h2 _), ite_self]
theorem certOf_code (l : List UInt8) : (certOf l).2 = 0 ∨ (certOf l).2 = 4 := by
  unfold certOf
  cases rdVotes (crtN l).2 (crtN l).1 with
  | none => exact .inr rfl
  | some r =>
    simp only [crtPick]
    split <;> simp
end Go.Proofs.Ytkocpihfdpahpaa

/- Contracts: cert.of, cert.May, landmarkref15.of, May. -/
namespace Go.Proofs.Ytkocpihfdpahpaa
open Go.RowKit

theorem load_cert_s (x : Value) : Instr.loadAt 31 x = loadAgg 31 x := rfl
theorem load_cert (w : World) (b off : Nat) (h : (row? w b off 67).isSome = true) : (loadAgg 31 (.pointer (some ⟨b, off, none⟩))).run Try.prog w = .ok (.agg ((row? w b off 67).getD #[])) w := run_loadAgg Try.isAgg31 Try.sizeOf31 w b off h
attribute [go_sem ↓] load_cert_s
attribute [go_sem] load_cert

theorem crtOf_eq {w : World} {g : GVote} {v : Vote} (h : VoteR w g v) (l : Lnk) : crtOf l v = (mayV g && decide (g.source = l.source) && decide (g.target = l.target)) := by
  rw [crtOf, h.may, h.2.1, h.2.2.1]

set_option maxRecDepth 100000 in
set_option maxHeartbeats 800000 in
theorem cof_c (g : GVote) (v : Vote) (l : Lnk) (w : World) (hv : VoteR w g v) :
    Calls Try.prog 144 #[.agg (voteA g), .agg (linkA l)] w fun e w' => e = .returned (.bool (crtOf l v)) ∧ Below w.heap.size w w' := by
  have hg := eq_point_guard
  have HE := Lib.hid (crtOf_eq hv l)
  have HM := fun W => mayVote_c g W
  clear hv
  generalize mayV g = m at *
  go_enter Try.func144, Try.ntmps144
  go_wp2_with fail
  refine (HM _).mono ?_
  clear HM
  rintro e w1 ⟨rfl, hb1⟩
  obtain ⟨k1, k2, k3⟩ := kept hb1
  have hB : Below w.heap.size w w1 := by (repeat' (first | (with_reducible exact Below.refl _ _) | (with_reducible assumption) | (with_reducible refine bel_trans (by assumption) ?_ ?_) | (with_reducible refine bel_grown (by assumption) ?_ ?_ ?_) | (with_reducible refine Below.alloc ?_ ?_ _) | (with_reducible refine Below.drew ?_) | (with_reducible refine below_drewN ?_ _) | (with_reducible refine Below.setCell ?_ ?_ _) | (with_reducible refine below_put ?_ ?_ _ _) | (with_reducible exact Nat.le_refl _) | omega | (with_reducible refine Nat.le_trans ?_ (Below.size (by assumption))) | (with_reducible refine Nat.le_trans ?_ (World.grownBy.size (by assumption))) | (simp only [World.size_alloc, World.size_setCell, World.size_drew, size_drewN]; omega) | (simp only [World.size_alloc, World.size_setCell, World.size_drew, size_drewN, size_put]; omega) | (intro k hk; simp [Value.ownBlock] at hk; done) | (intro k hk; simp [Value.ownBlock] at hk; omega) | (simp [size_drewN] at *; omega)))
  have r1 : row? w1 w.heap.size 1 33 = some (pointA g.source) := by rw [k3 _ _ _ (by simp; omega), row?_old _ _ _ _ _ (by simp), row?_new]; simp
  have r2 : row? w1 w.heap.size 34 33 = some (pointA g.target) := by rw [k3 _ _ _ (by simp; omega), row?_old _ _ _ _ _ (by simp), row?_new]; simp
  have r3 : row? w1 (w.heap.size + 1) 0 33 = some (pointA l.source) := by rw [k3 _ _ _ (by simp), row?_new_at _ _ _ _ _ _ (by simp)]; simp
  have r4 : row? w1 (w.heap.size + 1) 33 33 = some (pointA l.target) := by rw [k3 _ _ _ (by simp), row?_new_at _ _ _ _ _ _ (by simp)]; simp
  clear k1 k2 k3 hb1
  cases m
  · go_wp2_with fail
    go_ret
    exact ⟨ret_bool (by rw [HE.out]; rfl), hB⟩
  · go_wp2_with fail
    all_goals go_ret
    all_goals exact ⟨ret_bool (by rw [HE.out]; simp [*]), hB⟩
set_option maxRecDepth 100000 in
set_option maxHeartbeats 800000 in
theorem rof_c (g : GVote) (v : Vote) (l : Lnk) (w : World) (hv : VoteR w g v) :
    Calls Try.prog 85 #[.agg (voteA g), .agg (linkA l)] w fun e w' => e = .returned (.bool (crtOf l v)) ∧ Below w.heap.size w w' := by
  have hg := eq_point_guard
  have HE := Lib.hid (crtOf_eq hv l)
  have HM := fun W => fmayVote_c g W
  clear hv
  generalize mayV g = m at *
  go_enter Try.func85, Try.ntmps85
  go_wp2_with fail
  refine (HM _).mono ?_
  clear HM
  rintro e w1 ⟨rfl, hb1⟩
  obtain ⟨k1, k2, k3⟩ := kept hb1
  have hB : Below w.heap.size w w1 := by (repeat' (first | (with_reducible exact Below.refl _ _) | (with_reducible assumption) | (with_reducible refine bel_trans (by assumption) ?_ ?_) | (with_reducible refine bel_grown (by assumption) ?_ ?_ ?_) | (with_reducible refine Below.alloc ?_ ?_ _) | (with_reducible refine Below.drew ?_) | (with_reducible refine below_drewN ?_ _) | (with_reducible refine Below.setCell ?_ ?_ _) | (with_reducible refine below_put ?_ ?_ _ _) | (with_reducible exact Nat.le_refl _) | omega | (with_reducible refine Nat.le_trans ?_ (Below.size (by assumption))) | (with_reducible refine Nat.le_trans ?_ (World.grownBy.size (by assumption))) | (simp only [World.size_alloc, World.size_setCell, World.size_drew, size_drewN]; omega) | (simp only [World.size_alloc, World.size_setCell, World.size_drew, size_drewN, size_put]; omega) | (intro k hk; simp [Value.ownBlock] at hk; done) | (intro k hk; simp [Value.ownBlock] at hk; omega) | (simp [size_drewN] at *; omega)))
  have r1 : row? w1 w.heap.size 1 33 = some (pointA g.source) := by rw [k3 _ _ _ (by simp; omega), row?_old _ _ _ _ _ (by simp), row?_new]; simp
  have r2 : row? w1 w.heap.size 34 33 = some (pointA g.target) := by rw [k3 _ _ _ (by simp; omega), row?_old _ _ _ _ _ (by simp), row?_new]; simp
  have r3 : row? w1 (w.heap.size + 1) 0 33 = some (pointA l.source) := by rw [k3 _ _ _ (by simp), row?_new_at _ _ _ _ _ _ (by simp)]; simp
  have r4 : row? w1 (w.heap.size + 1) 33 33 = some (pointA l.target) := by rw [k3 _ _ _ (by simp), row?_new_at _ _ _ _ _ _ (by simp)]; simp
  clear k1 k2 k3 hb1
  cases m
  · go_wp2_with fail
    go_ret
    exact ⟨ret_bool (by rw [HE.out]; rfl), hB⟩
  · go_wp2_with fail
    all_goals go_ret
    all_goals exact ⟨ret_bool (by rw [HE.out]; simp [*]), hB⟩

/-- a certificate in a row of its own -/
def RowC (B : Nat) (W : World) (g : GCert) : Prop := row? W B 0 67 = some (certA g) ∧ B < W.heap.size
theorem RowC.keep {B : Nat} {W W' : World} {g : GCert} (h : RowC B W g) (hb : Below W.heap.size W W') : RowC B W' g := by
  obtain ⟨h1, h4⟩ := h
  have := hb.size
  exact ⟨by rw [row?_below _ _ _ hb (by omega)]; exact h1, by omega⟩
theorem row_sub {w : World} {b n : Nat} {l : Array Value} (h : row? w b 0 n = some l) (off k : Nat) (hk : off + k ≤ n) : row? w b off k = some (l.extract off (off + k)) := by
  obtain ⟨cs, t, fr, hg, hle, rfl⟩ := row?_some h
  unfold row?
  rw [hg]
  simp only [Nat.zero_add] at hle ⊢
  rw [if_pos (by omega), Array.extract_extract]
  congr 1
  simp only [Nat.zero_add]
  rw [Nat.min_eq_left (by omega)]
theorem RowC.parts {B : Nat} {W : World} {g : GCert} (h : RowC B W g) : row? W B 0 33 = some (pointA g.link.source) ∧ row? W B 33 33 = some (pointA g.link.target) ∧ row? W B 0 66 = some (linkA g.link) ∧ W.cell? ⟨B, 66, none⟩ = some g.votes.v := by
  refine ⟨?_, ?_, ?_, ?_⟩
  · rw [row_sub h.1 0 33 (by omega)]; simp
  · rw [row_sub h.1 33 33 (by omega)]; simp
  · rw [row_sub h.1 0 66 (by omega)]; exact congrArg some (certA_link g)
  · rw [cell_of_row? h.1 66 (by omega)]; simp
theorem RowC.new (w : World) (g : GCert) (t : TypeId) : RowC w.heap.size (w.alloc (.cells (certA g) t)) g := ⟨by rw [row?_new]; simp, by simp⟩

def crtGood (l : Lnk) (n : Nat) : Bool := mayPt l.source && mayPt l.target && decide (1 ≤ n) && decide (n ≤ 64)
theorem crtHead_eq (c : Crt) : crtHead c = crtGood c.link c.votes.length := by
  simp only [crtHead, crtGood, Bool.and_assoc, Bool.decide_and]

set_option maxRecDepth 100000 in
set_option maxHeartbeats 1600000 in
/-- the loop of May, and what stands behind it -/
theorem crtMay_c (g : GCert) (c : Crt) (w : World) (hr : CertR w g c) (hl : c.votes.length ≤ 9223372036854775807) :
    Calls Try.prog 79 #[.agg (certA g)] w fun e w' => e = .returned (.bool (crtMay c)) ∧ Below w.heap.size w w' := by
  have n1 := hr.2.1
  have hE := hr.1
  obtain ⟨gl, ⟨oa, on, oc⟩⟩ := g
  simp only at n1 hE
  subst n1 hE
  have HMs := fun W => mayPoint_c c.link.source W
  have HMt := fun W => mayPoint_c c.link.target W
  have HG := Lib.hid (crtHead_eq c)
  have Hr := Lib.hid hr.2
  have HM := Lib.hid (show crtMay c = (crtHead c && crtAll c.link 0 c.votes) from rfl)
  have hR0 := RowC.new w ⟨c.link, ⟨oa, c.votes.length, oc⟩⟩ 31
  have hB0 : Below w.heap.size w (w.alloc (.cells (certA ⟨c.link, ⟨oa, c.votes.length, oc⟩⟩) 31)) := bel_a _ _
  clear hr
  unfold crtGood at HG
  go_enter Try.func79, Try.ntmps79
  generalize hms : mayPt c.link.source = ms at *
  generalize hmt : mayPt c.link.target = mt at *
  clear hms hmt
  go_upto_region 1 with fail
  generalize w.alloc (.cells (certA ⟨c.link, ⟨oa, c.votes.length, oc⟩⟩) 31) = w1 at *
  obtain ⟨p1, p2, p3, p4⟩ := hR0.parts
  dsimp only [Sl.v] at p4
  go_step3
  go_upto_region 1 with fail
  go_cut [3] from 7 to 28 (fun u W => u = .bool (crtHead c) ∧ Below w.heap.size w W ∧ Hid (RowC w.heap.size W ⟨c.link, ⟨oa, c.votes.length, oc⟩⟩) ∧ Hid (VotesR W ⟨oa, c.votes.length, oc⟩ c.votes))
  case first =>
    go_wp2_with fail
    refine (HMs _).mono ?_
    clear HMs
    rintro e w2 ⟨rfl, hb2⟩
    have hB2 : Below w.heap.size w w2 := hB0.trans (hb2.mono (by have := hB0.size; omega))
    have hR2 := Lib.hid (hR0.keep hb2)
    have Hr2 := Lib.hid (VotesR.keep' Hr.out hB2)
    clear hb2 hR0 hB0 p1 p2 p3 p4 Hr
    obtain ⟨p1, p2, p3, p4⟩ := hR2.out.parts
    dsimp only [Sl.v] at p4
    cases ms
    · go_wp2_with fail
      go_meet
      case rel => exact ⟨by rw [HG.out]; simp, hB2, hR2, Hr2⟩
    · go_wp2_with fail
      refine (HMt _).mono ?_
      rintro e w3 ⟨rfl, hb3⟩
      have hB3 : Below w.heap.size w w3 := hB2.trans (hb3.mono hB2.size)
      have hR3 := Lib.hid (hR2.out.keep hb3)
      have Hr3 := Lib.hid (VotesR.keep' Hr2.out hb3)
      obtain ⟨q1, q2, q3, q4⟩ := hR3.out.parts
      dsimp only [Sl.v] at q4
      clear p1 p2 p3 p4 hb3 hR2 Hr2 hB2 q1 q2 q3
      cases mt
      · go_wp2_with fail
        go_meet
        case rel => exact ⟨by rw [HG.out]; simp, hB3, hR3, Hr3⟩
      · by_cases h1 : 1 ≤ c.votes.length
        · have h1' : (1 : Int) ≤ (c.votes.length : Int) := by omega
          go_wp2_with fail
          go_meet
          case rel => exact ⟨congrArg Value.bool (by rw [HG.out, decide_eq_true h1, Bool.and_true, Bool.and_true, Bool.true_and]; exact decide_eq_decide.2 (by omega)), hB3, hR3, Hr3⟩
        · have h1' : ¬ (1 : Int) ≤ (c.votes.length : Int) := by omega
          go_wp2_with fail
          go_meet
          case rel => exact ⟨congrArg Value.bool (by rw [HG.out, decide_eq_false h1]; simp), hB3, hR3, Hr3⟩
  case rest =>
    obtain ⟨rfl, hBx, hRx, Hrx⟩ := hcut
    obtain ⟨z1, z2, z3, z4⟩ := hRx.out.parts
    dsimp only [Sl.v] at z4
    clear z1 z2 z3 HMs HMt HG hR0 hB0 p1 p2 p3 p4 Hr
    obtain ⟨hd, hhd⟩ : ∃ hd, hd = crtHead c := ⟨_, rfl⟩
    rw [← hhd]
    replace hhd := Lib.hid hhd
    go_wp2_with fail
    go_step3
    go_wp2_with fail
    go_loopw [3, 4, 32] (fun u l i w' => ∃ (k : Nat) (b : Bool), k ≤ c.votes.length ∧ Hid (b = (crtHead c && crtAll c.link 0 (c.votes.take k))) ∧ u = .bool b ∧ l = .int .i64 (lastV 0 (c.votes.take k)) ∧ i = .int .i64 k ∧ Below w.heap.size w w' ∧ Hid (RowC w.heap.size w' ⟨c.link, ⟨oa, c.votes.length, oc⟩⟩) ∧ Hid (VotesR w' ⟨oa, c.votes.length, oc⟩ c.votes)) (fun _ _ i _ => c.votes.length - (intOf i).toNat)
    case atStart => exact ⟨0, _, Nat.zero_le _, Lib.hid (by rw [hhd.out]; simp [crtAll]), rfl, rfl, rfl, hBx, hRx, Hrx⟩
    case round =>
      clear hBx hRx Hrx z4
      obtain ⟨k, b, hk, hb, rfl, rfl, rfl, hB, hR, hV⟩ := hrel
      by_cases hkx : k < c.votes.length
      · obtain ⟨bl, off, e, hbs, hc⟩ := hV.out.at (by omega)
        have e1 := congrArg Sl.a e
        simp only at e1
        subst e1
        clear e
        obtain ⟨cs, hcx, g1, rfl, hv1⟩ := hc k hkx
        clear hc
        have hat := crtAll_succ c.link c.votes k hkx
        have hla := lastV_succ c.votes k hkx
        have hgv := hv1.1
        generalize hvk : c.votes[k] = vk at *
        obtain ⟨p1, p2, p3, p4⟩ := hR.out.parts
        have Hat := Lib.hid hat
        have Hla := Lib.hid hla
        have Hv1 := Lib.hid hv1
        have Hvk := Lib.hid hvk
        obtain ⟨g1v, g1s, g1t, g1g⟩ := g1
        simp only at hgv
        subst hgv
        clear hat hv1 hla hvk p1 p2 p4
        have hz := hB.size
        have hzR := hR.out.2
        have m1 : bl ≠ wr.heap.size := by omega
        have m2 : w.heap.size ≠ wr.heap.size := by omega
        have i0 : (0 : Int) ≤ (k : Int) := by omega
        have i1 : (k : Int) < (c.votes.length : Int) := by omega
        cases b
        · have Hf := Lib.hid (show crtMay c = false by
            have h1 := hb.out
            rw [HM.out]
            cases hg : crtHead c
            · rfl
            · rw [hg, Bool.true_and] at h1
              rw [Bool.true_and, crtAll_false _ _ k h1.symm])
          go_wp2_with fail
          try rw [Exit.noGoto_ret]
          go_ret
          exact ⟨ret_bool Hf.out.symm, by (repeat' (first | (with_reducible exact Below.refl _ _) | (with_reducible assumption) | (with_reducible refine bel_trans (by assumption) ?_ ?_) | (with_reducible refine bel_grown (by assumption) ?_ ?_ ?_) | (with_reducible refine Below.alloc ?_ ?_ _) | (with_reducible refine Below.drew ?_) | (with_reducible refine below_drewN ?_ _) | (with_reducible refine Below.setCell ?_ ?_ _) | (with_reducible refine below_put ?_ ?_ _ _) | (with_reducible exact Nat.le_refl _) | omega | (with_reducible refine Nat.le_trans ?_ (Below.size (by assumption))) | (with_reducible refine Nat.le_trans ?_ (World.grownBy.size (by assumption))) | (simp only [World.size_alloc, World.size_setCell, World.size_drew, size_drewN]; omega) | (simp only [World.size_alloc, World.size_setCell, World.size_drew, size_drewN, size_put]; omega) | (intro k hk; simp [Value.ownBlock] at hk; done) | (intro k hk; simp [Value.ownBlock] at hk; omega) | (simp [size_drewN] at *; omega)))⟩
        · go_wp2_with fail
          (with_reducible refine (cof_c _ vk c.link _ (VoteR.keep' Hv1.out (by (repeat' (first | (with_reducible exact Below.refl _ _) | (with_reducible assumption) | (with_reducible refine bel_trans (by assumption) ?_ ?_) | (with_reducible refine bel_grown (by assumption) ?_ ?_ ?_) | (with_reducible refine Below.alloc ?_ ?_ _) | (with_reducible refine Below.drew ?_) | (with_reducible refine below_drewN ?_ _) | (with_reducible refine Below.setCell ?_ ?_ _) | (with_reducible refine below_put ?_ ?_ _ _) | (with_reducible exact Nat.le_refl _) | omega | (with_reducible refine Nat.le_trans ?_ (Below.size (by assumption))) | (with_reducible refine Nat.le_trans ?_ (World.grownBy.size (by assumption))) | (simp only [World.size_alloc, World.size_setCell, World.size_drew, size_drewN]; omega) | (simp only [World.size_alloc, World.size_setCell, World.size_drew, size_drewN, size_put]; omega) | (intro k hk; simp [Value.ownBlock] at hk; done) | (intro k hk; simp [Value.ownBlock] at hk; omega) | (simp [size_drewN] at *; omega)))))).mono ?_)
          rintro e w5 ⟨rfl, hb5⟩
          have hBr : Below wr.heap.size wr w5 := bel_trans hb5 (by (repeat' (first | (with_reducible exact Below.refl _ _) | (with_reducible assumption) | (with_reducible refine bel_trans (by assumption) ?_ ?_) | (with_reducible refine bel_grown (by assumption) ?_ ?_ ?_) | (with_reducible refine Below.alloc ?_ ?_ _) | (with_reducible refine Below.drew ?_) | (with_reducible refine below_drewN ?_ _) | (with_reducible refine Below.setCell ?_ ?_ _) | (with_reducible refine below_put ?_ ?_ _ _) | (with_reducible exact Nat.le_refl _) | omega | (with_reducible refine Nat.le_trans ?_ (Below.size (by assumption))) | (with_reducible refine Nat.le_trans ?_ (World.grownBy.size (by assumption))) | (simp only [World.size_alloc, World.size_setCell, World.size_drew, size_drewN]; omega) | (simp only [World.size_alloc, World.size_setCell, World.size_drew, size_drewN, size_put]; omega) | (intro k hk; simp [Value.ownBlock] at hk; done) | (intro k hk; simp [Value.ownBlock] at hk; omega) | (simp [size_drewN] at *; omega)))) (by simp [size_put])
          have hB5 : Below w.heap.size w w5 := hB.trans (hBr.mono hB.size)
          have hR5 := Lib.hid (hR.out.keep hBr)
          have hV5 := Lib.hid (VotesR.keep' hV.out hBr)
          have c0 : w5.cell? ⟨wr.heap.size, 0, none⟩ = some (.int .i64 vk.validator) := by
            rw [hb5.cell (p := ⟨wr.heap.size, 0, none⟩) (by simp [size_put])]
            have hrr : row? (putRow (wr.alloc (Obj.cells Try.zeroCells85 85)) wr.heap.size 0 (voteA ⟨vk.validator, g1s, g1t, g1g⟩)) wr.heap.size 0 68 = some (voteA ⟨vk.validator, g1s, g1t, g1g⟩) := by
              rw [zc_vote]
              go_simp
            rw [cell_of_row? hrr 0 (by omega)]
            simp
          clear hb5 hBr hR hV hB hcx p3
          cases hm : crtOf c.link vk
          · have Hf := Lib.hid (show crtMay c = false by
              rw [HM.out, crtAll_false c.link c.votes (k + 1) (by rw [Hat.out, hm]; simp), Bool.and_false])
            clear hm
            go_wp2_with fail
            try rw [Exit.noGoto_ret]
            go_ret
            exact ⟨ret_bool Hf.out.symm, hB5⟩
          · have Hm := Lib.hid hm
            clear hm
            by_cases hlt : lastV 0 (c.votes.take k) < vk.validator
            · have hd : decide (lastV 0 (c.votes.take k) < vk.validator) = true := decide_eq_true hlt
              have Hd := Lib.hid hd
              clear hlt
              generalize lastV 0 (c.votes.take k) = lv at *
              go_wp2_with fail
              go_roundw
              case rel => exact ⟨k + 1, true, by omega, Lib.hid (by rw [Hat.out, Hm.out, Hd.out, ← Bool.and_assoc, ← hb.out]; rfl), rfl, congrArg (Value.int .i64) Hla.out.symm, by go_num, hB5, hR5, hV5⟩
              case measure => simp [intOf]; omega
            · have hd : decide (lastV 0 (c.votes.take k) < vk.validator) = false := decide_eq_false hlt
              have Hf := Lib.hid (show crtMay c = false by
                rw [HM.out, crtAll_false c.link c.votes (k + 1) (by rw [Hat.out, Hm.out, hd]; simp), Bool.and_false])
              clear hlt
              generalize lastV 0 (c.votes.take k) = lv at *
              go_wp2_with fail
              try rw [Exit.noGoto_ret]
              go_ret
              exact ⟨ret_bool Hf.out.symm, hB5⟩
      · have Hf := Lib.hid (show crtMay c = b by
          rw [hb.out, HM.out, List.take_of_length_le (by omega)])
        go_wp2_with fail
        try rw [Exit.noGoto_ret]
        go_ret
        exact ⟨ret_bool Hf.out.symm, hB⟩

set_option maxRecDepth 100000 in
set_option maxHeartbeats 1600000 in
theorem rcrtMay_c (g : GCert) (c : Crt) (w : World) (hr : CertR w g c) (hl : c.votes.length ≤ 9223372036854775807) :
    Calls Try.prog 21 #[.agg (certA g)] w fun e w' => e = .returned (.bool (crtMay c)) ∧ Below w.heap.size w w' := by
  have n1 := hr.2.1
  have hE := hr.1
  obtain ⟨gl, ⟨oa, on, oc⟩⟩ := g
  simp only at n1 hE
  subst n1 hE
  have HMs := fun W => fmayPoint_c c.link.source W
  have HMt := fun W => fmayPoint_c c.link.target W
  have HG := Lib.hid (crtHead_eq c)
  have Hr := Lib.hid hr.2
  have HM := Lib.hid (show crtMay c = (crtHead c && crtAll c.link 0 c.votes) from rfl)
  have hR0 := RowC.new w ⟨c.link, ⟨oa, c.votes.length, oc⟩⟩ 31
  have hB0 : Below w.heap.size w (w.alloc (.cells (certA ⟨c.link, ⟨oa, c.votes.length, oc⟩⟩) 31)) := bel_a _ _
  clear hr
  unfold crtGood at HG
  go_enter Try.func21, Try.ntmps21
  generalize hms : mayPt c.link.source = ms at *
  generalize hmt : mayPt c.link.target = mt at *
  clear hms hmt
  go_upto_region 1 with fail
  generalize w.alloc (.cells (certA ⟨c.link, ⟨oa, c.votes.length, oc⟩⟩) 31) = w1 at *
  obtain ⟨p1, p2, p3, p4⟩ := hR0.parts
  dsimp only [Sl.v] at p4
  go_wp2_with fail
  refine (HMs _).mono ?_
  clear HMs
  rintro e w2 ⟨rfl, hb2⟩
  have hB2 : Below w.heap.size w w2 := hB0.trans (hb2.mono (by have := hB0.size; omega))
  have hR2 := Lib.hid (hR0.keep hb2)
  have Hr2 := Lib.hid (VotesR.keep' Hr.out hB2)
  clear hb2 hR0 hB0 p1 p2 p3 p4 Hr
  obtain ⟨p1, p2, p3, p4⟩ := hR2.out.parts
  dsimp only [Sl.v] at p4
  cases ms
  · have Hf := Lib.hid (show crtMay c = false by rw [HM.out, HG.out]; rfl)
    go_wp2_with fail
    go_ret
    exact ⟨ret_bool Hf.out.symm, hB2⟩
  go_wp2_with fail
  refine (HMt _).mono ?_
  rintro e w3 ⟨rfl, hb3⟩
  have hB3 : Below w.heap.size w w3 := hB2.trans (hb3.mono hB2.size)
  have hR3 := Lib.hid (hR2.out.keep hb3)
  have Hr3 := Lib.hid (VotesR.keep' Hr2.out hb3)
  obtain ⟨q1, q2, q3, q4⟩ := hR3.out.parts
  dsimp only [Sl.v] at q4
  clear p1 p2 p3 p4 hb3 hR2 Hr2 hB2 q1 q2 q3
  cases mt
  · have Hf := Lib.hid (show crtMay c = false by rw [HM.out, HG.out]; rfl)
    go_wp2_with fail
    go_ret
    exact ⟨ret_bool Hf.out.symm, hB3⟩
  by_cases h1 : 1 ≤ c.votes.length
  case neg =>
    have h1' : (c.votes.length : Int) < 1 := by omega
    have Hf := Lib.hid (show crtMay c = false by rw [HM.out, HG.out, decide_eq_false h1]; simp)
    go_wp2_with fail
    go_ret
    exact ⟨ret_bool Hf.out.symm, hB3⟩
  have h1' : ¬ (c.votes.length : Int) < 1 := by omega
  by_cases h2 : c.votes.length ≤ 64
  case neg =>
    have h2' : (64 : Int) < (c.votes.length : Int) := by omega
    have Hf := Lib.hid (show crtMay c = false by rw [HM.out, HG.out, decide_eq_false h2]; simp)
    go_wp2_with fail
    go_ret
    exact ⟨ret_bool Hf.out.symm, hB3⟩
  have h2' : ¬ (64 : Int) < (c.votes.length : Int) := by omega
  have HA := Lib.hid (show crtMay c = crtAll c.link 0 c.votes by rw [HM.out, HG.out, decide_eq_true h1, decide_eq_true h2]; simp)
  clear HM HG HMt
  go_wp2_with fail
  clear h1' h2' q4
  go_loopw [3] (fun i w' => ∃ k : Nat, k ≤ c.votes.length ∧ i = .int .i64 k ∧ Hid (crtAll c.link 0 (c.votes.take k) = true) ∧ Below w.heap.size w w' ∧ Hid (RowC w.heap.size w' ⟨c.link, ⟨oa, c.votes.length, oc⟩⟩) ∧ Hid (VotesR w' ⟨oa, c.votes.length, oc⟩ c.votes)) (fun i _ => c.votes.length - (intOf i).toNat)
  case atStart => exact ⟨0, Nat.zero_le _, rfl, Lib.hid rfl, hB3, hR3, Hr3⟩
  case round =>
    clear hB3 hR3 Hr3
    obtain ⟨k, hk, rfl, hb, hB, hR, hV⟩ := hrel
    obtain ⟨p1, p2, p3, p4⟩ := hR.out.parts
    dsimp only [Sl.v] at p4
    have i0 : (0 : Int) ≤ (k : Int) := by omega
    have hz := hB.size
    have hzR := hR.out.2
    by_cases hkx : k < c.votes.length
    · obtain ⟨bl, off, e, hbs, hc⟩ := hV.out.at (by omega)
      have e1 := congrArg Sl.a e
      simp only at e1
      subst e1
      clear e
      have hat := crtAll_succ c.link c.votes k hkx
      obtain ⟨cs, hcx, g1, rfl, hv1⟩ := hc k hkx
      have hprev : 0 < k → wr.cell? ⟨bl, off + (k - 1) * 68, none⟩ = some (.int .i64 (lastV 0 (c.votes.take k))) := fun h0 => by
        obtain ⟨cs, hcy, g2, rfl, hv2⟩ := hc (k - 1) (by omega)
        obtain ⟨j, rfl⟩ : ∃ j, k = j + 1 := ⟨k - 1, by omega⟩
        rw [lastV_succ c.votes j (by omega)]
        have := cell_of_row? hcy 0 (by omega)
        rw [Nat.add_zero] at this
        rw [this, voteA_validator, hv2.1]
        rfl
      have hfirst : k = 0 → lastV 0 (c.votes.take k) = 0 := fun h0 => by subst h0; rfl
      clear hc
      have hgv := hv1.1
      generalize hvk : c.votes[k] = vk at *
      obtain ⟨g1v, g1s, g1t, g1g⟩ := g1
      simp only at hgv
      subst hgv
      have c0 := cell_of_row? hcx 0 (by omega)
      rw [Nat.add_zero, voteA_validator] at c0
      have i1 : (k : Int) < (c.votes.length : Int) := by omega
      have HOF := fun W (hW : Below wr.heap.size wr W) => rof_c ⟨vk.validator, g1s, g1t, g1g⟩ vk c.link W (hv1.keep' hW)
      have Hat := Lib.hid hat
      have Hvm := Lib.hid (show crtOf c.link vk = true → 1 ≤ vk.validator from fun h => by
        simp only [crtOf, Bool.and_eq_true] at h
        exact (voteMay_out h.1.1).1)
      clear hat hvk hv1 p1 p2
      cases hm : crtOf c.link vk
      · have Hf := Lib.hid (show crtMay c = false by
          rw [HA.out, crtAll_false c.link c.votes (k + 1) (by rw [Hat.out, hm]; simp)])
        rw [hm] at HOF
        clear hm hprev hfirst Hvm
        go_upto_region 6 with fail
        refine wp_region_freeG_l (fun W W' => Below W.heap.size W W') (by kernel_rfl) [35, 36, 37, 38, 39, 40, 41, 42, 43, 44, 45, 46, 47, 48, 49, 50, 51, 52, 53, 54, 55, 56, 57, 58, 59, 60, 61, 62, 63]
          [Is (.pointer (some ⟨w.heap.size, 66, none⟩)), Is (.slice (some ⟨bl, off, none⟩) c.votes.length oc), Is (.int .i64 (k : Int)), Is (.pointer (some ⟨bl, off + k * 68, none⟩)), Is (.agg (voteA ⟨vk.validator, g1s, g1t, g1g⟩)), Is (.pointer (some ⟨w.heap.size, 0, none⟩)), Is (.agg (linkA c.link)), Is (.bool false), Is (.bool true), Is (.bool true), Is (undef), Is (undef), Is (undef), Is (undef), Is (undef), Is (undef), Is (undef), Is (undef), Is (undef), Is (undef), Is (undef), Is (undef), Is (undef), Is (undef), Is (undef), Is (undef), Is (undef), Is (undef), Is (.bool true)]
          (by kernel_rfl) (fun W W' h hb => hb.trans (h.mono hb.size)) ?_ ?_ ?_
        · intro f hf
          simp only [List.mem_cons, List.not_mem_nil, or_false] at hf
          rcases hf with rfl | rfl | rfl | rfl | rfl | rfl | rfl | rfl | rfl | rfl | rfl | rfl | rfl | rfl | rfl | rfl | rfl | rfl | rfl | rfl | rfl | rfl | rfl | rfl | rfl | rfl | rfl | rfl | rfl <;> intro x W W' h hr <;> first | exact h
        · refine ⟨?_, ?_, ?_, ?_, ?_, ?_, ?_, ?_, ?_, ?_, ?_, ?_, ?_, ?_, ?_, ?_, ?_, ?_, ?_, ?_, ?_, ?_, ?_, ?_, ?_, ?_, ?_, ?_, ?_, trivial⟩
          · intro L ax W hf hd
            try simp [Region.binds] at hd
            have e1 : ax.tmps[1]?.getD undef = .pointer (some ⟨w.heap.size, 0, none⟩) := hf.out 1 (by decide) rfl
            refine ⟨fun _ => ?_, fun h => absurd trivial h⟩
            refine free_run (v := .pointer (some ⟨w.heap.size, 66, none⟩)) (W' := W) rfl ?_ rfl (Below.refl _ _)
            go_simp
          · intro L ax W hf hd
            simp [Region.binds] at hd
            have e35 : ax.tmps[35]?.getD undef = .pointer (some ⟨w.heap.size, 66, none⟩) := slv (hf.got 0 (by decide) (by simp [hd]))
            refine ⟨fun _ => ?_, fun h => absurd trivial h⟩
            have h1 := (hf.below.cell (p := ⟨w.heap.size, 66, none⟩) hzR).trans p4
            refine free_run (v := .slice (some ⟨bl, off, none⟩) c.votes.length oc) (W' := W) rfl ?_ rfl (Below.refl _ _)
            go_simp
          · intro L ax W hf hd
            try simp [Region.binds] at hd
            have e3 : ax.tmps[3]?.getD undef = .int .i64 (k : Int) := hf.out 3 (by decide) rfl
            refine ⟨fun _ => ?_, fun h => absurd trivial h⟩
            refine free_run (v := .int .i64 (k : Int)) (W' := W) rfl ?_ rfl (Below.refl _ _)
            go_simp
          · intro L ax W hf hd
            simp [Region.binds] at hd
            have e36 : ax.tmps[36]?.getD undef = .slice (some ⟨bl, off, none⟩) c.votes.length oc := slv (hf.got 1 (by decide) (by simp [hd]))
            have e37 : ax.tmps[37]?.getD undef = .int .i64 (k : Int) := slv (hf.got 2 (by decide) (by simp [hd]))
            refine ⟨fun _ => ?_, fun h => absurd trivial h⟩
            refine free_run (v := .pointer (some ⟨bl, off + k * 68, none⟩)) (W' := W) rfl ?_ rfl (Below.refl _ _)
            go_simp
          · intro L ax W hf hd
            simp [Region.binds] at hd
            have e38 : ax.tmps[38]?.getD undef = .pointer (some ⟨bl, off + k * 68, none⟩) := slv (hf.got 3 (by decide) (by simp [hd]))
            refine ⟨fun _ => ?_, fun h => absurd trivial h⟩
            have h1 := (row?_below _ _ _ hf.below hbs).trans hcx
            refine free_run (v := .agg (voteA ⟨vk.validator, g1s, g1t, g1g⟩)) (W' := W) rfl ?_ rfl (Below.refl _ _)
            go_simp
          · intro L ax W hf hd
            try simp [Region.binds] at hd
            have e1 : ax.tmps[1]?.getD undef = .pointer (some ⟨w.heap.size, 0, none⟩) := hf.out 1 (by decide) rfl
            refine ⟨fun _ => ?_, fun h => absurd trivial h⟩
            refine free_run (v := .pointer (some ⟨w.heap.size, 0, none⟩)) (W' := W) rfl ?_ rfl (Below.refl _ _)
            go_simp
          · intro L ax W hf hd
            simp [Region.binds] at hd
            have e40 : ax.tmps[40]?.getD undef = .pointer (some ⟨w.heap.size, 0, none⟩) := slv (hf.got 5 (by decide) (by simp [hd]))
            refine ⟨fun _ => ?_, fun h => absurd trivial h⟩
            have h1 := (row?_below _ 0 66 hf.below hzR).trans p3
            refine free_run (v := .agg (linkA c.link)) (W' := W) rfl ?_ rfl (Below.refl _ _)
            go_simp
          · intro L ax W hf hd
            simp [Region.binds] at hd
            have e39 : ax.tmps[39]?.getD undef = .agg (voteA ⟨vk.validator, g1s, g1t, g1g⟩) := slv (hf.got 4 (by decide) (by simp [hd]))
            have e41 : ax.tmps[41]?.getD undef = .agg (linkA c.link) := slv (hf.got 6 (by decide) (by simp [hd]))
            refine ⟨fun _ => ?_, fun h => absurd trivial h⟩
            refine free_call (f := 85) (args := #[.agg (voteA ⟨vk.validator, g1s, g1t, g1g⟩), .agg (linkA c.link)]) rfl (by go_simp) ?_
            refine (HOF W hf.below).mono ?_
            rintro e w' ⟨rfl, hb⟩
            exact ⟨_, rfl, rfl, hb⟩
          · intro L ax W hf hd
            simp [Region.binds] at hd
            have e42 : ax.tmps[42]?.getD undef = .bool false := slv (hf.got 7 (by decide) (by simp [hd]))
            refine ⟨fun _ => ?_, fun h => absurd trivial h⟩
            refine free_run (v := .bool true) (W' := W) rfl ?_ rfl (Below.refl _ _)
            go_simp
          · intro L ax W hf hd
            simp [Region.binds] at hd
            have e43 : ax.tmps[43]?.getD undef = .bool true := slv (hf.got 8 (by decide) (by simp [hd]))
            refine ⟨fun _ => ?_, fun h => absurd trivial h⟩
            refine free_run (v := .bool true) (W' := W) rfl ?_ rfl (Below.refl _ _)
            go_simp
          · intro L ax W hf hd
            simp [Region.binds] at hd
            have e3 : ax.tmps[3]?.getD undef = .int .i64 (k : Int) := hf.out 3 (by decide) rfl
            have g0 : sl ax 44 = .bool true := hf.got 9 (by decide) (by simp [hd])
            refine ⟨fun hh => ?_, fun hh => ?_⟩
            · first
                | (exact absurd (g0.symm.trans hh) (undef_ne _))
                | (exact absurd (g0.symm.trans hh) (bool_ne (by decide)))
                | (exfalso; revert hh; simp [Held, g0, *]; done)
                | (refine free_run (v := undef) (W' := W) rfl ?_ rfl (Below.refl _ _); go_simp)
            · first
                | (exact absurd g0 hh)
                | (exfalso; revert hh; simp [Held, g0, *]; done)
                | (show undef = _; first | rfl | (simp [*]; done))
          · intro L ax W hf hd
            simp [Region.binds] at hd
            have e45 : ax.tmps[45]?.getD undef = undef := slv (hf.got 10 (by decide) (by simp [hd]))
            have g0 : sl ax 44 = .bool true := hf.got 9 (by decide) (by simp [hd])
            refine ⟨fun hh => ?_, fun hh => ?_⟩
            · first
                | (exact absurd (g0.symm.trans hh) (undef_ne _))
                | (exact absurd (g0.symm.trans hh) (bool_ne (by decide)))
                | (exfalso; revert hh; simp [Held, g0, *]; done)
                | (refine free_run (v := undef) (W' := W) rfl ?_ rfl (Below.refl _ _); go_simp)
            · first
                | (exact absurd g0 hh)
                | (exfalso; revert hh; simp [Held, g0, *]; done)
                | (show undef = _; first | rfl | (simp [*]; done))
          · intro L ax W hf hd
            simp [Region.binds] at hd
            have e46 : ax.tmps[46]?.getD undef = undef := slv (hf.got 11 (by decide) (by simp [hd]))
            have g0 : sl ax 44 = .bool true := hf.got 9 (by decide) (by simp [hd])
            refine ⟨fun hh => ?_, fun hh => ?_⟩
            · first
                | (exact absurd (g0.symm.trans hh) (undef_ne _))
                | (exact absurd (g0.symm.trans hh) (bool_ne (by decide)))
                | (exfalso; revert hh; simp [Held, g0, *]; done)
                | (refine free_run (v := undef) (W' := W) rfl ?_ rfl (Below.refl _ _); go_simp)
            · first
                | (exact absurd g0 hh)
                | (exfalso; revert hh; simp [Held, g0, *]; done)
                | (show undef = _; first | rfl | (simp [*]; done))
          · intro L ax W hf hd
            simp [Region.binds] at hd
            have e1 : ax.tmps[1]?.getD undef = .pointer (some ⟨w.heap.size, 0, none⟩) := hf.out 1 (by decide) rfl
            have g0 : sl ax 47 = undef := hf.got 12 (by decide) (by simp [hd])
            refine ⟨fun hh => ?_, fun hh => ?_⟩
            · first
                | (exact absurd (g0.symm.trans hh) (undef_ne _))
                | (exact absurd (g0.symm.trans hh) (bool_ne (by decide)))
                | (exfalso; revert hh; simp [Held, g0, *]; done)
                | (refine free_run (v := undef) (W' := W) rfl ?_ rfl (Below.refl _ _); go_simp)
            · first
                | (exact absurd g0 hh)
                | (exfalso; revert hh; simp [Held, g0, *]; done)
                | (show undef = _; first | rfl | (simp [*]; done))
          · intro L ax W hf hd
            simp [Region.binds] at hd
            have e48 : ax.tmps[48]?.getD undef = undef := slv (hf.got 13 (by decide) (by simp [hd]))
            have g0 : sl ax 47 = undef := hf.got 12 (by decide) (by simp [hd])
            refine ⟨fun hh => ?_, fun hh => ?_⟩
            · first
                | (exact absurd (g0.symm.trans hh) (undef_ne _))
                | (exact absurd (g0.symm.trans hh) (bool_ne (by decide)))
                | (exfalso; revert hh; simp [Held, g0, *]; done)
                | (refine free_run (v := undef) (W' := W) rfl ?_ rfl (Below.refl _ _); go_simp)
            · first
                | (exact absurd g0 hh)
                | (exfalso; revert hh; simp [Held, g0, *]; done)
                | (show undef = _; first | rfl | (simp [*]; done))
          · intro L ax W hf hd
            simp [Region.binds] at hd
            have e3 : ax.tmps[3]?.getD undef = .int .i64 (k : Int) := hf.out 3 (by decide) rfl
            have g0 : sl ax 47 = undef := hf.got 12 (by decide) (by simp [hd])
            refine ⟨fun hh => ?_, fun hh => ?_⟩
            · first
                | (exact absurd (g0.symm.trans hh) (undef_ne _))
                | (exact absurd (g0.symm.trans hh) (bool_ne (by decide)))
                | (exfalso; revert hh; simp [Held, g0, *]; done)
                | (refine free_run (v := undef) (W' := W) rfl ?_ rfl (Below.refl _ _); go_simp)
            · first
                | (exact absurd g0 hh)
                | (exfalso; revert hh; simp [Held, g0, *]; done)
                | (show undef = _; first | rfl | (simp [*]; done))
          · intro L ax W hf hd
            simp [Region.binds] at hd
            have e49 : ax.tmps[49]?.getD undef = undef := slv (hf.got 14 (by decide) (by simp [hd]))
            have e50 : ax.tmps[50]?.getD undef = undef := slv (hf.got 15 (by decide) (by simp [hd]))
            have g0 : sl ax 47 = undef := hf.got 12 (by decide) (by simp [hd])
            refine ⟨fun hh => ?_, fun hh => ?_⟩
            · first
                | (exact absurd (g0.symm.trans hh) (undef_ne _))
                | (exact absurd (g0.symm.trans hh) (bool_ne (by decide)))
                | (exfalso; revert hh; simp [Held, g0, *]; done)
                | (refine free_run (v := undef) (W' := W) rfl ?_ rfl (Below.refl _ _); go_simp)
            · first
                | (exact absurd g0 hh)
                | (exfalso; revert hh; simp [Held, g0, *]; done)
                | (show undef = _; first | rfl | (simp [*]; done))
          · intro L ax W hf hd
            simp [Region.binds] at hd
            have e51 : ax.tmps[51]?.getD undef = undef := slv (hf.got 16 (by decide) (by simp [hd]))
            have g0 : sl ax 47 = undef := hf.got 12 (by decide) (by simp [hd])
            refine ⟨fun hh => ?_, fun hh => ?_⟩
            · first
                | (exact absurd (g0.symm.trans hh) (undef_ne _))
                | (exact absurd (g0.symm.trans hh) (bool_ne (by decide)))
                | (exfalso; revert hh; simp [Held, g0, *]; done)
                | (refine free_run (v := undef) (W' := W) rfl ?_ rfl (Below.refl _ _); go_simp)
            · first
                | (exact absurd g0 hh)
                | (exfalso; revert hh; simp [Held, g0, *]; done)
                | (show undef = _; first | rfl | (simp [*]; done))
          · intro L ax W hf hd
            simp [Region.binds] at hd
            have e52 : ax.tmps[52]?.getD undef = undef := slv (hf.got 17 (by decide) (by simp [hd]))
            have g0 : sl ax 47 = undef := hf.got 12 (by decide) (by simp [hd])
            refine ⟨fun hh => ?_, fun hh => ?_⟩
            · first
                | (exact absurd (g0.symm.trans hh) (undef_ne _))
                | (exact absurd (g0.symm.trans hh) (bool_ne (by decide)))
                | (exfalso; revert hh; simp [Held, g0, *]; done)
                | (refine free_run (v := undef) (W' := W) rfl ?_ rfl (Below.refl _ _); go_simp)
            · first
                | (exact absurd g0 hh)
                | (exfalso; revert hh; simp [Held, g0, *]; done)
                | (show undef = _; first | rfl | (simp [*]; done))
          · intro L ax W hf hd
            simp [Region.binds] at hd
            have e1 : ax.tmps[1]?.getD undef = .pointer (some ⟨w.heap.size, 0, none⟩) := hf.out 1 (by decide) rfl
            have g0 : sl ax 47 = undef := hf.got 12 (by decide) (by simp [hd])
            refine ⟨fun hh => ?_, fun hh => ?_⟩
            · first
                | (exact absurd (g0.symm.trans hh) (undef_ne _))
                | (exact absurd (g0.symm.trans hh) (bool_ne (by decide)))
                | (exfalso; revert hh; simp [Held, g0, *]; done)
                | (refine free_run (v := undef) (W' := W) rfl ?_ rfl (Below.refl _ _); go_simp)
            · first
                | (exact absurd g0 hh)
                | (exfalso; revert hh; simp [Held, g0, *]; done)
                | (show undef = _; first | rfl | (simp [*]; done))
          · intro L ax W hf hd
            simp [Region.binds] at hd
            have e54 : ax.tmps[54]?.getD undef = undef := slv (hf.got 19 (by decide) (by simp [hd]))
            have g0 : sl ax 47 = undef := hf.got 12 (by decide) (by simp [hd])
            refine ⟨fun hh => ?_, fun hh => ?_⟩
            · first
                | (exact absurd (g0.symm.trans hh) (undef_ne _))
                | (exact absurd (g0.symm.trans hh) (bool_ne (by decide)))
                | (exfalso; revert hh; simp [Held, g0, *]; done)
                | (refine free_run (v := undef) (W' := W) rfl ?_ rfl (Below.refl _ _); go_simp)
            · first
                | (exact absurd g0 hh)
                | (exfalso; revert hh; simp [Held, g0, *]; done)
                | (show undef = _; first | rfl | (simp [*]; done))
          · intro L ax W hf hd
            simp [Region.binds] at hd
            have e3 : ax.tmps[3]?.getD undef = .int .i64 (k : Int) := hf.out 3 (by decide) rfl
            have g0 : sl ax 47 = undef := hf.got 12 (by decide) (by simp [hd])
            refine ⟨fun hh => ?_, fun hh => ?_⟩
            · first
                | (exact absurd (g0.symm.trans hh) (undef_ne _))
                | (exact absurd (g0.symm.trans hh) (bool_ne (by decide)))
                | (exfalso; revert hh; simp [Held, g0, *]; done)
                | (refine free_run (v := undef) (W' := W) rfl ?_ rfl (Below.refl _ _); go_simp)
            · first
                | (exact absurd g0 hh)
                | (exfalso; revert hh; simp [Held, g0, *]; done)
                | (show undef = _; first | rfl | (simp [*]; done))
          · intro L ax W hf hd
            simp [Region.binds] at hd
            have e56 : ax.tmps[56]?.getD undef = undef := slv (hf.got 21 (by decide) (by simp [hd]))
            have g0 : sl ax 47 = undef := hf.got 12 (by decide) (by simp [hd])
            refine ⟨fun hh => ?_, fun hh => ?_⟩
            · first
                | (exact absurd (g0.symm.trans hh) (undef_ne _))
                | (exact absurd (g0.symm.trans hh) (bool_ne (by decide)))
                | (exfalso; revert hh; simp [Held, g0, *]; done)
                | (refine free_run (v := undef) (W' := W) rfl ?_ rfl (Below.refl _ _); go_simp)
            · first
                | (exact absurd g0 hh)
                | (exfalso; revert hh; simp [Held, g0, *]; done)
                | (show undef = _; first | rfl | (simp [*]; done))
          · intro L ax W hf hd
            simp [Region.binds] at hd
            have e55 : ax.tmps[55]?.getD undef = undef := slv (hf.got 20 (by decide) (by simp [hd]))
            have e57 : ax.tmps[57]?.getD undef = undef := slv (hf.got 22 (by decide) (by simp [hd]))
            have g0 : sl ax 47 = undef := hf.got 12 (by decide) (by simp [hd])
            refine ⟨fun hh => ?_, fun hh => ?_⟩
            · first
                | (exact absurd (g0.symm.trans hh) (undef_ne _))
                | (exact absurd (g0.symm.trans hh) (bool_ne (by decide)))
                | (exfalso; revert hh; simp [Held, g0, *]; done)
                | (refine free_run (v := undef) (W' := W) rfl ?_ rfl (Below.refl _ _); go_simp)
            · first
                | (exact absurd g0 hh)
                | (exfalso; revert hh; simp [Held, g0, *]; done)
                | (show undef = _; first | rfl | (simp [*]; done))
          · intro L ax W hf hd
            simp [Region.binds] at hd
            have e58 : ax.tmps[58]?.getD undef = undef := slv (hf.got 23 (by decide) (by simp [hd]))
            have g0 : sl ax 47 = undef := hf.got 12 (by decide) (by simp [hd])
            refine ⟨fun hh => ?_, fun hh => ?_⟩
            · first
                | (exact absurd (g0.symm.trans hh) (undef_ne _))
                | (exact absurd (g0.symm.trans hh) (bool_ne (by decide)))
                | (exfalso; revert hh; simp [Held, g0, *]; done)
                | (refine free_run (v := undef) (W' := W) rfl ?_ rfl (Below.refl _ _); go_simp)
            · first
                | (exact absurd g0 hh)
                | (exfalso; revert hh; simp [Held, g0, *]; done)
                | (show undef = _; first | rfl | (simp [*]; done))
          · intro L ax W hf hd
            simp [Region.binds] at hd
            have e59 : ax.tmps[59]?.getD undef = undef := slv (hf.got 24 (by decide) (by simp [hd]))
            have g0 : sl ax 47 = undef := hf.got 12 (by decide) (by simp [hd])
            refine ⟨fun hh => ?_, fun hh => ?_⟩
            · first
                | (exact absurd (g0.symm.trans hh) (undef_ne _))
                | (exact absurd (g0.symm.trans hh) (bool_ne (by decide)))
                | (exfalso; revert hh; simp [Held, g0, *]; done)
                | (refine free_run (v := undef) (W' := W) rfl ?_ rfl (Below.refl _ _); go_simp)
            · first
                | (exact absurd g0 hh)
                | (exfalso; revert hh; simp [Held, g0, *]; done)
                | (show undef = _; first | rfl | (simp [*]; done))
          · intro L ax W hf hd
            simp [Region.binds] at hd
            have e53 : ax.tmps[53]?.getD undef = undef := slv (hf.got 18 (by decide) (by simp [hd]))
            have e60 : ax.tmps[60]?.getD undef = undef := slv (hf.got 25 (by decide) (by simp [hd]))
            have g0 : sl ax 47 = undef := hf.got 12 (by decide) (by simp [hd])
            refine ⟨fun hh => ?_, fun hh => ?_⟩
            · first
                | (exact absurd (g0.symm.trans hh) (undef_ne _))
                | (exact absurd (g0.symm.trans hh) (bool_ne (by decide)))
                | (exfalso; revert hh; simp [Held, g0, *]; done)
                | (refine free_run (v := undef) (W' := W) rfl ?_ rfl (Below.refl _ _); go_simp)
            · first
                | (exact absurd g0 hh)
                | (exfalso; revert hh; simp [Held, g0, *]; done)
                | (show undef = _; first | rfl | (simp [*]; done))
          · intro L ax W hf hd
            simp [Region.binds] at hd
            have e47 : ax.tmps[47]?.getD undef = undef := slv (hf.got 12 (by decide) (by simp [hd]))
            have e61 : ax.tmps[61]?.getD undef = undef := slv (hf.got 26 (by decide) (by simp [hd]))
            have g0 : sl ax 44 = .bool true := hf.got 9 (by decide) (by simp [hd])
            refine ⟨fun hh => ?_, fun hh => ?_⟩
            · first
                | (exact absurd (g0.symm.trans hh) (undef_ne _))
                | (exact absurd (g0.symm.trans hh) (bool_ne (by decide)))
                | (exfalso; revert hh; simp [Held, g0, *]; done)
                | (refine free_run (v := undef) (W' := W) rfl ?_ rfl (Below.refl _ _); go_simp)
            · first
                | (exact absurd g0 hh)
                | (exfalso; revert hh; simp [Held, g0, *]; done)
                | (show undef = _; first | rfl | (simp [*]; done))
          · intro L ax W hf hd
            simp [Region.binds] at hd
            have e44 : ax.tmps[44]?.getD undef = .bool true := slv (hf.got 9 (by decide) (by simp [hd]))
            have e62 : ax.tmps[62]?.getD undef = undef := slv (hf.got 27 (by decide) (by simp [hd]))
            refine ⟨fun _ => ?_, fun h => absurd trivial h⟩
            refine free_run (v := .bool true) (W' := W) rfl ?_ rfl (Below.refl _ _)
            go_simp
        · intro vs W hl' hF hb
          obtain ⟨g', hg1, hg2⟩ := vs_lit vs hl' hF
          have e63 : g' 28 = .bool true := hg2 28 (by decide)
          rw [hg1]
          clear hF hg1 hg2 hl'
          have hB4 := Lib.hid (hB.trans (hb.mono hz))
          clear hb hB c0 hcx p3 p4 HOF
          simp only [List.length_cons, List.length_nil, Nat.reduceAdd, show List.range 29 = [0, 1, 2, 3, 4, 5, 6, 7, 8, 9, 10, 11, 12, 13, 14, 15, 16, 17, 18, 19, 20, 21, 22, 23, 24, 25, 26, 27, 28] from rfl, List.map_cons, List.map_nil, putL, List.zip_cons_cons, List.zip_nil_right, List.setIfInBounds_toArray, List.set_cons_succ, List.set_cons_zero, e63]
          go_wp2_with fail
          go_ret
          exact ⟨ret_bool Hf.out.symm, hB4.out⟩
      · rw [hm] at HOF
        have Hm := Lib.hid hm
        clear hm
        have hV4 := fun W (hW : Below wr.heap.size wr W) => VotesR.keep' hV.out hW
        have hR4 := fun W (hW : Below wr.heap.size wr W) => hR.out.keep hW
        have HV4 := Lib.hid hV4
        have HR4 := Lib.hid hR4
        clear hV4 hR4
        by_cases hk0 : k = 0
        · subst hk0
          have Hd := Lib.hid (show decide (lastV 0 (c.votes.take 0) < vk.validator) = true from decide_eq_true (by have := Hvm.out Hm.out; show (0 : Int) < _; omega))
          rw [Nat.zero_mul, Nat.add_zero] at c0 hcx
          clear hprev hfirst
          go_upto_region 6 with fail
          refine wp_region_freeG_l (fun W W' => Below W.heap.size W W') (by kernel_rfl) [35, 36, 37, 38, 39, 40, 41, 42, 43, 44, 45, 46, 47, 48, 49, 50, 51, 52, 53, 54, 55, 56, 57, 58, 59, 60, 61, 62, 63]
            [Is (.pointer (some ⟨w.heap.size, 66, none⟩)), Is (.slice (some ⟨bl, off, none⟩) c.votes.length oc), Is (.int .i64 0), Is (.pointer (some ⟨bl, off, none⟩)), Is (.agg (voteA ⟨vk.validator, g1s, g1t, g1g⟩)), Is (.pointer (some ⟨w.heap.size, 0, none⟩)), Is (.agg (linkA c.link)), Is (.bool true), Is (.bool false), Is (.bool false), Is (.int .i64 0), Is (.bool false), Is (.bool false), Is (undef), Is (undef), Is (undef), Is (undef), Is (undef), Is (undef), Is (undef), Is (undef), Is (undef), Is (undef), Is (undef), Is (undef), Is (undef), Is (undef), Is (.bool false), Is (.bool false)]
            (by kernel_rfl) (fun W W' h hb => hb.trans (h.mono hb.size)) ?_ ?_ ?_
          · intro f hf
            simp only [List.mem_cons, List.not_mem_nil, or_false] at hf
            rcases hf with rfl | rfl | rfl | rfl | rfl | rfl | rfl | rfl | rfl | rfl | rfl | rfl | rfl | rfl | rfl | rfl | rfl | rfl | rfl | rfl | rfl | rfl | rfl | rfl | rfl | rfl | rfl | rfl | rfl <;> intro x W W' h hr <;> first | exact h
          · refine ⟨?_, ?_, ?_, ?_, ?_, ?_, ?_, ?_, ?_, ?_, ?_, ?_, ?_, ?_, ?_, ?_, ?_, ?_, ?_, ?_, ?_, ?_, ?_, ?_, ?_, ?_, ?_, ?_, ?_, trivial⟩
            · intro L ax W hf hd
              try simp [Region.binds] at hd
              have e1 : ax.tmps[1]?.getD undef = .pointer (some ⟨w.heap.size, 0, none⟩) := hf.out 1 (by decide) rfl
              refine ⟨fun _ => ?_, fun h => absurd trivial h⟩
              refine free_run (v := .pointer (some ⟨w.heap.size, 66, none⟩)) (W' := W) rfl ?_ rfl (Below.refl _ _)
              go_simp
            · intro L ax W hf hd
              simp [Region.binds] at hd
              have e35 : ax.tmps[35]?.getD undef = .pointer (some ⟨w.heap.size, 66, none⟩) := slv (hf.got 0 (by decide) (by simp [hd]))
              refine ⟨fun _ => ?_, fun h => absurd trivial h⟩
              have h1 := (hf.below.cell (p := ⟨w.heap.size, 66, none⟩) hzR).trans p4
              refine free_run (v := .slice (some ⟨bl, off, none⟩) c.votes.length oc) (W' := W) rfl ?_ rfl (Below.refl _ _)
              go_simp
            · intro L ax W hf hd
              try simp [Region.binds] at hd
              have e3 : ax.tmps[3]?.getD undef = .int .i64 0 := hf.out 3 (by decide) rfl
              refine ⟨fun _ => ?_, fun h => absurd trivial h⟩
              refine free_run (v := .int .i64 0) (W' := W) rfl ?_ rfl (Below.refl _ _)
              go_simp
            · intro L ax W hf hd
              simp [Region.binds] at hd
              have e36 : ax.tmps[36]?.getD undef = .slice (some ⟨bl, off, none⟩) c.votes.length oc := slv (hf.got 1 (by decide) (by simp [hd]))
              have e37 : ax.tmps[37]?.getD undef = .int .i64 0 := slv (hf.got 2 (by decide) (by simp [hd]))
              refine ⟨fun _ => ?_, fun h => absurd trivial h⟩
              refine free_run (v := .pointer (some ⟨bl, off, none⟩)) (W' := W) rfl ?_ rfl (Below.refl _ _)
              go_simp
            · intro L ax W hf hd
              simp [Region.binds] at hd
              have e38 : ax.tmps[38]?.getD undef = .pointer (some ⟨bl, off, none⟩) := slv (hf.got 3 (by decide) (by simp [hd]))
              refine ⟨fun _ => ?_, fun h => absurd trivial h⟩
              have h1 := (row?_below _ _ _ hf.below hbs).trans hcx
              refine free_run (v := .agg (voteA ⟨vk.validator, g1s, g1t, g1g⟩)) (W' := W) rfl ?_ rfl (Below.refl _ _)
              go_simp
            · intro L ax W hf hd
              try simp [Region.binds] at hd
              have e1 : ax.tmps[1]?.getD undef = .pointer (some ⟨w.heap.size, 0, none⟩) := hf.out 1 (by decide) rfl
              refine ⟨fun _ => ?_, fun h => absurd trivial h⟩
              refine free_run (v := .pointer (some ⟨w.heap.size, 0, none⟩)) (W' := W) rfl ?_ rfl (Below.refl _ _)
              go_simp
            · intro L ax W hf hd
              simp [Region.binds] at hd
              have e40 : ax.tmps[40]?.getD undef = .pointer (some ⟨w.heap.size, 0, none⟩) := slv (hf.got 5 (by decide) (by simp [hd]))
              refine ⟨fun _ => ?_, fun h => absurd trivial h⟩
              have h1 := (row?_below _ 0 66 hf.below hzR).trans p3
              refine free_run (v := .agg (linkA c.link)) (W' := W) rfl ?_ rfl (Below.refl _ _)
              go_simp
            · intro L ax W hf hd
              simp [Region.binds] at hd
              have e39 : ax.tmps[39]?.getD undef = .agg (voteA ⟨vk.validator, g1s, g1t, g1g⟩) := slv (hf.got 4 (by decide) (by simp [hd]))
              have e41 : ax.tmps[41]?.getD undef = .agg (linkA c.link) := slv (hf.got 6 (by decide) (by simp [hd]))
              refine ⟨fun _ => ?_, fun h => absurd trivial h⟩
              refine free_call (f := 85) (args := #[.agg (voteA ⟨vk.validator, g1s, g1t, g1g⟩), .agg (linkA c.link)]) rfl (by go_simp) ?_
              refine (HOF W hf.below).mono ?_
              rintro e w' ⟨rfl, hb⟩
              exact ⟨_, rfl, rfl, hb⟩
            · intro L ax W hf hd
              simp [Region.binds] at hd
              have e42 : ax.tmps[42]?.getD undef = .bool true := slv (hf.got 7 (by decide) (by simp [hd]))
              refine ⟨fun _ => ?_, fun h => absurd trivial h⟩
              refine free_run (v := .bool false) (W' := W) rfl ?_ rfl (Below.refl _ _)
              go_simp
            · intro L ax W hf hd
              simp [Region.binds] at hd
              have e43 : ax.tmps[43]?.getD undef = .bool false := slv (hf.got 8 (by decide) (by simp [hd]))
              refine ⟨fun _ => ?_, fun h => absurd trivial h⟩
              refine free_run (v := .bool false) (W' := W) rfl ?_ rfl (Below.refl _ _)
              go_simp
            · intro L ax W hf hd
              simp [Region.binds] at hd
              have e3 : ax.tmps[3]?.getD undef = .int .i64 0 := hf.out 3 (by decide) rfl
              have g0 : sl ax 44 = .bool false := hf.got 9 (by decide) (by simp [hd])
              refine ⟨fun hh => ?_, fun hh => ?_⟩
              · first
                  | (exact absurd (g0.symm.trans hh) (undef_ne _))
                  | (exact absurd (g0.symm.trans hh) (bool_ne (by decide)))
                  | (exfalso; revert hh; simp [Held, g0, *]; done)
                  | (refine free_run (v := .int .i64 0) (W' := W) rfl ?_ rfl (Below.refl _ _); go_simp)
              · first
                  | (exact absurd g0 hh)
                  | (exfalso; revert hh; simp [Held, g0, *]; done)
                  | (show undef = _; first | rfl | (simp [*]; done))
            · intro L ax W hf hd
              simp [Region.binds] at hd
              have e45 : ax.tmps[45]?.getD undef = .int .i64 0 := slv (hf.got 10 (by decide) (by simp [hd]))
              have g0 : sl ax 44 = .bool false := hf.got 9 (by decide) (by simp [hd])
              refine ⟨fun hh => ?_, fun hh => ?_⟩
              · first
                  | (exact absurd (g0.symm.trans hh) (undef_ne _))
                  | (exact absurd (g0.symm.trans hh) (bool_ne (by decide)))
                  | (exfalso; revert hh; simp [Held, g0, *]; done)
                  | (refine free_run (v := .bool false) (W' := W) rfl ?_ rfl (Below.refl _ _); go_simp)
              · first
                  | (exact absurd g0 hh)
                  | (exfalso; revert hh; simp [Held, g0, *]; done)
                  | (show undef = _; first | rfl | (simp [*]; done))
            · intro L ax W hf hd
              simp [Region.binds] at hd
              have e46 : ax.tmps[46]?.getD undef = .bool false := slv (hf.got 11 (by decide) (by simp [hd]))
              have g0 : sl ax 44 = .bool false := hf.got 9 (by decide) (by simp [hd])
              refine ⟨fun hh => ?_, fun hh => ?_⟩
              · first
                  | (exact absurd (g0.symm.trans hh) (undef_ne _))
                  | (exact absurd (g0.symm.trans hh) (bool_ne (by decide)))
                  | (exfalso; revert hh; simp [Held, g0, *]; done)
                  | (refine free_run (v := .bool false) (W' := W) rfl ?_ rfl (Below.refl _ _); go_simp)
              · first
                  | (exact absurd g0 hh)
                  | (exfalso; revert hh; simp [Held, g0, *]; done)
                  | (show undef = _; first | rfl | (simp [*]; done))
            · intro L ax W hf hd
              simp [Region.binds] at hd
              have e1 : ax.tmps[1]?.getD undef = .pointer (some ⟨w.heap.size, 0, none⟩) := hf.out 1 (by decide) rfl
              have g0 : sl ax 47 = .bool false := hf.got 12 (by decide) (by simp [hd])
              refine ⟨fun hh => ?_, fun hh => ?_⟩
              · first
                  | (exact absurd (g0.symm.trans hh) (undef_ne _))
                  | (exact absurd (g0.symm.trans hh) (bool_ne (by decide)))
                  | (exfalso; revert hh; simp [Held, g0, *]; done)
                  | (refine free_run (v := undef) (W' := W) rfl ?_ rfl (Below.refl _ _); go_simp)
              · first
                  | (exact absurd g0 hh)
                  | (exfalso; revert hh; simp [Held, g0, *]; done)
                  | (show undef = _; first | rfl | (simp [*]; done))
            · intro L ax W hf hd
              simp [Region.binds] at hd
              have e48 : ax.tmps[48]?.getD undef = undef := slv (hf.got 13 (by decide) (by simp [hd]))
              have g0 : sl ax 47 = .bool false := hf.got 12 (by decide) (by simp [hd])
              refine ⟨fun hh => ?_, fun hh => ?_⟩
              · first
                  | (exact absurd (g0.symm.trans hh) (undef_ne _))
                  | (exact absurd (g0.symm.trans hh) (bool_ne (by decide)))
                  | (exfalso; revert hh; simp [Held, g0, *]; done)
                  | (refine free_run (v := undef) (W' := W) rfl ?_ rfl (Below.refl _ _); go_simp)
              · first
                  | (exact absurd g0 hh)
                  | (exfalso; revert hh; simp [Held, g0, *]; done)
                  | (show undef = _; first | rfl | (simp [*]; done))
            · intro L ax W hf hd
              simp [Region.binds] at hd
              have e3 : ax.tmps[3]?.getD undef = .int .i64 0 := hf.out 3 (by decide) rfl
              have g0 : sl ax 47 = .bool false := hf.got 12 (by decide) (by simp [hd])
              refine ⟨fun hh => ?_, fun hh => ?_⟩
              · first
                  | (exact absurd (g0.symm.trans hh) (undef_ne _))
                  | (exact absurd (g0.symm.trans hh) (bool_ne (by decide)))
                  | (exfalso; revert hh; simp [Held, g0, *]; done)
                  | (refine free_run (v := undef) (W' := W) rfl ?_ rfl (Below.refl _ _); go_simp)
              · first
                  | (exact absurd g0 hh)
                  | (exfalso; revert hh; simp [Held, g0, *]; done)
                  | (show undef = _; first | rfl | (simp [*]; done))
            · intro L ax W hf hd
              simp [Region.binds] at hd
              have e49 : ax.tmps[49]?.getD undef = undef := slv (hf.got 14 (by decide) (by simp [hd]))
              have e50 : ax.tmps[50]?.getD undef = undef := slv (hf.got 15 (by decide) (by simp [hd]))
              have g0 : sl ax 47 = .bool false := hf.got 12 (by decide) (by simp [hd])
              refine ⟨fun hh => ?_, fun hh => ?_⟩
              · first
                  | (exact absurd (g0.symm.trans hh) (undef_ne _))
                  | (exact absurd (g0.symm.trans hh) (bool_ne (by decide)))
                  | (exfalso; revert hh; simp [Held, g0, *]; done)
                  | (refine free_run (v := undef) (W' := W) rfl ?_ rfl (Below.refl _ _); go_simp)
              · first
                  | (exact absurd g0 hh)
                  | (exfalso; revert hh; simp [Held, g0, *]; done)
                  | (show undef = _; first | rfl | (simp [*]; done))
            · intro L ax W hf hd
              simp [Region.binds] at hd
              have e51 : ax.tmps[51]?.getD undef = undef := slv (hf.got 16 (by decide) (by simp [hd]))
              have g0 : sl ax 47 = .bool false := hf.got 12 (by decide) (by simp [hd])
              refine ⟨fun hh => ?_, fun hh => ?_⟩
              · first
                  | (exact absurd (g0.symm.trans hh) (undef_ne _))
                  | (exact absurd (g0.symm.trans hh) (bool_ne (by decide)))
                  | (exfalso; revert hh; simp [Held, g0, *]; done)
                  | (refine free_run (v := undef) (W' := W) rfl ?_ rfl (Below.refl _ _); go_simp)
              · first
                  | (exact absurd g0 hh)
                  | (exfalso; revert hh; simp [Held, g0, *]; done)
                  | (show undef = _; first | rfl | (simp [*]; done))
            · intro L ax W hf hd
              simp [Region.binds] at hd
              have e52 : ax.tmps[52]?.getD undef = undef := slv (hf.got 17 (by decide) (by simp [hd]))
              have g0 : sl ax 47 = .bool false := hf.got 12 (by decide) (by simp [hd])
              refine ⟨fun hh => ?_, fun hh => ?_⟩
              · first
                  | (exact absurd (g0.symm.trans hh) (undef_ne _))
                  | (exact absurd (g0.symm.trans hh) (bool_ne (by decide)))
                  | (exfalso; revert hh; simp [Held, g0, *]; done)
                  | (refine free_run (v := undef) (W' := W) rfl ?_ rfl (Below.refl _ _); go_simp)
              · first
                  | (exact absurd g0 hh)
                  | (exfalso; revert hh; simp [Held, g0, *]; done)
                  | (show undef = _; first | rfl | (simp [*]; done))
            · intro L ax W hf hd
              simp [Region.binds] at hd
              have e1 : ax.tmps[1]?.getD undef = .pointer (some ⟨w.heap.size, 0, none⟩) := hf.out 1 (by decide) rfl
              have g0 : sl ax 47 = .bool false := hf.got 12 (by decide) (by simp [hd])
              refine ⟨fun hh => ?_, fun hh => ?_⟩
              · first
                  | (exact absurd (g0.symm.trans hh) (undef_ne _))
                  | (exact absurd (g0.symm.trans hh) (bool_ne (by decide)))
                  | (exfalso; revert hh; simp [Held, g0, *]; done)
                  | (refine free_run (v := undef) (W' := W) rfl ?_ rfl (Below.refl _ _); go_simp)
              · first
                  | (exact absurd g0 hh)
                  | (exfalso; revert hh; simp [Held, g0, *]; done)
                  | (show undef = _; first | rfl | (simp [*]; done))
            · intro L ax W hf hd
              simp [Region.binds] at hd
              have e54 : ax.tmps[54]?.getD undef = undef := slv (hf.got 19 (by decide) (by simp [hd]))
              have g0 : sl ax 47 = .bool false := hf.got 12 (by decide) (by simp [hd])
              refine ⟨fun hh => ?_, fun hh => ?_⟩
              · first
                  | (exact absurd (g0.symm.trans hh) (undef_ne _))
                  | (exact absurd (g0.symm.trans hh) (bool_ne (by decide)))
                  | (exfalso; revert hh; simp [Held, g0, *]; done)
                  | (refine free_run (v := undef) (W' := W) rfl ?_ rfl (Below.refl _ _); go_simp)
              · first
                  | (exact absurd g0 hh)
                  | (exfalso; revert hh; simp [Held, g0, *]; done)
                  | (show undef = _; first | rfl | (simp [*]; done))
            · intro L ax W hf hd
              simp [Region.binds] at hd
              have e3 : ax.tmps[3]?.getD undef = .int .i64 0 := hf.out 3 (by decide) rfl
              have g0 : sl ax 47 = .bool false := hf.got 12 (by decide) (by simp [hd])
              refine ⟨fun hh => ?_, fun hh => ?_⟩
              · first
                  | (exact absurd (g0.symm.trans hh) (undef_ne _))
                  | (exact absurd (g0.symm.trans hh) (bool_ne (by decide)))
                  | (exfalso; revert hh; simp [Held, g0, *]; done)
                  | (refine free_run (v := undef) (W' := W) rfl ?_ rfl (Below.refl _ _); go_simp)
              · first
                  | (exact absurd g0 hh)
                  | (exfalso; revert hh; simp [Held, g0, *]; done)
                  | (show undef = _; first | rfl | (simp [*]; done))
            · intro L ax W hf hd
              simp [Region.binds] at hd
              have e56 : ax.tmps[56]?.getD undef = undef := slv (hf.got 21 (by decide) (by simp [hd]))
              have g0 : sl ax 47 = .bool false := hf.got 12 (by decide) (by simp [hd])
              refine ⟨fun hh => ?_, fun hh => ?_⟩
              · first
                  | (exact absurd (g0.symm.trans hh) (undef_ne _))
                  | (exact absurd (g0.symm.trans hh) (bool_ne (by decide)))
                  | (exfalso; revert hh; simp [Held, g0, *]; done)
                  | (refine free_run (v := undef) (W' := W) rfl ?_ rfl (Below.refl _ _); go_simp)
              · first
                  | (exact absurd g0 hh)
                  | (exfalso; revert hh; simp [Held, g0, *]; done)
                  | (show undef = _; first | rfl | (simp [*]; done))
            · intro L ax W hf hd
              simp [Region.binds] at hd
              have e55 : ax.tmps[55]?.getD undef = undef := slv (hf.got 20 (by decide) (by simp [hd]))
              have e57 : ax.tmps[57]?.getD undef = undef := slv (hf.got 22 (by decide) (by simp [hd]))
              have g0 : sl ax 47 = .bool false := hf.got 12 (by decide) (by simp [hd])
              refine ⟨fun hh => ?_, fun hh => ?_⟩
              · first
                  | (exact absurd (g0.symm.trans hh) (undef_ne _))
                  | (exact absurd (g0.symm.trans hh) (bool_ne (by decide)))
                  | (exfalso; revert hh; simp [Held, g0, *]; done)
                  | (refine free_run (v := undef) (W' := W) rfl ?_ rfl (Below.refl _ _); go_simp)
              · first
                  | (exact absurd g0 hh)
                  | (exfalso; revert hh; simp [Held, g0, *]; done)
                  | (show undef = _; first | rfl | (simp [*]; done))
            · intro L ax W hf hd
              simp [Region.binds] at hd
              have e58 : ax.tmps[58]?.getD undef = undef := slv (hf.got 23 (by decide) (by simp [hd]))
              have g0 : sl ax 47 = .bool false := hf.got 12 (by decide) (by simp [hd])
              refine ⟨fun hh => ?_, fun hh => ?_⟩
              · first
                  | (exact absurd (g0.symm.trans hh) (undef_ne _))
                  | (exact absurd (g0.symm.trans hh) (bool_ne (by decide)))
                  | (exfalso; revert hh; simp [Held, g0, *]; done)
                  | (refine free_run (v := undef) (W' := W) rfl ?_ rfl (Below.refl _ _); go_simp)
              · first
                  | (exact absurd g0 hh)
                  | (exfalso; revert hh; simp [Held, g0, *]; done)
                  | (show undef = _; first | rfl | (simp [*]; done))
            · intro L ax W hf hd
              simp [Region.binds] at hd
              have e59 : ax.tmps[59]?.getD undef = undef := slv (hf.got 24 (by decide) (by simp [hd]))
              have g0 : sl ax 47 = .bool false := hf.got 12 (by decide) (by simp [hd])
              refine ⟨fun hh => ?_, fun hh => ?_⟩
              · first
                  | (exact absurd (g0.symm.trans hh) (undef_ne _))
                  | (exact absurd (g0.symm.trans hh) (bool_ne (by decide)))
                  | (exfalso; revert hh; simp [Held, g0, *]; done)
                  | (refine free_run (v := undef) (W' := W) rfl ?_ rfl (Below.refl _ _); go_simp)
              · first
                  | (exact absurd g0 hh)
                  | (exfalso; revert hh; simp [Held, g0, *]; done)
                  | (show undef = _; first | rfl | (simp [*]; done))
            · intro L ax W hf hd
              simp [Region.binds] at hd
              have e53 : ax.tmps[53]?.getD undef = undef := slv (hf.got 18 (by decide) (by simp [hd]))
              have e60 : ax.tmps[60]?.getD undef = undef := slv (hf.got 25 (by decide) (by simp [hd]))
              have g0 : sl ax 47 = .bool false := hf.got 12 (by decide) (by simp [hd])
              refine ⟨fun hh => ?_, fun hh => ?_⟩
              · first
                  | (exact absurd (g0.symm.trans hh) (undef_ne _))
                  | (exact absurd (g0.symm.trans hh) (bool_ne (by decide)))
                  | (exfalso; revert hh; simp [Held, g0, *]; done)
                  | (refine free_run (v := undef) (W' := W) rfl ?_ rfl (Below.refl _ _); go_simp)
              · first
                  | (exact absurd g0 hh)
                  | (exfalso; revert hh; simp [Held, g0, *]; done)
                  | (show undef = _; first | rfl | (simp [*]; done))
            · intro L ax W hf hd
              simp [Region.binds] at hd
              have e47 : ax.tmps[47]?.getD undef = .bool false := slv (hf.got 12 (by decide) (by simp [hd]))
              have e61 : ax.tmps[61]?.getD undef = undef := slv (hf.got 26 (by decide) (by simp [hd]))
              have g0 : sl ax 44 = .bool false := hf.got 9 (by decide) (by simp [hd])
              refine ⟨fun hh => ?_, fun hh => ?_⟩
              · first
                  | (exact absurd (g0.symm.trans hh) (undef_ne _))
                  | (exact absurd (g0.symm.trans hh) (bool_ne (by decide)))
                  | (exfalso; revert hh; simp [Held, g0, *]; done)
                  | (refine free_run (v := .bool false) (W' := W) rfl ?_ rfl (Below.refl _ _); go_simp)
              · first
                  | (exact absurd g0 hh)
                  | (exfalso; revert hh; simp [Held, g0, *]; done)
                  | (show undef = _; first | rfl | (simp [*]; done))
            · intro L ax W hf hd
              simp [Region.binds] at hd
              have e44 : ax.tmps[44]?.getD undef = .bool false := slv (hf.got 9 (by decide) (by simp [hd]))
              have e62 : ax.tmps[62]?.getD undef = .bool false := slv (hf.got 27 (by decide) (by simp [hd]))
              refine ⟨fun _ => ?_, fun h => absurd trivial h⟩
              refine free_run (v := .bool false) (W' := W) rfl ?_ rfl (Below.refl _ _)
              go_simp
          · intro vs W hl' hF hb
            obtain ⟨g', hg1, hg2⟩ := vs_lit vs hl' hF
            have e63 : g' 28 = .bool false := hg2 28 (by decide)
            rw [hg1]
            clear hF hg1 hg2 hl'
            have hB4 := Lib.hid (hB.trans (hb.mono hz))
            have hR5 := Lib.hid (HR4.out W hb)
            have hV5 := Lib.hid (HV4.out W hb)
            clear hb hB c0 hcx p3 p4 HOF hR hV HR4 HV4
            simp only [List.length_cons, List.length_nil, Nat.reduceAdd, show List.range 29 = [0, 1, 2, 3, 4, 5, 6, 7, 8, 9, 10, 11, 12, 13, 14, 15, 16, 17, 18, 19, 20, 21, 22, 23, 24, 25, 26, 27, 28] from rfl, List.map_cons, List.map_nil, putL, List.zip_cons_cons, List.zip_nil_right, List.setIfInBounds_toArray, List.set_cons_succ, List.set_cons_zero, e63]
            go_wp2_with fail
            go_roundw
            case rel => exact ⟨0 + 1, by omega, rfl, Lib.hid (by rw [Hat.out, Hm.out, Hd.out]; rfl), hB4.out, hR5, hV5⟩
            case measure => (first | (simp [intOf]; done) | (simp [intOf]; omega))
        · have c1 := hprev (by omega)
          clear hprev hfirst Hvm
          generalize lastV 0 (c.votes.take k) = lv at *
          have d0 : decide ((0 : Int) < (k : Int)) = true := decide_eq_true (by omega)
          have j0 : (0 : Int) ≤ (k : Int) - 1 := by omega
          have j1 : ((k : Int) - 1).toNat = k - 1 := by omega
          have j2 : (k : Int) - 1 < (c.votes.length : Int) := by omega
          have j3 : (1 : Int) ≤ (k : Int) := by omega
          have j5 : 0 < k := by omega
          have j6 : IntKind.i64.wrap ((k : Int) - 1) = (k : Int) - 1 := IntWalk.i64_in _ (by omega)
          have j4 : (k : Int) ≤ (c.votes.length : Int) := by omega
          clear hk0
          go_upto_region 6 with fail
          refine wp_region_freeG_l (fun W W' => Below W.heap.size W W') (by kernel_rfl) [35, 36, 37, 38, 39, 40, 41, 42, 43, 44, 45, 46, 47, 48, 49, 50, 51, 52, 53, 54, 55, 56, 57, 58, 59, 60, 61, 62, 63]
            [Is (.pointer (some ⟨w.heap.size, 66, none⟩)), Is (.slice (some ⟨bl, off, none⟩) c.votes.length oc), Is (.int .i64 (k : Int)), Is (.pointer (some ⟨bl, off + k * 68, none⟩)), Is (.agg (voteA ⟨vk.validator, g1s, g1t, g1g⟩)), Is (.pointer (some ⟨w.heap.size, 0, none⟩)), Is (.agg (linkA c.link)), Is (.bool true), Is (.bool false), Is (.bool false), Is (.int .i64 (k : Int)), Is (.bool true), Is (.bool true), Is (.pointer (some ⟨w.heap.size, 66, none⟩)), Is (.slice (some ⟨bl, off, none⟩) c.votes.length oc), Is (.int .i64 (k : Int)), Is (.pointer (some ⟨bl, off + k * 68, none⟩)), Is (.pointer (some ⟨bl, off + k * 68, none⟩)), Is (.int .i64 vk.validator), Is (.pointer (some ⟨w.heap.size, 66, none⟩)), Is (.slice (some ⟨bl, off, none⟩) c.votes.length oc), Is (.int .i64 (k : Int)), Is (.int .i64 ((k : Int) - 1)), Is (.pointer (some ⟨bl, off + (k - 1) * 68, none⟩)), Is (.pointer (some ⟨bl, off + (k - 1) * 68, none⟩)), Is (.int .i64 lv), Is (.bool (decide (vk.validator ≤ lv))), Is (.bool (decide (vk.validator ≤ lv))), Is (.bool (decide (vk.validator ≤ lv)))]
            (by kernel_rfl) (fun W W' h hb => hb.trans (h.mono hb.size)) ?_ ?_ ?_
          · intro f hf
            simp only [List.mem_cons, List.not_mem_nil, or_false] at hf
            rcases hf with rfl | rfl | rfl | rfl | rfl | rfl | rfl | rfl | rfl | rfl | rfl | rfl | rfl | rfl | rfl | rfl | rfl | rfl | rfl | rfl | rfl | rfl | rfl | rfl | rfl | rfl | rfl | rfl | rfl <;> intro x W W' h hr <;> first | exact h
          · refine ⟨?_, ?_, ?_, ?_, ?_, ?_, ?_, ?_, ?_, ?_, ?_, ?_, ?_, ?_, ?_, ?_, ?_, ?_, ?_, ?_, ?_, ?_, ?_, ?_, ?_, ?_, ?_, ?_, ?_, trivial⟩
            · intro L ax W hf hd
              try simp [Region.binds] at hd
              have e1 : ax.tmps[1]?.getD undef = .pointer (some ⟨w.heap.size, 0, none⟩) := hf.out 1 (by decide) rfl
              refine ⟨fun _ => ?_, fun h => absurd trivial h⟩
              refine free_run (v := .pointer (some ⟨w.heap.size, 66, none⟩)) (W' := W) rfl ?_ rfl (Below.refl _ _)
              go_simp
            · intro L ax W hf hd
              simp [Region.binds] at hd
              have e35 : ax.tmps[35]?.getD undef = .pointer (some ⟨w.heap.size, 66, none⟩) := slv (hf.got 0 (by decide) (by simp [hd]))
              refine ⟨fun _ => ?_, fun h => absurd trivial h⟩
              have h1 := (hf.below.cell (p := ⟨w.heap.size, 66, none⟩) hzR).trans p4
              refine free_run (v := .slice (some ⟨bl, off, none⟩) c.votes.length oc) (W' := W) rfl ?_ rfl (Below.refl _ _)
              go_simp
            · intro L ax W hf hd
              try simp [Region.binds] at hd
              have e3 : ax.tmps[3]?.getD undef = .int .i64 (k : Int) := hf.out 3 (by decide) rfl
              refine ⟨fun _ => ?_, fun h => absurd trivial h⟩
              refine free_run (v := .int .i64 (k : Int)) (W' := W) rfl ?_ rfl (Below.refl _ _)
              go_simp
            · intro L ax W hf hd
              simp [Region.binds] at hd
              have e36 : ax.tmps[36]?.getD undef = .slice (some ⟨bl, off, none⟩) c.votes.length oc := slv (hf.got 1 (by decide) (by simp [hd]))
              have e37 : ax.tmps[37]?.getD undef = .int .i64 (k : Int) := slv (hf.got 2 (by decide) (by simp [hd]))
              refine ⟨fun _ => ?_, fun h => absurd trivial h⟩
              refine free_run (v := .pointer (some ⟨bl, off + k * 68, none⟩)) (W' := W) rfl ?_ rfl (Below.refl _ _)
              go_simp
            · intro L ax W hf hd
              simp [Region.binds] at hd
              have e38 : ax.tmps[38]?.getD undef = .pointer (some ⟨bl, off + k * 68, none⟩) := slv (hf.got 3 (by decide) (by simp [hd]))
              refine ⟨fun _ => ?_, fun h => absurd trivial h⟩
              have h1 := (row?_below _ _ _ hf.below hbs).trans hcx
              refine free_run (v := .agg (voteA ⟨vk.validator, g1s, g1t, g1g⟩)) (W' := W) rfl ?_ rfl (Below.refl _ _)
              go_simp
            · intro L ax W hf hd
              try simp [Region.binds] at hd
              have e1 : ax.tmps[1]?.getD undef = .pointer (some ⟨w.heap.size, 0, none⟩) := hf.out 1 (by decide) rfl
              refine ⟨fun _ => ?_, fun h => absurd trivial h⟩
              refine free_run (v := .pointer (some ⟨w.heap.size, 0, none⟩)) (W' := W) rfl ?_ rfl (Below.refl _ _)
              go_simp
            · intro L ax W hf hd
              simp [Region.binds] at hd
              have e40 : ax.tmps[40]?.getD undef = .pointer (some ⟨w.heap.size, 0, none⟩) := slv (hf.got 5 (by decide) (by simp [hd]))
              refine ⟨fun _ => ?_, fun h => absurd trivial h⟩
              have h1 := (row?_below _ 0 66 hf.below hzR).trans p3
              refine free_run (v := .agg (linkA c.link)) (W' := W) rfl ?_ rfl (Below.refl _ _)
              go_simp
            · intro L ax W hf hd
              simp [Region.binds] at hd
              have e39 : ax.tmps[39]?.getD undef = .agg (voteA ⟨vk.validator, g1s, g1t, g1g⟩) := slv (hf.got 4 (by decide) (by simp [hd]))
              have e41 : ax.tmps[41]?.getD undef = .agg (linkA c.link) := slv (hf.got 6 (by decide) (by simp [hd]))
              refine ⟨fun _ => ?_, fun h => absurd trivial h⟩
              refine free_call (f := 85) (args := #[.agg (voteA ⟨vk.validator, g1s, g1t, g1g⟩), .agg (linkA c.link)]) rfl (by go_simp) ?_
              refine (HOF W hf.below).mono ?_
              rintro e w' ⟨rfl, hb⟩
              exact ⟨_, rfl, rfl, hb⟩
            · intro L ax W hf hd
              simp [Region.binds] at hd
              have e42 : ax.tmps[42]?.getD undef = .bool true := slv (hf.got 7 (by decide) (by simp [hd]))
              refine ⟨fun _ => ?_, fun h => absurd trivial h⟩
              refine free_run (v := .bool false) (W' := W) rfl ?_ rfl (Below.refl _ _)
              go_simp
            · intro L ax W hf hd
              simp [Region.binds] at hd
              have e43 : ax.tmps[43]?.getD undef = .bool false := slv (hf.got 8 (by decide) (by simp [hd]))
              refine ⟨fun _ => ?_, fun h => absurd trivial h⟩
              refine free_run (v := .bool false) (W' := W) rfl ?_ rfl (Below.refl _ _)
              go_simp
            · intro L ax W hf hd
              simp [Region.binds] at hd
              have e3 : ax.tmps[3]?.getD undef = .int .i64 (k : Int) := hf.out 3 (by decide) rfl
              have g0 : sl ax 44 = .bool false := hf.got 9 (by decide) (by simp [hd])
              refine ⟨fun hh => ?_, fun hh => ?_⟩
              · first
                  | (exact absurd (g0.symm.trans hh) (undef_ne _))
                  | (exact absurd (g0.symm.trans hh) (bool_ne (by decide)))
                  | (exfalso; revert hh; simp [Held, g0, *]; done)
                  | (refine free_run (v := .int .i64 (k : Int)) (W' := W) rfl ?_ rfl (Below.refl _ _); go_simp)
              · first
                  | (exact absurd g0 hh)
                  | (exfalso; revert hh; simp [Held, g0, *]; done)
                  | (show undef = _; first | rfl | (simp [*]; done))
            · intro L ax W hf hd
              simp [Region.binds] at hd
              have e45 : ax.tmps[45]?.getD undef = .int .i64 (k : Int) := slv (hf.got 10 (by decide) (by simp [hd]))
              have g0 : sl ax 44 = .bool false := hf.got 9 (by decide) (by simp [hd])
              refine ⟨fun hh => ?_, fun hh => ?_⟩
              · first
                  | (exact absurd (g0.symm.trans hh) (undef_ne _))
                  | (exact absurd (g0.symm.trans hh) (bool_ne (by decide)))
                  | (exfalso; revert hh; simp [Held, g0, *]; done)
                  | (refine free_run (v := .bool true) (W' := W) rfl ?_ rfl (Below.refl _ _); go_simp)
              · first
                  | (exact absurd g0 hh)
                  | (exfalso; revert hh; simp [Held, g0, *]; done)
                  | (show undef = _; first | rfl | (simp [*]; done))
            · intro L ax W hf hd
              simp [Region.binds] at hd
              have e46 : ax.tmps[46]?.getD undef = .bool true := slv (hf.got 11 (by decide) (by simp [hd]))
              have g0 : sl ax 44 = .bool false := hf.got 9 (by decide) (by simp [hd])
              refine ⟨fun hh => ?_, fun hh => ?_⟩
              · first
                  | (exact absurd (g0.symm.trans hh) (undef_ne _))
                  | (exact absurd (g0.symm.trans hh) (bool_ne (by decide)))
                  | (exfalso; revert hh; simp [Held, g0, *]; done)
                  | (refine free_run (v := .bool true) (W' := W) rfl ?_ rfl (Below.refl _ _); go_simp)
              · first
                  | (exact absurd g0 hh)
                  | (exfalso; revert hh; simp [Held, g0, *]; done)
                  | (show undef = _; first | rfl | (simp [*]; done))
            · intro L ax W hf hd
              simp [Region.binds] at hd
              have e1 : ax.tmps[1]?.getD undef = .pointer (some ⟨w.heap.size, 0, none⟩) := hf.out 1 (by decide) rfl
              have g0 : sl ax 47 = .bool true := hf.got 12 (by decide) (by simp [hd])
              refine ⟨fun hh => ?_, fun hh => ?_⟩
              · first
                  | (exact absurd (g0.symm.trans hh) (undef_ne _))
                  | (exact absurd (g0.symm.trans hh) (bool_ne (by decide)))
                  | (exfalso; revert hh; simp [Held, g0, *]; done)
                  | (refine free_run (v := .pointer (some ⟨w.heap.size, 66, none⟩)) (W' := W) rfl ?_ rfl (Below.refl _ _); go_simp)
              · first
                  | (exact absurd g0 hh)
                  | (exfalso; revert hh; simp [Held, g0, *]; done)
                  | (show undef = _; first | rfl | (simp [*]; done))
            · intro L ax W hf hd
              simp [Region.binds] at hd
              have e48 : ax.tmps[48]?.getD undef = .pointer (some ⟨w.heap.size, 66, none⟩) := slv (hf.got 13 (by decide) (by simp [hd]))
              have g0 : sl ax 47 = .bool true := hf.got 12 (by decide) (by simp [hd])
              refine ⟨fun hh => ?_, fun hh => ?_⟩
              · first
                  | (exact absurd (g0.symm.trans hh) (undef_ne _))
                  | (exact absurd (g0.symm.trans hh) (bool_ne (by decide)))
                  | (exfalso; revert hh; simp [Held, g0, *]; done)
                  | ((have h1 := (hf.below.cell (p := ⟨w.heap.size, 66, none⟩) hzR).trans p4); refine free_run (v := .slice (some ⟨bl, off, none⟩) c.votes.length oc) (W' := W) rfl ?_ rfl (Below.refl _ _); go_simp)
              · first
                  | (exact absurd g0 hh)
                  | (exfalso; revert hh; simp [Held, g0, *]; done)
                  | (show undef = _; first | rfl | (simp [*]; done))
            · intro L ax W hf hd
              simp [Region.binds] at hd
              have e3 : ax.tmps[3]?.getD undef = .int .i64 (k : Int) := hf.out 3 (by decide) rfl
              have g0 : sl ax 47 = .bool true := hf.got 12 (by decide) (by simp [hd])
              refine ⟨fun hh => ?_, fun hh => ?_⟩
              · first
                  | (exact absurd (g0.symm.trans hh) (undef_ne _))
                  | (exact absurd (g0.symm.trans hh) (bool_ne (by decide)))
                  | (exfalso; revert hh; simp [Held, g0, *]; done)
                  | (refine free_run (v := .int .i64 (k : Int)) (W' := W) rfl ?_ rfl (Below.refl _ _); go_simp)
              · first
                  | (exact absurd g0 hh)
                  | (exfalso; revert hh; simp [Held, g0, *]; done)
                  | (show undef = _; first | rfl | (simp [*]; done))
            · intro L ax W hf hd
              simp [Region.binds] at hd
              have e49 : ax.tmps[49]?.getD undef = .slice (some ⟨bl, off, none⟩) c.votes.length oc := slv (hf.got 14 (by decide) (by simp [hd]))
              have e50 : ax.tmps[50]?.getD undef = .int .i64 (k : Int) := slv (hf.got 15 (by decide) (by simp [hd]))
              have g0 : sl ax 47 = .bool true := hf.got 12 (by decide) (by simp [hd])
              refine ⟨fun hh => ?_, fun hh => ?_⟩
              · first
                  | (exact absurd (g0.symm.trans hh) (undef_ne _))
                  | (exact absurd (g0.symm.trans hh) (bool_ne (by decide)))
                  | (exfalso; revert hh; simp [Held, g0, *]; done)
                  | (refine free_run (v := .pointer (some ⟨bl, off + k * 68, none⟩)) (W' := W) rfl ?_ rfl (Below.refl _ _); go_simp)
              · first
                  | (exact absurd g0 hh)
                  | (exfalso; revert hh; simp [Held, g0, *]; done)
                  | (show undef = _; first | rfl | (simp [*]; done))
            · intro L ax W hf hd
              simp [Region.binds] at hd
              have e51 : ax.tmps[51]?.getD undef = .pointer (some ⟨bl, off + k * 68, none⟩) := slv (hf.got 16 (by decide) (by simp [hd]))
              have g0 : sl ax 47 = .bool true := hf.got 12 (by decide) (by simp [hd])
              refine ⟨fun hh => ?_, fun hh => ?_⟩
              · first
                  | (exact absurd (g0.symm.trans hh) (undef_ne _))
                  | (exact absurd (g0.symm.trans hh) (bool_ne (by decide)))
                  | (exfalso; revert hh; simp [Held, g0, *]; done)
                  | (refine free_run (v := .pointer (some ⟨bl, off + k * 68, none⟩)) (W' := W) rfl ?_ rfl (Below.refl _ _); go_simp)
              · first
                  | (exact absurd g0 hh)
                  | (exfalso; revert hh; simp [Held, g0, *]; done)
                  | (show undef = _; first | rfl | (simp [*]; done))
            · intro L ax W hf hd
              simp [Region.binds] at hd
              have e52 : ax.tmps[52]?.getD undef = .pointer (some ⟨bl, off + k * 68, none⟩) := slv (hf.got 17 (by decide) (by simp [hd]))
              have g0 : sl ax 47 = .bool true := hf.got 12 (by decide) (by simp [hd])
              refine ⟨fun hh => ?_, fun hh => ?_⟩
              · first
                  | (exact absurd (g0.symm.trans hh) (undef_ne _))
                  | (exact absurd (g0.symm.trans hh) (bool_ne (by decide)))
                  | (exfalso; revert hh; simp [Held, g0, *]; done)
                  | ((have h1 := (hf.below.cell (p := ⟨bl, off + k * 68, none⟩) hbs).trans c0); refine free_run (v := .int .i64 vk.validator) (W' := W) rfl ?_ rfl (Below.refl _ _); go_simp)
              · first
                  | (exact absurd g0 hh)
                  | (exfalso; revert hh; simp [Held, g0, *]; done)
                  | (show undef = _; first | rfl | (simp [*]; done))
            · intro L ax W hf hd
              simp [Region.binds] at hd
              have e1 : ax.tmps[1]?.getD undef = .pointer (some ⟨w.heap.size, 0, none⟩) := hf.out 1 (by decide) rfl
              have g0 : sl ax 47 = .bool true := hf.got 12 (by decide) (by simp [hd])
              refine ⟨fun hh => ?_, fun hh => ?_⟩
              · first
                  | (exact absurd (g0.symm.trans hh) (undef_ne _))
                  | (exact absurd (g0.symm.trans hh) (bool_ne (by decide)))
                  | (exfalso; revert hh; simp [Held, g0, *]; done)
                  | (refine free_run (v := .pointer (some ⟨w.heap.size, 66, none⟩)) (W' := W) rfl ?_ rfl (Below.refl _ _); go_simp)
              · first
                  | (exact absurd g0 hh)
                  | (exfalso; revert hh; simp [Held, g0, *]; done)
                  | (show undef = _; first | rfl | (simp [*]; done))
            · intro L ax W hf hd
              simp [Region.binds] at hd
              have e54 : ax.tmps[54]?.getD undef = .pointer (some ⟨w.heap.size, 66, none⟩) := slv (hf.got 19 (by decide) (by simp [hd]))
              have g0 : sl ax 47 = .bool true := hf.got 12 (by decide) (by simp [hd])
              refine ⟨fun hh => ?_, fun hh => ?_⟩
              · first
                  | (exact absurd (g0.symm.trans hh) (undef_ne _))
                  | (exact absurd (g0.symm.trans hh) (bool_ne (by decide)))
                  | (exfalso; revert hh; simp [Held, g0, *]; done)
                  | ((have h1 := (hf.below.cell (p := ⟨w.heap.size, 66, none⟩) hzR).trans p4); refine free_run (v := .slice (some ⟨bl, off, none⟩) c.votes.length oc) (W' := W) rfl ?_ rfl (Below.refl _ _); go_simp)
              · first
                  | (exact absurd g0 hh)
                  | (exfalso; revert hh; simp [Held, g0, *]; done)
                  | (show undef = _; first | rfl | (simp [*]; done))
            · intro L ax W hf hd
              simp [Region.binds] at hd
              have e3 : ax.tmps[3]?.getD undef = .int .i64 (k : Int) := hf.out 3 (by decide) rfl
              have g0 : sl ax 47 = .bool true := hf.got 12 (by decide) (by simp [hd])
              refine ⟨fun hh => ?_, fun hh => ?_⟩
              · first
                  | (exact absurd (g0.symm.trans hh) (undef_ne _))
                  | (exact absurd (g0.symm.trans hh) (bool_ne (by decide)))
                  | (exfalso; revert hh; simp [Held, g0, *]; done)
                  | (refine free_run (v := .int .i64 (k : Int)) (W' := W) rfl ?_ rfl (Below.refl _ _); go_simp)
              · first
                  | (exact absurd g0 hh)
                  | (exfalso; revert hh; simp [Held, g0, *]; done)
                  | (show undef = _; first | rfl | (simp [*]; done))
            · intro L ax W hf hd
              simp [Region.binds] at hd
              have e56 : ax.tmps[56]?.getD undef = .int .i64 (k : Int) := slv (hf.got 21 (by decide) (by simp [hd]))
              have g0 : sl ax 47 = .bool true := hf.got 12 (by decide) (by simp [hd])
              refine ⟨fun hh => ?_, fun hh => ?_⟩
              · first
                  | (exact absurd (g0.symm.trans hh) (undef_ne _))
                  | (exact absurd (g0.symm.trans hh) (bool_ne (by decide)))
                  | (exfalso; revert hh; simp [Held, g0, *]; done)
                  | (refine free_run (v := .int .i64 ((k : Int) - 1)) (W' := W) rfl ?_ rfl (Below.refl _ _); go_simp)
              · first
                  | (exact absurd g0 hh)
                  | (exfalso; revert hh; simp [Held, g0, *]; done)
                  | (show undef = _; first | rfl | (simp [*]; done))
            · intro L ax W hf hd
              simp [Region.binds] at hd
              have e55 : ax.tmps[55]?.getD undef = .slice (some ⟨bl, off, none⟩) c.votes.length oc := slv (hf.got 20 (by decide) (by simp [hd]))
              have e57 : ax.tmps[57]?.getD undef = .int .i64 ((k : Int) - 1) := slv (hf.got 22 (by decide) (by simp [hd]))
              have g0 : sl ax 47 = .bool true := hf.got 12 (by decide) (by simp [hd])
              refine ⟨fun hh => ?_, fun hh => ?_⟩
              · first
                  | (exact absurd (g0.symm.trans hh) (undef_ne _))
                  | (exact absurd (g0.symm.trans hh) (bool_ne (by decide)))
                  | (exfalso; revert hh; simp [Held, g0, *]; done)
                  | (refine free_run (v := .pointer (some ⟨bl, off + (k - 1) * 68, none⟩)) (W' := W) rfl ?_ rfl (Below.refl _ _); go_simp)
              · first
                  | (exact absurd g0 hh)
                  | (exfalso; revert hh; simp [Held, g0, *]; done)
                  | (show undef = _; first | rfl | (simp [*]; done))
            · intro L ax W hf hd
              simp [Region.binds] at hd
              have e58 : ax.tmps[58]?.getD undef = .pointer (some ⟨bl, off + (k - 1) * 68, none⟩) := slv (hf.got 23 (by decide) (by simp [hd]))
              have g0 : sl ax 47 = .bool true := hf.got 12 (by decide) (by simp [hd])
              refine ⟨fun hh => ?_, fun hh => ?_⟩
              · first
                  | (exact absurd (g0.symm.trans hh) (undef_ne _))
                  | (exact absurd (g0.symm.trans hh) (bool_ne (by decide)))
                  | (exfalso; revert hh; simp [Held, g0, *]; done)
                  | (refine free_run (v := .pointer (some ⟨bl, off + (k - 1) * 68, none⟩)) (W' := W) rfl ?_ rfl (Below.refl _ _); go_simp)
              · first
                  | (exact absurd g0 hh)
                  | (exfalso; revert hh; simp [Held, g0, *]; done)
                  | (show undef = _; first | rfl | (simp [*]; done))
            · intro L ax W hf hd
              simp [Region.binds] at hd
              have e59 : ax.tmps[59]?.getD undef = .pointer (some ⟨bl, off + (k - 1) * 68, none⟩) := slv (hf.got 24 (by decide) (by simp [hd]))
              have g0 : sl ax 47 = .bool true := hf.got 12 (by decide) (by simp [hd])
              refine ⟨fun hh => ?_, fun hh => ?_⟩
              · first
                  | (exact absurd (g0.symm.trans hh) (undef_ne _))
                  | (exact absurd (g0.symm.trans hh) (bool_ne (by decide)))
                  | (exfalso; revert hh; simp [Held, g0, *]; done)
                  | ((have h1 := (hf.below.cell (p := ⟨bl, off + (k - 1) * 68, none⟩) hbs).trans c1); refine free_run (v := .int .i64 lv) (W' := W) rfl ?_ rfl (Below.refl _ _); go_simp)
              · first
                  | (exact absurd g0 hh)
                  | (exfalso; revert hh; simp [Held, g0, *]; done)
                  | (show undef = _; first | rfl | (simp [*]; done))
            · intro L ax W hf hd
              simp [Region.binds] at hd
              have e53 : ax.tmps[53]?.getD undef = .int .i64 vk.validator := slv (hf.got 18 (by decide) (by simp [hd]))
              have e60 : ax.tmps[60]?.getD undef = .int .i64 lv := slv (hf.got 25 (by decide) (by simp [hd]))
              have g0 : sl ax 47 = .bool true := hf.got 12 (by decide) (by simp [hd])
              refine ⟨fun hh => ?_, fun hh => ?_⟩
              · first
                  | (exact absurd (g0.symm.trans hh) (undef_ne _))
                  | (exact absurd (g0.symm.trans hh) (bool_ne (by decide)))
                  | (exfalso; revert hh; simp [Held, g0, *]; done)
                  | (refine free_run (v := .bool (decide (vk.validator ≤ lv))) (W' := W) rfl ?_ rfl (Below.refl _ _); go_simp)
              · first
                  | (exact absurd g0 hh)
                  | (exfalso; revert hh; simp [Held, g0, *]; done)
                  | (show undef = _; first | rfl | (simp [*]; done))
            · intro L ax W hf hd
              simp [Region.binds] at hd
              have e47 : ax.tmps[47]?.getD undef = .bool true := slv (hf.got 12 (by decide) (by simp [hd]))
              have e61 : ax.tmps[61]?.getD undef = .bool (decide (vk.validator ≤ lv)) := slv (hf.got 26 (by decide) (by simp [hd]))
              have g0 : sl ax 44 = .bool false := hf.got 9 (by decide) (by simp [hd])
              refine ⟨fun hh => ?_, fun hh => ?_⟩
              · first
                  | (exact absurd (g0.symm.trans hh) (undef_ne _))
                  | (exact absurd (g0.symm.trans hh) (bool_ne (by decide)))
                  | (exfalso; revert hh; simp [Held, g0, *]; done)
                  | (refine free_run (v := .bool (decide (vk.validator ≤ lv))) (W' := W) rfl ?_ rfl (Below.refl _ _); go_simp)
              · first
                  | (exact absurd g0 hh)
                  | (exfalso; revert hh; simp [Held, g0, *]; done)
                  | (show undef = _; first | rfl | (simp [*]; done))
            · intro L ax W hf hd
              simp [Region.binds] at hd
              have e44 : ax.tmps[44]?.getD undef = .bool false := slv (hf.got 9 (by decide) (by simp [hd]))
              have e62 : ax.tmps[62]?.getD undef = .bool (decide (vk.validator ≤ lv)) := slv (hf.got 27 (by decide) (by simp [hd]))
              refine ⟨fun _ => ?_, fun h => absurd trivial h⟩
              refine free_run (v := .bool (decide (vk.validator ≤ lv))) (W' := W) rfl ?_ rfl (Below.refl _ _)
              go_simp
          · intro vs W hl' hF hb
            obtain ⟨g', hg1, hg2⟩ := vs_lit vs hl' hF
            have e63 : g' 28 = .bool (decide (vk.validator ≤ lv)) := hg2 28 (by decide)
            rw [hg1]
            clear hF hg1 hg2 hl'
            have hB4 := Lib.hid (hB.trans (hb.mono hz))
            have hR5 := Lib.hid (HR4.out W hb)
            have hV5 := Lib.hid (HV4.out W hb)
            clear hb hB c0 c1 hcx p3 p4 HOF hR hV HR4 HV4 j0 j1 j2 j3 j4 j5 j6 d0
            by_cases hlt : lv < vk.validator
            · rw [show decide (vk.validator ≤ lv) = false from decide_eq_false (by omega)] at e63
              have Hd := Lib.hid (show decide (lv < vk.validator) = true from decide_eq_true hlt)
              clear hlt
              simp only [List.length_cons, List.length_nil, Nat.reduceAdd, show List.range 29 = [0, 1, 2, 3, 4, 5, 6, 7, 8, 9, 10, 11, 12, 13, 14, 15, 16, 17, 18, 19, 20, 21, 22, 23, 24, 25, 26, 27, 28] from rfl, List.map_cons, List.map_nil, putL, List.zip_cons_cons, List.zip_nil_right, List.setIfInBounds_toArray, List.set_cons_succ, List.set_cons_zero, e63]
              go_wp2_with fail
              go_roundw
              case rel => exact ⟨k + 1, by omega, by go_num, Lib.hid (by rw [Hat.out, Hm.out, Hd.out, hb.out]; rfl), hB4.out, hR5, hV5⟩
              case measure => (first | (simp [intOf]; done) | (simp [intOf]; omega))
            · rw [show decide (vk.validator ≤ lv) = true from decide_eq_true (by omega)] at e63
              have Hf := Lib.hid (show crtMay c = false by
                rw [HA.out, crtAll_false c.link c.votes (k + 1) (by rw [Hat.out, Hm.out, decide_eq_false hlt]; simp)])
              clear hlt
              simp only [List.length_cons, List.length_nil, Nat.reduceAdd, show List.range 29 = [0, 1, 2, 3, 4, 5, 6, 7, 8, 9, 10, 11, 12, 13, 14, 15, 16, 17, 18, 19, 20, 21, 22, 23, 24, 25, 26, 27, 28] from rfl, List.map_cons, List.map_nil, putL, List.zip_cons_cons, List.zip_nil_right, List.setIfInBounds_toArray, List.set_cons_succ, List.set_cons_zero, e63]
              go_wp2_with fail
              go_ret
              exact ⟨ret_bool Hf.out.symm, hB4.out⟩
    · have Hf := Lib.hid (show crtMay c = true by
        have h := hb.out
        rw [List.take_of_length_le (by omega)] at h
        rw [HA.out, h])
      go_wp2_with fail
      go_ret
      exact ⟨ret_bool Hf.out.symm, hB⟩
end Go.Proofs.Ytkocpihfdpahpaa

/- Contracts: cert.Same, landmarkref15.Same, Much. -/
namespace Go.Proofs.Ytkocpihfdpahpaa
open Go.RowKit

theorem crt_eq (a b : Crt) : decide (a = b) = (decide (a.link = b.link) && decide (a.votes = b.votes)) := by
  rw [Bool.eq_iff_iff]
  cases a; cases b
  simp
theorem eq_link_guard : Try.prog.eqGuardType Try.prog.depth 28 = false := by kernel_rfl
theorem two_rows (w : World) (g h : GCert) (t : TypeId) : RowC w.heap.size ((w.alloc (.cells (certA g) t)).alloc (.cells (certA h) t)) g ∧ RowC (w.heap.size + 1) ((w.alloc (.cells (certA g) t)).alloc (.cells (certA h) t)) h := by
  refine ⟨(RowC.new w g t).keep (bel_a _ _), ?_⟩
  have := RowC.new (w.alloc (.cells (certA g) t)) h t
  simpa using this

set_option maxRecDepth 100000 in
set_option maxHeartbeats 800000 in
theorem crtSame_c (g1 g2 : GCert) (c1 c2 : Crt) (w : World) (h1 : CertR w g1 c1) (h2 : CertR w g2 c2) (hx : c1.votes.length ≤ 9223372036854775807) (hl : ∀ v ∈ c1.votes, v.sig.length ≤ 9223372036854775807) :
    Calls Try.prog 19 #[.agg (certA g1), .agg (certA g2)] w fun e w' => e = .returned (.bool (decide (c1 = c2))) ∧ Below w.heap.size w w' := by
  have hg := eq_link_guard
  have HE := Lib.hid (show decide (c1 = c2) = (decide (g1.link = g2.link) && decide (c1.votes = c2.votes)) by rw [crt_eq, h1.1, h2.1])
  have hB0 : Below w.heap.size w ((w.alloc (.cells (certA g1) 31)).alloc (.cells (certA g2) 31)) := by (repeat' (first | (with_reducible exact Below.refl _ _) | (with_reducible assumption) | (with_reducible refine bel_trans (by assumption) ?_ ?_) | (with_reducible refine bel_grown (by assumption) ?_ ?_ ?_) | (with_reducible refine Below.alloc ?_ ?_ _) | (with_reducible refine Below.drew ?_) | (with_reducible refine below_drewN ?_ _) | (with_reducible refine Below.setCell ?_ ?_ _) | (with_reducible refine below_put ?_ ?_ _ _) | (with_reducible exact Nat.le_refl _) | omega | (with_reducible refine Nat.le_trans ?_ (Below.size (by assumption))) | (with_reducible refine Nat.le_trans ?_ (World.grownBy.size (by assumption))) | (simp only [World.size_alloc, World.size_setCell, World.size_drew, size_drewN]; omega) | (simp only [World.size_alloc, World.size_setCell, World.size_drew, size_drewN, size_put]; omega) | (intro k hk; simp [Value.ownBlock] at hk; done) | (intro k hk; simp [Value.ownBlock] at hk; omega) | (simp [size_drewN] at *; omega)))
  obtain ⟨hR1, hR2⟩ := two_rows w g1 g2 31
  have H1 := Lib.hid (VotesR.keep' h1.2 hB0)
  have H2 := Lib.hid (VotesR.keep' h2.2 hB0)
  have HV := fun W (hW1 : VotesR W g1.votes c1.votes) (hW2 : VotesR W g2.votes c2.votes) => eqVotes_c g1.votes g2.votes c1.votes c2.votes W hW1 hW2 hx hl
  clear h1 h2 hl hx
  go_enter Try.func19, Try.ntmps19
  go_upto_region 1 with fail
  generalize (w.alloc (.cells (certA g1) 31)).alloc (.cells (certA g2) 31) = w1 at *
  obtain ⟨_, _, p3, p4⟩ := hR1.parts
  obtain ⟨_, _, q3, q4⟩ := hR2.parts
  by_cases hlk : g1.link = g2.link
  · have hd := decide_eq_true hlk
    rw [hlk] at p3 HE
    clear hlk
    go_wp2_with fail
    (with_reducible refine (HV _ H1.out H2.out).mono ?_)
    rintro e w2 ⟨rfl, hb2⟩
    go_wp2_with fail
    go_ret
    exact ⟨ret_bool (by rw [HE.out]; simp), by (repeat' (first | (with_reducible exact Below.refl _ _) | (with_reducible assumption) | (with_reducible refine bel_trans (by assumption) ?_ ?_) | (with_reducible refine bel_grown (by assumption) ?_ ?_ ?_) | (with_reducible refine Below.alloc ?_ ?_ _) | (with_reducible refine Below.drew ?_) | (with_reducible refine below_drewN ?_ _) | (with_reducible refine Below.setCell ?_ ?_ _) | (with_reducible refine below_put ?_ ?_ _ _) | (with_reducible exact Nat.le_refl _) | omega | (with_reducible refine Nat.le_trans ?_ (Below.size (by assumption))) | (with_reducible refine Nat.le_trans ?_ (World.grownBy.size (by assumption))) | (simp only [World.size_alloc, World.size_setCell, World.size_drew, size_drewN]; omega) | (simp only [World.size_alloc, World.size_setCell, World.size_drew, size_drewN, size_put]; omega) | (intro k hk; simp [Value.ownBlock] at hk; done) | (intro k hk; simp [Value.ownBlock] at hk; omega) | (simp [size_drewN] at *; omega)))⟩
  · have hd := decide_eq_false hlk
    clear hlk
    go_wp2_with fail
    go_ret
    exact ⟨ret_bool (by rw [HE.out, hd, Bool.false_and]), hB0⟩

set_option maxRecDepth 100000 in
set_option maxHeartbeats 1600000 in
theorem rcrtSame_c (g1 g2 : GCert) (c1 c2 : Crt) (w : World) (h1 : CertR w g1 c1) (h2 : CertR w g2 c2) (hx : c1.votes.length ≤ 9223372036854775807) :
    Calls Try.prog 20 #[.agg (certA g1), .agg (certA g2)] w fun e w' => e = .returned (.bool (decide (c1 = c2))) ∧ Below w.heap.size w w' := by
  have hg := eq_link_guard
  have HE := Lib.hid (show decide (c1 = c2) = (decide (g1.link = g2.link) && decide (c1.votes = c2.votes)) by rw [crt_eq, h1.1, h2.1])
  have hB0 : Below w.heap.size w ((w.alloc (.cells (certA g1) 31)).alloc (.cells (certA g2) 31)) := by (repeat' (first | (with_reducible exact Below.refl _ _) | (with_reducible assumption) | (with_reducible refine bel_trans (by assumption) ?_ ?_) | (with_reducible refine bel_grown (by assumption) ?_ ?_ ?_) | (with_reducible refine Below.alloc ?_ ?_ _) | (with_reducible refine Below.drew ?_) | (with_reducible refine below_drewN ?_ _) | (with_reducible refine Below.setCell ?_ ?_ _) | (with_reducible refine below_put ?_ ?_ _ _) | (with_reducible exact Nat.le_refl _) | omega | (with_reducible refine Nat.le_trans ?_ (Below.size (by assumption))) | (with_reducible refine Nat.le_trans ?_ (World.grownBy.size (by assumption))) | (simp only [World.size_alloc, World.size_setCell, World.size_drew, size_drewN]; omega) | (simp only [World.size_alloc, World.size_setCell, World.size_drew, size_drewN, size_put]; omega) | (intro k hk; simp [Value.ownBlock] at hk; done) | (intro k hk; simp [Value.ownBlock] at hk; omega) | (simp [size_drewN] at *; omega)))
  obtain ⟨hR1, hR2⟩ := two_rows w g1 g2 31
  have H1 := Lib.hid (VotesR.keep' h1.2 hB0)
  have H2 := Lib.hid (VotesR.keep' h2.2 hB0)
  have n1 := h1.2.1
  have n2 := h2.2.1
  have hy2 := h2.2.2.1
  obtain ⟨l1, ⟨oa, on, oc⟩⟩ := g1
  obtain ⟨l2, ⟨pa, pn, pc⟩⟩ := g2
  simp only at n1 n2 HE hy2
  subst n1 n2
  clear h1 h2 hy2
  go_enter Try.func20, Try.ntmps20
  go_upto_region 1 with fail
  generalize (w.alloc (.cells (certA ⟨l1, ⟨oa, c1.votes.length, oc⟩⟩) 31)).alloc (.cells (certA ⟨l2, ⟨pa, c2.votes.length, pc⟩⟩) 31) = w1 at *
  obtain ⟨_, _, p3, p4⟩ := hR1.parts
  obtain ⟨_, _, q3, q4⟩ := hR2.parts
  dsimp only [Sl.v] at p3 p4 q3 q4
  by_cases hlk : l1 = l2
  case neg =>
    have hd := decide_eq_false hlk
    clear hlk
    go_wp2_with fail
    go_ret
    exact ⟨ret_bool (by rw [HE.out, hd, Bool.false_and]), hB0⟩
  subst hlk
  have hd : decide (l1 = l1) = true := decide_eq_true rfl
  by_cases hlen : c1.votes.length = c2.votes.length
  case neg =>
    have hb : ((c1.votes.length : Int) != (c2.votes.length : Int)) = true := by simp; omega
    have Hd := Lib.hid (show decide (c1.votes = c2.votes) = false from decide_eq_false (fun e => hlen (by rw [e])))
    clear hlen
    go_wp2_with fail
    go_ret
    exact ⟨ret_bool (by rw [HE.out, Hd.out, Bool.and_false]), hB0⟩
  have hb : ((c1.votes.length : Int) != (c2.votes.length : Int)) = false := by simp [hlen]
  have Hlen := Lib.hid hlen
  have HE2 := Lib.hid (show decide (c1 = c2) = decide (c1.votes = c2.votes) by rw [HE.out, hd, Bool.true_and])
  clear hlen HE
  have HR1 := Lib.hid hR1
  have HR2 := Lib.hid hR2
  have HB0 := Lib.hid hB0
  clear hR1 hR2 hB0
  go_wp2_with fail
  clear hd hb p3 p4 q3 q4
  go_loopw [5] (fun i W => ∃ k : Nat, k ≤ c1.votes.length ∧ i = .int .i64 k ∧ Hid (c1.votes.take k = c2.votes.take k) ∧ Hid (Below w1.heap.size w1 W)) (fun i _ => c1.votes.length - (intOf i).toNat)
  case atStart => exact ⟨0, Nat.zero_le _, rfl, Lib.hid (by simp), Lib.hid (Below.refl _ _)⟩
  case round =>
    obtain ⟨k, hk, rfl, htk, hB⟩ := hrel
    have i0 : (0 : Int) ≤ (k : Int) := by omega
    have hRa := HR1.out.keep hB.out
    have hRb := HR2.out.keep hB.out
    obtain ⟨_, _, _, p4⟩ := hRa.parts
    obtain ⟨_, _, _, q4⟩ := hRb.parts
    dsimp only [Sl.v] at p4 q4
    have hzA := hRa.2
    have hzB := hRb.2
    have HBw := Lib.hid (HB0.out.trans (hB.out.mono HB0.out.size))
    by_cases hkx : k < c1.votes.length
    · have hyk : k < c2.votes.length := by have := Hlen.out; omega
      obtain ⟨b, off, e, hbs, hc⟩ := (VotesR.keep' H1.out hB.out).at (by omega)
      have e1 := congrArg Sl.a e
      simp only at e1
      subst e1
      clear e
      obtain ⟨cs, hcx, g1, rfl, hv1⟩ := hc k hkx
      clear hc
      obtain ⟨b2, off2, e, hbs2, hc⟩ := (VotesR.keep' H2.out hB.out).at (by omega)
      have e1 := congrArg Sl.a e
      simp only at e1
      subst e1
      clear e
      obtain ⟨cs, hcy, g2, rfl, hv2⟩ := hc k hyk
      clear hc
      have i1 : (k : Int) < (c1.votes.length : Int) := by omega
      have i2 : (k : Int) < (c2.votes.length : Int) := by omega
      have hne := ne_of_atA c1.votes c2.votes k hkx hyk
      have hts := take_succ_eqA c1.votes c2.votes k hkx hyk htk.out
      generalize c1.votes[k] = xk at *
      generalize c2.votes[k] = yk at *
      have HS := fun W (hW : Below wr.heap.size wr W) => fsameVote_c g1 g2 xk yk W (hv1.keep' hW) (hv2.keep' hW)
      have Hne := Lib.hid hne
      have Hts := Lib.hid hts
      clear hne hts hv1 hv2 hRa hRb
      generalize hq : decide (xk = yk) = q at *
      replace hq := Lib.hid hq
      go_upto_region 6 with fail
      refine wp_region_freeG_l (fun W W' => Below W.heap.size W W') (by kernel_rfl) [27, 28, 29, 30, 31, 32, 33, 34, 35, 36, 37, 38]
        [Is (.pointer (some ⟨w.heap.size, 66, none⟩)), Is (.slice (some ⟨b, off, none⟩) c1.votes.length oc), Is (.int .i64 (k : Int)), Is (.pointer (some ⟨b, off + k * 68, none⟩)), Is (.agg (voteA g1)), Is (.pointer (some ⟨w.heap.size + 1, 66, none⟩)), Is (.slice (some ⟨b2, off2, none⟩) c2.votes.length pc), Is (.int .i64 (k : Int)), Is (.pointer (some ⟨b2, off2 + k * 68, none⟩)), Is (.agg (voteA g2)), Is (.bool q), Is (.bool (!q))]
        (by kernel_rfl) (fun W W' h hb => hb.trans (h.mono hb.size)) ?_ ?_ ?_
      · intro f hf
        simp only [List.mem_cons, List.not_mem_nil, or_false] at hf
        rcases hf with rfl | rfl | rfl | rfl | rfl | rfl | rfl | rfl | rfl | rfl | rfl | rfl <;> intro x W W' h hr <;> first | exact h
      · refine ⟨?_, ?_, ?_, ?_, ?_, ?_, ?_, ?_, ?_, ?_, ?_, ?_, trivial⟩
        · intro L ax W hf hd
          try simp [Region.binds] at hd
          have e2 : ax.tmps[2]?.getD undef = .pointer (some ⟨w.heap.size, 0, none⟩) := hf.out 2 (by decide) rfl
          refine ⟨fun _ => ?_, fun h => absurd trivial h⟩
          refine free_run (v := .pointer (some ⟨w.heap.size, 66, none⟩)) (W' := W) rfl ?_ rfl (Below.refl _ _)
          go_simp
        · intro L ax W hf hd
          simp [Region.binds] at hd
          have e27 : ax.tmps[27]?.getD undef = .pointer (some ⟨w.heap.size, 66, none⟩) := slv (hf.got 0 (by decide) (by simp [hd]))
          refine ⟨fun _ => ?_, fun h => absurd trivial h⟩
          have h1 := (hf.below.cell (p := ⟨w.heap.size, 66, none⟩) hzA).trans p4
          refine free_run (v := .slice (some ⟨b, off, none⟩) c1.votes.length oc) (W' := W) rfl ?_ rfl (Below.refl _ _)
          go_simp
        · intro L ax W hf hd
          try simp [Region.binds] at hd
          have e5 : ax.tmps[5]?.getD undef = .int .i64 (k : Int) := hf.out 5 (by decide) rfl
          refine ⟨fun _ => ?_, fun h => absurd trivial h⟩
          refine free_run (v := .int .i64 (k : Int)) (W' := W) rfl ?_ rfl (Below.refl _ _)
          go_simp
        · intro L ax W hf hd
          simp [Region.binds] at hd
          have e28 : ax.tmps[28]?.getD undef = .slice (some ⟨b, off, none⟩) c1.votes.length oc := slv (hf.got 1 (by decide) (by simp [hd]))
          have e29 : ax.tmps[29]?.getD undef = .int .i64 (k : Int) := slv (hf.got 2 (by decide) (by simp [hd]))
          refine ⟨fun _ => ?_, fun h => absurd trivial h⟩
          refine free_run (v := .pointer (some ⟨b, off + k * 68, none⟩)) (W' := W) rfl ?_ rfl (Below.refl _ _)
          go_simp
        · intro L ax W hf hd
          simp [Region.binds] at hd
          have e30 : ax.tmps[30]?.getD undef = .pointer (some ⟨b, off + k * 68, none⟩) := slv (hf.got 3 (by decide) (by simp [hd]))
          refine ⟨fun _ => ?_, fun h => absurd trivial h⟩
          have h1 := (row?_below _ _ _ hf.below hbs).trans hcx
          refine free_run (v := .agg (voteA g1)) (W' := W) rfl ?_ rfl (Below.refl _ _)
          go_simp
        · intro L ax W hf hd
          try simp [Region.binds] at hd
          have e3 : ax.tmps[3]?.getD undef = .pointer (some ⟨w.heap.size + 1, 0, none⟩) := hf.out 3 (by decide) rfl
          refine ⟨fun _ => ?_, fun h => absurd trivial h⟩
          refine free_run (v := .pointer (some ⟨w.heap.size + 1, 66, none⟩)) (W' := W) rfl ?_ rfl (Below.refl _ _)
          go_simp
        · intro L ax W hf hd
          simp [Region.binds] at hd
          have e32 : ax.tmps[32]?.getD undef = .pointer (some ⟨w.heap.size + 1, 66, none⟩) := slv (hf.got 5 (by decide) (by simp [hd]))
          refine ⟨fun _ => ?_, fun h => absurd trivial h⟩
          have h1 := (hf.below.cell (p := ⟨w.heap.size + 1, 66, none⟩) hzB).trans q4
          refine free_run (v := .slice (some ⟨b2, off2, none⟩) c2.votes.length pc) (W' := W) rfl ?_ rfl (Below.refl _ _)
          go_simp
        · intro L ax W hf hd
          try simp [Region.binds] at hd
          have e5 : ax.tmps[5]?.getD undef = .int .i64 (k : Int) := hf.out 5 (by decide) rfl
          refine ⟨fun _ => ?_, fun h => absurd trivial h⟩
          refine free_run (v := .int .i64 (k : Int)) (W' := W) rfl ?_ rfl (Below.refl _ _)
          go_simp
        · intro L ax W hf hd
          simp [Region.binds] at hd
          have e33 : ax.tmps[33]?.getD undef = .slice (some ⟨b2, off2, none⟩) c2.votes.length pc := slv (hf.got 6 (by decide) (by simp [hd]))
          have e34 : ax.tmps[34]?.getD undef = .int .i64 (k : Int) := slv (hf.got 7 (by decide) (by simp [hd]))
          refine ⟨fun _ => ?_, fun h => absurd trivial h⟩
          refine free_run (v := .pointer (some ⟨b2, off2 + k * 68, none⟩)) (W' := W) rfl ?_ rfl (Below.refl _ _)
          go_simp
        · intro L ax W hf hd
          simp [Region.binds] at hd
          have e35 : ax.tmps[35]?.getD undef = .pointer (some ⟨b2, off2 + k * 68, none⟩) := slv (hf.got 8 (by decide) (by simp [hd]))
          refine ⟨fun _ => ?_, fun h => absurd trivial h⟩
          have h1 := (row?_below _ _ _ hf.below hbs2).trans hcy
          refine free_run (v := .agg (voteA g2)) (W' := W) rfl ?_ rfl (Below.refl _ _)
          go_simp
        · intro L ax W hf hd
          simp [Region.binds] at hd
          have e31 : ax.tmps[31]?.getD undef = .agg (voteA g1) := slv (hf.got 4 (by decide) (by simp [hd]))
          have e36 : ax.tmps[36]?.getD undef = .agg (voteA g2) := slv (hf.got 9 (by decide) (by simp [hd]))
          refine ⟨fun _ => ?_, fun h => absurd trivial h⟩
          refine free_call (f := 83) (args := #[.agg (voteA g1), .agg (voteA g2)]) rfl (by go_simp) ?_
          refine (HS W hf.below).mono ?_
          rintro e w' ⟨rfl, hb⟩
          exact ⟨_, rfl, rfl, hb⟩
        · intro L ax W hf hd
          simp [Region.binds] at hd
          have e37 : ax.tmps[37]?.getD undef = .bool q := slv (hf.got 10 (by decide) (by simp [hd]))
          refine ⟨fun _ => ?_, fun h => absurd trivial h⟩
          refine free_run (v := .bool (!q)) (W' := W) rfl ?_ rfl (Below.refl _ _)
          go_simp
      · intro vs W hl' hF hb
        obtain ⟨g', hg1, hg2⟩ := vs_lit vs hl' hF
        have e38 : g' 11 = .bool (!q) := hg2 11 (by decide)
        rw [hg1]
        clear hF hg1 hg2 hl'
        have hB4 := Lib.hid (hB.out.trans (hb.mono hB.out.size))
        clear hb hB p4 q4 hcx hcy HS
        simp only [List.length_cons, List.length_nil, Nat.reduceAdd, show List.range 12 = [0, 1, 2, 3, 4, 5, 6, 7, 8, 9, 10, 11] from rfl, List.map_cons, List.map_nil, putL, List.zip_cons_cons, List.zip_nil_right, List.setIfInBounds_toArray, List.set_cons_succ, List.set_cons_zero, e38]
        cases q
        · have Hf := Lib.hid (show decide (c1 = c2) = false by rw [HE2.out]; exact decide_eq_false (Hne.out (of_decide_eq_false hq.out)))
          go_wp2_with fail
          go_ret
          exact ⟨ret_bool Hf.out.symm, HB0.out.trans (hB4.out.mono HB0.out.size)⟩
        · have Ht := Lib.hid (Hts.out (of_decide_eq_true hq.out))
          go_wp2_with fail
          go_roundw
          case rel => exact ⟨k + 1, by omega, by go_num, Ht, hB4⟩
          case measure => (first | (simp [intOf]; done) | (simp [intOf]; omega))
    · have Hf := Lib.hid (show decide (c1 = c2) = true by
        rw [HE2.out]
        have h1 := htk.out
        have h2 := Hlen.out
        rw [List.take_of_length_le (by omega), List.take_of_length_le (by omega)] at h1
        exact decide_eq_true h1)
      go_wp2_with fail
      go_ret
      exact ⟨ret_bool Hf.out.symm, HBw.out⟩
end Go.Proofs.Ytkocpihfdpahpaa

/- Contracts: landmarkref15.Much, landmarklaw15.num, known, cert.Quorum. -/
namespace Go.Proofs.Ytkocpihfdpahpaa
open Go.RowKit

theorem quorum_any (x y : Nat) (w : World) (h0 : x < 18446744073709551616) (h1 : y < 18446744073709551616) :
    Calls Try.prog 78 #[.int .u64 x, .int .u64 y] w fun e w' => e = .returned (.bool (decide (2 * y ≤ 3 * x))) ∧ w = w' := by
  go_enter Try.func78, Try.ntmps78
  go_wp2_with fail
  refine (Try.bits_Mul64 x 3 h0 (by decide) _).mono ?_
  rintro e w' ⟨rfl, hw⟩
  subst hw
  go_wp2_with fail
  refine (Try.bits_Mul64 y 2 h1 (by decide) _).mono ?_
  rintro e w' ⟨rfl, hw⟩
  subst hw
  go_wp2_with fail
  all_goals go_ret
  all_goals refine ⟨ret_bool ?_, rfl⟩
  all_goals first | (rw [decide_eq_decide]; omega) | (symm; simp only [decide_eq_true_eq, decide_eq_false_iff_not]; omega)
theorem known15_c (w : World) : Calls Try.prog 17 #[] w fun e w' => e = .returned (.bool true) ∧ w = w' := by
  go_enter Try.func17, Try.ntmps17
  go_wp2_with fail
  refine (quorum_any 2 3 _ (by decide) (by decide)).mono ?_
  rintro e w' ⟨rfl, rfl⟩
  go_wp2_with fail
  refine (quorum_any 1 2 _ (by decide) (by decide)).mono ?_
  rintro e w' ⟨rfl, rfl⟩
  go_wp2_with fail
  refine (quorum_any 0 0 _ (by decide) (by decide)).mono ?_
  rintro e w' ⟨rfl, rfl⟩
  go_wp2_with fail
  go_ret
  exact ⟨by simp, rfl⟩
theorem num15_c (n : Int) (w : World) : Calls Try.prog 22 #[.int .i64 n] w fun e w' => e = .returned (.int .i64 n) ∧ w = w' := by
  go_enter Try.func22, Try.ntmps22
  go_wp2_with fail
  go_ret
  exact ⟨rfl, rfl⟩

/-- how much of votes is gone through -/
def sigC (l : List Vote) : Nat := (l.map fun v => min v.sig.length 400001).sum
def crtMuch (l : List Vote) : Bool := decide (200 < l.length) || decide (400000 < sigC l)
theorem sigC_succ (l : List Vote) (k : Nat) (h : k < l.length) : sigC (l.take (k + 1)) = sigC (l.take k) + min l[k].sig.length 400001 := by
  rw [sigC, List.take_succ_eq_append_getElem h, List.map_append, List.sum_append]
  simp [sigC]
theorem sigC_le (l : List Vote) : sigC l ≤ l.length * 400001 := by
  induction l with
  | nil => simp [sigC]
  | cons v l ih =>
    have : sigC (v :: l) = min v.sig.length 400001 + sigC l := by simp [sigC]
    rw [this, List.length_cons]
    omega
theorem sigC_mem {l : List Vote} {v : Vote} (h : v ∈ l) : min v.sig.length 400001 ≤ sigC l := by
  induction l with
  | nil => cases h
  | cons u l ih =>
    have h1 : sigC (u :: l) = min u.sig.length 400001 + sigC l := by simp [sigC]
    rcases List.mem_cons.1 h with rfl | h
    · omega
    · have := ih h
      omega
theorem crtMuch_out {l : List Vote} (h : crtMuch l = false) : l.length ≤ 200 ∧ ∀ v ∈ l, v.sig.length ≤ 400000 := by
  simp only [crtMuch, Bool.or_eq_false_iff, decide_eq_false_iff_not] at h
  refine ⟨by omega, fun v hv => ?_⟩
  have := sigC_mem hv
  omega
set_option maxRecDepth 100000 in
set_option maxHeartbeats 1600000 in
theorem rmuch_c (s : Sl) (l : List Vote) (w : World) (hs : VotesR w s l) :
    Calls Try.prog 16 #[s.v] w fun e w' => e = .returned (.bool (crtMuch l)) ∧ w = w' := by
  obtain ⟨sa, sn, sc⟩ := s
  obtain rfl : sn = l.length := hs.1
  have Hs := Lib.hid hs
  have HM := Lib.hid (show crtMuch l = (decide (200 < l.length) || decide (400000 < sigC l)) from rfl)
  clear hs
  show Calls Try.prog 16 #[.slice sa l.length sc] w _
  by_cases h0 : 200 < l.length
  · have d0 : decide ((200 : Int) < (l.length : Int)) = true := decide_eq_true (by omega)
    have Hf := Lib.hid (show crtMuch l = true by rw [HM.out, decide_eq_true h0]; rfl)
    go_enter Try.func16, Try.ntmps16
    go_wp2_with fail
    go_ret
    exact ⟨ret_bool Hf.out.symm, rfl⟩
  have d0 : decide ((200 : Int) < (l.length : Int)) = false := decide_eq_false (by omega)
  have h0' : l.length ≤ 200 := by omega
  have HM2 := Lib.hid (show crtMuch l = decide ((400000 : Int) < (sigC l : Int)) by
    rw [HM.out, decide_eq_false h0, Bool.false_or, decide_eq_decide]
    omega)
  clear h0 HM
  go_enter Try.func16, Try.ntmps16
  go_wp2_with fail
  go_loop [3, 4] (fun n i => ∃ k : Nat, k ≤ l.length ∧ n = .int .i64 ((sigC (l.take k) : Nat) : Int) ∧ i = .int .i64 k) (fun _ i => l.length - (intOf i).toNat)
  case atStart => exact ⟨0, Nat.zero_le _, rfl, rfl⟩
  case round =>
    obtain ⟨k, hk, rfl, rfl⟩ := hrel
    have i0 : (0 : Int) ≤ (k : Int) := by omega
    have hml := sigC_le (l.take k)
    rw [List.length_take] at hml
    have hml' : sigC (l.take k) ≤ 80000200 := by
      have : min k l.length ≤ 200 := by omega
      omega
    clear hml
    by_cases hkx : k < l.length
    · obtain ⟨bl, off, e, hbs, hc⟩ := Hs.out.at (by omega)
      have e1 := congrArg Sl.a e
      simp only at e1
      subst e1
      clear e
      obtain ⟨cs, hcx, g1, rfl, hv1⟩ := hc k hkx
      clear hc
      have hms := sigC_succ l k hkx
      generalize l[k] = vk at *
      have c67 := cell_of_row? hcx 67 (by omega)
      rw [voteA_sig] at c67
      have n3 := hv1.2.2.2.1
      obtain ⟨gv2, gs2, gt2, ⟨ga, gn, gc⟩⟩ := g1
      simp only at n3 c67
      subst n3
      dsimp only [Sl.v] at c67
      have Hms := Lib.hid hms
      clear hms hcx hv1
      have i1 : (k : Int) < (l.length : Int) := by omega
      go_wp2_with fail
      go_round
      case rel => exact ⟨k + 1, by omega, congrArg (Value.int .i64) (by rw [Hms.out]; omega), by go_num⟩
      case measure => simp [intOf]; omega
    · have hkl : l.take k = l := List.take_of_length_le (by omega)
      rw [hkl] at hml' ⊢
      go_wp2_with fail
      go_ret
      exact ⟨ret_bool (by rw [HM2.out]), rfl⟩
end Go.Proofs.Ytkocpihfdpahpaa

/- Contracts: cert.bytes, Bytes, landmarkref15.Bytes. -/
namespace Go.Proofs.Ytkocpihfdpahpaa
open Go.RowKit

theorem vblob_len {v : Vote} (h : voteMay v = true) : (vblob v).length ≤ 4181 := by
  have := voteMay_len h
  rw [vblob_length]
  omega
theorem vblobs_take {c : Crt} (h : c.votes.all voteMay = true) (k : Nat) : (((c.votes.take k).map vblob).flatten).length ≤ c.votes.length * 4181 := by
  have h1 := vblobs_len (c.votes.take k) (all_take k h)
  have h2 : (c.votes.take k).length ≤ c.votes.length := List.length_take_le' _ _
  exact Nat.le_trans h1 (Nat.mul_le_mul_right 4181 h2)

set_option maxRecDepth 100000 in
set_option maxHeartbeats 1600000 in
theorem crtBytes_c (g : GCert) (c : Crt) (w : World) (hr : CertR w g c) (hm : crtMay c = true) :
    Calls Try.prog 80 #[.agg (certA g)] w fun e w' => ∃ v, e = .returned v ∧ Own w' w.heap.size v (crtBytes c) ∧ Below w.heap.size w w' := by
  obtain ⟨i0, hi, hy0, hy1, hy2⟩ := info_parts info_u8
  obtain ⟨m1, m2, m3, m4, m5⟩ := crtMay_out hm
  have n1 := hr.2.1
  have hE := hr.1
  obtain ⟨gl, ⟨oa, on, oc⟩⟩ := g
  simp only at n1 hE
  subst n1 hE
  have HPs := fun W => pbytes_yes c.link.source m1 W
  have HPt := fun W => pbytes_yes c.link.target m2 W
  have Hr := Lib.hid hr.2
  have hR0 := RowC.new w ⟨c.link, ⟨oa, c.votes.length, oc⟩⟩ 31
  have hB0 : Below w.heap.size w (w.alloc (.cells (certA ⟨c.link, ⟨oa, c.votes.length, oc⟩⟩) 31)) := bel_a _ _
  have hw : IntKind.u8.wrap (c.votes.length : Int) = c.votes.length := IntWalk.u8_in _ (by omega)
  have hnb : byteV (UInt8.ofNat c.votes.length) = .int .u8 (c.votes.length : Int) := by
    rw [byteV_of, Nat.mod_eq_of_lt (by omega)]
  have Hnb := Lib.hid hnb
  have Hm5 := Lib.hid m5
  clear hr hm m1 m2 m5 hnb
  go_enter Try.func80, Try.ntmps80
  go_upto_region 1 with fail
  generalize w.alloc (.cells (certA ⟨c.link, ⟨oa, c.votes.length, oc⟩⟩) 31) = w1 at *
  obtain ⟨p1, p2, p3, p4⟩ := hR0.parts
  dsimp only [Sl.v] at p4
  go_wp2_with fail
  refine (HPs _).mono ?_
  rintro e w2 ⟨s1, rfl, o1, hb2⟩
  have hB2 : Below w.heap.size w w2 := hB0.trans (hb2.mono hB0.size)
  have hR2 := hR0.keep hb2
  obtain ⟨q1, q2, q3, q4⟩ := hR2.parts
  dsimp only [Sl.v] at q4
  clear p1 p2 p3 p4 hB0 hR0 hb2 HPs
  go_wp2_with fail
  refine (HPt _).mono ?_
  rintro e w3 ⟨s2, rfl, o2, hb3⟩
  have hB3 : Below w.heap.size w w3 := hB2.trans (hb3.mono hB2.size)
  have hR3 := hR2.keep hb3
  obtain ⟨p1, p2, p3, p4⟩ := hR3.parts
  dsimp only [Sl.v] at p4
  have o1 := o1.keep hb3
  have hz3 := hB3.size
  have hbw : Below w3.heap.size w3 (w3.alloc (.cells #[.int .u8 (c.votes.length : Int)] 5)) := bel_a _ _
  have HJ := join3 32 s1 s2 ⟨some ⟨w3.heap.size, 0, none⟩, 1, 1⟩ (ptBytes c.link.source) (ptBytes c.link.target) [UInt8.ofNat c.votes.length] (w3.alloc (.cells #[.int .u8 (c.votes.length : Int)] 5))
    (o1.keep hbw) (o2.keep hbw) (BytesR.one _ _ _ _ _ rfl Hnb.out) (by rw [ptBytes_length]; omega) (by simp [ptBytes_length])
  simp only [World.size_alloc] at HJ
  have HJ := Lib.hid HJ
  have hR4 := Lib.hid hR3
  clear p1 p2 p3 q1 q2 q3 q4 hR2 hB2 hb3 o1 o2 HPt hbw hR3
  go_wp2_with fail
  (with_reducible refine HJ.out.mono ?_)
  rintro e w4 ⟨v, rfl, ho, hb4⟩
  have hb34 : Below w3.heap.size w3 w4 := ((bel_a w3 (.cells #[.int .u8 (c.votes.length : Int)] 5)).trans (hb4.mono (Nat.le_succ _)))
  have hR5 := hR4.out.keep hb34
  obtain ⟨p1, p2, p3, p4⟩ := hR5.parts
  dsimp only [Sl.v] at p4
  have hB4 : Below w.heap.size w w4 := hB3.trans (hb34.mono hz3)
  have Ho := Lib.hid (show Own w4 w.heap.size v (crtFront c) from ho.more (by omega))
  have HB4 := Lib.hid hB4
  clear HJ hR4 hb4 hb34 ho p1 p2 p3 hR5 hB4 hB3
  go_wp2_with fail
  clear p4
  go_loopw [7, 10, 11, 38] (fun u _ _ i w' => ∃ k : Nat, k ≤ c.votes.length ∧ Own w' w.heap.size u (crtFront c ++ ((c.votes.take k).map vblob).flatten) ∧ i = .int .i64 k ∧ Below w.heap.size w w') (fun _ _ _ i _ => c.votes.length - (intOf i).toNat)
  case atStart => exact ⟨0, Nat.zero_le _, by simpa using Ho.out, rfl, HB4.out⟩
  case round =>
    clear Ho HB4
    obtain ⟨k, hk, hown, rfl, hB⟩ := hrel
    have hz := hB.size
    by_cases hkx : k < c.votes.length
    · obtain ⟨b, off, e, hbs, hc⟩ := (VotesR.keep' Hr.out hB).at (by omega)
      have e1 := congrArg Sl.a e
      simp only at e1
      subst e1
      clear e
      obtain ⟨cs, hcx, g1, rfl, hv1⟩ := hc k hkx
      clear hc
      have hvm := List.all_eq_true.1 Hm5.out c.votes[k] (List.getElem_mem _)
      have hfl := vblobs_succ c.votes k hkx
      have hlen := vblobs_take Hm5.out k
      have hvl := vblob_len hvm
      have hvl2 := voteMay_len hvm
      have hhd := crtFront_length c
      generalize c.votes[k] = vk at *
      have i0' : (0 : Int) ≤ (k : Int) := by omega
      have i1 : (k : Int) < (c.votes.length : Int) := by omega
      have n1 : b ≠ wr.heap.size := by omega
      have hfit : (crtFront c ++ ((c.votes.take k).map vblob).flatten).length + (vblob vk).length ≤ 140737488355328 := by
        simp only [List.length_append]
        omega
      have hvl2 : (vtBytes vk).length ≤ 65535 := by omega
      have HVB := fun W (hW : VoteR W g1 vk) => voteBytes_c g1 vk W hW
      rw [hvm] at HVB
      have Hfl := Lib.hid hfl
      have Hv1 := Lib.hid hv1
      have Hown := Lib.hid hown
      generalize hpre : ((c.votes.take k).map vblob).flatten = pre at *
      clear hpre hfl hv1 hlen hvm hvl hown hhd
      go_wp2_with fail
      (with_reducible refine (HVB _ (VoteR.keep' Hv1.out (by (repeat' (first | (with_reducible exact Below.refl _ _) | (with_reducible assumption) | (with_reducible refine bel_trans (by assumption) ?_ ?_) | (with_reducible refine bel_grown (by assumption) ?_ ?_ ?_) | (with_reducible refine Below.alloc ?_ ?_ _) | (with_reducible refine Below.drew ?_) | (with_reducible refine below_drewN ?_ _) | (with_reducible refine Below.setCell ?_ ?_ _) | (with_reducible refine below_put ?_ ?_ _ _) | (with_reducible exact Nat.le_refl _) | omega | (with_reducible refine Nat.le_trans ?_ (Below.size (by assumption))) | (with_reducible refine Nat.le_trans ?_ (World.grownBy.size (by assumption))) | (simp only [World.size_alloc, World.size_setCell, World.size_drew, size_drewN]; omega) | (simp only [World.size_alloc, World.size_setCell, World.size_drew, size_drewN, size_put]; omega) | (intro k hk; simp [Value.ownBlock] at hk; done) | (intro k hk; simp [Value.ownBlock] at hk; omega) | (simp [size_drewN] at *; omega)))))).mono ?_)
      rintro e w5 ⟨s5, rfl, o5, b5⟩
      have hBr : Below wr.heap.size wr w5 := bel_trans b5 (by (repeat' (first | (with_reducible exact Below.refl _ _) | (with_reducible assumption) | (with_reducible refine bel_trans (by assumption) ?_ ?_) | (with_reducible refine bel_grown (by assumption) ?_ ?_ ?_) | (with_reducible refine Below.alloc ?_ ?_ _) | (with_reducible refine Below.drew ?_) | (with_reducible refine below_drewN ?_ _) | (with_reducible refine Below.setCell ?_ ?_ _) | (with_reducible refine below_put ?_ ?_ _ _) | (with_reducible exact Nat.le_refl _) | omega | (with_reducible refine Nat.le_trans ?_ (Below.size (by assumption))) | (with_reducible refine Nat.le_trans ?_ (World.grownBy.size (by assumption))) | (simp only [World.size_alloc, World.size_setCell, World.size_drew, size_drewN]; omega) | (simp only [World.size_alloc, World.size_setCell, World.size_drew, size_drewN, size_put]; omega) | (intro k hk; simp [Value.ownBlock] at hk; done) | (intro k hk; simp [Value.ownBlock] at hk; omega) | (simp [size_drewN] at *; omega)))) (by simp [size_put])
      have o5 : BytesR w5 s5 (vtBytes vk) := o5
      clear b5 HVB
      go_wp2_with fail
      (with_reducible refine (blob_c s5 (vtBytes vk) _ o5 hvl2).mono ?_)
      rintro e w6 ⟨x, rfl, o6, b6⟩
      obtain ⟨s6, rfl⟩ := o6.slice
      have hBx : Below wr.heap.size wr w6 := hBr.trans (b6.mono hBr.size)
      have hown := Hown.out.keep hBx
      have hB2 : Below w.heap.size w w6 := hB.trans (hBx.mono hz)
      have hzB := hB2.size
      have o6 : BytesR w6 s6 (vblob vk) := o6.reads
      clear b6 o5 hBr
      go_wp2_with (at_builtin; refine wpList_append_bytes _ rfl (.tmp 52) (.tmp 53) _ (by rfl) w.heap.size 5 i0 _ Try.underlying32 hi hy0 hy1 hy2 rfl _ _ rfl hown s6 (vblob vk) rfl o6 hfit hzB ?_; intro v3 w7 o3 g3 e3)
      have hB3 : Below w.heap.size w w7 := bel_grown g3 hB2 hzB (fun k hk => (hown.lt k hk).1)
      go_roundw
      case rel => exact ⟨k + 1, by omega, by rw [Hfl.out]; simpa using o3, by go_num, hB3⟩
      case measure => simp [intOf]; omega
    · have hfl : (c.votes.take k) = c.votes := List.take_of_length_le (by omega)
      rw [hfl] at hown
      have Hown := Lib.hid hown
      clear hfl hown
      go_wp2_with fail
      go_ret
      exact ⟨_, rfl, Hown.out, hB⟩

theorem cBytes_c (g : GCert) (c : Crt) (w : World) (hr : CertR w g c) (hl : c.votes.length ≤ 9223372036854775807) :
    Calls Try.prog 18 #[.agg (certA g)] w fun e w' => ∃ s : Sl, e = toldV s (crtMay c) ∧ BytesR w' s (orNo (crtMay c) (crtBytes c)) ∧ Below w.heap.size w w' := by
  have HM := fun W hW => crtMay_c g c W hW hl
  have Hr := Lib.hid hr
  clear hr
  cases hm : crtMay c
  · rw [hm] at HM
    clear hm
    go_enter Try.func18, Try.ntmps18
    go_wp2_with fail
    refine (HM _ (CertR.keep Hr.out (by (repeat' (first | (with_reducible exact Below.refl _ _) | (with_reducible assumption) | (with_reducible refine bel_trans (by assumption) ?_ ?_) | (with_reducible refine bel_grown (by assumption) ?_ ?_ ?_) | (with_reducible refine Below.alloc ?_ ?_ _) | (with_reducible refine Below.drew ?_) | (with_reducible refine below_drewN ?_ _) | (with_reducible refine Below.setCell ?_ ?_ _) | (with_reducible refine below_put ?_ ?_ _ _) | (with_reducible exact Nat.le_refl _) | omega | (with_reducible refine Nat.le_trans ?_ (Below.size (by assumption))) | (with_reducible refine Nat.le_trans ?_ (World.grownBy.size (by assumption))) | (simp only [World.size_alloc, World.size_setCell, World.size_drew, size_drewN]; omega) | (simp only [World.size_alloc, World.size_setCell, World.size_drew, size_drewN, size_put]; omega) | (intro k hk; simp [Value.ownBlock] at hk; done) | (intro k hk; simp [Value.ownBlock] at hk; omega) | (simp [size_drewN] at *; omega)))))).mono ?_
    clear HM
    rintro e w1 ⟨rfl, hb⟩
    go_wp2_with fail
    go_ret2
    exact ⟨⟨none, 0, 0⟩, rfl, BytesR.nil _ _ _, by (repeat' (first | (with_reducible exact Below.refl _ _) | (with_reducible assumption) | (with_reducible refine bel_trans (by assumption) ?_ ?_) | (with_reducible refine bel_grown (by assumption) ?_ ?_ ?_) | (with_reducible refine Below.alloc ?_ ?_ _) | (with_reducible refine Below.drew ?_) | (with_reducible refine below_drewN ?_ _) | (with_reducible refine Below.setCell ?_ ?_ _) | (with_reducible refine below_put ?_ ?_ _ _) | (with_reducible exact Nat.le_refl _) | omega | (with_reducible refine Nat.le_trans ?_ (Below.size (by assumption))) | (with_reducible refine Nat.le_trans ?_ (World.grownBy.size (by assumption))) | (simp only [World.size_alloc, World.size_setCell, World.size_drew, size_drewN]; omega) | (simp only [World.size_alloc, World.size_setCell, World.size_drew, size_drewN, size_put]; omega) | (intro k hk; simp [Value.ownBlock] at hk; done) | (intro k hk; simp [Value.ownBlock] at hk; omega) | (simp [size_drewN] at *; omega)))⟩
  · rw [hm] at HM
    have Hm := Lib.hid hm
    clear hm
    go_enter Try.func18, Try.ntmps18
    go_wp2_with fail
    refine (HM _ (CertR.keep Hr.out (by (repeat' (first | (with_reducible exact Below.refl _ _) | (with_reducible assumption) | (with_reducible refine bel_trans (by assumption) ?_ ?_) | (with_reducible refine bel_grown (by assumption) ?_ ?_ ?_) | (with_reducible refine Below.alloc ?_ ?_ _) | (with_reducible refine Below.drew ?_) | (with_reducible refine below_drewN ?_ _) | (with_reducible refine Below.setCell ?_ ?_ _) | (with_reducible refine below_put ?_ ?_ _ _) | (with_reducible exact Nat.le_refl _) | omega | (with_reducible refine Nat.le_trans ?_ (Below.size (by assumption))) | (with_reducible refine Nat.le_trans ?_ (World.grownBy.size (by assumption))) | (simp only [World.size_alloc, World.size_setCell, World.size_drew, size_drewN]; omega) | (simp only [World.size_alloc, World.size_setCell, World.size_drew, size_drewN, size_put]; omega) | (intro k hk; simp [Value.ownBlock] at hk; done) | (intro k hk; simp [Value.ownBlock] at hk; omega) | (simp [size_drewN] at *; omega)))))).mono ?_
    clear HM
    rintro e w1 ⟨rfl, hb⟩
    obtain ⟨k1, k2, k3⟩ := kept hb
    have hz : w.heap.size < w1.heap.size := by (have := hb.size; (try simp at this); omega)
    go_wp2_with fail
    refine (crtBytes_c g c _ (CertR.keep Hr.out (by (repeat' (first | (with_reducible exact Below.refl _ _) | (with_reducible assumption) | (with_reducible refine bel_trans (by assumption) ?_ ?_) | (with_reducible refine bel_grown (by assumption) ?_ ?_ ?_) | (with_reducible refine Below.alloc ?_ ?_ _) | (with_reducible refine Below.drew ?_) | (with_reducible refine below_drewN ?_ _) | (with_reducible refine Below.setCell ?_ ?_ _) | (with_reducible refine below_put ?_ ?_ _ _) | (with_reducible exact Nat.le_refl _) | omega | (with_reducible refine Nat.le_trans ?_ (Below.size (by assumption))) | (with_reducible refine Nat.le_trans ?_ (World.grownBy.size (by assumption))) | (simp only [World.size_alloc, World.size_setCell, World.size_drew, size_drewN]; omega) | (simp only [World.size_alloc, World.size_setCell, World.size_drew, size_drewN, size_put]; omega) | (intro k hk; simp [Value.ownBlock] at hk; done) | (intro k hk; simp [Value.ownBlock] at hk; omega) | (simp [size_drewN] at *; omega))))) Hm.out).mono ?_
    rintro e w2 ⟨x, rfl, ho, hb2⟩
    obtain ⟨s, rfl⟩ := ho.slice
    go_wp2_with fail
    go_ret2
    exact ⟨s, rfl, ho.reads, by (repeat' (first | (with_reducible exact Below.refl _ _) | (with_reducible assumption) | (with_reducible refine bel_trans (by assumption) ?_ ?_) | (with_reducible refine bel_grown (by assumption) ?_ ?_ ?_) | (with_reducible refine Below.alloc ?_ ?_ _) | (with_reducible refine Below.drew ?_) | (with_reducible refine below_drewN ?_ _) | (with_reducible refine Below.setCell ?_ ?_ _) | (with_reducible refine below_put ?_ ?_ _ _) | (with_reducible exact Nat.le_refl _) | omega | (with_reducible refine Nat.le_trans ?_ (Below.size (by assumption))) | (with_reducible refine Nat.le_trans ?_ (World.grownBy.size (by assumption))) | (simp only [World.size_alloc, World.size_setCell, World.size_drew, size_drewN]; omega) | (simp only [World.size_alloc, World.size_setCell, World.size_drew, size_drewN, size_put]; omega) | (intro k hk; simp [Value.ownBlock] at hk; done) | (intro k hk; simp [Value.ownBlock] at hk; omega) | (simp [size_drewN] at *; omega)))⟩

set_option maxRecDepth 100000 in
set_option maxHeartbeats 1600000 in
theorem rcrtBytes_c (g : GCert) (c : Crt) (w : World) (hr : CertR w g c) (hm : crtMay c = true) :
    Calls Try.prog 24 #[.agg (certA g)] w fun e w' => ∃ v, e = .returned v ∧ Own w' w.heap.size v (crtBytes c) ∧ Below w.heap.size w w' := by
  obtain ⟨i0, hi, hy0, hy1, hy2⟩ := info_parts info_u8
  obtain ⟨m1, m2, m3, m4, m5⟩ := crtMay_out hm
  have n1 := hr.2.1
  have hE := hr.1
  obtain ⟨gl, ⟨oa, on, oc⟩⟩ := g
  simp only at n1 hE
  subst n1 hE
  have Hr := Lib.hid hr.2
  have hR0 := RowC.new w ⟨c.link, ⟨oa, c.votes.length, oc⟩⟩ 31
  have hB0 : Below w.heap.size w (w.alloc (.cells (certA ⟨c.link, ⟨oa, c.votes.length, oc⟩⟩) 31)) := bel_a _ _
  have hw : IntKind.u8.wrap (c.votes.length : Int) = c.votes.length := IntWalk.u8_in _ (by omega)
  have hnb : byteV (UInt8.ofNat c.votes.length) = .int .u8 (c.votes.length : Int) := by
    rw [byteV_of, Nat.mod_eq_of_lt (by omega)]
  have Hnb := Lib.hid hnb
  have Hm5 := Lib.hid m5
  clear hr hm m1 m2 m5 hnb
  go_enter Try.func24, Try.ntmps24
  go_upto_region 1 with fail
  generalize w.alloc (.cells (certA ⟨c.link, ⟨oa, c.votes.length, oc⟩⟩) 31) = w1 at *
  obtain ⟨p1, p2, p3, p4⟩ := hR0.parts
  have hz0 := hR0.2
  dsimp only [Sl.v] at p4
  have HR0 := Lib.hid hR0
  clear p3 hR0
  refine wp_region_freeG_l (fun W W' => Below W.heap.size W W') (by kernel_rfl) [5, 6, 7, 8, 9, 10, 11, 12, 13, 14, 15, 16, 17, 18, 19, 3]
    [Is (.pointer (some ⟨w.heap.size, 0, none⟩)), Is (.pointer (some ⟨w.heap.size, 0, none⟩)), Is (.agg (pointA c.link.source)), IsB (ptBytes c.link.source), Is (.pointer (some ⟨w.heap.size, 0, none⟩)), Is (.pointer (some ⟨w.heap.size, 33, none⟩)), Is (.agg (pointA c.link.target)), IsB (ptBytes c.link.target), Is (.pointer (some ⟨w.heap.size, 66, none⟩)), Is (.slice oa c.votes.length oc), Is (.int .i64 (c.votes.length : Int)), Is (.int .u8 (c.votes.length : Int)), IsB ([UInt8.ofNat c.votes.length]), Pieces [ptBytes c.link.source, ptBytes c.link.target, [UInt8.ofNat c.votes.length]], OwnB (w.heap.size + 1) (crtFront c), OwnB (w.heap.size + 1) (crtFront c)]
    (by kernel_rfl) (fun W W' h hb => hb.trans (h.mono hb.size)) ?_ ?_ ?_
  · intro f hf
    simp only [List.mem_cons, List.not_mem_nil, or_false] at hf
    rcases hf with rfl | rfl | rfl | rfl | rfl | rfl | rfl | rfl | rfl | rfl | rfl | rfl | rfl | rfl | rfl | rfl <;> intro x W W' h hr <;> first | exact h | exact IsB.keepB h hr | exact Pieces.keepB h hr | exact Own.keep h hr
  · refine ⟨?_, ?_, ?_, ?_, ?_, ?_, ?_, ?_, ?_, ?_, ?_, ?_, ?_, ?_, ?_, ?_, trivial⟩
    · intro L ax W hf hd
      try simp [Region.binds] at hd
      have e1 : ax.tmps[1]?.getD undef = .pointer (some ⟨w.heap.size, 0, none⟩) := hf.out 1 (by decide) rfl
      refine ⟨fun _ => ?_, fun h => absurd trivial h⟩
      refine free_run (v := .pointer (some ⟨w.heap.size, 0, none⟩)) (W' := W) rfl ?_ rfl (Below.refl _ _)
      go_simp
    · intro L ax W hf hd
      simp [Region.binds] at hd
      have e5 : ax.tmps[5]?.getD undef = .pointer (some ⟨w.heap.size, 0, none⟩) := slv (hf.got 0 (by decide) (by simp [hd]))
      refine ⟨fun _ => ?_, fun h => absurd trivial h⟩
      refine free_run (v := .pointer (some ⟨w.heap.size, 0, none⟩)) (W' := W) rfl ?_ rfl (Below.refl _ _)
      go_simp
    · intro L ax W hf hd
      simp [Region.binds] at hd
      have e6 : ax.tmps[6]?.getD undef = .pointer (some ⟨w.heap.size, 0, none⟩) := slv (hf.got 1 (by decide) (by simp [hd]))
      refine ⟨fun _ => ?_, fun h => absurd trivial h⟩
      have h1 : row? W w.heap.size 0 33 = some (pointA c.link.source) := (row?_below _ _ _ hf.below hz0).trans p1
      refine free_run (v := .agg (pointA c.link.source)) (W' := W) rfl ?_ rfl (Below.refl _ _)
      go_simp
    · intro L ax W hf hd
      simp [Region.binds] at hd
      have e7 : ax.tmps[7]?.getD undef = .agg (pointA c.link.source) := slv (hf.got 2 (by decide) (by simp [hd]))
      refine ⟨fun _ => ?_, fun h => absurd trivial h⟩
      refine free_call (f := 95) (args := #[.agg (pointA c.link.source)]) rfl (by go_simp) ?_
      refine (fPoint_c c.link.source W).mono ?_
      rintro e w' ⟨x, rfl, ho, hb⟩
      obtain ⟨s2, rfl⟩ := ho.slice
      exact ⟨_, rfl, ⟨s2, rfl, ho.reads⟩, hb⟩
    · intro L ax W hf hd
      try simp [Region.binds] at hd
      have e1 : ax.tmps[1]?.getD undef = .pointer (some ⟨w.heap.size, 0, none⟩) := hf.out 1 (by decide) rfl
      refine ⟨fun _ => ?_, fun h => absurd trivial h⟩
      refine free_run (v := .pointer (some ⟨w.heap.size, 0, none⟩)) (W' := W) rfl ?_ rfl (Below.refl _ _)
      go_simp
    · intro L ax W hf hd
      simp [Region.binds] at hd
      have e9 : ax.tmps[9]?.getD undef = .pointer (some ⟨w.heap.size, 0, none⟩) := slv (hf.got 4 (by decide) (by simp [hd]))
      refine ⟨fun _ => ?_, fun h => absurd trivial h⟩
      refine free_run (v := .pointer (some ⟨w.heap.size, 33, none⟩)) (W' := W) rfl ?_ rfl (Below.refl _ _)
      go_simp
    · intro L ax W hf hd
      simp [Region.binds] at hd
      have e10 : ax.tmps[10]?.getD undef = .pointer (some ⟨w.heap.size, 33, none⟩) := slv (hf.got 5 (by decide) (by simp [hd]))
      refine ⟨fun _ => ?_, fun h => absurd trivial h⟩
      have h1 : row? W w.heap.size 33 33 = some (pointA c.link.target) := (row?_below _ _ _ hf.below hz0).trans p2
      refine free_run (v := .agg (pointA c.link.target)) (W' := W) rfl ?_ rfl (Below.refl _ _)
      go_simp
    · intro L ax W hf hd
      simp [Region.binds] at hd
      have e11 : ax.tmps[11]?.getD undef = .agg (pointA c.link.target) := slv (hf.got 6 (by decide) (by simp [hd]))
      refine ⟨fun _ => ?_, fun h => absurd trivial h⟩
      refine free_call (f := 95) (args := #[.agg (pointA c.link.target)]) rfl (by go_simp) ?_
      refine (fPoint_c c.link.target W).mono ?_
      rintro e w' ⟨x, rfl, ho, hb⟩
      obtain ⟨s2, rfl⟩ := ho.slice
      exact ⟨_, rfl, ⟨s2, rfl, ho.reads⟩, hb⟩
    · intro L ax W hf hd
      try simp [Region.binds] at hd
      have e1 : ax.tmps[1]?.getD undef = .pointer (some ⟨w.heap.size, 0, none⟩) := hf.out 1 (by decide) rfl
      refine ⟨fun _ => ?_, fun h => absurd trivial h⟩
      refine free_run (v := .pointer (some ⟨w.heap.size, 66, none⟩)) (W' := W) rfl ?_ rfl (Below.refl _ _)
      go_simp
    · intro L ax W hf hd
      simp [Region.binds] at hd
      have e13 : ax.tmps[13]?.getD undef = .pointer (some ⟨w.heap.size, 66, none⟩) := slv (hf.got 8 (by decide) (by simp [hd]))
      refine ⟨fun _ => ?_, fun h => absurd trivial h⟩
      have h1 : W.cell? ⟨w.heap.size, 66, none⟩ = some (.slice oa c.votes.length oc) := (hf.below.cell (p := ⟨w.heap.size, 66, none⟩) hz0).trans p4
      refine free_run (v := .slice oa c.votes.length oc) (W' := W) rfl ?_ rfl (Below.refl _ _)
      go_simp
    · intro L ax W hf hd
      simp [Region.binds] at hd
      have e14 : ax.tmps[14]?.getD undef = .slice oa c.votes.length oc := slv (hf.got 9 (by decide) (by simp [hd]))
      refine ⟨fun _ => ?_, fun h => absurd trivial h⟩
      refine free_run (v := .int .i64 (c.votes.length : Int)) (W' := W) rfl ?_ rfl (Below.refl _ _)
      go_simp
    · intro L ax W hf hd
      simp [Region.binds] at hd
      have e15 : ax.tmps[15]?.getD undef = .int .i64 (c.votes.length : Int) := slv (hf.got 10 (by decide) (by simp [hd]))
      refine ⟨fun _ => ?_, fun h => absurd trivial h⟩
      refine free_run (v := .int .u8 (c.votes.length : Int)) (W' := W) rfl ?_ rfl (Below.refl _ _)
      go_simp
    · intro L ax W hf hd
      simp [Region.binds] at hd
      have e16 : ax.tmps[16]?.getD undef = .int .u8 (c.votes.length : Int) := slv (hf.got 11 (by decide) (by simp [hd]))
      refine ⟨fun _ => ?_, fun h => absurd trivial h⟩
      refine free_run (v := .slice (some ⟨W.heap.size, 0, none⟩) 1 1) (W' := W.alloc (.cells #[.int .u8 (c.votes.length : Int)] 5)) rfl ?_ ⟨⟨some ⟨W.heap.size, 0, none⟩, 1, 1⟩, rfl, BytesR.one _ _ _ _ _ rfl Hnb.out⟩ (bel_a _ _)
      go_simp
    · intro L ax W hf hd
      simp [Region.binds] at hd
      have f8 : IsB (ptBytes c.link.source) (sl ax 8) W := hf.got 3 (by decide) (by simp [hd])
      have f12 : IsB (ptBytes c.link.target) (sl ax 12) W := hf.got 7 (by decide) (by simp [hd])
      have f17 : IsB ([UInt8.ofNat c.votes.length]) (sl ax 17) W := hf.got 12 (by decide) (by simp [hd])
      refine ⟨fun _ => ?_, fun h => absurd trivial h⟩
      obtain ⟨s0, e0, r0⟩ := f8
      obtain ⟨s1, e1, r1⟩ := f12
      obtain ⟨s2, e2, r2⟩ := f17
      have e0 := slv e0
      have e1 := slv e1
      have e2 := slv e2
      have hb := bel_a W (.cells #[s0.v, s1.v, s2.v] 32)
      refine free_run (v := .slice (some ⟨W.heap.size, 0, none⟩) 3 3) (W' := W.alloc (.cells #[s0.v, s1.v, s2.v] 32)) rfl ?_ ⟨W.heap.size, [s0, s1, s2], rfl, rfl, ?_, ?_⟩ hb
      · clear hb
        go_simp
      · intro i h
        have hi4 : i = 0 ∨ i = 1 ∨ i = 2 := by simp at h; omega
        rcases hi4 with rfl | rfl | rfl <;> simp
      · intro i h h'
        have hi4 : i = 0 ∨ i = 1 ∨ i = 2 := by simp at h; omega
        rcases hi4 with rfl | rfl | rfl
        · exact r0.keep hb
        · exact r1.keep hb
        · exact r2.keep hb
    · intro L ax W hf hd
      simp [Region.binds] at hd
      have f18 : Pieces [ptBytes c.link.source, ptBytes c.link.target, [UInt8.ofNat c.votes.length]] (sl ax 18) W := hf.got 13 (by decide) (by simp [hd])
      refine ⟨fun _ => ?_, fun h => absurd trivial h⟩
      obtain ⟨b, ss, e0, hl, hc, hr⟩ := f18
      have e0 := slv e0
      refine free_call (f := 94) (args := #[.slice (some ⟨b, 0, none⟩) 3 3]) rfl (by simp [execOp, Act.eval, e0, resolve, invoke, Deferred.ofValue]; try go_simp) ?_
      refine (rjoin_c b 3 ss [ptBytes c.link.source, ptBytes c.link.target, [UInt8.ofNat c.votes.length]] W ⟨hl, hc, hr⟩ (by simp) (by simp [ptBytes_length])).mono ?_
      rintro e w' ⟨x, rfl, ho, hb⟩
      refine ⟨_, rfl, ?_, hb⟩
      have := ho.more (base' := w.heap.size + 1) (by have := hf.below.size; omega)
      unfold OwnB
      unfold crtFront
      simpa using this
    · intro L ax W hf hd
      simp [Region.binds] at hd
      have f19 : OwnB (w.heap.size + 1) (crtFront c) (sl ax 19) W := hf.got 14 (by decide) (by simp [hd])
      refine ⟨fun _ => ?_, fun h => absurd trivial h⟩
      refine free_run (v := sl ax 19) (W' := W) rfl ?_ f19 (Below.refl _ _)
      simp [execOp, Act.eval, sl]
  · intro vs W hl' hF hb
    obtain ⟨g', hg1, hg2⟩ := vs_lit vs hl' hF
    have ho : Own W (w.heap.size + 1) (g' 15) (crtFront c) := hg2 15 (by decide)
    rw [hg1]
    clear hF hg1 hg2 hl'
    have hB1 := Lib.hid (hB0.trans (hb.mono hB0.size))
    have hR1 := Lib.hid (HR0.out.keep hb)
    have hs2 : w.heap.size + 1 ≤ W.heap.size := hR1.out.2
    have Ho := Lib.hid ho
    clear hb ho p1 p2 p4 HR0 hB0
    generalize g' 15 = gv15
    simp only [List.length_cons, List.length_nil, Nat.reduceAdd, show List.range 16 = [0, 1, 2, 3, 4, 5, 6, 7, 8, 9, 10, 11, 12, 13, 14, 15] from rfl, List.map_cons, List.map_nil, putL, List.zip_cons_cons, List.zip_nil_right, List.setIfInBounds_toArray, List.set_cons_succ, List.set_cons_zero]
    go_wp2_with fail
    go_loopw [3, 4] (fun u i w' => ∃ k : Nat, k ≤ c.votes.length ∧ Own w' (w.heap.size + 1) u (crtFront c ++ ((c.votes.take k).map vblob).flatten) ∧ i = .int .i64 k ∧ Below (w.heap.size + 1) W w') (fun _ i _ => c.votes.length - (intOf i).toNat)
    case atStart => exact ⟨0, Nat.zero_le _, by simpa using Ho.out, rfl, Below.refl _ _⟩
    case round =>
      obtain ⟨k, hk, hown, rfl, hB⟩ := hrel
      have hz := hB.size
      have hrow := (row?_below _ 0 67 hB (Nat.lt_succ_self _)).trans hR1.out.1
      have p4 := (RowC.parts ⟨hrow, by omega⟩).2.2.2
      dsimp only [Sl.v] at p4
      have hBB : Below w.heap.size w wr := hB1.out.trans (hB.mono (Nat.le_succ _))
      clear hrow
      by_cases hkx : k < c.votes.length
      · obtain ⟨b, off, e, hbs, hc⟩ := (VotesR.keep' Hr.out hBB).at (by omega)
        have e1 := congrArg Sl.a e
        simp only at e1
        subst e1
        clear e
        obtain ⟨cs, hcx, g1, rfl, hv1⟩ := hc k hkx
        clear hc
        have hvm := List.all_eq_true.1 Hm5.out c.votes[k] (List.getElem_mem _)
        have hfl := vblobs_succ c.votes k hkx
        have hlen := vblobs_take Hm5.out k
        have hvl := vblob_len hvm
        have hvl2 := voteMay_len hvm
        have hhd := crtFront_length c
        generalize c.votes[k] = vk at *
        obtain ⟨t1, t2, t3, _⟩ := voteMay_out hvm
        have i0' : (0 : Int) ≤ (k : Int) := by omega
        have i1 : (k : Int) < (c.votes.length : Int) := by omega
        have hfit : (crtFront c ++ ((c.votes.take k).map vblob).flatten).length + (vblob vk).length ≤ 140737488355328 := by
          simp only [List.length_append]
          omega
        have hvl2 : (vtBytes vk).length ≤ 65535 := by omega
        have HVB := fun W (hW : VoteR W g1 vk) => fVote_c g1 vk W hW t1 t2 t3
        have Hfl := Lib.hid hfl
        have Hv1 := Lib.hid hv1
        have Hown := Lib.hid hown
        have HBo := Lib.hid hB
        generalize hpre : ((c.votes.take k).map vblob).flatten = pre at *
        clear hpre hfl hv1 hlen hvm hvl hown hhd hB t1 t2 t3
        go_wp2_with fail
        (with_reducible refine (HVB _ Hv1.out).mono ?_)
        rintro e w5 ⟨s5, rfl, o5, b5⟩
        clear HVB
        go_wp2_with fail
        (with_reducible refine (rblobf_c s5 (vtBytes vk) _ o5 hvl2).mono ?_)
        rintro e w6 ⟨x, rfl, o6, b6⟩
        obtain ⟨s6, rfl⟩ := o6.slice
        have hBx : Below wr.heap.size wr w6 := b5.trans (b6.mono b5.size)
        have hown := Hown.out.keep hBx
        have hB2 : Below (w.heap.size + 1) W w6 := HBo.out.trans (hBx.mono (by omega))
        have hzB : w.heap.size + 1 ≤ w6.heap.size := by have := hB2.size; omega
        have o6 : BytesR w6 s6 (vblob vk) := o6.reads
        clear b5 b6 o5
        go_wp2_with (at_builtin; refine wpList_append_bytes _ rfl (.tmp 27) (.tmp 34) _ (by rfl) (w.heap.size + 1) 5 i0 _ Try.underlying32 hi hy0 hy1 hy2 rfl _ _ rfl hown s6 (vblob vk) rfl o6 hfit hzB ?_; intro v3 w7 o3 g3 e3)
        have hB3 : Below (w.heap.size + 1) W w7 := bel_grown g3 hB2 hzB (fun k hk => (hown.lt k hk).1)
        go_roundw
        case rel => exact ⟨k + 1, by omega, by rw [Hfl.out]; simpa using o3, by go_num, hB3⟩
        case measure => simp [intOf]; omega
      · have hfl : (c.votes.take k) = c.votes := List.take_of_length_le (by omega)
        rw [hfl] at hown
        have Hown := Lib.hid hown
        clear hfl hown
        go_wp2_with fail
        go_ret
        exact ⟨_, rfl, Hown.out.more (Nat.le_succ _), hBB⟩
end Go.Proofs.Ytkocpihfdpahpaa
