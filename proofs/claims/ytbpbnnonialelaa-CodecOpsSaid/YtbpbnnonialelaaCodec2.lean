/- Contracts of package codec: votes as bytes; what is signed of them. -/
import Derived.Test.YtbpbnnonialelaaCodec1
import Derived.Test.YtbpbnnonialelaaFree
import Derived.Lib.SlBytesConst
namespace Go.Proofs.Ytbpbnnonialelaa
open Go.RowKit

/-- api.Vote -/
structure Vote where
  validator : Int
  source : Pt
  target : Pt
  sig : List UInt8
  deriving DecidableEq
/-- a vote's bytes -/
def vtBytes (v : Vote) : List UInt8 := be 1 v.validator.toNat ++ ptBytes v.source ++ ptBytes v.target ++ (be 2 v.sig.length ++ v.sig)
/-- a vote that lies in memory reads as v -/
def VoteR (w : World) (g : GVote) (v : Vote) : Prop := g.validator = v.validator ∧ g.source = v.source ∧ g.target = v.target ∧ BytesR w g.sig v.sig

theorem keepVote {B : Nat} {b : Nat} {g : GVote} {W W' : World} (hb : Below B W W') (h : b < B)
    (hs : W.cell? ⟨b, 0, none⟩ = some (.int .i64 g.validator) ∧ row? W b 1 33 = some (pointA g.source) ∧ row? W b 34 33 = some (pointA g.target)) :
    W'.cell? ⟨b, 0, none⟩ = some (.int .i64 g.validator) ∧ row? W' b 1 33 = some (pointA g.source) ∧ row? W' b 34 33 = some (pointA g.target) :=
  ⟨(hb.cell (p := ⟨b, 0, none⟩) h).trans hs.1, (row?_below _ _ _ hb h).trans hs.2.1, (row?_below _ _ _ hb h).trans hs.2.2⟩

theorem BytesR.of_own {w w' : World} {base : Nat} {s : Sl} {l : List UInt8} (h : Own w base s.v l) (hb : Below w.heap.size w w') : BytesR w' s l := h.reads.keep hb

set_option maxRecDepth 100000 in
set_option maxHeartbeats 400000 in
theorem vote_c (g : GVote) (v : Vote) (w : World) (hv : VoteR w g v) (h1 : 1 ≤ v.validator) (h64 : v.validator ≤ 64) (hs : v.sig.length ≤ 4096) :
    Calls Try.prog 79 #[.agg (voteA g)] w fun e w' => ∃ x, e = .returned x ∧ Own w' w.heap.size x (vtBytes v) ∧ Below w.heap.size w w' := by
  obtain ⟨e1, e2, e3, hsig⟩ := hv
  have g1 : 1 ≤ g.validator := by omega
  have g2 : g.validator ≤ 64 := by omega
  have HN := fun W => number1 g.validator.toNat W (by omega)
  rw [Int.toNat_of_nonneg (by omega : 0 ≤ g.validator)] at HN
  have HB := fun W h => blob_c g.sig v.sig W h (by omega)
  have E1 := Lib.hid e1
  have E2 := Lib.hid e2
  have E3 := Lib.hid e3
  have Hs := Lib.hid hsig
  clear e1 e2 e3 hsig h1 h64
  go_enter Try.func79, Try.ntmps79
  go_wp2_with fail
  refine (HB _ (Hs.out.keep (by (repeat' (first | (with_reducible exact Below.refl _ _) | (with_reducible assumption) | (with_reducible refine bel_trans (by assumption) ?_ ?_) | (with_reducible refine bel_grown (by assumption) ?_ ?_ ?_) | (with_reducible refine Below.alloc ?_ ?_ _) | (with_reducible refine Below.drew ?_) | (with_reducible refine below_drewN ?_ _) | (with_reducible refine Below.setCell ?_ ?_ _) | (with_reducible refine below_put ?_ ?_ _ _) | (with_reducible exact Nat.le_refl _) | omega | (with_reducible refine Nat.le_trans ?_ (Below.size (by assumption))) | (with_reducible refine Nat.le_trans ?_ (World.grownBy.size (by assumption))) | (simp only [World.size_alloc, World.size_setCell, World.size_drew, size_drewN]; omega) | (simp only [World.size_alloc, World.size_setCell, World.size_drew, size_drewN, size_put]; omega) | (intro k hk; simp [Value.ownBlock] at hk; done) | (intro k hk; simp [Value.ownBlock] at hk; omega) | (simp [size_drewN] at *; omega)))))).mono ?_
  clear HB
  rintro e w1 ⟨x0, rfl, o0, hb0⟩
  obtain ⟨k1, k2, k3⟩ := kept hb0
  have hz0 : w.heap.size < w1.heap.size := by (have := hb0.size; (try simp at this); omega)
  go_wp2_with fail
  have hS0 : w1.cell? ⟨w.heap.size, 0, none⟩ = some (.int .i64 g.validator) ∧ row? w1 w.heap.size 1 33 = some (pointA g.source) ∧ row? w1 w.heap.size 34 33 = some (pointA g.target) :=
    ⟨by rw [k1 _ _ (by simp)]; simp, by rw [k3 _ _ _ (by simp), row?_new]; simp, by rw [k3 _ _ _ (by simp), row?_new]; simp⟩
  have hS1 : w1.drew.cell? ⟨w.heap.size, 0, none⟩ = some (.int .i64 g.validator) ∧ row? w1.drew w.heap.size 1 33 = some (pointA g.source) ∧ row? w1.drew w.heap.size 34 33 = some (pointA g.target) := hS0
  obtain ⟨s0, rfl⟩ := o0.slice
  have hw : IntKind.u64.wrap g.validator = g.validator := IntWalk.u64_in _ (by omega)
  go_region_held3 (fun w' => w'.cell? ⟨w.heap.size, 0, none⟩ = some (.int .i64 g.validator) ∧ row? w' w.heap.size 1 33 = some (pointA g.source) ∧ row? w' w.heap.size 34 33 = some (pointA g.target))
    (first | (with_reducible assumption) | (with_reducible exact hS1) | (with_reducible exact (keepVote hb1 (by first | omega | (simp; omega)) hS1)) | (with_reducible exact (keepVote hb2 (by first | omega | (simp; omega)) (keepVote hb1 (by first | omega | (simp; omega)) hS1))) | (with_reducible exact (keepVote hb3 (by first | omega | (simp; omega)) (keepVote hb2 (by first | omega | (simp; omega)) (keepVote hb1 (by first | omega | (simp; omega)) hS1)))) | (with_reducible exact (keepVote hb4 (by first | omega | (simp; omega)) (keepVote hb3 (by first | omega | (simp; omega)) (keepVote hb2 (by first | omega | (simp; omega)) (keepVote hb1 (by first | omega | (simp; omega)) hS1))))) | (with_reducible exact keepVote ((Below.refl _ _).alloc (Nat.le_refl _) _) (by first | omega | (simp; omega)) (keepVote hb3 (by first | omega | (simp; omega)) (keepVote hb2 (by first | omega | (simp; omega)) (keepVote hb1 (by first | omega | (simp; omega)) hS1)))))
    (first
      | (go_simp; go_at_call 75; (with_reducible refine (HN _).mono ?_); rintro e w2 ⟨v1, rfl, o1, hb1⟩; obtain ⟨s1, rfl⟩ := o1.slice; have hb1w : Below w1.heap.size w1 w2 := undrew hb1; have hz1 : w.heap.size < w2.heap.size := by (have := hb1.size; (try simp at this); omega))
      | (go_simp; go_at_call 76; (with_reducible refine (point_c g.source _).mono ?_); rintro e w3 ⟨v2, rfl, o2, hb2⟩; obtain ⟨s2, rfl⟩ := o2.slice; have hz2 : w.heap.size < w3.heap.size := by (have := hb2.size; (try simp at this); omega))
      | (go_simp; go_at_call 76; (with_reducible refine (point_c g.target _).mono ?_); rintro e w4 ⟨v3, rfl, o3, hb3⟩; obtain ⟨s3, rfl⟩ := o3.slice; have hz3 : w.heap.size < w4.heap.size := by (have := hb3.size; (try simp at this); omega))
      | (go_simp; go_at_call 74; (with_reducible refine (join4 _ s1 s2 s3 s0 (be 1 g.validator.toNat) (ptBytes g.source) (ptBytes g.target) (be 2 v.sig.length ++ v.sig) w4 ((o1.reads.keep hb2).keep hb3) (o2.reads.keep hb3) o3.reads (((o0.reads.keep hb1w).keep hb2).keep hb3) (by simp [be_length]) (by simp [be_length, ptBytes_length]; omega)).mono ?_); rintro e w5 ⟨x, rfl, o4, hb4⟩))
  go_wp2_with fail
  go_ret
  refine ⟨x, rfl, ?_, by (repeat' (first | (with_reducible exact Below.refl _ _) | (with_reducible assumption) | (with_reducible refine bel_trans (by assumption) ?_ ?_) | (with_reducible refine bel_grown (by assumption) ?_ ?_ ?_) | (with_reducible refine Below.alloc ?_ ?_ _) | (with_reducible refine Below.drew ?_) | (with_reducible refine below_drewN ?_ _) | (with_reducible refine Below.setCell ?_ ?_ _) | (with_reducible refine below_put ?_ ?_ _ _) | (with_reducible exact Nat.le_refl _) | omega | (with_reducible refine Nat.le_trans ?_ (Below.size (by assumption))) | (with_reducible refine Nat.le_trans ?_ (World.grownBy.size (by assumption))) | (simp only [World.size_alloc, World.size_setCell, World.size_drew, size_drewN]; omega) | (simp only [World.size_alloc, World.size_setCell, World.size_drew, size_drewN, size_put]; omega) | (intro k hk; simp [Value.ownBlock] at hk; done) | (intro k hk; simp [Value.ownBlock] at hk; omega) | (simp [size_drewN] at *; omega)))⟩
  have := o4.more (base' := w.heap.size) (by omega)
  rw [vtBytes, ← E1.out, ← E2.out, ← E3.out]
  exact this

/-- what is signed of a vote -/
def txBytes (v : Vote) : List UInt8 := [118, 111, 116, 101] ++ be 1 v.validator.toNat ++ ptBytes v.source ++ ptBytes v.target

theorem text_no (g : GVote) (w : World) (h : mayV g = false) : Calls Try.prog 29 #[.agg (voteA g)] w fun e w' => e = .returned (.tuple #[.slice none 0 0, .int .i64 2]) ∧ Below w.heap.size w w' := by
  have H := fun W => mayVote_c g W
  rw [h] at H
  clear h
  go_enter Try.func29, Try.ntmps29
  go_wp2_with fail
  refine (H _).mono ?_
  clear H
  rintro e w1 ⟨rfl, hb⟩
  go_wp2_with fail
  go_ret2
  exact ⟨rfl, by (repeat' (first | (with_reducible exact Below.refl _ _) | (with_reducible assumption) | (with_reducible refine bel_trans (by assumption) ?_ ?_) | (with_reducible refine bel_grown (by assumption) ?_ ?_ ?_) | (with_reducible refine Below.alloc ?_ ?_ _) | (with_reducible refine Below.drew ?_) | (with_reducible refine below_drewN ?_ _) | (with_reducible refine Below.setCell ?_ ?_ _) | (with_reducible refine below_put ?_ ?_ _ _) | (with_reducible exact Nat.le_refl _) | omega | (with_reducible refine Nat.le_trans ?_ (Below.size (by assumption))) | (with_reducible refine Nat.le_trans ?_ (World.grownBy.size (by assumption))) | (simp only [World.size_alloc, World.size_setCell, World.size_drew, size_drewN]; omega) | (simp only [World.size_alloc, World.size_setCell, World.size_drew, size_drewN, size_put]; omega) | (intro k hk; simp [Value.ownBlock] at hk; done) | (intro k hk; simp [Value.ownBlock] at hk; omega) | (simp [size_drewN] at *; omega)))⟩

theorem vote_word : List.map byteV [118, 111, 116, 101] = [.int .u8 118, .int .u8 111, .int .u8 116, .int .u8 101] := rfl

theorem BytesR.keepC {B : Nat} {w w' : World} {s : Sl} {l : List UInt8} (h : BytesR w s l) (hb : CellsKept B w w') : BytesR w' s l :=
  ⟨h.1, h.2.1, fun hl => by
    obtain ⟨b, off, ha, hc⟩ := h.2.2 hl
    exact ⟨b, off, ha, fun i hi => hb.cell (hc i hi)⟩⟩

/-- a value that is a slice of these bytes -/
def IsB (l : List UInt8) (v : Value) (w : World) : Prop := ∃ s : Sl, v = s.v ∧ BytesR w s l
/-- a value that is c -/
def Is (c : Value) (v : Value) (_ : World) : Prop := v = c
def LitB (C : Array Value) (e : TypeId) (B : Nat) (v : Value) (w : World) : Prop := ∃ b fr, v = .slice (some ⟨b, 0, none⟩) C.size C.size ∧ B ≤ b ∧ w.heap[b]? = some (.cells C e fr)

def Pieces (ls : List (List UInt8)) (v : Value) (w : World) : Prop := ∃ (b : Nat) (ss : List Sl), v = .slice (some ⟨b, 0, none⟩) ls.length ls.length ∧ ss.length = ls.length ∧ (∀ (i : Nat) (h : i < ss.length), w.cell? ⟨b, i, none⟩ = some ss[i].v) ∧ ∀ (i : Nat) (h : i < ss.length) (h' : i < ls.length), BytesR w ss[i] ls[i]

set_option maxRecDepth 100000 in
set_option maxHeartbeats 400000 in
theorem text_c (g : GVote) (v : Vote) (w : World) (hm : mayV g = true) (e1 : g.validator = v.validator) (e2 : g.source = v.source) (e3 : g.target = v.target) (h1 : 1 ≤ v.validator) (h64 : v.validator ≤ 64) :
    Calls Try.prog 29 #[.agg (voteA g)] w fun e w' => ∃ s : Sl, e = .returned (.tuple #[s.v, .int .i64 0]) ∧ BytesR w' s (txBytes v) ∧ Below w.heap.size w w' := by
  have g1 : 1 ≤ g.validator := by omega
  have g2 : g.validator ≤ 64 := by omega
  have HN := fun W => number1 g.validator.toNat W (by omega)
  rw [Int.toNat_of_nonneg (by omega : 0 ≤ g.validator)] at HN
  have HM := fun W => mayVote_c g W
  rw [hm] at HM
  have hw : IntKind.u64.wrap g.validator = g.validator := IntWalk.u64_in _ (by omega)
  have E1 := Lib.hid e1
  have E2 := Lib.hid e2
  have E3 := Lib.hid e3
  clear e1 e2 e3 h1 h64 hm
  go_enter Try.func29, Try.ntmps29
  go_wp2_with fail
  refine (HM _).mono ?_
  clear HM
  rintro e w1 ⟨rfl, hb0⟩
  obtain ⟨k1, k2, k3⟩ := kept hb0
  have hz0 : w.heap.size < w1.heap.size := by have := hb0.size; simp at this; omega
  go_wp2_with fail
  have c0 : w1.cell? ⟨w.heap.size, 0, none⟩ = some (.int .i64 g.validator) := by rw [k1 _ _ (by simp)]; simp
  have c1 : row? w1 w.heap.size 1 33 = some (pointA g.source) := by rw [k3 _ _ _ (by simp), row?_new]; simp
  have c2 : row? w1 w.heap.size 34 33 = some (pointA g.target) := by rw [k3 _ _ _ (by simp), row?_new]; simp
  clear k1 k2 k3
  have hb0' := Lib.hid hb0
  clear hb0
  refine wp_region_free_l (CellsKept w1.heap.size) (by kernel_rfl) [7, 8, 9, 10, 11, 12, 13, 14, 15, 16, 17, 18, 19, 20, 2, 3]
    [LitB #[.int .u8 118, .int .u8 111, .int .u8 116, .int .u8 101] 5 w1.heap.size, IsB [118, 111, 116, 101], Is (.pointer (some ⟨w.heap.size, 0, none⟩)), Is (.int .i64 g.validator), Is (.int .u64 g.validator), IsB (be 1 g.validator.toNat),
      Is (.pointer (some ⟨w.heap.size, 1, none⟩)), Is (.agg (pointA g.source)), IsB (ptBytes g.source), Is (.pointer (some ⟨w.heap.size, 34, none⟩)), Is (.agg (pointA g.target)), IsB (ptBytes g.target), Pieces [[118, 111, 116, 101], be 1 g.validator.toNat, ptBytes g.source, ptBytes g.target], IsB (txBytes v), IsB (txBytes v), Is (.int .i64 0)]
    (by kernel_rfl) (fun w w' h hb => h.below hb) ?_ ?_ ?_
  · intro f hf
    simp only [List.mem_cons, List.not_mem_nil, or_false] at hf
    rcases hf with rfl | rfl | rfl | rfl | rfl | rfl | rfl | rfl | rfl | rfl | rfl | rfl | rfl | rfl | rfl | rfl <;> intro x W W' h hr <;>
    first
      | exact h
      | (obtain ⟨s, h1, h2⟩ := h; exact ⟨s, h1, h2.keepC hr⟩)
      | (obtain ⟨b, fr, h1, h2, h3⟩ := h; obtain ⟨fr', h4⟩ := hr.cells _ _ _ _ h3; exact ⟨b, fr', h1, h2, h4⟩)
      | (obtain ⟨b, ss, h1, h2, h3, h4⟩ := h; exact ⟨b, ss, h1, h2, fun i hi => hr.cell (h3 i hi), fun i hi hj => (h4 i hi hj).keepC hr⟩)
  · refine ⟨?_, ?_, ?_, ?_, ?_, ?_, ?_, ?_, ?_, ?_, ?_, ?_, ?_, ?_, ?_, ?_, trivial⟩
    · intro L a W hf hd
      refine free_run (v := .slice (some ⟨W.heap.size, 0, none⟩) 4 4) (W' := W.alloc (.cells #[.int .u8 118, .int .u8 111, .int .u8 116, .int .u8 101] 5)) rfl ?_ ⟨W.heap.size, (0, 0), rfl, hf.below.size, heap_alloc_new W _⟩ (CellsKept.of (bel_a _ _) hf.below.size)
      go_simp
    · intro L a W hf hd
      simp [Region.binds] at hd
      obtain ⟨b, fr, e7, hb, hh⟩ : LitB _ _ _ (sl a 7) W := hf.got 0 (by decide) hd
      have e7' : a.tmps[7]?.getD undef = .slice (some ⟨b, 0, none⟩) 4 4 := by simpa [sl] using e7
      refine free_run (v := .slice (some ⟨b, 0, none⟩) 4 4) (W' := W.freeze ⟨b, 4, none⟩ 1) rfl ?_ ⟨⟨some ⟨b, 0, none⟩, 4, 4⟩, rfl, ?_⟩ (freeze_kept _ _ _ _ hb)
      · have hcv := run_convert_lit (P := Try.prog) W 35 5 #[.int .u8 118, .int .u8 111, .int .u8 116, .int .u8 101] fr b 4 4 Try.underlying35 Try.underlying5 hh
        simp [execOp, Act.eval, e7', hcv]
      · refine ⟨rfl, Nat.le_refl _, fun _ => ⟨b, 0, rfl, fun i hi => ?_⟩⟩
        refine (freeze_kept W b 4 w1.heap.size hb).cell ?_
        rw [cell_of_row _ b (0 + i) _ _ _ hh]
        have hi4 : i = 0 ∨ i = 1 ∨ i = 2 ∨ i = 3 := by simp at hi; omega
        rcases hi4 with rfl | rfl | rfl | rfl <;> rfl
    · intro L a W hf hd
      have e1 : a.tmps[1]?.getD undef = .pointer (some ⟨w.heap.size, 0, none⟩) := hf.out 1 (by decide) rfl
      refine free_run (v := .pointer (some ⟨w.heap.size, 0, none⟩)) (W' := W) rfl ?_ rfl (CellsKept.of (Below.refl _ _) hf.below.size)
      go_simp
    · intro L a W hf hd
      simp [Region.binds] at hd
      have e1 : a.tmps[9]?.getD undef = .pointer (some ⟨w.heap.size, 0, none⟩) := slv (hf.got 2 (by decide) hd)
      have h1 : W.cell? ⟨w.heap.size, 0, none⟩ = some (.int .i64 g.validator) := (hf.below.cell (p := ⟨w.heap.size, 0, none⟩) hz0).trans c0
      refine free_run (v := .int .i64 g.validator) (W' := W) rfl ?_ rfl (CellsKept.of (Below.refl _ _) hf.below.size)
      go_simp
    · intro L a W hf hd
      simp [Region.binds] at hd
      have e1 : a.tmps[10]?.getD undef = .int .i64 g.validator := slv (hf.got 3 (by decide) hd)
      refine free_run (v := .int .u64 g.validator) (W' := W) rfl ?_ rfl (CellsKept.of (Below.refl _ _) hf.below.size)
      go_simp
    · intro L a W hf hd
      simp [Region.binds] at hd
      have e1 : a.tmps[11]?.getD undef = .int .u64 g.validator := slv (hf.got 4 (by decide) hd)
      refine free_call (f := 75) (args := #[.int .u64 g.validator, .int .i64 1]) rfl (by go_simp) ?_
      refine (HN W).mono ?_
      rintro e w' ⟨x, rfl, ho, hb⟩
      obtain ⟨s, rfl⟩ := ho.slice
      exact ⟨_, rfl, ⟨s, rfl, ho.reads⟩, CellsKept.of hb hf.below.size⟩
    · intro L a W hf hd
      have e1 : a.tmps[1]?.getD undef = .pointer (some ⟨w.heap.size, 0, none⟩) := hf.out 1 (by decide) rfl
      refine free_run (v := .pointer (some ⟨w.heap.size, 1, none⟩)) (W' := W) rfl ?_ rfl (CellsKept.of (Below.refl _ _) hf.below.size)
      go_simp
    · intro L a W hf hd
      simp [Region.binds] at hd
      have e1 : a.tmps[13]?.getD undef = .pointer (some ⟨w.heap.size, 1, none⟩) := slv (hf.got 6 (by decide) hd)
      have h1 : row? W w.heap.size 1 33 = some (pointA g.source) := (row?_below _ _ _ hf.below hz0).trans c1
      refine free_run (v := .agg (pointA g.source)) (W' := W) rfl ?_ rfl (CellsKept.of (Below.refl _ _) hf.below.size)
      go_simp
    · intro L a W hf hd
      simp [Region.binds] at hd
      have e1 : a.tmps[14]?.getD undef = .agg (pointA g.source) := slv (hf.got 7 (by decide) hd.1)
      refine free_call (f := 76) (args := #[.agg (pointA g.source)]) rfl (by go_simp) ?_
      refine (point_c g.source W).mono ?_
      rintro e w' ⟨x, rfl, ho, hb⟩
      obtain ⟨s, rfl⟩ := ho.slice
      exact ⟨_, rfl, ⟨s, rfl, ho.reads⟩, CellsKept.of hb hf.below.size⟩
    · intro L a W hf hd
      have e1 : a.tmps[1]?.getD undef = .pointer (some ⟨w.heap.size, 0, none⟩) := hf.out 1 (by decide) rfl
      refine free_run (v := .pointer (some ⟨w.heap.size, 34, none⟩)) (W' := W) rfl ?_ rfl (CellsKept.of (Below.refl _ _) hf.below.size)
      go_simp
    · intro L a W hf hd
      simp [Region.binds] at hd
      have e1 : a.tmps[16]?.getD undef = .pointer (some ⟨w.heap.size, 34, none⟩) := slv (hf.got 9 (by decide) hd)
      have h1 : row? W w.heap.size 34 33 = some (pointA g.target) := (row?_below _ _ _ hf.below hz0).trans c2
      refine free_run (v := .agg (pointA g.target)) (W' := W) rfl ?_ rfl (CellsKept.of (Below.refl _ _) hf.below.size)
      go_simp
    · intro L a W hf hd
      simp [Region.binds] at hd
      have e1 : a.tmps[17]?.getD undef = .agg (pointA g.target) := slv (hf.got 10 (by decide) hd.1)
      refine free_call (f := 76) (args := #[.agg (pointA g.target)]) rfl (by go_simp) ?_
      refine (point_c g.target W).mono ?_
      rintro e w' ⟨x, rfl, ho, hb⟩
      obtain ⟨s, rfl⟩ := ho.slice
      exact ⟨_, rfl, ⟨s, rfl, ho.reads⟩, CellsKept.of hb hf.below.size⟩
    · intro L a W hf hd
      simp [Region.binds] at hd
      obtain ⟨s0, e8, r0⟩ : IsB _ (sl a 8) W := hf.got 1 (by decide) hd.1
      obtain ⟨s1, e12, r1⟩ : IsB _ (sl a 12) W := hf.got 5 (by decide) hd.2.1
      obtain ⟨s2, e15, r2⟩ : IsB _ (sl a 15) W := hf.got 8 (by decide) hd.2.2.1
      obtain ⟨s3, e18, r3⟩ : IsB _ (sl a 18) W := hf.got 11 (by decide) hd.2.2.2
      have e8' := slv e8
      have e12' := slv e12
      have e15' := slv e15
      have e18' := slv e18
      have hb := bel_a W (.cells #[s0.v, s1.v, s2.v, s3.v] 35)
      refine free_run (v := .slice (some ⟨W.heap.size, 0, none⟩) 4 4) (W' := W.alloc (.cells #[s0.v, s1.v, s2.v, s3.v] 35)) rfl ?_ ⟨W.heap.size, [s0, s1, s2, s3], rfl, rfl, ?_, ?_⟩ (CellsKept.of hb hf.below.size)
      · clear hb
        go_simp
      · intro i h
        have hi4 : i = 0 ∨ i = 1 ∨ i = 2 ∨ i = 3 := by simp at h; omega
        rcases hi4 with rfl | rfl | rfl | rfl <;> simp
      · intro i h h'
        have hi4 : i = 0 ∨ i = 1 ∨ i = 2 ∨ i = 3 := by simp at h; omega
        rcases hi4 with rfl | rfl | rfl | rfl
        · exact r0.keep hb
        · exact r1.keep hb
        · exact r2.keep hb
        · exact r3.keep hb
    · intro L a W hf hd
      simp [Region.binds] at hd
      obtain ⟨b, ss, e19, hl, hc, hr⟩ : Pieces _ (sl a 19) W := hf.got 12 (by decide) hd.1
      have e19' := slv e19
      refine free_call (f := 74) (args := #[.slice (some ⟨b, 0, none⟩) 4 4]) rfl (by simp [execOp, Act.eval, e19', resolve, invoke, Deferred.ofValue]; try go_simp) ?_
      refine (join_c b 0 4 ss [[118, 111, 116, 101], be 1 g.validator.toNat, ptBytes g.source, ptBytes g.target] W (by simp) hl (by simp) (by simpa using hc) hr (by simp [Lib.lens, be_length, ptBytes_length]) (by simp) (by simp)).mono ?_
      rintro e w' ⟨x, rfl, ho, hb⟩
      obtain ⟨s, rfl⟩ := ho.slice
      refine ⟨_, rfl, ⟨s, rfl, ?_⟩, CellsKept.of hb hf.below.size⟩
      have := ho.reads
      rw [txBytes, ← E1.out, ← E2.out, ← E3.out]
      simpa using this
    · intro L a W hf hd
      simp [Region.binds] at hd
      obtain ⟨s, e20, r0⟩ : IsB _ (sl a 20) W := hf.got 13 (by decide) hd.1
      have e20' := slv e20
      refine free_run (v := s.v) (W' := W) rfl ?_ ⟨s, rfl, r0⟩ (CellsKept.of (Below.refl _ _) hf.below.size)
      go_simp
    · intro L a W hf hd
      refine free_run (v := .int .i64 0) (W' := W) rfl ?_ rfl (CellsKept.of (Below.refl _ _) hf.below.size)
      go_simp
  · intro vs W hl hF hb
    match vs, hl with
    | [v0, v1, v2, v3, v4, v5, v6, v7, v8, v9, v10, v11, v12, v13, v14, v15], _ =>
      obtain ⟨s, rfl, r0⟩ : IsB (txBytes v) v14 W := hF 14 (by simp)
      obtain rfl : v15 = .int .i64 0 := hF 15 (by simp)
      clear hF
      have Hr := Lib.hid r0
      clear r0
      simp only [putL, List.zip_cons_cons, List.zip_nil_right, List.setIfInBounds_toArray, List.set_cons_succ, List.set_cons_zero]
      go_wp2_with fail
      go_ret2
      exact ⟨s, rfl, Hr.out, bel_trans hb (bel_trans hb0'.out (bel_a _ _) (by simp)) (by omega)⟩
end Go.Proofs.Ytbpbnnonialelaa
