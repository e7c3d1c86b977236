/- The gadget as the laws see it: its anchor and its links; what it answers is the document's. -/
import Derived.Test.YtlkflddjpkhndaaGadCopy
import Derived.Test.YtlkflddjpkhndaaRef13f
namespace Go.Proofs.Ytlkflddjpkhndaa
open Go.RowKit

def JL (a : Pt) (ls : List Lnk) : List Pt := srtPt (refJus a ls)
def FL (a : Pt) (ls : List Lnk) : List Pt := srtPt (refFin a ls (JL a ls))
theorem JL_mem (a : Pt) (ls : List Lnk) (p : Pt) : p ∈ JL a ls ↔ Jus a ls p := by unfold JL; rw [srt_mem, refJus_mem]
theorem FL_mem (a : Pt) (ls : List Lnk) (p : Pt) : p ∈ FL a ls ↔ Fin a ls p := by unfold FL; rw [srt_mem, refFin_mem a ls _ (JL_mem a ls)]
theorem JL_ne (a : Pt) (ls : List Lnk) : JL a ls ≠ [] := List.ne_nil_of_mem ((JL_mem a ls a).2 .anchor)
theorem FL_ne (a : Pt) (ls : List Lnk) : FL a ls ≠ [] := List.ne_nil_of_mem ((FL_mem a ls a).2 (.inl rfl))
theorem JL_sorted (a : Pt) (ls : List Lnk) : (JL a ls).Pairwise ptLt := srt_sorted _ (refJus_nodup a ls)
theorem FL_sorted (a : Pt) (ls : List Lnk) : (FL a ls).Pairwise ptLt := srt_sorted _ (refFin_nodup a ls _)
theorem JL_length (a : Pt) (ls : List Lnk) : (JL a ls).length ≤ ls.length + 1 := by
  unfold JL refJus
  rw [srt_length]
  exact passes_length a ls _
theorem FL_length (a : Pt) (ls : List Lnk) : (FL a ls).length ≤ ls.length + 1 := by
  unfold FL refFin
  rw [srt_length]
  have := fold_fone_length (JL a ls) ls [a]
  simp at this
  omega
theorem JL_same {a : Pt} {ls ms : List Lnk} (h : ∀ l, l ∈ ls ↔ l ∈ ms) : JL a ls = JL a ms ∧ FL a ls = FL a ms :=
  ⟨sorted_uniq (JL_sorted a ls) (JL_sorted a ms) fun p => by rw [JL_mem, JL_mem]; exact ⟨Jus.mono fun l hl => (h l).1 hl, Jus.mono fun l hl => (h l).2 hl⟩,
   sorted_uniq (FL_sorted a ls) (FL_sorted a ms) fun p => by rw [FL_mem, FL_mem]; exact ⟨Fin.mono fun l hl => (h l).1 hl, Fin.mono fun l hl => (h l).2 hl⟩⟩
theorem Knows.lists {a : Pt} {ls : List Lnk} {js fs : List Pt} (h : Knows a ls js fs) : srtPt js = JL a ls ∧ srtPt fs = FL a ls := ⟨h.ref.1.symm, h.ref.2.symm⟩
theorem Knows.jlen {a : Pt} {ls : List Lnk} {js fs : List Pt} (h : Knows a ls js fs) : js.length ≤ ls.length + 1 ∧ fs.length ≤ ls.length + 1 := by
  have h1 := srt_length js
  have h2 := srt_length fs
  rw [h.lists.1] at h1
  rw [h.lists.2] at h2
  have := JL_length a ls
  have := FL_length a ls
  omega
theorem Knows.ne {a : Pt} {ls : List Lnk} {js fs : List Pt} (h : Knows a ls js fs) : js ≠ [] ∧ fs ≠ [] :=
  ⟨List.ne_nil_of_mem ((h.j a).2 .anchor), List.ne_nil_of_mem ((h.f a).2 (.inl rfl))⟩

/-- a gadget lies at r, of blocks from B on -/
def GadX (w : World) (B r : Nat) (a : Pt) (ls : List Lnk) : Prop := ∃ b1 b2 s js fs, Gad w B r b1 b2 s ls js fs ∧ Knows a ls js fs
theorem GadX.keep {w w' : World} {B r : Nat} {a : Pt} {ls : List Lnk} (h : GadX w B r a ls) (hb : Below w.heap.size w w') : GadX w' B r a ls := by
  obtain ⟨b1, b2, s, js, fs, h1, h2⟩ := h
  exact ⟨b1, b2, s, js, fs, h1.keep hb, h2⟩
theorem GadX.more {w : World} {B B' r : Nat} {a : Pt} {ls : List Lnk} (h : GadX w B r a ls) (hb : B' ≤ B) : GadX w B' r a ls := by
  obtain ⟨b1, b2, s, js, fs, h1, h2⟩ := h
  exact ⟨b1, b2, s, js, fs, { h1 with own := h1.own.more hb, br := Nat.le_trans hb h1.br, bb1 := Nat.le_trans hb h1.bb1, bb2 := Nat.le_trans hb h1.bb2 }, h2⟩
theorem GadX.drewN {w : World} {B r : Nat} {a : Pt} {ls : List Lnk} (h : GadX w B r a ls) (n : Nat) : GadX (w.drewN n) B r a ls := h.keep (below_drewN (Below.refl _ _) n)
theorem GadX.lt {w : World} {B r : Nat} {a : Pt} {ls : List Lnk} (h : GadX w B r a ls) : B ≤ r ∧ r < w.heap.size := by
  obtain ⟨b1, b2, s, js, fs, h1, h2⟩ := h
  exact ⟨h1.br, h1.lt.1⟩
theorem new_x (p : Pt) (w : World) (hp : mayPt p = true) : Calls Try.prog 22 #[.agg (pointA p)] w fun e w' => ∃ r, e = .returned (.tuple #[.pointer (some ⟨r, 0, none⟩), .int .i64 0]) ∧ GadX w' w.heap.size r p [] ∧ Below w.heap.size w w' := by
  refine (new_c p w hp).mono ?_
  rintro e w' ⟨r, b1, b2, rfl, h, h0, h1, h2, hb⟩
  exact ⟨r, rfl, ⟨b1, b2, _, _, _, h.gad h0 h1 h2, Knows.start p⟩, hb⟩
/-- Strong, whatever comes of it -/
theorem strong_f (a : Pt) {w : World} {B r b1 b2 : Nat} {s : Sl} {ls : List Lnk} {js fs : List Pt} (h : Gad w B r b1 b2 s ls js fs) (hk : Knows a ls js fs) (hn : ls.length < 1000) (x : Lnk) :
    Calls Try.prog 23 #[.pointer (some ⟨r, 0, none⟩), .agg (linkA x)] w fun e w' => e = .returned (.int .i64 (strongE ls x)) ∧ ∃ s' js' fs', Gad w' B r b1 b2 s' (addL ls x) js' fs' ∧ Knows a (addL ls x) js' fs' ∧ Fr ([r, b1, b2] ++ s.v.ownBlock.toList) w w' ∧ (s'.v.ownBlock = s.v.ownBlock ∨ ∃ g, s'.v.ownBlock = some g ∧ w.heap.size ≤ g) := by
  by_cases hx : goodL x = true
  · by_cases hd : x ∈ ls
    · have e1 : strongE ls x = 11 := by unfold strongE; rw [if_pos hx, if_pos hd]
      have e2 : addL ls x = ls := by unfold addL; rw [if_neg (fun h => h.2 hd)]
      rw [e1, e2]
      refine (strong_dup h (by omega) x hx hd).mono ?_
      rintro e w' ⟨rfl, hb⟩
      exact ⟨rfl, s, js, fs, h.keep hb, hk, Fr.of_below hb, .inl rfl⟩
    · have e1 : strongE ls x = 0 := by unfold strongE; rw [if_pos hx, if_neg hd]
      have e2 : addL ls x = ls ++ [x] := by unfold addL; rw [if_pos ⟨hx, hd⟩]
      rw [e1, e2]
      exact strong_new a h hk hn x hx hd
  · have hx' : goodL x = false := by simpa using hx
    have e1 : strongE ls x = 2 := by unfold strongE; rw [if_neg hx]
    have e2 : addL ls x = ls := by unfold addL; rw [if_neg (fun h => hx h.1)]
    rw [e1, e2]
    refine (strong_bad h x hx').mono ?_
    rintro e w' ⟨rfl, hb⟩
    exact ⟨rfl, s, js, fs, h.keep hb, hk, Fr.of_below hb, .inl rfl⟩
theorem strong_x (x : Lnk) {w : World} {B r : Nat} {a : Pt} {ls : List Lnk} (h : GadX w B r a ls) (hn : ls.length < 1000) :
    Calls Try.prog 23 #[.pointer (some ⟨r, 0, none⟩), .agg (linkA x)] w fun e w' => e = .returned (.int .i64 (strongE ls x)) ∧ GadX w' B r a (addL ls x) ∧ Below B w w' := by
  obtain ⟨b1, b2, s, js, fs, h1, h2⟩ := h
  refine (strong_f a h1 h2 hn x).mono ?_
  rintro e w' ⟨rfl, s', js', fs', g1, g2, g3, g4⟩
  refine ⟨rfl, ⟨b1, b2, s', js', fs', g1, g2⟩, g3.under (Nat.le_of_lt (Nat.lt_of_le_of_lt h1.br h1.lt.1)) fun k hk => ?_⟩
  simp only [List.mem_append, List.mem_cons, List.not_mem_nil, or_false, Option.mem_toList] at hk
  rcases hk with (rfl | rfl | rfl) | hk
  · exact h1.br
  · exact h1.bb1
  · exact h1.bb2
  · exact (h1.own.lt k hk).1
theorem justified_x (p : Pt) {w : World} {B r : Nat} {a : Pt} {ls : List Lnk} (h : GadX w B r a ls) :
    Calls Try.prog 24 #[.pointer (some ⟨r, 0, none⟩), .agg (pointA p)] w fun e w' => e = .returned (.bool (decide (p ∈ JL a ls))) ∧ Below w.heap.size w w' := by
  obtain ⟨b1, b2, s, js, fs, h1, h2⟩ := h
  have e : decide (p ∈ JL a ls) = decide (p ∈ js) := by rw [decide_eq_decide, JL_mem, h2.j]
  rw [e]
  exact justified_c p h1
theorem final_x (p : Pt) {w : World} {B r : Nat} {a : Pt} {ls : List Lnk} (h : GadX w B r a ls) :
    Calls Try.prog 25 #[.pointer (some ⟨r, 0, none⟩), .agg (pointA p)] w fun e w' => e = .returned (.bool (decide (p ∈ FL a ls))) ∧ Below w.heap.size w w' := by
  obtain ⟨b1, b2, s, js, fs, h1, h2⟩ := h
  have e : decide (p ∈ FL a ls) = decide (p ∈ fs) := by rw [decide_eq_decide, FL_mem, h2.f]
  rw [e]
  exact final_c p h1
theorem allJ_x {w : World} {B r : Nat} {a : Pt} {ls : List Lnk} (h : GadX w B r a ls) (hn : ls.length ≤ 1000) :
    Calls Try.prog 30 #[.pointer (some ⟨r, 0, none⟩)] w fun e w' => ∃ s : Sl, e = .returned s.v ∧ PtsR w' s (JL a ls) ∧ Below w.heap.size w w' := by
  obtain ⟨b1, b2, s, js, fs, h1, h2⟩ := h
  have := allJ_c h1 (by have := h2.jlen.1; omega) h2.ne.1
  rwa [h2.lists.1] at this
theorem allF_x {w : World} {B r : Nat} {a : Pt} {ls : List Lnk} (h : GadX w B r a ls) (hn : ls.length ≤ 1000) :
    Calls Try.prog 31 #[.pointer (some ⟨r, 0, none⟩)] w fun e w' => ∃ s : Sl, e = .returned s.v ∧ PtsR w' s (FL a ls) ∧ Below w.heap.size w w' := by
  obtain ⟨b1, b2, s, js, fs, h1, h2⟩ := h
  have := allF_c h1 (by have := h2.jlen.2; omega) h2.ne.2
  rwa [h2.lists.2] at this
theorem best_x {w : World} {B r : Nat} {a : Pt} {ls : List Lnk} (h : GadX w B r a ls) (hn : ls.length ≤ 1000) :
    Calls Try.prog 32 #[.pointer (some ⟨r, 0, none⟩)] w fun e w' => e = .returned (.agg (pointA ((FL a ls).getLast (FL_ne a ls)))) ∧ Below w.heap.size w w' := by
  obtain ⟨b1, b2, s, js, fs, h1, h2⟩ := h
  have := best_c h1 (by have := h2.jlen.2; omega) h2.ne.2
  have e : (srtPt fs).getLast (srt_ne h2.ne.2) = (FL a ls).getLast (FL_ne a ls) := by congr 1; exact h2.lists.2
  rwa [e] at this
theorem highest_x {w : World} {B r : Nat} {a : Pt} {ls : List Lnk} (h : GadX w B r a ls) (hn : ls.length ≤ 1000) :
    Calls Try.prog 26 #[.pointer (some ⟨r, 0, none⟩)] w fun e w' => e = .returned (.agg (pointA ((JL a ls).getLast (JL_ne a ls)))) ∧ Below w.heap.size w w' := by
  obtain ⟨b1, b2, s, js, fs, h1, h2⟩ := h
  have := highest_c h1 (by have := h2.jlen.1; omega) h2.ne.1
  have e : (srtPt js).getLast (srt_ne h2.ne.1) = (JL a ls).getLast (JL_ne a ls) := by congr 1; exact h2.lists.1
  rwa [e] at this
theorem links_x {w : World} {B r : Nat} {a : Pt} {ls : List Lnk} (h : GadX w B r a ls) (hn : ls.length ≤ 1000) :
    Calls Try.prog 33 #[.pointer (some ⟨r, 0, none⟩)] w fun e w' => ∃ s : Sl, e = .returned s.v ∧ LnksR w' s ls ∧ Below w.heap.size w w' := by
  obtain ⟨b1, b2, s, js, fs, h1, h2⟩ := h
  exact links_c h1 (by omega)
theorem copy_x {w : World} {B r : Nat} {a : Pt} {ls : List Lnk} (h : GadX w B r a ls) (hn : ls.length ≤ 1000) :
    Calls Try.prog 36 #[.pointer (some ⟨r, 0, none⟩)] w fun e w' => ∃ r', e = .returned (.pointer (some ⟨r', 0, none⟩)) ∧ GadX w' w.heap.size r' a ls ∧ Below w.heap.size w w' := by
  obtain ⟨b1, b2, s, js, fs, h1, h2⟩ := h
  refine (copy_c h1 (by omega)).mono ?_
  rintro e w' ⟨r', b1', b2', s', rfl, h3, h4⟩
  exact ⟨r', rfl, ⟨b1', b2', s', js, fs, h3, h2⟩, h4⟩
end Go.Proofs.Ytlkflddjpkhndaa
