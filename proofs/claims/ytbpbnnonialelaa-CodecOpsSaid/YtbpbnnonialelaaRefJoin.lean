/- Contracts: landmarkref01.Join, Blob, Reader.Blob. -/
import Derived.Test.YtbpbnnonialelaaRefNum
import Derived.Test.YtbpbnnonialelaaOrder
import Derived.Lib.ConvBytes
namespace Go.Proofs.Ytbpbnnonialelaa
open Go.RowKit

theorem own_bytes (w : World) (base : Nat) (l : List UInt8) (e : TypeId) (hb : base ≤ w.heap.size) (hm : l.length ≤ maxLen) :
    Own (Lib.bytesWorld w e ⟨l.toArray⟩) base (.slice (some ⟨w.heap.size, 0, none⟩) l.length (grownCap w l.length 0 e)) l := by
  have hge := grownCap_ge w l.length 0 e
  have hle : grownCap w l.length 0 e ≤ maxLen := grownCap_le_maxLen w l.length 0 e hm
  have hn := Lib.bytesWorld_at_new w e ⟨l.toArray⟩
  have hsz : (Lib.bytesCells w e ⟨l.toArray⟩).size = grownCap w l.length 0 e := by
    simp [Lib.bytesCells, ByteArray.size]
    omega
  refine ⟨by simp, .inr ⟨w.heap.size, _, rfl, hb, by rw [Lib.bytesWorld_size]; omega, hge, hle, fun j hj => ?_, fun j hj => ?_, fun j u hu => ?_⟩⟩
  · rw [cell_of_row _ w.heap.size j _ _ _ hn, Array.getElem?_eq_getElem (by omega)]
    rfl
  · unfold World.frozen?
    rw [hn]
    simp [hsz]
    omega
  · have hj : j < l.length := by
      rcases Nat.lt_or_ge j l.length with h | h
      · exact h
      · rw [List.getElem?_eq_none (by simpa using h)] at hu; cases hu
    rw [cell_of_row _ w.heap.size j _ _ _ hn]
    simp only [Lib.bytesCells]
    rw [Array.getElem?_append_left (by simpa using hj)]
    simpa [hj, byteV] using hu
theorem below_bytesWorld {B : Nat} {a w : World} (e : TypeId) (s : ByteArray) (h : Below B a w) (hB : B ≤ w.heap.size) : Below B a (Lib.bytesWorld w e s) :=
  ⟨h.os, h.tape, h.output, by rw [Lib.bytesWorld_size]; have := h.size; omega, fun b hb => (Lib.bytesWorld_at_old w e s b (by omega)).trans (h.block b hb)⟩

theorem string_run (W : World) (l : List UInt8) : (convert 9 35 (.string ⟨l.toArray⟩)).run Try.prog W = .ok (.slice (some ⟨W.heap.size, 0, none⟩) l.length (grownCap W l.length 0 5)) (Lib.bytesWorld W 5 ⟨l.toArray⟩) :=
  Lib.run_convert_string_bytes W _ _ 5 ⟨l.toArray⟩ Try.underlying9 Try.underlying35 Try.underlying5

theorem str_app (a b : List UInt8) : (⟨a.toArray⟩ : ByteArray) ++ ⟨b.toArray⟩ = ⟨(a ++ b).toArray⟩ := by
  apply ByteArray.ext
  simp

set_option maxRecDepth 100000 in
set_option maxHeartbeats 800000 in
theorem rjoin_c (b c : Nat) (ss : List Sl) (ls : List (List UInt8)) (w : World) (hp : PiecesAt w b ss ls) (hn : ls.length ≤ 1000) (hs : ls.flatten.length ≤ 140737488355328) :
    Calls Try.prog 64 #[.slice (some ⟨b, 0, none⟩) ls.length c] w fun e w' => ∃ v, e = .returned v ∧ Own w' w.heap.size v ls.flatten ∧ Below w.heap.size w w' := by
  obtain ⟨hl, hc, hr⟩ := hp
  have Hl := Lib.hid hl
  have Hc := Lib.hid hc
  have Hr := Lib.hid hr
  clear hl hc hr
  go_enter Try.func64, Try.ntmps64
  go_wp2_with fail
  go_loop [3, 4] (fun u i => ∃ k : Nat, k ≤ ls.length ∧ u = .string ⟨((ls.take k).flatten).toArray⟩ ∧ i = .int .i64 k) (fun _ i => ls.length - (intOf i).toNat)
  case atStart => exact ⟨0, Nat.zero_le _, rfl, rfl⟩
  case round =>
    obtain ⟨k, hk, rfl, rfl⟩ := hrel
    have i0' : (0 : Int) ≤ (k : Int) := by omega
    by_cases hkx : k < ls.length
    · have hks : k < ss.length := by have := Hl.out; omega
      have hcell := Hc.out k hks
      have hcv := str_run (Hr.out k hks hkx)
      have hfl : (ls.take (k + 1)).flatten = (ls.take k).flatten ++ ls[k] := by
        rw [List.take_succ_eq_append_getElem hkx, List.flatten_append]
        simp only [List.flatten_cons, List.flatten_nil, List.append_nil]
      have i1 : (k : Int) < (ls.length : Int) := by omega
      have hsum : (ls.take (k + 1)).flatten.length ≤ ls.flatten.length := by
        have := congrArg (fun l => l.flatten.length) (List.take_append_drop (k + 1) ls)
        simp only [List.flatten_append, List.length_append] at this
        omega
      rw [hfl, List.length_append] at hsum
      have hsum : (ls.take k).flatten.length + ls[k].length ≤ 140737488355328 := by omega
      generalize ls[k] = lk at *
      generalize ss[k] = sk at *
      have Hfl := Lib.hid hfl
      clear hfl
      obtain ⟨sa, sn, sc⟩ := sk
      dsimp only [Sl.v] at hcell hcv
      generalize (ls.take k).flatten = done at *
      go_wp2_with fail
      go_round
      case rel => exact ⟨k + 1, by omega, by rw [Hfl.out, str_app], by go_num⟩
      case measure => simp [intOf]; omega
    · obtain ⟨fl, hF⟩ : ∃ fl, fl = ls.flatten := ⟨_, rfl⟩
      have hfl : (ls.take k).flatten = fl := by rw [hF, List.take_of_length_le (by omega)]
      rw [hfl]
      rw [← hF] at hs
      have HF := Lib.hid hF
      clear hfl hF
      have hst := fun W => string_run W fl
      go_wp2_with fail
      go_ret
      refine ⟨.slice (some ⟨w.heap.size, 0, none⟩) fl.length (grownCap w fl.length 0 5), rfl, ?_, ?_⟩
      · rw [← HF.out]; exact own_bytes w _ fl _ (Nat.le_refl _) (by simp only [maxLen]; omega)
      · exact below_bytesWorld _ _ (Below.refl _ _) (Nat.le_refl _)

theorem be2_blob (n : Nat) : be 2 n = [UInt8.ofNat (n / 256), UInt8.ofNat n] := rfl
theorem byteV_mod (n : Nat) : byteV (UInt8.ofNat n) = .int .u8 ((n : Int) % 256) := by
  simp [byteV]

set_option maxHeartbeats 800000 in
theorem rblobf_c (s : Sl) (l : List UInt8) (w : World) (hs : BytesR w s l) (hl : l.length ≤ 65535) :
    Calls Try.prog 65 #[s.v] w fun e w' => ∃ v, e = .returned v ∧ Own w' w.heap.size v (be 2 l.length ++ l) ∧ Below w.heap.size w w' := by
  obtain ⟨i0, hi, hy0, hy1, hy2⟩ := info_parts info_u8
  obtain ⟨sa, sn, sc⟩ := s
  obtain rfl : sn = l.length := hs.1
  have Hs := Lib.hid hs
  clear hs
  show Calls Try.prog 65 #[.slice sa l.length sc] w _
  go_enter Try.func65, Try.ntmps65
  have hlit := fun e => Own.lit w w.heap.size (be 2 l.length) #[.int .u8 ((l.length : Int) / 256), .int .u8 ((l.length : Int) % 256)] e 2 (by
    simp [be, byteV]
    omega) rfl (Nat.le_refl _) (by simp [be, maxLen])
  have Hlit := Lib.hid hlit
  clear hlit
  go_wp2_with (at_builtin; refine wpList_append_bytes _ rfl (.tmp 13) (.tmp 14) _ (by rfl) w.heap.size 5 i0 _ Try.underlying35 hi hy0 hy1 hy2 rfl _ (be 2 l.length) (by rfl) (Hlit.out _) ⟨sa, l.length, sc⟩ l (by rfl) (Hs.out.keep (bel_a _ _)) (by simp [be_length]; omega) (by simp) ?_; intro v' w2 hown2 hg2 _)
  go_ret
  exact ⟨_, rfl, hown2, bel_grown hg2 (bel_a _ _) (by simp) (fun k hk => by simp [Value.ownBlock] at hk; omega)⟩
end Go.Proofs.Ytbpbnnonialelaa
