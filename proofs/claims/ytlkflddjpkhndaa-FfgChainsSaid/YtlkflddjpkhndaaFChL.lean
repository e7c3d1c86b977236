/- Points of a chain, and the literals that make them: for FfgChains. -/
import Derived.Test.YtlkflddjpkhndaaStores
import Derived.Test.YtlkflddjpkhndaaFChP


namespace Go.Proofs.Ytlkflddjpkhndaa
open Go.RowKit

def nmH (i : Nat) : Hash := ⟨UInt8.ofNat i :: List.replicate 31 0, by simp⟩
def chp (es : List UInt64) : List Pt := es.mapIdx fun i e => ⟨e, nmH i⟩
theorem chp_length (es : List UInt64) : (chp es).length = es.length := by simp [chp]
theorem chp_get (es : List UInt64) (i : Nat) (h : i < es.length) : (chp es)[i]'(by rw [chp_length]; exact h) = ⟨es[i], nmH i⟩ := by simp [chp]
theorem chp_succ (es : List UInt64) (k : Nat) (h : k < es.length) : chp (es.take (k + 1)) = chp (es.take k) ++ [⟨es[k], nmH k⟩] := by
  rw [List.take_succ_eq_append_getElem h]
  unfold chp
  rw [List.mapIdx_append]
  simp [Nat.min_eq_left (Nat.le_of_lt h)]
theorem Rise.nil : Rise [] := ⟨fun i h => absurd h (by simp), fun i h => absurd h (by simp)⟩
theorem Rise.snoc {P : List Pt} (h : Rise P) (q : Pt) (hq : q.epoch.toNat ≤ 4611686018427387904) (hl : ∀ h0 : 0 < P.length, (P[P.length - 1]).epoch.toNat < q.epoch.toNat) : Rise (P ++ [q]) := by
  refine ⟨fun i hi => ?_, fun i hi => ?_⟩
  · by_cases hiP : i < P.length
    · rw [List.getElem_append_left hiP]
      exact h.may i hiP
    · have : i = P.length := by simp at hi; omega
      subst this
      simpa using hq
  · by_cases hiP : i + 1 < P.length
    · rw [List.getElem_append_left hiP, List.getElem_append_left (by omega)]
      exact h.lt i hiP
    · have : i + 1 = P.length := by simp at hi; omega
      rw [List.getElem_append_left (by omega)]
      have h1 := hl (by omega)
      have e : P.length - 1 = i := by omega
      simp only [e] at h1
      have e2 : (P ++ [q])[i + 1] = q := by
        rw [List.getElem_append_right (by omega)]
        simp
      rw [e2]
      exact h1
/-- the chain's name, as a literal -/
def bldNm (parts : Array (Nat × Value)) : Sem Value := Instr.build 24 parts
theorem fold_bldNm (parts : Array (Nat × Value)) : Instr.build 24 parts = bldNm parts := rfl
theorem nm_lit (k : Nat) (hk : k < 256) : (hashA zeroHash).setIfInBounds 0 (.int .u8 (k : Int)) = hashA (nmH k) := by
  have e : ((UInt8.ofNat k).toNat : Int) = (k : Int) := by
    rw [UInt8.toNat_ofNat']
    omega
  unfold hashA nmH
  simp only [List.map_cons, byteV, e]
  rfl
theorem run_bldNm (k : Nat) (hk : k < 256) (W : World) : (bldNm #[(0, .int .u8 (k : Int))]).run Try.prog W = .ok (.agg (hashA (nmH k))) W := by
  unfold bldNm
  go_simp
  rw [nm_lit k hk, if_neg (fun h => by have := congrArg Array.size h; simp at this)]
  simp
/-- a point's literal -/
def bldPt (parts : Array (Nat × Value)) : Sem Value := Instr.build 26 parts
theorem fold_bldPt (parts : Array (Nat × Value)) : Instr.build 26 parts = bldPt parts := rfl
theorem run_bldPt (e : UInt64) (h : Hash) (W : World) : (bldPt #[(0, .int .u64 (e.toNat : Int)), (1, .agg (hashA h))]).run Try.prog W = .ok (.agg (pointA ⟨e, h⟩)) W := by
  unfold bldPt
  go_simp
  rw [if_neg (fun h => by have := congrArg Array.size h; simp at this)]
  simp
end Go.Proofs.Ytlkflddjpkhndaa
