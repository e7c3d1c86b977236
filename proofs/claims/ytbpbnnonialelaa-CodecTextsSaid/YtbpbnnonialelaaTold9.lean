/- Contract: landmarklaw09.told, where it tells true. -/
import Derived.Test.YtbpbnnonialelaaRefPof
namespace Go.Proofs.Ytbpbnnonialelaa
open Go.RowKit

theorem told9_c (m : Bool) (s1 s2 : Sl) (l l2 : List UInt8) (w : World) (h1 : BytesR w s1 (orNo m l)) (h2 : BytesR w s2 l2) (h : m = true → l2 = l) :
    Calls Try.prog 36 #[s1.v, .int .i64 (noErr m), .bool m, .bool m, s2.v] w fun e w' => e = .returned (.bool true) ∧ w' = w := by
  cases m
  · have h1 : BytesR w s1 [] := h1
    obtain ⟨a, n, c⟩ := s1
    obtain rfl : n = 0 := h1.1
    show Calls Try.prog 36 #[.slice a 0 c, .int .i64 2, .bool false, .bool false, s2.v] w _
    clear h1 h
    go_enter Try.func36, Try.ntmps36
    go_wp2_with ((go_at_call 26; (with_reducible refine (num09_c _ _).mono ?_); rintro e w' ⟨rfl, rfl⟩))
    go_ret
    exact ⟨rfl, rfl⟩
  · have h1 : BytesR w s1 l := h1
    obtain rfl := h rfl
    have c1 := str_run h1
    have c2 := str_run h2
    show Calls Try.prog 36 #[s1.v, .int .i64 0, .bool true, .bool true, s2.v] w _
    clear h1 h2 h
    go_enter Try.func36, Try.ntmps36
    go_wp2_with ((go_at_call 26; (with_reducible refine (num09_c _ _).mono ?_); rintro e w' ⟨rfl, rfl⟩))
    go_ret
    exact ⟨rfl, rfl⟩
end Go.Proofs.Ytbpbnnonialelaa
