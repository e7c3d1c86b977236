/- Loads of structs and arrays as a whole, for the walk. -/
import Derived.Test.YtlkflddjpkhndaaTypes
import Derived.Test.YtlkflddjpkhndaaProg
namespace Go.Proofs.Ytlkflddjpkhndaa
open Go.RowKit

theorem load_point_s (x : Value) : Instr.loadAt 26 x = loadAgg 26 x := rfl
theorem load_point (w : World) (b off : Nat) (h : (row? w b off 33).isSome = true) : (loadAgg 26 (.pointer (some ⟨b, off, none⟩))).run Try.prog w = .ok (.agg ((row? w b off 33).getD #[])) w := run_loadAgg Try.isAgg26 Try.sizeOf26 w b off h
attribute [go_sem ↓] load_point_s
attribute [go_sem] load_point
theorem load_hash_s (x : Value) : Instr.loadAt 24 x = loadAgg 24 x := rfl
theorem load_hash (w : World) (b off : Nat) (h : (row? w b off 32).isSome = true) : (loadAgg 24 (.pointer (some ⟨b, off, none⟩))).run Try.prog w = .ok (.agg ((row? w b off 32).getD #[])) w := run_loadAgg Try.isAgg24 Try.sizeOf24 w b off h
attribute [go_sem ↓] load_hash_s
attribute [go_sem] load_hash
theorem load_arr32_s (x : Value) : Instr.loadAt 23 x = loadAgg 23 x := rfl
theorem load_arr32 (w : World) (b off : Nat) (h : (row? w b off 32).isSome = true) : (loadAgg 23 (.pointer (some ⟨b, off, none⟩))).run Try.prog w = .ok (.agg ((row? w b off 32).getD #[])) w := run_loadAgg Try.isAgg23 Try.sizeOf23 w b off h
attribute [go_sem ↓] load_arr32_s
attribute [go_sem] load_arr32
theorem load_link_s (x : Value) : Instr.loadAt 28 x = loadAgg 28 x := rfl
theorem load_link (w : World) (b off : Nat) (h : (row? w b off 66).isSome = true) : (loadAgg 28 (.pointer (some ⟨b, off, none⟩))).run Try.prog w = .ok (.agg ((row? w b off 66).getD #[])) w := run_loadAgg Try.isAgg28 Try.sizeOf28 w b off h
attribute [go_sem ↓] load_link_s
attribute [go_sem] load_link
theorem load_vote_s (x : Value) : Instr.loadAt 84 x = loadAgg 84 x := rfl
theorem load_vote (w : World) (b off : Nat) (h : (row? w b off 68).isSome = true) : (loadAgg 84 (.pointer (some ⟨b, off, none⟩))).run Try.prog w = .ok (.agg ((row? w b off 68).getD #[])) w := run_loadAgg Try.isAgg84 Try.sizeOf84 w b off h
attribute [go_sem ↓] load_vote_s
attribute [go_sem] load_vote
theorem load_hop_s (x : Value) : Instr.loadAt 122 x = loadAgg 122 x := rfl
theorem load_hop (w : World) (b off : Nat) (h : (row? w b off 36).isSome = true) : (loadAgg 122 (.pointer (some ⟨b, off, none⟩))).run Try.prog w = .ok (.agg ((row? w b off 36).getD #[])) w := run_loadAgg Try.isAgg122 Try.sizeOf122 w b off h
attribute [go_sem ↓] load_hop_s
attribute [go_sem] load_hop
theorem load_header_s (x : Value) : Instr.loadAt 69 x = loadAgg 69 x := rfl
theorem load_header (w : World) (b off : Nat) (h : (row? w b off 34).isSome = true) : (loadAgg 69 (.pointer (some ⟨b, off, none⟩))).run Try.prog w = .ok (.agg ((row? w b off 34).getD #[])) w := run_loadAgg Try.isAgg69 Try.sizeOf69 w b off h
attribute [go_sem ↓] load_header_s
attribute [go_sem] load_header
attribute [go_sem] row?_new row?_old row?_drew row?_drewN row?_far
end Go.Proofs.Ytlkflddjpkhndaa
