/- Loads of structs and arrays as a whole, for the walk. -/
import Derived.Test.YtbpbnnonialelaaTypes
import Derived.Test.YtbpbnnonialelaaProg
namespace Go.Proofs.Ytbpbnnonialelaa
open Go.RowKit

theorem load_point_s (x : Value) : Instr.loadAt 29 x = loadAgg 29 x := rfl
theorem load_point (w : World) (b off : Nat) (h : (row? w b off 33).isSome = true) : (loadAgg 29 (.pointer (some ⟨b, off, none⟩))).run Try.prog w = .ok (.agg ((row? w b off 33).getD #[])) w := run_loadAgg Try.isAgg29 Try.sizeOf29 w b off h
attribute [go_sem ↓] load_point_s
attribute [go_sem] load_point
theorem load_hash_s (x : Value) : Instr.loadAt 27 x = loadAgg 27 x := rfl
theorem load_hash (w : World) (b off : Nat) (h : (row? w b off 32).isSome = true) : (loadAgg 27 (.pointer (some ⟨b, off, none⟩))).run Try.prog w = .ok (.agg ((row? w b off 32).getD #[])) w := run_loadAgg Try.isAgg27 Try.sizeOf27 w b off h
attribute [go_sem ↓] load_hash_s
attribute [go_sem] load_hash
theorem load_arr32_s (x : Value) : Instr.loadAt 26 x = loadAgg 26 x := rfl
theorem load_arr32 (w : World) (b off : Nat) (h : (row? w b off 32).isSome = true) : (loadAgg 26 (.pointer (some ⟨b, off, none⟩))).run Try.prog w = .ok (.agg ((row? w b off 32).getD #[])) w := run_loadAgg Try.isAgg26 Try.sizeOf26 w b off h
attribute [go_sem ↓] load_arr32_s
attribute [go_sem] load_arr32
theorem load_link_s (x : Value) : Instr.loadAt 31 x = loadAgg 31 x := rfl
theorem load_link (w : World) (b off : Nat) (h : (row? w b off 66).isSome = true) : (loadAgg 31 (.pointer (some ⟨b, off, none⟩))).run Try.prog w = .ok (.agg ((row? w b off 66).getD #[])) w := run_loadAgg Try.isAgg31 Try.sizeOf31 w b off h
attribute [go_sem ↓] load_link_s
attribute [go_sem] load_link
theorem load_vote_s (x : Value) : Instr.loadAt 61 x = loadAgg 61 x := rfl
theorem load_vote (w : World) (b off : Nat) (h : (row? w b off 68).isSome = true) : (loadAgg 61 (.pointer (some ⟨b, off, none⟩))).run Try.prog w = .ok (.agg ((row? w b off 68).getD #[])) w := run_loadAgg Try.isAgg61 Try.sizeOf61 w b off h
attribute [go_sem ↓] load_vote_s
attribute [go_sem] load_vote
theorem load_hop_s (x : Value) : Instr.loadAt 54 x = loadAgg 54 x := rfl
theorem load_hop (w : World) (b off : Nat) (h : (row? w b off 36).isSome = true) : (loadAgg 54 (.pointer (some ⟨b, off, none⟩))).run Try.prog w = .ok (.agg ((row? w b off 36).getD #[])) w := run_loadAgg Try.isAgg54 Try.sizeOf54 w b off h
attribute [go_sem ↓] load_hop_s
attribute [go_sem] load_hop
theorem load_header_s (x : Value) : Instr.loadAt 51 x = loadAgg 51 x := rfl
theorem load_header (w : World) (b off : Nat) (h : (row? w b off 34).isSome = true) : (loadAgg 51 (.pointer (some ⟨b, off, none⟩))).run Try.prog w = .ok (.agg ((row? w b off 34).getD #[])) w := run_loadAgg Try.isAgg51 Try.sizeOf51 w b off h
attribute [go_sem ↓] load_header_s
attribute [go_sem] load_header
attribute [go_sem] row?_new row?_old row?_drew row?_drewN row?_far
end Go.Proofs.Ytbpbnnonialelaa
