/- A string's bytes. -/
import Derived.Test.YtcgapkepbnbabaaDoorOe
import Derived.Lib.ConvBytes
namespace Go.Proofs.YtcgapkepbnbabaaDoor.Ty9
set_option linter.unusedVariables false
set_option linter.unusedSimpArgs false
open Go.RowKit Wd

def sbytes (s : ByteArray) : List Nat := s.data.toList.map UInt8.toNat
theorem sbytes_len (s : ByteArray) : (sbytes s).length = s.size := by
  unfold sbytes; rw [List.length_map, Array.length_toList]; rfl
theorem sbytes_lt (s : ByteArray) : ∀ x ∈ sbytes s, x < 256 := by
  intro x hx
  unfold sbytes at hx
  rw [List.mem_map] at hx
  obtain ⟨y, _, rfl⟩ := hx
  exact y.toNat_lt
theorem conv_string (W : World) (s : ByteArray) : ∃ W' C, (convert 9 31 (.string s)).run Tryd.prog W = .ok (.slice (some ⟨W.heap.size, 0, none⟩) s.size C) W' ∧
    Byt W' (W.heap.size + 1) (some ⟨W.heap.size, 0, none⟩) s.size (sbytes s) ∧ Below W.heap.size W W' ∧ W'.heap.size = W.heap.size + 1 := by
  refine ⟨_, _, Lib.run_convert_string_bytes W 9 31 5 s Tryd.underlying9 Tryd.underlying31 Tryd.underlying5, ⟨sbytes_len s, sbytes_lt s, fun _ => ⟨_, 0, rfl, Nat.lt_succ_self _, fun j hj => ?_⟩⟩, ?_, Lib.bytesWorld_size W 5 s⟩
  · rw [sbytes_len] at hj
    rw [Nat.zero_add, Lib.bytesWorld_cell W 5 s j hj]
    congr 2
    have hj2 : j < s.data.toList.length := by rw [Array.length_toList]; exact hj
    simp [sbytes, List.getD_eq_getElem?_getD, List.getElem?_eq_getElem hj2]
  · exact ⟨rfl, rfl, rfl, by rw [Lib.bytesWorld_size]; omega, fun k hk => Lib.bytesWorld_at_old W 5 s k hk⟩
end Go.Proofs.YtcgapkepbnbabaaDoor.Ty9
