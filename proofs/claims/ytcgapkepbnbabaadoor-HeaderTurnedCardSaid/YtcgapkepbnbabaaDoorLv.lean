/- Rows of messages as arguments. -/
import Derived.Test.YtcgapkepbnbabaaDoorKcv
import Derived.Test.YtcgapkepbnbabaaDoorLa
namespace Go.Proofs.YtcgapkepbnbabaaDoor.X5
set_option linter.unusedVariables false
set_option linter.unusedSimpArgs false
open Go.RowKit Wd Ty9

section
variable {H : Type} {enc : TypeId × Value → H} {W : World}
theorem cellsM : Tryd.prog.cellsOf 56 = 2 := by kernel_rfl
theorem cellsS : Tryd.prog.cellsOf 31 = 1 := by kernel_rfl
theorem bytesM : Tryd.prog.bytesOf 56 = 32 := by kernel_rfl
theorem open_msg (n : Nat) (cs : List Value) (y : DataW H × List MemPlace) (h : Rd enc W n 56 cs y) (hw : Wt 56 y.1) :
    ∃ (x0 : Int) (A : Option Addr) (len cap : Nat) (bs : List Nat), cs = [.int .i64 x0, .slice A len cap] ∧ len ≤ cap ∧ len ≤ 140737488355328 ∧ Byt W W.heap.size A len bs := by
  obtain ⟨m, rfl, hl, hf⟩ := trod_agg Tryd.underlying56 h hw
  rw [cellsM] at hl
  obtain ⟨z0, r0, w0⟩ := hf 0 _ rfl
  obtain ⟨z1, r1, w1⟩ := hf 1 _ rfl
  obtain ⟨x0, x1, rfl⟩ := list2 hl
  have q0 : Rd enc W m 3 (([x0, x1].drop 0).take (Tryd.prog.cellsOf 3)) z0 := r0
  rw [cells1] at q0
  have q0 : Rd enc W m 3 [x0] z0 := q0
  have q1 : Rd enc W m 31 (([x0, x1].drop 1).take (Tryd.prog.cellsOf 31)) z1 := r1
  rw [cellsS] at q1
  have q1 : Rd enc W m 31 [x1] z1 := q1
  obtain ⟨a, e0, b0⟩ := DataW.trod_int Tryd.underlying3 q0
  obtain ⟨A, len, cap, bs, e1, h1, h2, h3⟩ := open_bytes m [x1] z1 q1 w1
  simp only [List.cons.injEq, and_true] at e0 e1
  subst e0 e1
  exact ⟨a, A, len, cap, bs, rfl, h1, h2, h3⟩
theorem open_msgs (n : Nat) (cs : List Value) (y : DataW H × List MemPlace) (h : Rd enc W n 22 cs y) (hw : Wt 22 y.1) :
    ∃ A len cap l, cs = [.slice A len cap] ∧ (A = none → cap = 0) ∧ (len + 1) * 32 ≤ 140737488355328 ∧ Ms W W.heap.size A len l := by
  obtain ⟨A, len, cap, b, o, e, hA, hcap, hby, hat, hel⟩ := open_row Tryd.underlying22 cellsM (by decide) h hw
  rw [bytesM] at hby
  have hrb : reachBytes ≤ 140737488351232 := by decide
  obtain ⟨F, hF⟩ := each_of (P := fun i (x : Mg) => ∃ Ai ci, W.cell? ⟨b, o + i * 2, none⟩ = some (.int .i64 x.1) ∧ W.cell? ⟨b, o + i * 2 + 1, none⟩ = some (.slice Ai x.2.length ci) ∧ x.2.length ≤ ci ∧ x.2.length ≤ 140737488355328 ∧ Byt W W.heap.size Ai x.2.length x.2) (n := len) (fun i hi => by
    obtain ⟨m, cs', z, _, hl, hc, hr, hw'⟩ := hel i hi
    obtain ⟨x0, Ai, li, ci, bs, rfl, h1, h2, h3⟩ := open_msg m cs' z hr hw'
    have hbl := h3.len
    refine ⟨(x0, bs), Ai, ci, ?_, ?_, by rw [hbl]; exact h1, by rw [hbl]; exact h2, by rw [hbl]; exact h3⟩
    · have := hc 0 _ rfl
      simpa using this
    · have := hc 1 _ rfl
      rw [hbl]
      exact this)
  refine ⟨A, len, cap, (List.range len).map F, e, hA, by omega, ⟨by simp, fun h0 => ?_⟩⟩
  obtain ⟨hAe, hb⟩ := hat h0
  refine ⟨b, o, hAe, hb, fun i hi => ?_⟩
  simp at hi
  obtain ⟨Ai, ci, q1, q2, q3, q4, q5⟩ := hF i hi
  refine ⟨Ai, ci, ?_, ?_, ?_, ?_, ?_⟩
  all_goals simp only [List.getElem_map, List.getElem_range]
  · exact q1
  · exact q2
  · exact q3
  · exact q4
  · exact q5
end
end Go.Proofs.YtcgapkepbnbabaaDoor.X5
