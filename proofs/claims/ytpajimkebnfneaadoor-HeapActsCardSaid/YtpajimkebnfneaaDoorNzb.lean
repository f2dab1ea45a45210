/- Rows of acts as arguments. -/
import Derived.Test.YtpajimkebnfneaaDoorNw
import Derived.Test.YtpajimkebnfneaaDoorNza
namespace Go.Proofs.YtpajimkebnfneaaDoor.X5
set_option linter.unusedVariables false
set_option linter.unusedSimpArgs false
open Go.RowKit Wd Ty9

section
variable {H : Type} {enc : TypeId × Value → H} {W : World}
theorem cellsAct : Tryd.prog.cellsOf 52 = 3 := by kernel_rfl
theorem bytesAct : Tryd.prog.bytesOf 52 = 40 := by kernel_rfl
theorem list3 {l : List Value} (h : l.length = 3) : ∃ x0 x1 x2, l = [x0, x1, x2] := by
  match l, h with
  | [x0, x1, x2], _ => exact ⟨x0, x1, x2, rfl⟩
theorem open_bytes1 (n : Nat) (cs : List Value) (y : DataW H × List MemPlace) (h : Rd enc W n 22 cs y) (hw : Wt 22 y.1) :
    ∃ A len cap bs, cs = [.slice A len cap] ∧ len ≤ cap ∧ len + 1 ≤ 140737488355328 ∧ Byt W W.heap.size A len bs := by
  obtain ⟨A, len, cap, bs, e1, h1, h2, h3⟩ := open_bytes n cs y h hw
  obtain ⟨A', len', cap', b, o, e, hA, hcap, hby, hat, hel⟩ := open_row Tryd.underlying22 cellsB (by decide) h hw
  rw [bytesB] at hby
  have hrb : reachBytes ≤ 140737488351232 := by decide
  rw [e1] at e
  injection e with e
  injection e with e3 e4 e5
  exact ⟨A, len, cap, bs, e1, h1, by omega, h3⟩
theorem open_act (n : Nat) (cs : List Value) (y : DataW H × List MemPlace) (h : Rd enc W n 52 cs y) (hw : Wt 52 y.1) :
    ∃ (x0 x1 : Int) (A : Option Addr) (len cap : Nat) (bs : List Nat), cs = [.int .i64 x0, .int .i64 x1, .slice A len cap] ∧ (-9223372036854775808 ≤ x1 ∧ x1 ≤ 9223372036854775807) ∧ len ≤ cap ∧ len + 1 ≤ 140737488355328 ∧ Byt W W.heap.size A len bs := by
  obtain ⟨m, rfl, hl, hf⟩ := trod_agg Tryd.underlying52 h hw
  rw [cellsAct] at hl
  obtain ⟨z0, r0, w0⟩ := hf 0 _ rfl
  obtain ⟨z1, r1, w1⟩ := hf 1 _ rfl
  obtain ⟨z2, r2, w2⟩ := hf 2 _ rfl
  obtain ⟨x0, x1, x2, rfl⟩ := list3 hl
  have q0 : Rd enc W m 3 (([x0, x1, x2].drop 0).take (Tryd.prog.cellsOf 3)) z0 := r0
  rw [cellsZ] at q0
  have q0 : Rd enc W m 3 [x0] z0 := q0
  have q1 : Rd enc W m 3 (([x0, x1, x2].drop 1).take (Tryd.prog.cellsOf 3)) z1 := r1
  rw [cellsZ] at q1
  have q1 : Rd enc W m 3 [x1] z1 := q1
  have q2 : Rd enc W m 22 (([x0, x1, x2].drop 2).take (Tryd.prog.cellsOf 22)) z2 := r2
  rw [cellsR] at q2
  have q2 : Rd enc W m 22 [x2] z2 := q2
  obtain ⟨a, e0, _, b0⟩ := DataW.trod_int Tryd.underlying3 q0
  obtain ⟨a1, e1, _, b1⟩ := DataW.trod_int Tryd.underlying3 q1
  obtain ⟨A, len, cap, bs, e2, h1, h2, h3⟩ := open_bytes1 m [x2] z2 q2 w2
  simp only [List.cons.injEq, and_true] at e0 e1 e2
  subst e0 e1 e2
  exact ⟨a, a1, A, len, cap, bs, rfl, i64_wf b1, h1, h2, h3⟩
theorem open_acts (n : Nat) (cs : List Value) (y : DataW H × List MemPlace) (h : Rd enc W n 45 cs y) (hw : Wt 45 y.1) :
    ∃ A len cap l, cs = [.slice A len cap] ∧ len ≤ 140737488355328 ∧ As W A len l := by
  obtain ⟨A, len, cap, b, o, e, hA, hcap, hby, hat, hel⟩ := open_row Tryd.underlying45 cellsAct (by decide) h hw
  rw [bytesAct] at hby
  have hrb : reachBytes ≤ 140737488351232 := by decide
  obtain ⟨F, hF⟩ := each_of (α := (Int × Int × List Nat) × Option Addr × Nat) (P := fun i x => W.cell? ⟨b, o + i * 3, none⟩ = some (.int .i64 x.1.1) ∧ W.cell? ⟨b, o + i * 3 + 1, none⟩ = some (.int .i64 x.1.2.1) ∧ W.cell? ⟨b, o + i * 3 + 2, none⟩ = some (.slice x.2.1 x.1.2.2.length x.2.2) ∧
      (-9223372036854775808 ≤ x.1.2.1 ∧ x.1.2.1 ≤ 9223372036854775807) ∧ x.1.2.2.length ≤ x.2.2 ∧ x.1.2.2.length + 1 ≤ 140737488355328 ∧ Byt W W.heap.size x.2.1 x.1.2.2.length x.1.2.2) (n := len) (fun i hi => by
    obtain ⟨m, cs', z, _, hl, hc, hr, hw'⟩ := hel i hi
    obtain ⟨x0, x1, Ai, li, ci, bs, rfl, h0, h1, h2, h3⟩ := open_act m cs' z hr hw'
    have hbl := h3.len
    refine ⟨((x0, x1, bs), Ai, ci), ?_, ?_, ?_, h0, by rw [hbl]; exact h1, by rw [hbl]; exact h2, by rw [hbl]; exact h3⟩
    · have := hc 0 _ rfl
      simpa using this
    · exact hc 1 _ rfl
    · have := hc 2 _ rfl
      rw [hbl]
      exact this)
  refine ⟨A, len, cap, (List.range len).map fun i => (F i).1, e, by omega, by simp, b, o, fun i => (F i).2.1, fun i => (F i).2.2, hat, fun i hi => ?_⟩
  simp at hi
  have := hF i hi
  simp only [List.getElem_map, List.getElem_range]
  exact this
end
end Go.Proofs.YtpajimkebnfneaaDoor.X5
