/- Rows of rows of bytes and rows of numbers as arguments. -/
import Derived.Test.YtpajimkebnfneaaDoorNv
import Derived.Test.YtpajimkebnfneaaDoorNh
namespace Go.Proofs.YtpajimkebnfneaaDoor.X5
set_option linter.unusedVariables false
set_option linter.unusedSimpArgs false
open Go.RowKit Wd Ty9

section
variable {H : Type} {enc : TypeId × Value → H} {W : World}
theorem cellsR : Tryd.prog.cellsOf 22 = 1 := by kernel_rfl
theorem bytesR : Tryd.prog.bytesOf 22 = 24 := by kernel_rfl
theorem open_rows (n : Nat) (cs : List Value) (y : DataW H × List MemPlace) (h : Rd enc W n 39 cs y) (hw : Wt 39 y.1) :
    ∃ A len cap ls, cs = [.slice A len cap] ∧ Ls W A len ls := by
  obtain ⟨A, len, cap, b, o, e, hA, hcap, hby, hat, hel⟩ := open_row Tryd.underlying39 cellsR (by decide) h hw
  obtain ⟨F, hF⟩ := each_of (α := List Nat × Option Addr × Nat) (P := fun i x => W.cell? ⟨b, o + i, none⟩ = some (.slice x.2.1 x.1.length x.2.2) ∧ x.1.length ≤ x.2.2 ∧ x.1.length ≤ 140737488355328 ∧ Byt W W.heap.size x.2.1 x.1.length x.1) (n := len) (fun i hi => by
    obtain ⟨m, cs', z, _, hl, hc, hr, hw'⟩ := hel i hi
    obtain ⟨A', len', cap', bs, e', h1, h2, h3⟩ := open_bytes m cs' z hr hw'
    refine ⟨(bs, A', cap'), ?_, by rw [h3.len]; exact h1, by rw [h3.len]; exact h2, by rw [h3.len]; exact h3⟩
    have := hc 0 (.slice A' len' cap') (by rw [e']; rfl)
    rw [Nat.mul_one, Nat.add_zero] at this
    rw [this, h3.len])
  refine ⟨A, len, cap, (List.range len).map fun i => (F i).1, e, by simp, b, o, fun i => (F i).2.1, fun i => (F i).2.2, hat, fun i hi => ?_⟩
  simp at hi
  have := hF i hi
  simp only [List.getElem_map, List.getElem_range]
  exact this
theorem open_rows2 (n : Nat) (cs : List Value) (y : DataW H × List MemPlace) (h : Rd enc W n 39 cs y) (hw : Wt 39 y.1) :
    ∃ A len cap ls, cs = [.slice A len cap] ∧ len ≤ 140737488355328 ∧ Ls W A len ls := by
  obtain ⟨A, len, cap, ls, e1, e2⟩ := open_rows n cs y h hw
  obtain ⟨A', len', cap', b, o, e, hA, hcap, hby, hat, hel⟩ := open_row Tryd.underlying39 cellsR (by decide) h hw
  rw [bytesR] at hby
  have hrb : reachBytes ≤ 140737488355328 := by decide
  rw [e1] at e
  injection e with e
  injection e with e3 e4 e5
  exact ⟨A, len, cap, ls, e1, by omega, e2⟩
theorem cellsZ : Tryd.prog.cellsOf 3 = 1 := by kernel_rfl
theorem bytesZ : Tryd.prog.bytesOf 3 = 8 := by kernel_rfl
theorem i64_wf {n : Int} (h : (Lit.int .i64 n).wf = true) : -9223372036854775808 ≤ n ∧ n ≤ 9223372036854775807 := by
  simp [Lit.wf, IntKind.min, IntKind.max, IntKind.bits, IntKind.signed] at h
  omega
theorem open_ints6 (n : Nat) (cs : List Value) (y : DataW H × List MemPlace) (h : Rd enc W n 34 cs y) (hw : Wt 34 y.1) :
    ∃ A len cap zs, cs = [.slice A len cap] ∧ len ≤ 140737488355328 ∧ Zs W A len zs := by
  obtain ⟨A, len, cap, b, o, e, hA, hcap, hby, hat, hel⟩ := open_row Tryd.underlying34 cellsZ (by decide) h hw
  rw [bytesZ] at hby
  have hrb : reachBytes ≤ 140737488355328 := by decide
  obtain ⟨F, hF⟩ := each_of (P := fun i (x : Int) => (-9223372036854775808 ≤ x ∧ x ≤ 9223372036854775807) ∧ W.cell? ⟨b, o + i, none⟩ = some (.int .i64 x)) (n := len) (fun i hi => by
    obtain ⟨m, cs', z, _, hl, hc, hr, hw'⟩ := hel i hi
    obtain ⟨a, e0, _, hwf⟩ := DataW.trod_int Tryd.underlying3 hr
    subst e0
    refine ⟨a, i64_wf hwf, ?_⟩
    have := hc 0 _ rfl
    rwa [Nat.mul_one, Nat.add_zero] at this)
  refine ⟨A, len, cap, (List.range len).map F, e, by omega, by simp, fun z hz => ?_, b, o, hat, fun i hi => ?_⟩
  · obtain ⟨i, hi, rfl⟩ := List.mem_map.mp hz
    exact (hF i (List.mem_range.mp hi)).1
  · simp at hi
    rw [List.getElem_map, List.getElem_range]
    exact (hF i hi).2
end
end Go.Proofs.YtpajimkebnfneaaDoor.X5
