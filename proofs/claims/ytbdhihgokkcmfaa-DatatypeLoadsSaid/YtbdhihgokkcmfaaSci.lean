/- A row of bytes as an argument. -/
import Derived.Test.YtbdhihgokkcmfaaAr
import Derived.Test.YtbdhihgokkcmfaaOa
namespace Go.Proofs.Ytbdhihgokkcmfaa.Ty9
set_option linter.unusedVariables false
set_option linter.unusedSimpArgs false
open Go.RowKit Wd

section
variable {H : Type} {enc : TypeId × Value → H} {W : World}
theorem cellsB8 : Try.prog.cellsOf 5 = 1 := by kernel_rfl
theorem bytesB8 : Try.prog.bytesOf 5 = 1 := by kernel_rfl
theorem u8_wf {n : Int} (h : (Lit.int .u8 n).wf = true) : ∃ k : Nat, k < 256 ∧ n = (k : Int) := by
  have h2 : 0 ≤ n ∧ n ≤ 255 := by
    simp [Lit.wf, IntKind.min, IntKind.max, IntKind.bits, IntKind.signed] at h
    omega
  exact ⟨n.toNat, by omega, by omega⟩
theorem open_bytes (n : Nat) (cs : List Value) (y : DataW H × List MemPlace) (h : Rd enc W n 49 cs y) (hw : Wt 49 y.1) :
    ∃ A len cap bs, cs = [.slice A len cap] ∧ len ≤ cap ∧ len ≤ 140737488355328 ∧ Byt W W.heap.size A len bs := by
  obtain ⟨A, len, cap, b, o, e, hcap, hby, hat, hel⟩ := open_row Try.underlying49 cellsB8 (by decide) h hw
  rw [bytesB8] at hby
  have hrb : reachBytes ≤ 140737488355328 := by decide
  obtain ⟨F, hF⟩ := each_of (P := fun i (x : Nat) => x < 256 ∧ W.cell? ⟨b, o + i, none⟩ = some (.int .u8 (x : Int))) (n := len) (fun i hi => by
    obtain ⟨m, cs', z, _, hl, hc, hr, hw'⟩ := hel i hi
    obtain ⟨a, e0, _, hwf⟩ := DataW.trod_int Try.underlying5 hr
    obtain ⟨k, hk, rfl⟩ := u8_wf hwf
    subst e0
    refine ⟨k, hk, ?_⟩
    have := hc 0 _ rfl
    rwa [Nat.mul_one, Nat.add_zero] at this)
  refine ⟨A, len, cap, (List.range len).map F, e, hcap, by omega, ⟨by simp, ?_, fun h0 => ?_⟩⟩
  · intro x hx
    obtain ⟨i, hi, rfl⟩ := List.mem_map.mp hx
    exact (hF i (List.mem_range.mp hi)).1
  · obtain ⟨hAe, hb⟩ := hat h0
    refine ⟨b, o, hAe, hb, fun j hj => ?_⟩
    simp at hj
    rw [List.getElem_map, List.getElem_range]
    exact (hF j hj).2
end
end Go.Proofs.Ytbdhihgokkcmfaa.Ty9
