/- Rows of bytes as arguments; the table as the row lays it. -/
import Derived.Test.YtcgapkepbnbabaaDoorKv
import Derived.Test.YtcgapkepbnbabaaDoorKca
import Derived.Test.YtcgapkepbnbabaaDoorRows
import Derived.LaidMore
import Derived.MakeChecks
import Derived.OpenShut
namespace Go.Proofs.YtcgapkepbnbabaaDoor.X5
set_option linter.unusedVariables false
set_option linter.unusedSimpArgs false
open Go.RowKit Wd Ty9

section
variable {H : Type} {enc : TypeId × Value → H} {W : World}
theorem cellsB : Tryd.prog.cellsOf 5 = 1 := by kernel_rfl
theorem bytesB : Tryd.prog.bytesOf 5 = 1 := by kernel_rfl
theorem u8_wf {n : Int} (h : (Lit.int .u8 n).wf = true) : ∃ k : Nat, k < 256 ∧ n = (k : Int) := by
  have h2 : 0 ≤ n ∧ n ≤ 255 := by
    simp [Lit.wf, IntKind.min, IntKind.max, IntKind.bits, IntKind.signed] at h
    omega
  exact ⟨n.toNat, by omega, by omega⟩
theorem open_bytes (n : Nat) (cs : List Value) (y : DataW H × List MemPlace) (h : Rd enc W n 31 cs y) (hw : Wt 31 y.1) :
    ∃ A len cap bs, cs = [.slice A len cap] ∧ len ≤ cap ∧ len ≤ 140737488355328 ∧ Byt W W.heap.size A len bs := by
  obtain ⟨A, len, cap, b, o, e, hA, hcap, hby, hat, hel⟩ := open_row Tryd.underlying31 cellsB (by decide) h hw
  rw [bytesB] at hby
  have hrb : reachBytes ≤ 140737488351232 := by decide
  obtain ⟨F, hF⟩ := each_of (P := fun i (x : Nat) => x < 256 ∧ W.cell? ⟨b, o + i, none⟩ = some (.int .u8 (x : Int))) (n := len) (fun i hi => by
    obtain ⟨m, cs', z, _, hl, hc, hr, hw'⟩ := hel i hi
    obtain ⟨a, e0, _, hwf⟩ := DataW.trod_int Tryd.underlying5 hr
    obtain ⟨k, hk, rfl⟩ := u8_wf hwf
    subst e0
    refine ⟨k, hk, ?_⟩
    have := hc 0 _ rfl
    rwa [Nat.mul_one, Nat.add_zero] at this)
  refine ⟨A, len, cap, (List.range len).map F, e, hcap, by omega, ⟨by simp, ?_, fun h0 => ?_⟩⟩
  · intro x hx
    obtain ⟨i, hi, rfl⟩ := List.mem_map.mp hx
    exact (hF i (List.mem_range.mp hi)).1
  · obtain ⟨hAe, hb⟩ := hat h0
    refine ⟨b, o, hAe, hb, fun j hj => ?_⟩
    simp at hj
    rw [List.getElem_map, List.getElem_range]
    exact (hF j hj).2
end

/-! the table -/
theorem gShort : Tryd.prog.globalNamed "slabvault/check.short" = some 0 := by kernel_rfl
theorem tShort : (Tryd.prog.globals[0]?).map (·.type) = some 129 := by kernel_rfl
theorem cellsU : Tryd.prog.cellsOf 94 = 1 := by kernel_rfl
def laidL : List (String × DataW Unit) := [("slabvault/check.short", Rows.laid_slabvault_check_short)]
theorem gs_of_laid {W : World} (h : laidMetH Tryd.prog laidL W) : Gs W := by
  rw [MakeChecks.laidMetH_plain _ _ _ (by kernel_rfl)] at h
  obtain ⟨ps, ⟨g0, t0, cs0, f0, p0, q0, hg0, ht0, hv0, hd0, _⟩, _, _⟩ := h
  obtain rfl := Option.some.inj (gShort.symm.trans hg0)
  obtain rfl := Option.some.inj (tShort.symm.trans ht0)
  obtain ⟨xs, m1, rfl, hx1, hlen, hn3, hel⟩ := DataW.trod_array Tryd.underlying129 hd0
  simp only [Prod.mk.injEq] at hx1
  have hx : xs.map (·.1) = cTab.map (fun (n : Nat) => DataW.lit (.int .u32 (n : Int))) := by
    have h1 := hx1.1
    simp only [Rows.laid_slabvault_check_short, DataW.agg.injEq] at h1
    rw [← h1]; rfl
  have hcell : ∀ i, i < 16 → W.cell? ⟨0, i, none⟩ = some (.int .u32 ((cTab.getD i 0 : Nat) : Int)) := by
    intro i hi
    rw [World.var?_cell hg0 hv0 i]
    have h1 := hel i hi
    rw [cellsU, Nat.mul_one] at h1
    have hxi : xs[i]? = some (xs[i]'(by omega)) := List.getElem?_eq_getElem (by omega)
    rw [hxi] at h1
    obtain ⟨k, e1, e2, _⟩ := DataW.trod_int Tryd.underlying94 h1
    have e3 : (xs.map (·.1))[i]? = some (DataW.lit (.int .u32 k)) := by rw [List.getElem?_map, hxi, e2]; rfl
    rw [hx, List.getElem?_map] at e3
    have hci : cTab[i]? = some (cTab.getD i 0) := by
      rw [List.getD_eq_getElem?_getD, List.getElem?_eq_getElem (show i < cTab.length from hi)]; rfl
    rw [hci] at e3
    simp at e3
    have e4 : cs0[i]? = some (.int .u32 k) := by
      have h2 : (cs0.toList.drop i)[0]? = some (.int .u32 k) := by
        have h3 := congrArg (fun (l : List Value) => l[0]?) e1
        simpa [List.getElem?_take] using h3
      simpa using h2
    rw [e4, ← e3]
    simp
  refine ⟨?_, hcell⟩
  exact World.block_lt_of_cell? W _ (hcell 0 (by decide))
theorem door_met (os : Os) (args : Array Value) : laidMetH Tryd.prog laidL ((World.doorLaid Tryd.prog 400 os).forCall (fun _ _ => 0) ⟨#[], args, []⟩).memory :=
  laidMetH_of_parts3 (fuel := 8) (laidMet_of_run' 8 (by kernel_rfl) (by kernel_rfl)) (by kernel_rfl) (by kernel_rfl)
end Go.Proofs.YtcgapkepbnbabaaDoor.X5
