/- The fields' and members' cells as lists. -/
import Derived.Test.YtbdhihgokkcmfaaPc
namespace Go.Proofs.Ytbdhihgokkcmfaa.Ty9
set_option linter.unusedVariables false
set_option linter.unusedSimpArgs false
open Go.RowKit Wd

theorem zs_of {w : World} {B fb fo : Nat} {fs : List Fd} {fv : Nat → Nat → Value}
    (hf0 : ∀ i (h : i < fs.length), w.cell? ⟨fb, fo + i * 9, none⟩ = some (.string fs[i].name))
    (hf1 : ∀ i (h : i < fs.length), w.cell? ⟨fb, fo + i * 9 + 1, none⟩ = some (.int .i64 fs[i].pos))
    (hf2 : ∀ i, i < fs.length → ∀ k, k < 7 → w.cell? ⟨fb, fo + i * 9 + 2 + k, none⟩ = some (fv i k))
    (hft : ∀ i (h : i < fs.length), TyAt w B fs[i].ty (.agg #[fv i 0, fv i 1, fv i 2, fv i 3, fv i 4, fv i 5, fv i 6])) :
    ∃ zs : List FCl, zs.length = fs.length ∧ (∀ j (h : j < fs.length), zs[j]!.name = fs[j].name) ∧
      ∀ j, j < zs.length → ∀ i v, zs[j]!.enc[i]? = some v → w.cell? ⟨fb, fo + j * 9 + i, none⟩ = some v := by
  have each : ∀ j : Fin fs.length, ∃ x : FCl, x.name = fs[j.1].name ∧ ∀ i v, x.enc[i]? = some v → w.cell? ⟨fb, fo + j.1 * 9 + i, none⟩ = some v := by
    intro ⟨j, hj⟩
    obtain ⟨fA', dA', bA', nA', fC', dC', bC', nC', e0, e1, e2, e3, e4, e5, e6⟩ := (hft j hj).cells
    refine ⟨⟨fs[j].name, fs[j].pos, fs[j].ty.c, fs[j].ty.w, fs[j].ty.big, fA', fs[j].ty.fs.length, fC', dA', fs[j].ty.ds.length, dC', bA', fs[j].ty.bs.length, bC', nA', fs[j].ty.ns.length, nC'⟩, rfl, fun i v hv => ?_⟩
    match i, hv with
    | 0, hv => rw [← Option.some.inj hv]; exact hf0 j hj
    | 1, hv => rw [← Option.some.inj hv]; exact hf1 j hj
    | 2, hv => rw [← Option.some.inj hv, ← e0]; exact hf2 j hj 0 (by omega)
    | 3, hv => rw [← Option.some.inj hv, ← e1]; exact hf2 j hj 1 (by omega)
    | 4, hv => rw [← Option.some.inj hv, ← e2]; exact hf2 j hj 2 (by omega)
    | 5, hv => rw [← Option.some.inj hv, ← e3]; exact hf2 j hj 3 (by omega)
    | 6, hv => rw [← Option.some.inj hv, ← e4]; exact hf2 j hj 4 (by omega)
    | 7, hv => rw [← Option.some.inj hv, ← e5]; exact hf2 j hj 5 (by omega)
    | 8, hv => rw [← Option.some.inj hv, ← e6]; exact hf2 j hj 6 (by omega)
    | i + 9, hv => cases hv
  have hz : ∀ j (h : j < fs.length), (List.ofFn fun j : Fin fs.length => Classical.choose (each j))[j]! = Classical.choose (each ⟨j, h⟩) := by
    intro j h
    rw [List.getElem!_eq_getElem?_getD, List.getElem?_ofFn, dif_pos h]
    rfl
  refine ⟨List.ofFn fun j : Fin fs.length => Classical.choose (each j), List.length_ofFn, fun j h => ?_, fun j h => ?_⟩
  · rw [hz j h]; exact (Classical.choose_spec (each ⟨j, h⟩)).1
  · rw [List.length_ofFn] at h
    rw [hz j h]; exact (Classical.choose_spec (each ⟨j, h⟩)).2
theorem any_names {fs : List Fd} {zs : List FCl} (hl : zs.length = fs.length) (hn : ∀ j (h : j < fs.length), zs[j]!.name = fs[j].name) (k : Nat) (hk : k ≤ fs.length) (nm : ByteArray) :
    ((zs.take k).any fun x => x.name.toList == nm.toList) = true ↔ nm ∈ (fs.take k).map Fd.name := by
  rw [List.any_eq_true, List.mem_map]
  constructor
  · rintro ⟨x, hx, he⟩
    obtain ⟨j, hj, rfl⟩ := List.mem_take_iff_getElem.mp hx
    have hj2 : j < fs.length := by omega
    refine ⟨fs[j], List.mem_take_iff_getElem.mpr ⟨j, by omega, rfl⟩, ?_⟩
    have := hn j hj2
    rw [getElem!_pos zs j (by omega)] at this
    rw [← this]
    exact (Go.Lib.bytes_beq_iff _ _).mp he
  · rintro ⟨x, hx, he⟩
    obtain ⟨j, hj, rfl⟩ := List.mem_take_iff_getElem.mp hx
    have hj2 : j < fs.length := by omega
    have := hn j hj2
    rw [getElem!_pos zs j (by omega)] at this
    refine ⟨zs[j]'(by omega), List.mem_take_iff_getElem.mpr ⟨j, by omega, rfl⟩, ?_⟩
    exact (Go.Lib.bytes_beq_iff _ _).mpr (this.trans he)
end Go.Proofs.Ytbdhihgokkcmfaa.Ty9
