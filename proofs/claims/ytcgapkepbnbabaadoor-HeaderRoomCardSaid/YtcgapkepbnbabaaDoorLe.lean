/- Zeros behind a row of bytes ('append(b, make([]byte, n)...)'). -/
import Derived.Test.YtcgapkepbnbabaaDoorLd
import Derived.Lib.AppendZerosOnto
namespace Go.Proofs.YtcgapkepbnbabaaDoor.X5
set_option linter.unusedVariables false
set_option linter.unusedSimpArgs false
open Go.RowKit Wd Ty9

theorem zero_cells (m : Nat) : Builtin.zeroCells (Value.int .u8 0).cells m = (by8 (List.replicate m 0)).toArray := by
  apply Array.ext'
  simp [Builtin.zeroCells, by8, Value.cells]
  apply List.ext_getElem
  · simp
  · intro i h1 h2
    simp [Nat.mod_one]

theorem run_zeros (w : World) (base ty n m g cap : Nat) (bs : List Nat) (hown : w.ownsRow base 5 1 (.slice (some ⟨g, 0, none⟩) n cap) n (by8 bs)) (hlt : ∀ x ∈ bs, x < 256) (hl : n + m ≤ 140737488355328) (hb : base ≤ w.heap.size) :
    ∃ v' w', (Builtin.append_ #[31, 3] ty #[.slice (some ⟨g, 0, none⟩) n cap, .int .i64 m]).run Tryd.prog w = .ok v' w' ∧ w'.ownsRow base 5 1 v' (n + m) (by8 (bs ++ List.replicate m 0)) ∧ w.grownBy w' (some g) := by
  obtain ⟨i0, hi0, hz, hs0, hbt⟩ := info_parts byte_info
  have hw : IntKind.i64.wrap (m : Int) = m := IntWalk.i64_in _ (by omega)
  have hneg : ¬ ((m : Int) < 0) := by omega
  have h48i : ¬ (281474976710656 < (m : Int) * (i0.bytes : Int)) := by rw [hbt]; omega
  have hlen : (by8 (bs ++ List.replicate m 0)).length = (n + m) * 1 := by have h1 := hown.1; rw [by8_len] at h1; rw [by8_len, List.length_append, List.length_replicate]; omega
  have hsm : n + m ≤ maxLen := by unfold maxLen; omega
  have h1c : ∀ u ∈ by8 (List.replicate m 0), u.oneCell' = true := by
    intro u hu; simp [by8] at hu; obtain ⟨_, rfl⟩ := hu; rfl
  have hown2 := hown.2
  rcases hown2 with ⟨hv, _⟩ | ⟨g', cap', cur, hv, hbg, hg, hnc, hcm, hcs, htake⟩
  · cases hv
  · cases hv
    by_cases hroom : n + m ≤ cap
    · have hfit : n * 1 + (by8 (List.replicate m 0)).length ≤ cur.size := by rw [by8_len, List.length_replicate, hcs]; omega
      have hst := run_storeCells_at Tryd.prog g (n * 1) 5 (by8 (List.replicate m 0)) 0 cur w hg (by simpa using hfit) h1c
      simp only [Nat.add_zero] at hst
      have hr : (Builtin.append_ #[31, 3] ty #[.slice (some ⟨g, 0, none⟩) n cap, .int .i64 m]).run Tryd.prog w =
          .ok (.slice (some ⟨g, 0, none⟩) (n + m) cap) (w.setRow g (cur.toList.take (n * 1) ++ by8 (List.replicate m 0) ++ cur.toList.drop (n * 1 + (by8 (List.replicate m 0)).length)).toArray) := by
        by_cases hm : m = 0
        · subst hm
          simp [by8] at hst
          have hw0 : IntKind.i64.wrap 0 = 0 := by decide
          simp [Builtin.append_, hw0, run_underlying Tryd.underlying31, run_underlying Tryd.underlying3, sizeOf, typeInfo, zeroValue, hi0, hz, hs0, asInt, asIntOf, hw, hneg, h48i, Addr.add_lit, hnc, by8, hst]
        · simp [Builtin.append_, run_underlying Tryd.underlying31, run_underlying Tryd.underlying3, sizeOf, typeInfo, zeroValue, hi0, hz, hs0, asInt, asIntOf, hw, hneg, h48i, hm, hroom, Addr.add_lit, zero_cells]
          simp at hst
          rw [hst]
          simp
      refine ⟨_, _, hr, ⟨hlen, .inr ⟨g, cap, _, rfl, hbg, setRow_heap w g cur _ 5 _ hg, hroom, hcm, ?_, ?_⟩⟩, ⟨rfl, rfl, rfl, by simp, fun k _ hk => setRow_other w g k _ (fun e => hk (by simp [e]))⟩⟩
      · simp only [List.size_toArray, List.length_append, List.length_take, List.length_drop, Array.length_toList]
        omega
      · rw [htake, ← by8_app, ← hlen]
        exact List.take_left
    · have holds : ∀ j u, (by8 bs)[j]? = some u → w.drew.cell? ((⟨g, 0, none⟩ : Addr).add j) = some u := fun j u hu => by
        have := hown.cells (g := g) rfl j u hu
        simpa using this
      have hold := run_firstCells_some (P := Tryd.prog) w.drew i0.size n ⟨g, 0, none⟩ n cap (by8 bs) (by rw [hs0]; exact hown.1) holds
      have hr := Lib.run_append_grow_zeros (P := Tryd.prog) w 31 3 ty 5 i0 (.int .u8 0) .i64 .i64 Tryd.underlying31 Tryd.underlying3 hi0 hz (some ⟨g, 0, none⟩) n cap (by8 bs) hold m (by omega) (by rw [hs0]; decide) (by omega) (by omega) (by rw [hbt]; omega) (growslice_fits (by omega) (by rw [hbt]; omega))
      have hge := grownCap_ge w (n + m) cap 5
      have hcm2 : grownCap w (n + m) cap 5 ≤ maxLen := grownCap_le_maxLen w (n + m) cap 5 hsm
      refine ⟨_, _, hr, ⟨hlen, .inr ⟨w.heap.size, _, _, rfl, hb, heap_alloc_new w.drew _, hge, hcm2, ?_, ?_⟩⟩, ⟨rfl, rfl, rfl, by simp, fun k hk _ => by rw [heap_alloc_old w.drew _ (by simpa using hk)]; rfl⟩⟩
      · have h1 := hown.1
        simp only [Array.size_append, List.size_toArray, size_zeroCells, h1]
        simp [Value.cells]
        omega
      · rw [zero_cells]
        simp only [Array.toList_append]
        rw [← by8_app, ← hlen]
        exact List.take_left
end Go.Proofs.YtcgapkepbnbabaaDoor.X5
