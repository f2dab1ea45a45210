/- Extents in memory; the functions over one or two extents. -/
import Derived.Test.YtkdfafaiabidgaaDoorMw
import Derived.Test.YtkdfafaiabidgaaDoorKc
namespace Go.Proofs.YtkdfafaiabidgaaDoor.X5
set_option linter.unusedVariables false
set_option linter.unusedSimpArgs false
open Go.RowKit Wd Ty9

/-- An extent as a value. -/
abbrev av (x : Xt) : Value := .agg #[.int .i64 x.1, .int .i64 x.2]

theorem bool_of {p q : Prop} [Decidable p] [Decidable q] (h : p ↔ q) : decide p = decide q := by simp [h]

set_option maxHeartbeats 1000000 in
theorem may_any (x : Xt) (w : World) : Calls Tryd.prog 27 #[av x] w fun e w' => e = .returned (.bool (decide (mayP x))) ∧ Below w.heap.size w w' := by
  obtain ⟨a, s⟩ := x
  have hd : (decide (mayP (a, s)) = true) ↔ (0 ≤ a ∧ a ≤ 4194304 ∧ 0 ≤ s ∧ s ≤ 4194304 - a) := by rw [decide_eq_true_eq]; exact Iff.rfl
  have HD := Lib.hid hd
  generalize decide (mayP (a, s)) = r at *
  clear hd
  simp only [av]
  by_cases h1 : 0 ≤ a
  · by_cases h2 : a ≤ 4194304
    · have hw : wrap64 (4194304 - a) = 4194304 - a := by unfold wrap64; omega
      go_enter Tryd.func27, Tryd.ntmps27
      go_wp2
      all_goals
        go_ret
        refine ⟨congrArg (fun b => Ending.returned (Value.bool b)) (Bool.eq_iff_iff.mpr ?_), (Below.refl _ _).alloc (Nat.le_refl _) _⟩
        rw [HD.out]
        simp only [decide_eq_true_eq, Bool.false_eq_true, false_iff]
        omega
    · by_cases h4 : 0 ≤ s
      all_goals
        go_enter Tryd.func27, Tryd.ntmps27
        go_wp2
        go_ret
        refine ⟨congrArg (fun b => Ending.returned (Value.bool b)) (Bool.eq_iff_iff.mpr ?_), (Below.refl _ _).alloc (Nat.le_refl _) _⟩
        rw [HD.out]
        simp only [decide_eq_true_eq, Bool.false_eq_true, false_iff]
        omega
  · go_enter Tryd.func27, Tryd.ntmps27
    go_wp2
    go_ret
    refine ⟨congrArg (fun b => Ending.returned (Value.bool b)) (Bool.eq_iff_iff.mpr ?_), (Below.refl _ _).alloc (Nat.le_refl _) _⟩
    rw [HD.out]
    simp only [decide_eq_true_eq, Bool.false_eq_true, false_iff]
    omega

set_option maxHeartbeats 1000000 in
theorem rmay_any (x : Xt) (w : World) : Calls Tryd.prog 40 #[av x] w fun e w' => e = .returned (.bool (decide (mayP x))) ∧ Below w.heap.size w w' := by
  obtain ⟨a, s⟩ := x
  have hd : (decide (mayP (a, s)) = true) ↔ (0 ≤ a ∧ a ≤ 4194304 ∧ 0 ≤ s ∧ s ≤ 4194304 - a) := by rw [decide_eq_true_eq]; exact Iff.rfl
  have HD := Lib.hid hd
  generalize decide (mayP (a, s)) = r at *
  clear hd
  simp only [av]
  by_cases h1 : 0 ≤ a
  · by_cases h2 : a ≤ 4194304
    · have hw : wrap64 (4194304 - a) = 4194304 - a := by unfold wrap64; omega
      go_enter Tryd.func40, Tryd.ntmps40
      go_wp2
      all_goals
        go_ret
        refine ⟨congrArg (fun b => Ending.returned (Value.bool b)) (Bool.eq_iff_iff.mpr ?_), (Below.refl _ _).alloc (Nat.le_refl _) _⟩
        rw [HD.out]
        simp only [decide_eq_true_eq, Bool.false_eq_true, false_iff]
        omega
    · by_cases h4 : 0 ≤ s
      all_goals
        go_enter Tryd.func40, Tryd.ntmps40
        go_wp2
        go_ret
        refine ⟨congrArg (fun b => Ending.returned (Value.bool b)) (Bool.eq_iff_iff.mpr ?_), (Below.refl _ _).alloc (Nat.le_refl _) _⟩
        rw [HD.out]
        simp only [decide_eq_true_eq, Bool.false_eq_true, false_iff]
        omega
  · go_enter Tryd.func40, Tryd.ntmps40
    go_wp2
    go_ret
    refine ⟨congrArg (fun b => Ending.returned (Value.bool b)) (Bool.eq_iff_iff.mpr ?_), (Below.refl _ _).alloc (Nat.le_refl _) _⟩
    rw [HD.out]
    simp only [decide_eq_true_eq, Bool.false_eq_true, false_iff]
    omega

set_option maxHeartbeats 1000000 in
theorem end_any (x : Xt) (w : World) (h : mayP x) : Calls Tryd.prog 28 #[av x] w fun e w' => e = .returned (.int .i64 (x.1 + x.2)) ∧ Below w.heap.size w w' := by
  obtain ⟨a, s⟩ := x
  unfold mayP at h
  simp only [av] at *
  have hw : wrap64 (a + s) = a + s := by unfold wrap64; omega
  go_enter Tryd.func28, Tryd.ntmps28
  go_wp2
  go_ret
  exact ⟨rfl, (Below.refl _ _).alloc (Nat.le_refl _) _⟩

end Go.Proofs.YtkdfafaiabidgaaDoor.X5
