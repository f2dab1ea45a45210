/- Extents in memory; the functions over one or two extents. -/
import Derived.Test.YtcgapkepbnbabaaDoorMw
import Derived.Test.YtcgapkepbnbabaaDoorKa
namespace Go.Proofs.YtcgapkepbnbabaaDoor.X5
set_option linter.unusedVariables false
set_option linter.unusedSimpArgs false
open Go.RowKit Wd Ty9

/-- An extent as a value. -/
abbrev av (x : Xt) : Value := .agg #[.int .i64 x.1, .int .i64 x.2]

theorem bool_of {p q : Prop} [Decidable p] [Decidable q] (h : p ↔ q) : decide p = decide q := by simp [h]

set_option maxHeartbeats 1000000 in
theorem may_any (x : Xt) (w : World) : Calls Tryd.prog 44 #[av x] w fun e w' => e = .returned (.bool (decide (mayP x))) ∧ Below w.heap.size w w' := by
  obtain ⟨a, s⟩ := x
  have hd : (decide (mayP (a, s)) = true) ↔ (0 ≤ a ∧ a ≤ 4194304 ∧ 0 ≤ s ∧ s ≤ 4194304 - a) := by rw [decide_eq_true_eq]; exact Iff.rfl
  have HD := Lib.hid hd
  generalize decide (mayP (a, s)) = r at *
  clear hd
  simp only [av]
  by_cases h1 : 0 ≤ a
  · by_cases h2 : a ≤ 4194304
    · have hw : wrap64 (4194304 - a) = 4194304 - a := by unfold wrap64; omega
      go_enter Tryd.func44, Tryd.ntmps44
      go_wp2
      all_goals
        go_ret
        refine ⟨congrArg (fun b => Ending.returned (Value.bool b)) (Bool.eq_iff_iff.mpr ?_), (Below.refl _ _).alloc (Nat.le_refl _) _⟩
        rw [HD.out]
        simp only [decide_eq_true_eq, Bool.false_eq_true, false_iff]
        omega
    · by_cases h4 : 0 ≤ s
      all_goals
        go_enter Tryd.func44, Tryd.ntmps44
        go_wp2
        go_ret
        refine ⟨congrArg (fun b => Ending.returned (Value.bool b)) (Bool.eq_iff_iff.mpr ?_), (Below.refl _ _).alloc (Nat.le_refl _) _⟩
        rw [HD.out]
        simp only [decide_eq_true_eq, Bool.false_eq_true, false_iff]
        omega
  · go_enter Tryd.func44, Tryd.ntmps44
    go_wp2
    go_ret
    refine ⟨congrArg (fun b => Ending.returned (Value.bool b)) (Bool.eq_iff_iff.mpr ?_), (Below.refl _ _).alloc (Nat.le_refl _) _⟩
    rw [HD.out]
    simp only [decide_eq_true_eq, Bool.false_eq_true, false_iff]
    omega

set_option maxHeartbeats 1000000 in
theorem rmay_any (x : Xt) (w : World) : Calls Tryd.prog 52 #[av x] w fun e w' => e = .returned (.bool (decide (mayP x))) ∧ Below w.heap.size w w' := by
  obtain ⟨a, s⟩ := x
  have hd : (decide (mayP (a, s)) = true) ↔ (0 ≤ a ∧ a ≤ 4194304 ∧ 0 ≤ s ∧ s ≤ 4194304 - a) := by rw [decide_eq_true_eq]; exact Iff.rfl
  have HD := Lib.hid hd
  generalize decide (mayP (a, s)) = r at *
  clear hd
  simp only [av]
  by_cases h1 : 0 ≤ a
  · by_cases h2 : a ≤ 4194304
    · have hw : wrap64 (4194304 - a) = 4194304 - a := by unfold wrap64; omega
      go_enter Tryd.func52, Tryd.ntmps52
      go_wp2
      all_goals
        go_ret
        refine ⟨congrArg (fun b => Ending.returned (Value.bool b)) (Bool.eq_iff_iff.mpr ?_), (Below.refl _ _).alloc (Nat.le_refl _) _⟩
        rw [HD.out]
        simp only [decide_eq_true_eq, Bool.false_eq_true, false_iff]
        omega
    · by_cases h4 : 0 ≤ s
      all_goals
        go_enter Tryd.func52, Tryd.ntmps52
        go_wp2
        go_ret
        refine ⟨congrArg (fun b => Ending.returned (Value.bool b)) (Bool.eq_iff_iff.mpr ?_), (Below.refl _ _).alloc (Nat.le_refl _) _⟩
        rw [HD.out]
        simp only [decide_eq_true_eq, Bool.false_eq_true, false_iff]
        omega
  · go_enter Tryd.func52, Tryd.ntmps52
    go_wp2
    go_ret
    refine ⟨congrArg (fun b => Ending.returned (Value.bool b)) (Bool.eq_iff_iff.mpr ?_), (Below.refl _ _).alloc (Nat.le_refl _) _⟩
    rw [HD.out]
    simp only [decide_eq_true_eq, Bool.false_eq_true, false_iff]
    omega

set_option maxHeartbeats 1000000 in
theorem end_any (x : Xt) (w : World) (h : mayP x) : Calls Tryd.prog 48 #[av x] w fun e w' => e = .returned (.int .i64 (x.1 + x.2)) ∧ Below w.heap.size w w' := by
  obtain ⟨a, s⟩ := x
  unfold mayP at h
  simp only [av] at *
  have hw : wrap64 (a + s) = a + s := by unfold wrap64; omega
  go_enter Tryd.func48, Tryd.ntmps48
  go_wp2
  go_ret
  exact ⟨rfl, (Below.refl _ _).alloc (Nat.le_refl _) _⟩

set_option maxHeartbeats 1000000 in
theorem common_any (x y : Xt) (w : World) (hx : mayP x) (hy : mayP y) : Calls Tryd.prog 53 #[av x, av y] w fun e w' => e = .returned (.bool (decide (com x y))) ∧ Below w.heap.size w w' := by
  obtain ⟨a, s⟩ := x
  obtain ⟨b, t⟩ := y
  unfold mayP at hx hy
  simp only [av] at *
  have hw : wrap64 (a + s) = a + s := by unfold wrap64; omega
  have hw2 : wrap64 (b + t) = b + t := by unfold wrap64; omega
  go_enter Tryd.func53, Tryd.ntmps53
  go_wp2
  all_goals
    go_ret
    refine ⟨congrArg (fun b => Ending.returned (Value.bool b)) (Bool.eq_iff_iff.mpr ?_), ((Below.refl _ _).alloc (Nat.le_refl _) _).alloc (by simp) _⟩
    rw [decide_eq_true_eq, decide_eq_true_eq]
    show _ ↔ max a b < min (a + s) (b + t)
    omega
end Go.Proofs.YtcgapkepbnbabaaDoor.X5
