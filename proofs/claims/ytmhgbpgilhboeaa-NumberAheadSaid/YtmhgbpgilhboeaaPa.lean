/- The package number: what Clamp, ClampUint, Float, FloatUint and Nan return. -/
import Derived.Test.YtmhgbpgilhboeaaRg
namespace Go.Proofs.Ytmhgbpgilhboeaa.Pa
set_option linter.unusedVariables false
set_option linter.unusedSimpArgs false
open Go.RowKit Wd Ra Fl Go.Proofs.Ytmhgbpgilhboeaa.Math10

theorem right_yes (width : Int) (w : World) (h0 : 1 ≤ width) (h1 : width ≤ 8) :
    Calls Try.prog 38 #[.int .i64 width] w fun e w' => e = .returned (.bool true) ∧ Dr w w' := by
  go_enter Try.func38, Try.ntmps38
  go_wp2
  go_ret
  exact ⟨by first | rfl | (simp; done) | (simp; omega), Dr.refl _⟩
theorem right_no (width : Int) (w : World) (h : width < 1 ∨ 8 < width) :
    Calls Try.prog 38 #[.int .i64 width] w fun e w' => e = .returned (.bool false) ∧ Dr w w' := by
  rcases h with h | h
  all_goals
    have h' : ¬ (1 ≤ width ∧ width ≤ 8) := by omega
    go_enter Try.func38, Try.ntmps38
    go_wp2
    go_ret
    exact ⟨by first | rfl | (simp; done) | (simp; omega), Dr.refl _⟩

theorem small8 {m : Nat} (h0 : 1 ≤ m) (h1 : m ≤ 8) : m = 1 ∨ m = 2 ∨ m = 3 ∨ m = 4 ∨ m = 5 ∨ m = 6 ∨ m = 7 ∨ m = 8 := by omega
theorem ends_yes (m : Nat) (w : World) (h0 : 1 ≤ m) (h1 : m ≤ 8) :
    Calls Try.prog 39 #[.int .i64 m, .bool true] w fun e w' => e = .returned (.tuple #[.int .i64 (-pw (8 * m - 1)), .int .u64 (pw (8 * m - 1) - 1)]) ∧ Dr w w' := by
  simp only [pw_eq]
  rcases small8 h0 h1 with rfl | rfl | rfl | rfl | rfl | rfl | rfl | rfl
  all_goals
    go_enter Try.func39, Try.ntmps39
    go_wp2
    try (go_quiet (fail); try go_wp2)
    go_ret2
    exact ⟨rfl, by repeat (first | exact Dr.refl _ | apply Dr.step)⟩
theorem ends_no (m : Nat) (w : World) (h0 : 1 ≤ m) (h1 : m ≤ 8) :
    Calls Try.prog 39 #[.int .i64 m, .bool false] w fun e w' => e = .returned (.tuple #[.int .i64 0, .int .u64 (pw (8 * m) - 1)]) ∧ Dr w w' := by
  simp only [pw_eq]
  rcases small8 h0 h1 with rfl | rfl | rfl | rfl | rfl | rfl | rfl | rfl
  all_goals
    go_enter Try.func39, Try.ntmps39
    go_wp2
    try (go_quiet (fail); try go_wp2)
    go_ret2
    exact ⟨rfl, by repeat (first | exact Dr.refl _ | apply Dr.step)⟩
theorem cut_any (n : Int) (m : Nat) (w : World) (h0 : 1 ≤ m) (h1 : m ≤ 8) :
    Calls Try.prog 40 #[.int .i64 n, .int .i64 m] w fun e w' => e = .returned (.int .u64 (n % pw (8 * m))) ∧ Dr w w' := by
  rcases small8 h0 h1 with rfl | rfl | rfl | rfl | rfl | rfl | rfl | rfl
  all_goals
    go_enter Try.func40, Try.ntmps40
    go_wp2
    try (go_quiet (fail); try go_wp2)
    go_ret
    refine ⟨ret_u64 ?_, by repeat (first | exact Dr.refl _ | apply Dr.step)⟩
    simp only [pw_eq, IntKind.wrap_u64]
    omega

theorem clampu_no (u width : Int) (sign : Bool) (w : World) (h : width < 1 ∨ 8 < width) :
    Calls Try.prog 15 #[.int .u64 u, .int .i64 width, .bool sign] w fun e w' => e = .returned (.tuple #[.int .u64 0, .int .i64 2]) ∧ Dr w w' := by
  have HH := Lib.hid h
  clear h
  go_enter Try.func15, Try.ntmps15
  go_wp2_with (go_at_call 38; refine (right_no _ _ HH.out).mono ?_; rintro e w' ⟨rfl, ⟨nd, rfl⟩⟩)
  go_ret2
  exact ⟨rfl, Dr.step (Dr.refl _) _⟩
theorem clamp_no (n width : Int) (sign : Bool) (w : World) (h : width < 1 ∨ 8 < width) :
    Calls Try.prog 14 #[.int .i64 n, .int .i64 width, .bool sign] w fun e w' => e = .returned (.tuple #[.int .u64 0, .int .i64 2]) ∧ Dr w w' := by
  have HH := Lib.hid h
  clear h
  go_enter Try.func14, Try.ntmps14
  go_wp2_with (go_at_call 38; refine (right_no _ _ HH.out).mono ?_; rintro e w' ⟨rfl, ⟨nd, rfl⟩⟩)
  go_ret2
  exact ⟨rfl, Dr.step (Dr.refl _) _⟩
theorem clampu_yes (u : Int) (m : Nat) (sign : Bool) (w : World) (h0 : 1 ≤ m) (h1 : m ≤ 8) :
    Calls Try.prog 15 #[.int .u64 u, .int .i64 m, .bool sign] w fun e w' => e = .returned (.tuple #[.int .u64 (withinV false u false m sign), .int .i64 0]) ∧ Dr w w' := by
  cases sign
  · have hv : withinV false u false m false = if pw (8 * m) - 1 < u then pw (8 * m) - 1 else u := by simp [withinV]
    rw [hv]
    by_cases hc : pw (8 * m) - 1 < u
    all_goals
      go_enter Try.func15, Try.ntmps15
      go_wp2_with (first
        | (go_at_call 38; refine (right_yes _ _ (by omega) (by omega)).mono ?_; rintro e w' ⟨rfl, ⟨nd, rfl⟩⟩)
        | (go_at_call 39; refine (ends_no _ _ h0 h1).mono ?_; rintro e w' ⟨rfl, ⟨nd, rfl⟩⟩))
      go_ret2
      exact ⟨by simp [hc], by repeat (first | exact Dr.refl _ | apply Dr.step)⟩
  · have hv : withinV false u false m true = if pw (8 * m - 1) - 1 < u then pw (8 * m - 1) - 1 else u := by simp [withinV]
    rw [hv]
    by_cases hc : pw (8 * m - 1) - 1 < u
    all_goals
      go_enter Try.func15, Try.ntmps15
      go_wp2_with (first
        | (go_at_call 38; refine (right_yes _ _ (by omega) (by omega)).mono ?_; rintro e w' ⟨rfl, ⟨nd, rfl⟩⟩)
        | (go_at_call 39; refine (ends_yes _ _ h0 h1).mono ?_; rintro e w' ⟨rfl, ⟨nd, rfl⟩⟩))
      go_ret2
      exact ⟨by simp [hc], by repeat (first | exact Dr.refl _ | apply Dr.step)⟩
theorem clamp_pos (n : Int) (m : Nat) (sign : Bool) (w : World) (hn : 0 ≤ n) (hn1 : n ≤ 9223372036854775807) (h0 : 1 ≤ m) (h1 : m ≤ 8) :
    Calls Try.prog 14 #[.int .i64 n, .int .i64 m, .bool sign] w fun e w' => e = .returned (.tuple #[.int .u64 (withinV false n false m sign), .int .i64 0]) ∧ Dr w w' := by
  have e1 : IntKind.u64.wrap n = n := by simp only [IntKind.wrap_u64]; omega
  go_enter Try.func14, Try.ntmps14
  go_wp2_with (first
    | (go_at_call 38; refine (right_yes _ _ (by omega) (by omega)).mono ?_; rintro e w' ⟨rfl, ⟨nd, rfl⟩⟩)
    | (go_at_call 15; refine (clampu_yes _ _ _ _ h0 h1).mono ?_; rintro e w' ⟨rfl, ⟨nd, rfl⟩⟩))
  go_ret2
  exact ⟨rfl, by repeat (first | exact Dr.refl _ | apply Dr.step)⟩
theorem wrap_mod (x : Int) {m : Nat} (h0 : 1 ≤ m) (h1 : m ≤ 8) : IntKind.u64.wrap x % pw (8 * m) = x % pw (8 * m) := by
  rw [IntKind.wrap_u64]
  rcases small8 h0 h1 with rfl | rfl | rfl | rfl | rfl | rfl | rfl | rfl <;> simp only [pw_eq] <;> omega
theorem clamp_neg (n : Int) (m : Nat) (sign : Bool) (w : World) (hn : n < 0) (hn1 : -9223372036854775808 ≤ n) (h0 : 1 ≤ m) (h1 : m ≤ 8) :
    Calls Try.prog 14 #[.int .i64 n, .int .i64 m, .bool sign] w fun e w' => e = .returned (.tuple #[.int .u64 (withinV true (-n) false m sign), .int .i64 0]) ∧ Dr w w' := by
  cases sign
  · go_enter Try.func14, Try.ntmps14
    go_wp2_with (first
      | (go_at_call 38; refine (right_yes _ _ (by omega) (by omega)).mono ?_; rintro e w' ⟨rfl, ⟨nd, rfl⟩⟩)
      | (go_at_call 39; refine (ends_no _ _ h0 h1).mono ?_; rintro e w' ⟨rfl, ⟨nd, rfl⟩⟩)
      | (go_at_call 40; refine (cut_any _ _ _ h0 h1).mono ?_; rintro e w' ⟨rfl, ⟨nd, rfl⟩⟩))
    all_goals
      go_ret2
      exact ⟨by simp [withinV], by repeat (first | exact Dr.refl _ | apply Dr.step)⟩
  · have hv : withinV true (-n) false m true = if n < -pw (8 * m - 1) then -pw (8 * m - 1) % pw (8 * m) else n % pw (8 * m) := by
      unfold withinV
      simp only [if_true, Bool.false_eq_true, false_or]
      rw [wrap_mod _ h0 h1, wrap_mod _ h0 h1, Int.neg_neg]
      by_cases hc : n < -pw (8 * m - 1)
      · rw [if_pos hc, if_pos (by omega)]
      · rw [if_neg hc, if_neg (by omega)]
    rw [hv]
    by_cases hc : n < -pw (8 * m - 1)
    all_goals
      go_enter Try.func14, Try.ntmps14
      go_wp2_with (first
        | (go_at_call 38; refine (right_yes _ _ (by omega) (by omega)).mono ?_; rintro e w' ⟨rfl, ⟨nd, rfl⟩⟩)
        | (go_at_call 39; refine (ends_yes _ _ h0 h1).mono ?_; rintro e w' ⟨rfl, ⟨nd, rfl⟩⟩)
        | (go_at_call 40; refine (cut_any _ _ _ h0 h1).mono ?_; rintro e w' ⟨rfl, ⟨nd, rfl⟩⟩))
      go_ret2
      exact ⟨by simp [hc], by repeat (first | exact Dr.refl _ | apply Dr.step)⟩


theorem float_eq8 (n : Int) : floatOfInt .f64 n = Ieee.double.nearest (decide (n < 0)) n.natAbs 0 := rfl

theorem float8 (n : Int) (w : World) :
    Calls Try.prog 24 #[.int .i64 n, .int .i64 8] w fun e w' => e = .returned (.tuple #[.int .u64 (Ieee.double.nearest (decide (n < 0)) n.natAbs 0 : Nat), .int .i64 0]) ∧ Dr w w' := by
  rw [← float_eq8]
  have hx := ext33 (floatOfInt .f64 n)
  have hc := fun W => run_convert_int_float (P := Try.prog) W 3 49 .i64 .f64 n (by rw [Try.underlying3]; rfl) Try.underlying49
  generalize floatOfInt .f64 n = r at *
  go_enter Try.func24, Try.ntmps24
  go_wp2
  go_ret2
  exact ⟨rfl, Dr.refl _⟩

theorem floatu8 (n : Int) (w : World) :
    Calls Try.prog 25 #[.int .u64 n, .int .i64 8] w fun e w' => e = .returned (.tuple #[.int .u64 (Ieee.double.nearest (decide (n < 0)) n.natAbs 0 : Nat), .int .i64 0]) ∧ Dr w w' := by
  rw [← float_eq8]
  have hx := ext33 (floatOfInt .f64 n)
  have hc := fun W => run_convert_int_float (P := Try.prog) W 22 49 .u64 .f64 n (by rw [Try.underlying22]; rfl) Try.underlying49
  generalize floatOfInt .f64 n = r at *
  go_enter Try.func25, Try.ntmps25
  go_wp2
  go_ret2
  exact ⟨rfl, Dr.refl _⟩


theorem float_eq4 (n : Int) : floatOfInt .f32 n = Ieee.single.nearest (decide (n < 0)) n.natAbs 0 := rfl

theorem nearest_lt32 (s : Bool) (m : Nat) : Ieee.single.nearest s m 0 < 4294967296 := by
  have := Ieee.single.nearest_lt s m 0
  have h : 2 ^ Ieee.single.width = 4294967296 := by decide
  omega

theorem float4 (n : Int) (w : World) :
    Calls Try.prog 24 #[.int .i64 n, .int .i64 4] w fun e w' => e = .returned (.tuple #[.int .u64 (Ieee.single.nearest (decide (n < 0)) n.natAbs 0 : Nat), .int .i64 0]) ∧ Dr w w' := by
  rw [← float_eq4]
  have hz : IntKind.u64.wrap ((floatOfInt .f32 n : Nat) : Int) = ((floatOfInt .f32 n : Nat) : Int) := u64_in (by omega) (by have := nearest_lt32 (decide (n < 0)) n.natAbs; have := float_eq4 n; omega)
  have hx := ext32 (floatOfInt .f32 n)
  have hc := fun W => run_convert_int_float (P := Try.prog) W 3 51 .i64 .f32 n (by rw [Try.underlying3]; rfl) Try.underlying51
  generalize floatOfInt .f32 n = r at *
  go_enter Try.func24, Try.ntmps24
  go_wp2
  go_ret2
  exact ⟨rfl, Dr.refl _⟩

theorem floatu4 (n : Int) (w : World) :
    Calls Try.prog 25 #[.int .u64 n, .int .i64 4] w fun e w' => e = .returned (.tuple #[.int .u64 (Ieee.single.nearest (decide (n < 0)) n.natAbs 0 : Nat), .int .i64 0]) ∧ Dr w w' := by
  rw [← float_eq4]
  have hz : IntKind.u64.wrap ((floatOfInt .f32 n : Nat) : Int) = ((floatOfInt .f32 n : Nat) : Int) := u64_in (by omega) (by have := nearest_lt32 (decide (n < 0)) n.natAbs; have := float_eq4 n; omega)
  have hx := ext32 (floatOfInt .f32 n)
  have hc := fun W => run_convert_int_float (P := Try.prog) W 22 51 .u64 .f32 n (by rw [Try.underlying22]; rfl) Try.underlying51
  generalize floatOfInt .f32 n = r at *
  go_enter Try.func25, Try.ntmps25
  go_wp2
  go_ret2
  exact ⟨rfl, Dr.refl _⟩


theorem float_no (n width : Int) (w : World) (h4 : width ≠ 4) (h8 : width ≠ 8) :
    Calls Try.prog 24 #[.int .i64 n, .int .i64 width] w fun e w' => e = .returned (.tuple #[.int .u64 0, .int .i64 2]) ∧ Dr w w' := by
  have h4' : (width == 4) = false := beq_eq_false_iff_ne.2 h4
  have h8' : (width == 8) = false := beq_eq_false_iff_ne.2 h8
  clear h4 h8
  go_enter Try.func24, Try.ntmps24
  go_wp2
  go_ret2
  exact ⟨rfl, Dr.refl _⟩
theorem floatu_no (n width : Int) (w : World) (h4 : width ≠ 4) (h8 : width ≠ 8) :
    Calls Try.prog 25 #[.int .u64 n, .int .i64 width] w fun e w' => e = .returned (.tuple #[.int .u64 0, .int .i64 2]) ∧ Dr w w' := by
  have h4' : (width == 4) = false := beq_eq_false_iff_ne.2 h4
  have h8' : (width == 8) = false := beq_eq_false_iff_ne.2 h8
  clear h4 h8
  go_enter Try.func25, Try.ntmps25
  go_wp2
  go_ret2
  exact ⟨rfl, Dr.refl _⟩
end Go.Proofs.Ytmhgbpgilhboeaa.Pa
