/- The reference's range of integers, and its Clamp. -/
import Derived.Test.YtmhgbpgilhboeaaRe
namespace Go.Proofs.Ytmhgbpgilhboeaa.Ra
set_option linter.unusedVariables false
set_option linter.unusedSimpArgs false
open Go.RowKit Wd Go.Proofs.Ytmhgbpgilhboeaa.Math10

theorem mask_int (u width : Int) (w : World) (h : 0 ≤ u) (hu : u ≤ 18446744073709551615) (h0 : 1 ≤ width) (h1 : width ≤ 8) :
    Calls Try.prog 49 #[.int .u64 u, .int .i64 width] w fun e w' => e = .returned (.int .u64 (u % pw (8 * width.toNat))) ∧ Dr w w' := by
  obtain ⟨n, rfl⟩ := Int.eq_ofNat_of_zero_le h
  have := mask_any n width w hu h0 h1
  rwa [show (((n % 2 ^ (8 * width.toNat) : Nat)) : Int) = (n : Int) % pw (8 * width.toNat) from by rw [pw_eq]; exact Int.natCast_emod _ _] at this

/-- what 'within' tells, of m bytes. -/
def withinV (minus : Bool) (size : Int) (great : Bool) (m : Nat) (sign : Bool) : Int :=
  if minus = true then
    if sign = true then
      if great = true ∨ pw (8 * m - 1) < size then IntKind.u64.wrap (-pw (8 * m - 1)) % pw (8 * m) else IntKind.u64.wrap (-size) % pw (8 * m)
    else 0
  else if sign = true then (if great = true ∨ pw (8 * m - 1) - 1 < size then pw (8 * m - 1) - 1 else size)
  else if great = true ∨ pw (8 * m) - 1 < size then pw (8 * m) - 1 else size

theorem u64_range (x : Int) : 0 ≤ IntKind.u64.wrap x ∧ IntKind.u64.wrap x ≤ 18446744073709551615 := by
  simp only [IntKind.wrap_u64]; omega
theorem pw_top {m : Nat} (h0 : 1 ≤ m) (h1 : m ≤ 8) : pw (8 * m) = 2 * pw (8 * m - 1) := by
  rw [← pw_succ]; congr 1; omega
theorem pw_top64 : pw (8 * 8) = 18446744073709551616 := by rw [pw_eq]; decide

theorem within_minus (size : Int) (great : Bool) (m : Nat) (w : World) (hs : 0 ≤ size) (hs1 : size ≤ 18446744073709551615) (h0 : 1 ≤ m) (h1 : m ≤ 8) :
    Calls Try.prog 41 #[.bool true, .int .u64 size, .bool great, .int .i64 m, .bool true] w fun e w' => e = .returned (.int .u64 (withinV true size great m true)) ∧ Dr w w' := by
  have e8 : ((8 * (m : Int) - 1).toNat) = 8 * m - 1 := by omega
  have r1 := u64_range (-pw (8 * m - 1))
  have r2 := u64_range (-size)
  obtain ⟨r10, r11⟩ := r1
  obtain ⟨r20, r21⟩ := r2
  by_cases hc : pw (8 * m - 1) < size
  all_goals
    cases great
    all_goals
      go_enter Try.func41, Try.ntmps41
      go_wp2_with (first
        | (go_at_call 44; refine (power_any _ _ (by omega) (by omega)).mono ?_; rintro e w' ⟨rfl, ⟨nd, rfl⟩⟩)
        | (go_at_call 49; refine (mask_int _ _ _ (by first | assumption | omega) (by first | assumption | omega) (by omega) (by omega)).mono ?_; rintro e w' ⟨rfl, ⟨nd, rfl⟩⟩))
      go_ret
      refine ⟨ret_u64 ?_, by repeat (first | exact Dr.refl _ | apply Dr.step)⟩
      simp [withinV, hc, e8]
      try omega
theorem within_minus_no (size : Int) (great : Bool) (m : Nat) (w : World) :
    Calls Try.prog 41 #[.bool true, .int .u64 size, .bool great, .int .i64 m, .bool false] w fun e w' => e = .returned (.int .u64 (withinV true size great m false)) ∧ Dr w w' := by
  go_enter Try.func41, Try.ntmps41
  go_wp2
  go_ret
  exact ⟨by simp [withinV], Dr.refl _⟩
theorem within_plus (size : Int) (great : Bool) (m : Nat) (w : World) (hs : 0 ≤ size) (hs1 : size ≤ 18446744073709551615) (h0 : 1 ≤ m) (h1 : m ≤ 8) :
    Calls Try.prog 41 #[.bool false, .int .u64 size, .bool great, .int .i64 m, .bool true] w fun e w' => e = .returned (.int .u64 (withinV false size great m true)) ∧ Dr w w' := by
  have e8 : ((8 * (m : Int) - 1).toNat) = 8 * m - 1 := by omega
  have p1 := pw_pos (8 * m - 1)
  have p2 : pw (8 * m - 1) ≤ 9223372036854775808 := by rw [← pw_63]; exact pw_le (by omega)
  by_cases hc : pw (8 * m - 1) - 1 < size
  all_goals
    cases great
    all_goals
      go_enter Try.func41, Try.ntmps41
      go_wp2_with (first
        | (go_at_call 44; refine (power_any _ _ (by omega) (by omega)).mono ?_; rintro e w' ⟨rfl, ⟨nd, rfl⟩⟩))
      go_ret
      refine ⟨ret_u64 ?_, by repeat (first | exact Dr.refl _ | apply Dr.step)⟩
      simp [withinV, hc, e8]
      try omega
theorem within_plus_no (size : Int) (great : Bool) (m : Nat) (w : World) (hs : 0 ≤ size) (hs1 : size ≤ 18446744073709551615) (h0 : 1 ≤ m) (h1 : m ≤ 8) :
    Calls Try.prog 41 #[.bool false, .int .u64 size, .bool great, .int .i64 m, .bool false] w fun e w' => e = .returned (.int .u64 (withinV false size great m false)) ∧ Dr w w' := by
  have e8 : ((8 * (m : Int) - 1).toNat) = 8 * m - 1 := by omega
  have p1 := pw_pos (8 * m - 1)
  have p2 : pw (8 * m - 1) ≤ 9223372036854775808 := by rw [← pw_63]; exact pw_le (by omega)
  have p3 := pw_top h0 h1
  by_cases h8 : m = 8
  · subst h8
    have p4 := pw_top64
    cases great
    all_goals
      go_enter Try.func41, Try.ntmps41
      go_wp2_with (first
        | (go_at_call 44; refine (power_any _ _ (by omega) (by omega)).mono ?_; rintro e w' ⟨rfl, ⟨nd, rfl⟩⟩))
      go_ret
      refine ⟨ret_u64 ?_, by repeat (first | exact Dr.refl _ | apply Dr.step)⟩
      simp [withinV, p4]
      try omega
  · have h8' : ((m : Int) == 8) = false := by rw [beq_eq_false_iff_ne]; omega
    have P3 := Lib.hid p3
    clear p3 h8
    by_cases hc : pw (8 * m - 1) - 1 + pw (8 * m - 1) < size
    all_goals
      cases great
      all_goals
        go_enter Try.func41, Try.ntmps41
        go_wp2_with (first
          | (go_at_call 44; refine (power_any _ _ (by omega) (by omega)).mono ?_; rintro e w' ⟨rfl, ⟨nd, rfl⟩⟩))
        go_ret
        refine ⟨ret_u64 ?_, by repeat (first | exact Dr.refl _ | apply Dr.step)⟩
        simp only [withinV, P3.out, e8]
        simp
        try omega
end Go.Proofs.Ytmhgbpgilhboeaa.Ra
