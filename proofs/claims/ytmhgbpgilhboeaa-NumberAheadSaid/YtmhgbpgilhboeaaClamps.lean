/- NumberClamps: the walk of the law. -/
import Derived.Test.YtmhgbpgilhboeaaLv
namespace Go.Proofs.Ytmhgbpgilhboeaa.Pa
set_option linter.unusedVariables false
set_option linter.unusedSimpArgs false
open Go.RowKit Wd Ra Fl Go.Proofs.Ytmhgbpgilhboeaa.Math10

/-- what becomes of an integer with a sign; of one without. -/
def cvx (n width : Int) (sign : Bool) : Int := if 1 ≤ width ∧ width ≤ 8 then (if n < 0 then withinV true (-n) false width.toNat sign else withinV false n false width.toNat sign) else 0
def cvu (u width : Int) (sign : Bool) : Int := if 1 ≤ width ∧ width ≤ 8 then withinV false u false width.toNat sign else 0
def cve (width : Int) : Int := if 1 ≤ width ∧ width ≤ 8 then 0 else 2

theorem clamp_cv (n width : Int) (sign : Bool) (w : World) (hn0 : -9223372036854775808 ≤ n) (hn1 : n ≤ 9223372036854775807) :
    Calls Try.prog 14 #[.int .i64 n, .int .i64 width, .bool sign] w fun e w' => e = .returned (.tuple #[.int .u64 (cvx n width sign), .int .i64 (cve width)]) ∧ Dr w w' := by
  unfold cvx cve
  by_cases h : 1 ≤ width ∧ width ≤ 8
  · rw [if_pos h, if_pos h]
    obtain ⟨m, rfl⟩ := Int.eq_ofNat_of_zero_le (show 0 ≤ width by omega)
    rw [Int.toNat_natCast]
    by_cases hn : n < 0
    · rw [if_pos hn]; exact clamp_neg n m sign w hn hn0 (by omega) (by omega)
    · rw [if_neg hn]; exact clamp_pos n m sign w (by omega) hn1 (by omega) (by omega)
  · rw [if_neg h, if_neg h]; exact clamp_no n width sign w (by omega)
theorem clampu_cv (n width : Int) (sign : Bool) (w : World) :
    Calls Try.prog 15 #[.int .u64 n, .int .i64 width, .bool sign] w fun e w' => e = .returned (.tuple #[.int .u64 (cvu n width sign), .int .i64 (cve width)]) ∧ Dr w w' := by
  unfold cvu cve
  by_cases h : 1 ≤ width ∧ width ≤ 8
  · rw [if_pos h, if_pos h]
    obtain ⟨m, rfl⟩ := Int.eq_ofNat_of_zero_le (show 0 ≤ width by omega)
    rw [Int.toNat_natCast]
    exact clampu_yes n m sign w (by omega) (by omega)
  · rw [if_neg h, if_neg h]; exact clampu_no n width sign w (by omega)
theorem refclamp_cv (n width : Int) (sign : Bool) (w : World) (hn0 : -9223372036854775808 ≤ n) (hn1 : n ≤ 9223372036854775807) :
    Calls Try.prog 16 #[.int .i64 n, .int .i64 width, .bool sign] w fun e w' => e = .returned (.tuple #[.int .u64 (cvx n width sign), .int .i64 (cve width)]) ∧ Dr w w' := by
  unfold cvx cve
  by_cases h : 1 ≤ width ∧ width ≤ 8
  · rw [if_pos h, if_pos h]
    obtain ⟨m, rfl⟩ := Int.eq_ofNat_of_zero_le (show 0 ≤ width by omega)
    rw [Int.toNat_natCast]
    exact refclamp n m sign w hn0 hn1 (by omega) (by omega)
  · rw [if_neg h, if_neg h]; exact refclamp_no n width sign w (by omega)
theorem refclampu_cv (n width : Int) (sign : Bool) (w : World) (hn0 : 0 ≤ n) (hn1 : n ≤ 18446744073709551615) :
    Calls Try.prog 17 #[.int .u64 n, .int .i64 width, .bool sign] w fun e w' => e = .returned (.tuple #[.int .u64 (cvu n width sign), .int .i64 (cve width)]) ∧ Dr w w' := by
  unfold cvu cve
  by_cases h : 1 ≤ width ∧ width ≤ 8
  · rw [if_pos h, if_pos h]
    obtain ⟨m, rfl⟩ := Int.eq_ofNat_of_zero_le (show 0 ≤ width by omega)
    rw [Int.toNat_natCast]
    exact refclampu n m sign w hn0 hn1 (by omega) (by omega)
  · rw [if_neg h, if_neg h]; exact refclampu_no n width sign w (by omega)

set_option maxHeartbeats 1000000 in
set_option maxRecDepth 100000 in
theorem clamps_walk (n u width : Int) (w : World) (hn0 : -9223372036854775808 ≤ n) (hn1 : n ≤ 9223372036854775807) (hu0 : 0 ≤ u) (hu1 : u ≤ 18446744073709551615) :
    Calls Try.prog 3 #[.int .i64 n, .int .u64 u, .int .i64 width] w fun e w' => e = .returned (.bool true) ∧ Dr w w' := by
  go_enter Try.func3, Try.ntmps3
  go_wp2
  go_loopw [7] (fun k wr => ∃ j : Nat, j ≤ 2 ∧ k = .int .i64 j ∧ Dr w wr) (fun k _ => 2 - (intOf k).toNat)
  case atStart => exact ⟨0, by omega, rfl, Dr.refl _⟩
  case round =>
    obtain ⟨j, hj, rfl, hd⟩ := hrel
    by_cases hlt : j < 2
    · have hk : ((j : Int) == 1) = decide (j = 1) := by rw [Bool.eq_iff_iff]; simp; omega
      generalize decide (j = 1) = s at hk
      go_wp2_with (first
        | (go_at_call 14; refine (clamp_cv _ _ _ _ (by omega) (by omega)).mono ?_; rintro e w' ⟨rfl, ⟨nd, rfl⟩⟩)
        | (go_at_call 15; refine (clampu_cv _ _ _ _).mono ?_; rintro e w' ⟨rfl, ⟨nd, rfl⟩⟩)
        | (go_at_call 16; refine (refclamp_cv _ _ _ _ (by omega) (by omega)).mono ?_; rintro e w' ⟨rfl, ⟨nd, rfl⟩⟩)
        | (go_at_call 17; refine (refclampu_cv _ _ _ _ (by omega) (by omega)).mono ?_; rintro e w' ⟨rfl, ⟨nd, rfl⟩⟩))
      go_roundw
      case rel => exact ⟨j + 1, by omega, by go_num, by repeat (first | exact hd | apply Dr.step)⟩
      case measure => simp [intOf]; omega
    · go_wp2_with (go_at_call 18; refine (lives _).mono ?_; rintro e w' ⟨rfl, ⟨nd, rfl⟩⟩)
      go_ret
      exact ⟨rfl, by repeat (first | exact hd | apply Dr.step)⟩
end Go.Proofs.Ytmhgbpgilhboeaa.Pa
