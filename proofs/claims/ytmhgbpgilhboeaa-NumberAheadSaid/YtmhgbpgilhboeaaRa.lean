/- The small integer functions of the reference: what each returns. -/
import Derived.Test.YtmhgbpgilhboeaaMath
import Derived.Test.YtmhgbpgilhboeaaFl
namespace Go.Proofs.Ytmhgbpgilhboeaa.Ra
set_option linter.unusedVariables false
set_option linter.unusedSimpArgs false
open Go.RowKit Wd Go.Proofs.Ytmhgbpgilhboeaa.Math10

def pw (n : Nat) : Int := ((2 ^ n : Nat) : Int)
theorem pw_eq (n : Nat) : pw n = ((2 ^ n : Nat) : Int) := rfl
theorem pw_8 : pw 8 = 256 := by decide
theorem pw_11 : pw 11 = 2048 := by decide
theorem pw_23 : pw 23 = 8388608 := by decide
theorem pw_24 : pw 24 = 16777216 := by decide
theorem pw_31 : pw 31 = 2147483648 := by decide
theorem pw_52 : pw 52 = 4503599627370496 := by decide
theorem pw_53 : pw 53 = 9007199254740992 := by decide
theorem pw_63 : pw 63 = 9223372036854775808 := by decide
attribute [irreducible] pw
theorem pw_succ (n : Nat) : pw (n + 1) = 2 * pw n := by unfold pw; rw [Nat.pow_succ]; omega
theorem pw_pos (n : Nat) : 1 ≤ pw n := by unfold pw; have := Nat.two_pow_pos n; omega
theorem pw_le {n m : Nat} (h : n ≤ m) : pw n ≤ pw m := by unfold pw; have := Nat.pow_le_pow_right (n := 2) (by omega) h; omega
theorem pw_u64 {n : Nat} (h : n ≤ 63) : IntKind.u64.wrap (pw n) = pw n := by
  have h1 := pw_le h
  have h2 := pw_pos n
  have h3 := pw_63
  simp only [IntKind.wrap_u64]
  omega
theorem pw_step {n : Nat} (h : n < 63) : IntKind.u64.wrap (2 * pw n) = pw (n + 1) := by
  rw [← pw_succ]; exact pw_u64 h

set_option maxHeartbeats 400000 in
theorem power_any (n : Int) (w : World) (h0 : 0 ≤ n) (h1 : n ≤ 63) :
    Calls Try.prog 44 #[.int .i64 n] w fun e w' => e = .returned (.int .u64 (pw n.toNat)) ∧ Dr w w' := by
  obtain ⟨m, rfl⟩ := Int.eq_ofNat_of_zero_le h0
  rw [Int.toNat_natCast]
  go_enter Try.func44, Try.ntmps44
  go_wp2
  go_loop [3, 4] (fun x i => ∃ k : Nat, k ≤ m ∧ x = .int .u64 (pw k) ∧ i = .int .i64 k) (fun _ i => m - (intOf i).toNat)
  case atStart => exact ⟨0, Nat.zero_le _, by rw [pw_eq]; rfl, rfl⟩
  case round =>
    obtain ⟨k, hk, rfl, rfl⟩ := hrel
    by_cases hlt : k < m
    · go_wp2
      go_round
      case rel => exact ⟨k + 1, by omega, by rw [pw_step (by omega)], by go_num⟩
      case measure => simp [intOf]; omega
    · go_wp2
      go_ret
      obtain rfl : k = m := by omega
      exact ⟨rfl, Dr.refl _⟩

theorem len_zero : len 0 = 0 := rfl
set_option maxHeartbeats 400000 in
theorem length_any (u : Nat) (w : World) (hu : (u : Int) ≤ 18446744073709551615) :
    Calls Try.prog 46 #[.int .u64 u] w fun e w' => e = .returned (.int .i64 (len u)) ∧ Dr w w' := by
  have hl : len u ≤ 64 := len_bound (by omega)
  go_enter Try.func46, Try.ntmps46
  go_wp2
  go_loop [0, 3] (fun v n => ∃ x k : Nat, v = .int .u64 x ∧ n = .int .i64 k ∧ x ≤ u ∧ len u = len x + k) (fun v _ => (intOf v).toNat)
  case atStart => exact ⟨u, 0, rfl, rfl, Nat.le_refl _, rfl⟩
  case round =>
    obtain ⟨x, k, rfl, rfl, hx, hk⟩ := hrel
    have HK := Lib.hid hk
    have hk2 : k ≤ 64 := by omega
    clear hk
    by_cases hlt : 0 < x
    · go_wp2
      go_round
      case rel => exact ⟨x / 2, k + 1, by go_num, by go_num, by omega, by rw [HK.out, len_half hlt]; omega⟩
      case measure => simp [intOf]; omega
    · go_wp2
      go_ret
      obtain rfl : x = 0 := by omega
      exact ⟨by rw [HK.out, len_zero, Nat.zero_add]; rfl, Dr.refl _⟩

theorem tmod_nat (a b : Nat) : (a : Int).tmod b = ((a % b : Nat) : Int) := by rw [Int.tmod_eq_emod_of_nonneg (by omega)]; omega
theorem mask_any (u : Nat) (width : Int) (w : World) (hu : (u : Int) ≤ 18446744073709551615) (h0 : 1 ≤ width) (h1 : width ≤ 8) :
    Calls Try.prog 49 #[.int .u64 u, .int .i64 width] w fun e w' => e = .returned (.int .u64 ((u % 2 ^ (8 * width.toNat) : Nat) : Int)) ∧ Dr w w' := by
  obtain ⟨m, rfl⟩ := Int.eq_ofNat_of_zero_le (show 0 ≤ width by omega)
  rw [Int.toNat_natCast]
  by_cases h8 : m = 8
  · subst h8
    go_enter Try.func49, Try.ntmps49
    go_wp2
    go_ret
    exact ⟨ret_u64 (by rw [Nat.mod_eq_of_lt (by omega)]), Dr.refl _⟩
  · have hp : (pw (8 * m) == 0) = false := by have := pw_pos (8 * m); rw [beq_eq_false_iff_ne]; omega
    have hp1 := pw_pos (8 * m)
    have h8' : ((m : Int) == 8) = false := by rw [beq_eq_false_iff_ne]; omega
    have hm7 : m ≤ 7 := by omega
    clear h8
    go_enter Try.func49, Try.ntmps49
    go_wp2_with fail
    refine (power_any _ _ (by omega) (by omega)).mono ?_
    rintro e w' ⟨rfl, ⟨nd, rfl⟩⟩
    rw [show (8 * (m : Int)).toNat = 8 * m from by omega]
    go_wp2
    go_ret
    exact ⟨ret_u64 (by unfold pw; first | exact tmod_nat _ _ | exact (Int.natCast_emod _ _).symm), Dr.step (Dr.refl _) _⟩

theorem u64_in {x : Int} (h0 : 0 ≤ x) (h1 : x ≤ 18446744073709551615) : IntKind.u64.wrap x = x := by
  simp only [IntKind.wrap_u64]; omega
theorem rne_lt {u d : Nat} (h : u < 2 ^ 64) (hd : 0 < d) : rne u d < 2 ^ 64 := by
  have : rne u d ≤ 2 ^ (64 - 1) := by
    by_cases h1 : d ≤ 64
    · refine Nat.le_trans (rne_le (m := 64 - d) (by rw [show d + (64 - d) = 64 from by omega]; exact h)) (Nat.pow_le_pow_right (by omega) (by omega))
    · rw [rne_big (Nat.lt_of_lt_of_le (show 2 * u < 2 ^ 65 by omega) (Nat.pow_le_pow_right (by omega) (by omega)))]; omega
  omega
/-- 'shifted' by no more than 63. -/
theorem rne_cases (u d : Nat) : rne u (d + 1) = if 2 ^ d < u % 2 ^ (d + 1) ∨ (2 ^ d = u % 2 ^ (d + 1) ∧ u / 2 ^ (d + 1) % 2 = 1) then u / 2 ^ (d + 1) + 1 else u / 2 ^ (d + 1) := by
  unfold rne
  have h : 2 ^ (d + 1) = 2 * 2 ^ d := by rw [Nat.pow_succ]; omega
  generalize u % 2 ^ (d + 1) = r
  generalize u / 2 ^ (d + 1) = q
  split
  · rw [if_pos (by omega)]
  · rw [if_neg (by omega)]; rfl
end Go.Proofs.Ytmhgbpgilhboeaa.Ra
