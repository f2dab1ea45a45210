/- Comparisons of floats that are whole numbers; what is no number stays none. -/
import Derived.Test.YtmhgbpgilhboeaaFx
import Derived.Test.YtmhgbpgilhboeaaRg
namespace Go.Proofs.Ytmhgbpgilhboeaa.Math10
set_option linter.unusedVariables false
set_option linter.unusedSimpArgs false
open Ieee Ra

theorem cmp_lt (a b : Int) : (some (compare a b) == some Ordering.lt) = decide (a < b) := by
  rcases Int.lt_trichotomy a b with h | h | h
  · rw [Int.compare_eq_lt.2 h, decide_eq_true h]; rfl
  · rw [Int.compare_eq_eq.2 h, decide_eq_false (by omega)]; rfl
  · rw [Int.compare_eq_gt.2 h, decide_eq_false (by omega)]; rfl
theorem cmp_le (a b : Int) : (some (compare a b) == some Ordering.lt || some (compare a b) == some Ordering.eq) = decide (a ≤ b) := by
  rcases Int.lt_trichotomy a b with h | h | h
  · rw [Int.compare_eq_lt.2 h, decide_eq_true (by omega)]; rfl
  · rw [Int.compare_eq_eq.2 h, decide_eq_true (by omega)]; rfl
  · rw [Int.compare_eq_gt.2 h, decide_eq_false (by omega)]; rfl
theorem cmp_ge (a b : Int) : (some (compare a b) == some Ordering.gt || some (compare a b) == some Ordering.eq) = decide (b ≤ a) := by
  rcases Int.lt_trichotomy a b with h | h | h
  · rw [Int.compare_eq_lt.2 h, decide_eq_false (by omega)]; rfl
  · rw [Int.compare_eq_eq.2 h, decide_eq_true (by omega)]; rfl
  · rw [Int.compare_eq_gt.2 h, decide_eq_true (by omega)]; rfl
theorem cmp_gt (a b : Int) : (some (compare a b) == some Ordering.gt) = decide (b < a) := by
  rcases Int.lt_trichotomy a b with h | h | h
  · rw [Int.compare_eq_lt.2 h, decide_eq_false (by omega)]; rfl
  · rw [Int.compare_eq_eq.2 h, decide_eq_false (by omega)]; rfl
  · rw [Int.compare_eq_gt.2 h, decide_eq_true (by omega)]; rfl

theorem pow_isInt (s : Bool) (k : Nat) (hk : k ≤ 971) : IsInt double (double.nearest s (2 ^ k) 0) s (2 ^ k) := by
  have := whole_isInt s 1 k (by decide) (by omega)
  rw [integral_eq] at this
  have hw : whole 1 k = 2 ^ k := by unfold whole; simp
  rwa [hw] at this
theorem zero_isInt : IsInt double 0 false 0 := ⟨0, -1074, by decide +kernel, fun _ => (Nat.zero_mul _).symm, fun _ => (Nat.zero_mul _).symm⟩
theorem top_isInt : IsInt double 4895412794951729152 false (2 ^ 64) := ⟨4503599627370496, 12, by decide +kernel, by decide, by simp⟩

/-- the least integer of a range, as a float. -/
theorem least_isInt (k : Nat) (hk : k ≤ 63) : IsInt double (floatOfInt .f64 (-pw k)) true (2 ^ k) := by
  have h1 : decide (-pw k < 0) = true := decide_eq_true (by have := pw_pos k; omega)
  have h2 : (-pw k).natAbs = 2 ^ k := by rw [pw_eq, Int.natAbs_neg, Int.natAbs_natCast]
  show IsInt double (double.nearest (decide (-pw k < 0)) (-pw k).natAbs 0) true (2 ^ k)
  rw [h1, h2]
  exact pow_isInt true k (by omega)
theorem least0_isInt : IsInt double (floatOfInt .f64 0) false 0 := by
  show IsInt double (double.nearest (decide ((0 : Int) < 0)) (0 : Int).natAbs 0) false 0
  exact ⟨0, _, read_zero _ _ _, by simp, by simp⟩

theorem whole_scale (m k : Nat) (e : Int) : whole (m * 2 ^ k) e = whole m (e + k) := by
  unfold whole
  split
  · rw [if_pos (by omega), Nat.mul_assoc, ← Nat.pow_add]; congr 2; omega
  · split
    · have h : 2 ^ k = 2 ^ (e + k).toNat * 2 ^ (-e).toNat := by rw [← Nat.pow_add]; congr 1; omega
      rw [h, ← Nat.mul_assoc, Nat.mul_div_cancel _ (Nat.two_pow_pos _)]
    · have h : 2 ^ (-e).toNat = 2 ^ (-(e + k)).toNat * 2 ^ k := by rw [← Nat.pow_add]; congr 1; omega
      rw [h, Nat.mul_div_mul_right _ _ (Nat.two_pow_pos _)]
theorem len_le_iff (x n : Nat) : n < len x ↔ 2 ^ n ≤ x := by
  constructor
  · intro h
    have hx : 0 < x := by
      rcases Nat.eq_zero_or_pos x with h0 | h0
      · subst h0; simp [len] at h
      · exact h0
    exact Nat.le_trans (Nat.pow_le_pow_right (by omega) (by omega)) (len_le hx)
  · intro h
    rcases Nat.lt_or_ge n (len x) with h1 | h1
    · exact h1
    · have := len_lt x
      have h2 : 2 ^ len x ≤ 2 ^ n := Nat.pow_le_pow_right (by omega) h1
      omega
/-- when a number is above all ranges. -/
theorem great_iff (m : Nat) (e : Int) (hm : m < 2 ^ 53) : ((len m : Int) + e > 64 ∧ 0 < m) ↔ 2 ^ 64 ≤ whole m e := by
  unfold whole
  have hl : len m ≤ 53 := len_bound hm
  split
  · rcases Nat.eq_zero_or_pos m with h0 | h0
    · subst h0
      rw [Nat.zero_mul]
      constructor
      · intro h; omega
      · intro h; exact absurd h (by decide)
    · rw [← len_le_iff, len_scale _ _ h0]; omega
  · constructor
    · intro h; omega
    · intro h
      have : m / 2 ^ (-e).toNat ≤ m := Nat.div_le_self _ _
      have h2 : (2 : Nat) ^ 53 < 2 ^ 64 := by decide
      omega

/-! what is no number -/
theorem nan_bits (t : Nat) : (double.read (t % 2 * 2 ^ 63 + 9218868437227405312 + 1 + t / 2 % (2 ^ 52 - 1))).isNaN = true := by
  have h3 : double.binade = 4503599627370496 := by decide
  have h4 : double.infRung = 9218868437227405312 := by decide
  have h5 : double.signWeight = 9223372036854775808 := by decide
  have h6 : (2 : Nat) ^ 52 - 1 = 4503599627370495 := by decide
  have h7 : (2 : Nat) ^ 63 = 9223372036854775808 := by decide
  rw [h6, h7]
  unfold Format.read
  simp only [h3, h4, h5]
  have hf : t / 2 % 4503599627370495 < 4503599627370495 := Nat.mod_lt _ (by omega)
  have hg : t % 2 < 2 := Nat.mod_lt _ (by omega)
  generalize t / 2 % 4503599627370495 = x at *
  generalize t % 2 = y at *
  have e1 : (y * 9223372036854775808 + 9218868437227405312 + 1 + x) % 9223372036854775808 = 9218868437227405312 + 1 + x := by omega
  rw [e1, if_neg (by omega), if_neg (by omega), if_neg (by omega)]
  rfl
theorem nan_quiet (s : Bool) (t : Nat) : (double.read (double.write (.nan s (double.quiet t)))).isNaN = true := by
  have h3 : double.binade = 2 ^ 52 := by decide
  have h4 : double.infRung = 9218868437227405312 := by decide
  have h5 : double.signWeight = 9223372036854775808 := by decide
  have h8 : (2 : Nat) ^ 52 = 4503599627370496 := by decide
  show (double.read (double.word s (double.infRung + double.quiet t % double.binade))).isNaN = true
  have hq : double.quiet t % double.binade ≠ 0 := by
    rw [h3]
    intro h
    have h1 : (double.quiet t % 2 ^ 52).testBit 51 = true := by
      rw [Nat.testBit_mod_two_pow]
      show (decide (51 < 52) && (t ||| 2 ^ 51).testBit 51) = true
      rw [Nat.testBit_or, Nat.testBit_two_pow_self]
      simp
    rw [h] at h1
    simp at h1
  have hlt : double.quiet t % double.binade < double.binade := Nat.mod_lt _ (Nat.two_pow_pos _)
  rw [read_word _ _ _ (by omega)]
  rw [h3, h8, h4] at *
  generalize double.quiet t % 4503599627370496 = x at *
  rw [if_neg (by omega), if_neg (by omega), if_neg (by omega)]
  rfl
end Go.Proofs.Ytmhgbpgilhboeaa.Math10
