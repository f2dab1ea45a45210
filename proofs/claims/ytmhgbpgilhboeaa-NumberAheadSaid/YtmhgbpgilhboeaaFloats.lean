/- NumberFloats and NumberNans: the walks of these laws. -/
import Derived.Test.YtmhgbpgilhboeaaWidens
namespace Go.Proofs.Ytmhgbpgilhboeaa.Pa
set_option linter.unusedVariables false
set_option linter.unusedSimpArgs false
open Go.RowKit Wd Ra Fl Go.Proofs.Ytmhgbpgilhboeaa.Math10

def fvx (n width : Int) : Int := if width = 8 then ((Ieee.double.nearest (decide (n < 0)) n.natAbs 0 : Nat) : Int) else if width = 4 then ((Ieee.single.nearest (decide (n < 0)) n.natAbs 0 : Nat) : Int) else 0
def fve (width : Int) : Int := if width = 8 then 0 else if width = 4 then 0 else 2
theorem reffloat_no (n width : Int) (w : World) (h4 : width ≠ 4) (h8 : width ≠ 8) :
    Calls Try.prog 26 #[.int .i64 n, .int .i64 width] w fun e w' => e = .returned (.tuple #[.int .u64 0, .int .i64 2]) ∧ Dr w w' := by
  have h4' : (width == 4) = false := beq_eq_false_iff_ne.2 h4
  have h8' : (width == 8) = false := beq_eq_false_iff_ne.2 h8
  have n4' : (width != 4) = true := by rw [bne_iff_ne]; exact h4
  have n8' : (width != 8) = true := by rw [bne_iff_ne]; exact h8
  clear h4 h8
  go_enter Try.func26, Try.ntmps26
  go_wp2
  go_ret2
  exact ⟨rfl, Dr.refl _⟩
theorem reffloatu_no (n width : Int) (w : World) (h4 : width ≠ 4) (h8 : width ≠ 8) :
    Calls Try.prog 27 #[.int .u64 n, .int .i64 width] w fun e w' => e = .returned (.tuple #[.int .u64 0, .int .i64 2]) ∧ Dr w w' := by
  have h4' : (width == 4) = false := beq_eq_false_iff_ne.2 h4
  have h8' : (width == 8) = false := beq_eq_false_iff_ne.2 h8
  have n4' : (width != 4) = true := by rw [bne_iff_ne]; exact h4
  have n8' : (width != 8) = true := by rw [bne_iff_ne]; exact h8
  clear h4 h8
  go_enter Try.func27, Try.ntmps27
  go_wp2
  go_ret2
  exact ⟨rfl, Dr.refl _⟩
theorem float_cv (n width : Int) (w : World) :
    Calls Try.prog 24 #[.int .i64 n, .int .i64 width] w fun e w' => e = .returned (.tuple #[.int .u64 (fvx n width), .int .i64 (fve width)]) ∧ Dr w w' := by
  unfold fvx fve
  by_cases h8 : width = 8
  · subst h8; exact float8 n w
  · by_cases h4 : width = 4
    · subst h4; exact float4 n w
    · rw [if_neg h8, if_neg h4, if_neg h8, if_neg h4]; exact float_no n width w h4 h8
theorem floatu_cv (n width : Int) (w : World) :
    Calls Try.prog 25 #[.int .u64 n, .int .i64 width] w fun e w' => e = .returned (.tuple #[.int .u64 (fvx n width), .int .i64 (fve width)]) ∧ Dr w w' := by
  unfold fvx fve
  by_cases h8 : width = 8
  · subst h8; exact floatu8 n w
  · by_cases h4 : width = 4
    · subst h4; exact floatu4 n w
    · rw [if_neg h8, if_neg h4, if_neg h8, if_neg h4]; exact floatu_no n width w h4 h8
theorem reffloat_cv (n width : Int) (w : World) (hn0 : -9223372036854775808 ≤ n) (hn1 : n ≤ 9223372036854775807) :
    Calls Try.prog 26 #[.int .i64 n, .int .i64 width] w fun e w' => e = .returned (.tuple #[.int .u64 (fvx n width), .int .i64 (fve width)]) ∧ Dr w w' := by
  unfold fvx fve
  by_cases h8 : width = 8
  · subst h8; exact reffloat8 n w hn0 hn1
  · by_cases h4 : width = 4
    · subst h4; exact reffloat4 n w hn0 hn1
    · rw [if_neg h8, if_neg h4, if_neg h8, if_neg h4]; exact reffloat_no n width w h4 h8
theorem reffloatu_cv (n width : Int) (w : World) (hn0 : 0 ≤ n) (hn1 : n ≤ 18446744073709551615) :
    Calls Try.prog 27 #[.int .u64 n, .int .i64 width] w fun e w' => e = .returned (.tuple #[.int .u64 (fvx n width), .int .i64 (fve width)]) ∧ Dr w w' := by
  obtain ⟨m, rfl⟩ := Int.eq_ofNat_of_zero_le hn0
  have e1 : decide ((m : Int) < 0) = false := decide_eq_false (by omega)
  unfold fvx fve
  rw [e1, Int.natAbs_natCast]
  by_cases h8 : width = 8
  · subst h8; exact reffloatu8 m w hn1
  · by_cases h4 : width = 4
    · subst h4; exact reffloatu4 m w hn1
    · rw [if_neg h8, if_neg h4, if_neg h8, if_neg h4]; exact reffloatu_no m width w h4 h8

set_option maxRecDepth 100000 in
theorem floats_walk (n u width : Int) (w : World) (hn0 : -9223372036854775808 ≤ n) (hn1 : n ≤ 9223372036854775807) (hu0 : 0 ≤ u) (hu1 : u ≤ 18446744073709551615) :
    Calls Try.prog 7 #[.int .i64 n, .int .u64 u, .int .i64 width] w fun e w' => e = .returned (.bool true) ∧ Dr w w' := by
  go_enter Try.func7, Try.ntmps7
  go_wp2_with (first
    | (go_at_call 24; refine (float_cv _ _ _).mono ?_; rintro e w' ⟨rfl, ⟨nd, rfl⟩⟩)
    | (go_at_call 25; refine (floatu_cv _ _ _).mono ?_; rintro e w' ⟨rfl, ⟨nd, rfl⟩⟩)
    | (go_at_call 26; refine (reffloat_cv _ _ _ (by omega) (by omega)).mono ?_; rintro e w' ⟨rfl, ⟨nd, rfl⟩⟩)
    | (go_at_call 27; refine (reffloatu_cv _ _ _ (by omega) (by omega)).mono ?_; rintro e w' ⟨rfl, ⟨nd, rfl⟩⟩)
    | (go_at_call 18; refine (lives _).mono ?_; rintro e w' ⟨rfl, ⟨nd, rfl⟩⟩))
  go_ret
  exact ⟨rfl, by repeat (first | exact Dr.refl _ | apply Dr.step)⟩

/-! ### NumberNans -/
theorem isNaN_order (f : Ieee.Format) (n : Nat) : (f.order n n != some .eq) = (f.read n).isNaN := by
  cases hr : f.read n with
  | number s m e => rw [order_num hr]; rfl
  | infinity s => rw [order_inf hr]; rfl
  | nan s t => rw [order_nan hr]; rfl
theorem widenV_nan (bits : Nat) : (Ieee.double.read (widenV bits)).isNaN = (Ieee.single.read bits).isNaN := by
  unfold widenV
  cases hr : Ieee.single.read bits with
  | number s m e =>
    obtain ⟨h1, h2, h3⟩ := read4_num hr
    rcases Nat.eq_zero_or_pos m with h0 | h0
    · subst h0; simp only [read_zero]; rfl
    · have d1 : Ieee.double.fractionBits + 1 = 53 := rfl
      have d2 : Ieee.double.leastPlace = -1074 := by decide
      have d3 : Ieee.double.binade = 4503599627370496 := by decide
      have d4 : Ieee.double.infRung = 9218868437227405312 := by decide
      have hl : len m ≤ 24 := len_bound (by omega)
      simp only
      rw [read_nearest Ieee.double s m e h0 (by rw [d1]; omega) (by rw [d2]; omega) ?_]
      · rfl
      · rw [d1, d2, d3, d4]
        have : (unitOf 53 (-1074) m e - -1074).toNat ≤ 2045 := by unfold unitOf; omega
        generalize (unitOf 53 (-1074) m e - -1074).toNat = x at *
        omega
  | infinity s =>
    simp only [inf8]
    cases s <;> decide +kernel
  | nan s t => show (Ieee.double.read 9221120237041090560).isNaN = true; decide +kernel
theorem nan8 (bits : Nat) (w : World) :
    Calls Try.prog 28 #[.int .u64 bits, .int .i64 8] w fun e w' => e = .returned (.tuple #[.bool (Ieee.double.read bits).isNaN, .int .i64 0]) ∧ Dr w w' := by
  have hx := ext30 bits
  simp only [Int.toNat_natCast] at hx
  have hn : (FloatKind.f64.format.order bits bits != some .eq) = (Ieee.double.read bits).isNaN := isNaN_order Ieee.double bits
  generalize (Ieee.double.read bits).isNaN = b at *
  go_enter Try.func28, Try.ntmps28
  go_wp2
  go_ret2
  exact ⟨rfl, Dr.refl _⟩
theorem nan4 (bits : Nat) (w : World) (hb : (bits : Int) ≤ 4294967295) :
    Calls Try.prog 28 #[.int .u64 bits, .int .i64 4] w fun e w' => e = .returned (.tuple #[.bool (Ieee.single.read bits).isNaN, .int .i64 0]) ∧ Dr w w' := by
  have hx := ext30 (widenV bits)
  simp only [Int.toNat_natCast] at hx
  have hn : (FloatKind.f64.format.order (widenV bits) (widenV bits) != some .eq) = (Ieee.single.read bits).isNaN := (isNaN_order Ieee.double (widenV bits)).trans (widenV_nan bits)
  generalize (Ieee.single.read bits).isNaN = b at *
  have hs : (bits : Int) / 4294967296 = 0 := by omega
  go_enter Try.func28, Try.ntmps28
  go_wp2_with (go_at_call 19; refine (widen_any _ _).mono ?_; rintro e w' ⟨rfl, ⟨nd, rfl⟩⟩)
  go_ret2
  exact ⟨rfl, Dr.step (Dr.refl _) _⟩
theorem nan4_big (bits : Nat) (w : World) (hb0 : 4294967296 ≤ (bits : Int)) (hb : (bits : Int) ≤ 18446744073709551615) :
    Calls Try.prog 28 #[.int .u64 bits, .int .i64 4] w fun e w' => e = .returned (.tuple #[.bool false, .int .i64 3]) ∧ Dr w w' := by
  have hs : ((bits : Int) / 4294967296 == 0) = false := by rw [beq_eq_false_iff_ne]; omega
  go_enter Try.func28, Try.ntmps28
  go_wp2
  go_ret2
  exact ⟨rfl, Dr.refl _⟩
theorem nan_no (bits width : Int) (w : World) (h4 : width ≠ 4) (h8 : width ≠ 8) :
    Calls Try.prog 28 #[.int .u64 bits, .int .i64 width] w fun e w' => e = .returned (.tuple #[.bool false, .int .i64 2]) ∧ Dr w w' := by
  have h4' : (width == 4) = false := beq_eq_false_iff_ne.2 h4
  have h8' : (width == 8) = false := beq_eq_false_iff_ne.2 h8
  have n4' : (width != 4) = true := by rw [bne_iff_ne]; exact h4
  have n8' : (width != 8) = true := by rw [bne_iff_ne]; exact h8
  clear h4 h8
  go_enter Try.func28, Try.ntmps28
  go_wp2
  go_ret2
  exact ⟨rfl, Dr.refl _⟩
theorem refnan_no (bits width : Int) (w : World) (h4 : width ≠ 4) (h8 : width ≠ 8) :
    Calls Try.prog 29 #[.int .u64 bits, .int .i64 width] w fun e w' => e = .returned (.tuple #[.bool false, .int .i64 2]) ∧ Dr w w' := by
  have h4' : (width == 4) = false := beq_eq_false_iff_ne.2 h4
  have h8' : (width == 8) = false := beq_eq_false_iff_ne.2 h8
  have n4' : (width != 4) = true := by rw [bne_iff_ne]; exact h4
  have n8' : (width != 8) = true := by rw [bne_iff_ne]; exact h8
  clear h4 h8
  go_enter Try.func29, Try.ntmps29
  go_wp2
  go_ret2
  exact ⟨rfl, Dr.refl _⟩
theorem refnan4_big (bits : Nat) (w : World) (hb0 : 4294967296 ≤ (bits : Int)) (hb : (bits : Int) ≤ 18446744073709551615) :
    Calls Try.prog 29 #[.int .u64 bits, .int .i64 4] w fun e w' => e = .returned (.tuple #[.bool false, .int .i64 3]) ∧ Dr w w' := by
  have hlt : pw 32 ≤ (bits : Int) := by rw [pw_32]; omega
  clear hb0
  go_enter Try.func29, Try.ntmps29
  go_wp2_with (go_at_call 44; refine (power_any _ _ (by omega) (by omega)).mono ?_; rintro e' w' ⟨rfl, ⟨nd, rfl⟩⟩)
  go_ret2
  exact ⟨rfl, Dr.step (Dr.refl _) _⟩
def nvx (bits : Nat) (width : Int) : Bool := if width = 8 then (Ieee.double.read bits).isNaN else if width = 4 then (if (bits : Int) ≤ 4294967295 then (Ieee.single.read bits).isNaN else false) else false
def nve (bits : Nat) (width : Int) : Int := if width = 8 then 0 else if width = 4 then (if (bits : Int) ≤ 4294967295 then 0 else 3) else 2
theorem nan_cv (bits : Nat) (width : Int) (w : World) (hb : (bits : Int) ≤ 18446744073709551615) :
    Calls Try.prog 28 #[.int .u64 bits, .int .i64 width] w fun e w' => e = .returned (.tuple #[.bool (nvx bits width), .int .i64 (nve bits width)]) ∧ Dr w w' := by
  unfold nvx nve
  by_cases h8 : width = 8
  · subst h8; exact nan8 bits w
  · by_cases h4 : width = 4
    · subst h4
      rw [if_neg h8, if_neg h8, if_pos rfl, if_pos rfl]
      by_cases h : (bits : Int) ≤ 4294967295
      · rw [if_pos h, if_pos h]; exact nan4 bits w h
      · rw [if_neg h, if_neg h]; exact nan4_big bits w (by omega) hb
    · rw [if_neg h8, if_neg h4, if_neg h8, if_neg h4]; exact nan_no bits width w h4 h8
theorem refnan_cv (bits : Nat) (width : Int) (w : World) (hb : (bits : Int) ≤ 18446744073709551615) :
    Calls Try.prog 29 #[.int .u64 bits, .int .i64 width] w fun e w' => e = .returned (.tuple #[.bool (nvx bits width), .int .i64 (nve bits width)]) ∧ Dr w w' := by
  unfold nvx nve
  by_cases h8 : width = 8
  · subst h8; exact refnan8 bits w hb
  · by_cases h4 : width = 4
    · subst h4
      rw [if_neg h8, if_neg h8, if_pos rfl, if_pos rfl]
      by_cases h : (bits : Int) ≤ 4294967295
      · rw [if_pos h, if_pos h]; exact refnan4 bits w h
      · rw [if_neg h, if_neg h]; exact refnan4_big bits w (by omega) hb
    · rw [if_neg h8, if_neg h4, if_neg h8, if_neg h4]; exact refnan_no bits width w h4 h8
set_option maxRecDepth 100000 in
theorem nans_walk (bits width : Int) (w : World) (h0 : 0 ≤ bits) (h1 : bits ≤ 18446744073709551615) :
    Calls Try.prog 8 #[.int .u64 bits, .int .i64 width] w fun e w' => e = .returned (.bool true) ∧ Dr w w' := by
  obtain ⟨n, rfl⟩ := Int.eq_ofNat_of_zero_le h0
  go_enter Try.func8, Try.ntmps8
  go_wp2_with (first
    | (go_at_call 28; refine (nan_cv _ _ _ (by omega)).mono ?_; rintro e w' ⟨rfl, ⟨nd, rfl⟩⟩)
    | (go_at_call 29; refine (refnan_cv _ _ _ (by omega)).mono ?_; rintro e w' ⟨rfl, ⟨nd, rfl⟩⟩)
    | (go_at_call 18; refine (lives _).mono ?_; rintro e w' ⟨rfl, ⟨nd, rfl⟩⟩))
  go_ret
  exact ⟨rfl, by repeat (first | exact Dr.refl _ | apply Dr.step)⟩
end Go.Proofs.Ytmhgbpgilhboeaa.Pa
