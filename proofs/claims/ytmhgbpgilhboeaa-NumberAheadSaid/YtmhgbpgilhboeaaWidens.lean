/- NumberWidens, NumberFloats, NumberNans: the walks of these laws. -/
import Derived.Test.YtmhgbpgilhboeaaClamps
import Derived.Test.YtmhgbpgilhboeaaFx
namespace Go.Proofs.Ytmhgbpgilhboeaa.Pa
set_option linter.unusedVariables false
set_option linter.unusedSimpArgs false
open Go.RowKit Wd Ra Fl Go.Proofs.Ytmhgbpgilhboeaa.Math10

/-- one float of 4 bytes as one of 8. -/
def widenV (bits : Nat) : Nat :=
  match Ieee.single.read bits with
  | .nan _ _ => 9221120237041090560
  | .infinity s => Ieee.double.nearest s 1 2000
  | .number s m e => Ieee.double.nearest s m e

theorem plain8 (w : World) : Calls Try.prog 50 #[.int .i64 8] w fun e w' => e = .returned (.int .u64 9221120237041090560) ∧ Dr w w' := by
  go_enter Try.func50, Try.ntmps50
  go_wp2
  go_ret
  exact ⟨rfl, Dr.refl _⟩
theorem plain4 (w : World) : Calls Try.prog 50 #[.int .i64 4] w fun e w' => e = .returned (.int .u64 2143289344) ∧ Dr w w' := by
  go_enter Try.func50, Try.ntmps50
  go_wp2
  go_ret
  exact ⟨rfl, Dr.refl _⟩
theorem other48 (bits : Nat) (w : World) (hb : (bits : Int) ≤ 4294967295) :
    Calls Try.prog 42 #[.int .u64 bits, .int .i64 4, .int .i64 8] w fun e w' => e = .returned (.int .u64 (widenV bits)) ∧ Dr w w' := by
  unfold widenV
  cases hr : Ieee.single.read bits with
  | number s m e =>
    have hn := read4_num hr
    obtain ⟨n1, n2, n3⟩ := hn
    have n1' : (m : Int) ≤ 18446744073709551615 := by omega
    have HR := Lib.hid hr
    clear hr n1
    go_enter Try.func42, Try.ntmps42
    go_wp2_with (first
      | (go_at_call 45; refine (apart4_n _ _ _ _ _ (by omega) HR.out).mono ?_; rintro e' w' ⟨rfl, ⟨nd, rfl⟩⟩)
      | (go_at_call 43; refine (round8_any _ _ _ _ (by omega) (by omega) (by omega)).mono ?_; rintro e' w' ⟨rfl, ⟨nd, rfl⟩⟩))
    go_ret
    exact ⟨rfl, by repeat (first | exact Dr.refl _ | apply Dr.step)⟩
  | infinity s =>
    have HR := Lib.hid hr
    clear hr
    go_enter Try.func42, Try.ntmps42
    go_wp2_with (first
      | (go_at_call 45; refine (apart4_i _ _ _ (by omega) HR.out).mono ?_; rintro e' w' ⟨rfl, ⟨nd, rfl⟩⟩)
      | (go_at_call 43; refine (round8_any _ 1 _ _ (by omega) (by omega) (by omega)).mono ?_; rintro e' w' ⟨rfl, ⟨nd, rfl⟩⟩))
    go_ret
    exact ⟨rfl, by repeat (first | exact Dr.refl _ | apply Dr.step)⟩
  | nan s t =>
    have HR := Lib.hid hr
    clear hr
    go_enter Try.func42, Try.ntmps42
    go_wp2_with (first
      | (go_at_call 45; refine (apart4_x _ _ _ _ (by omega) HR.out).mono ?_; rintro e' w' ⟨rfl, ⟨nd, rfl⟩⟩)
      | (go_at_call 50; refine (plain8 _).mono ?_; rintro e' w' ⟨rfl, ⟨nd, rfl⟩⟩))
    go_ret
    exact ⟨rfl, by repeat (first | exact Dr.refl _ | apply Dr.step)⟩
theorem refwiden (bits : Nat) (w : World) (hb : (bits : Int) ≤ 4294967295) :
    Calls Try.prog 20 #[.int .u32 bits] w fun e w' => e = .returned (.int .u64 (widenV bits)) ∧ Dr w w' := by
  go_enter Try.func20, Try.ntmps20
  go_wp2_with (go_at_call 42; refine (other48 _ _ (by omega)).mono ?_; rintro e' w' ⟨rfl, ⟨nd, rfl⟩⟩)
  go_ret
  exact ⟨rfl, by repeat (first | exact Dr.refl _ | apply Dr.step)⟩

/-- infinity, by rounding what is too great. -/
theorem inf8 (s : Bool) : Ieee.double.nearest s 1 2000 = Ieee.double.word s Ieee.double.infRung := by cases s <;> decide +kernel
theorem order_some {f : Ieee.Format} {n : Nat} (h : (f.read n).isNaN = false) : f.order n n = some .eq := by
  cases hr : f.read n with
  | number s m e => exact order_num hr
  | infinity s => exact order_inf hr
  | nan s t => rw [hr] at h; cases h
/-- a float of 4 bytes, finite, is never infinite as one of 8. -/
theorem widen_finite {bits : Nat} {s : Bool} {m : Nat} {e : Int} (h : Ieee.single.read bits = .number s m e) : (Ieee.double.read (Ieee.double.nearest s m e)).isInfinity = false := by
  obtain ⟨h1, h2, h3⟩ := read4_num h
  rcases Nat.eq_zero_or_pos m with h0 | h0
  · subst h0; rw [read_zero]; rfl
  · have d1 : Ieee.double.fractionBits + 1 = 53 := rfl
    have d2 : Ieee.double.leastPlace = -1074 := by decide
    have d3 : Ieee.double.binade = 4503599627370496 := by decide
    have d4 : Ieee.double.infRung = 9218868437227405312 := by decide
    have hl : len m ≤ 24 := len_bound (by omega)
    rw [read_nearest Ieee.double s m e h0 (by rw [d1]; omega) (by rw [d2]; omega) ?_]
    · rfl
    · rw [d1, d2, d3, d4]
      have : (unitOf 53 (-1074) m e - -1074).toNat ≤ 2045 := by unfold unitOf; omega
      generalize (unitOf 53 (-1074) m e - -1074).toNat = x at *
      omega
theorem widen_any (bits : Nat) (w : World) :
    Calls Try.prog 19 #[.int .u32 bits] w fun e w' => e = .returned (.int .u64 (widenV bits)) ∧ Dr w w' := by
  unfold widenV
  cases hr : Ieee.single.read bits with
  | number s m e =>
    refine widen_num bits _ w ?_ ?_
    · rw [show FloatKind.f32.format = Ieee.single from rfl, order_num hr]; rfl
    · unfold floatToFloatBits
      rw [if_neg (by decide), show FloatKind.f32.decode bits = _ from hr]
      simp only
      rw [if_neg]
      · rfl
      · have := widen_finite hr
        simp only [FloatKind.decode, FloatKind.encode, FloatKind.format, Ieee.Format.write, this]
        simp
  | infinity s =>
    refine widen_num bits _ w ?_ ?_
    · rw [show FloatKind.f32.format = Ieee.single from rfl, order_inf hr]; rfl
    · unfold floatToFloatBits
      rw [if_neg (by decide), show FloatKind.f32.decode bits = _ from hr]
      simp only
      rw [inf8]; rfl
  | nan s t => exact widen_nan bits s t w hr

theorem widens_walk (bits : Int) (w : World) (h0 : 0 ≤ bits) (h1 : bits ≤ 4294967295) :
    Calls Try.prog 4 #[.int .u32 bits] w fun e w' => e = .returned (.bool true) ∧ Dr w w' := by
  obtain ⟨n, rfl⟩ := Int.eq_ofNat_of_zero_le h0
  go_enter Try.func4, Try.ntmps4
  go_wp2_with (first
    | (go_at_call 19; refine (widen_any _ _).mono ?_; rintro e' w' ⟨rfl, ⟨nd, rfl⟩⟩)
    | (go_at_call 20; refine (refwiden _ _ (by omega)).mono ?_; rintro e' w' ⟨rfl, ⟨nd, rfl⟩⟩)
    | (go_at_call 18; refine (lives _).mono ?_; rintro e w' ⟨rfl, ⟨nd, rfl⟩⟩))
  go_ret
  exact ⟨rfl, by repeat (first | exact Dr.refl _ | apply Dr.step)⟩
end Go.Proofs.Ytmhgbpgilhboeaa.Pa
