/- The reference's Apart tells what the model's floats read. -/
import Derived.Test.YtmhgbpgilhboeaaRd
namespace Go.Proofs.Ytmhgbpgilhboeaa.Ra
set_option linter.unusedVariables false
set_option linter.unusedSimpArgs false
open Go.RowKit Wd Go.Proofs.Ytmhgbpgilhboeaa.Math10

theorem res4 {fn : Func} {t u v x : Tmp} (h : fn.results = #[.tmp t, .tmp u, .tmp v, .tmp x]) (ts : Array Value) (P : Program) (w : World) :
    (results fn ts).run P w = .ok (.tuple #[ts.getD t undef, ts.getD u undef, ts.getD v undef, ts.getD x undef]) w := by simp [results, h]

/-- what Apart tells of a datum: kind, sign, whole, scale. -/
def apartV : Ieee.Datum → Int × Bool × Nat × Int
  | .number s m e => (0, s, m, e)
  | .infinity s => (1, s, 0, 0)
  | .nan s _ => (2, s, 0, 0)
def tup4 (v : Int × Bool × Nat × Int) : Value := .tuple #[.int .i64 v.1, .bool v.2.1, .int .u64 v.2.2.1, .int .i64 v.2.2.2]


set_option maxHeartbeats 1000000 in
set_option maxRecDepth 100000 in
theorem apart8_inf (bits y f x z : Nat) (s : Bool) (w : World) (hA : (bits : Int) % pw 52 = f) (hB : (bits : Int) / pw 52 = y) (hC : (y : Int) % 2048 = x)
    (hD : (bits : Int) / pw 63 = z) (hE : ((z : Int) % 2 == 1) = s) (hbits : (bits : Int) ≤ 18446744073709551615) (hy : (y : Int) ≤ 18446744073709551615) (hz : (z : Int) ≤ 18446744073709551615) (hfb : (f : Int) < 4503599627370496) (hx : x = 2047) (hf : f = 0) :
    Calls Try.prog 45 #[.int .u64 bits, .int .i64 8] w fun e w' => e = .returned (tup4 (1, s, 0, 0)) ∧ Dr w w' := by
  have h11 := pw_11
  have p1 := pw_pos 52
  have p2 := pw_pos 63
  have q1 : (pw 52 == 0) = false := by rw [beq_eq_false_iff_ne]; omega
  have q2 : (pw 63 == 0) = false := by rw [beq_eq_false_iff_ne]; omega
  have hp := pw_52
  have hp52 : pw 52 ≤ 4503599627370496 := by omega
  have HP := Lib.hid hp
  clear hp
  subst hx hf
  go_enter Try.func45, Try.ntmps45
  go_wp2_with (go_at_call 44; refine (power_any _ _ (by omega) (by omega)).mono ?_; rintro e w' ⟨rfl, ⟨nd, rfl⟩⟩)
  go_quiet ((go_at_call 44; first | exact quiet2 (power_any _ _ (by omega) (by omega)) | exact quiet1 (power_any _ _ (by omega) (by omega))))
  go_wp2_with (go_at_call 44; refine (power_any _ _ (by omega) (by omega)).mono ?_; rintro e w' ⟨rfl, ⟨nd, rfl⟩⟩)
  refine bodyPost_ret (res4 rfl _ _ _) rfl ?_
  refine ⟨?_, by repeat (first | exact Dr.refl _ | apply Dr.step)⟩
  unfold tup4
  first | rfl | (simp [HP.out]; done) | (simp [HP.out]; omega)

set_option maxHeartbeats 1000000 in
set_option maxRecDepth 100000 in
theorem apart8_nan (bits y f x z : Nat) (s : Bool) (w : World) (hA : (bits : Int) % pw 52 = f) (hB : (bits : Int) / pw 52 = y) (hC : (y : Int) % 2048 = x)
    (hD : (bits : Int) / pw 63 = z) (hE : ((z : Int) % 2 == 1) = s) (hbits : (bits : Int) ≤ 18446744073709551615) (hy : (y : Int) ≤ 18446744073709551615) (hz : (z : Int) ≤ 18446744073709551615) (hfb : (f : Int) < 4503599627370496) (hx : x = 2047) (hf : 0 < f) :
    Calls Try.prog 45 #[.int .u64 bits, .int .i64 8] w fun e w' => e = .returned (tup4 (2, s, 0, 0)) ∧ Dr w w' := by
  have h11 := pw_11
  have p1 := pw_pos 52
  have p2 := pw_pos 63
  have q1 : (pw 52 == 0) = false := by rw [beq_eq_false_iff_ne]; omega
  have q2 : (pw 63 == 0) = false := by rw [beq_eq_false_iff_ne]; omega
  have hp := pw_52
  have hp52 : pw 52 ≤ 4503599627370496 := by omega
  have HP := Lib.hid hp
  clear hp
  subst hx
  have hf0 : ((f : Int) == 0) = false := by rw [beq_eq_false_iff_ne]; omega
  go_enter Try.func45, Try.ntmps45
  go_wp2_with (go_at_call 44; refine (power_any _ _ (by omega) (by omega)).mono ?_; rintro e w' ⟨rfl, ⟨nd, rfl⟩⟩)
  go_quiet ((go_at_call 44; first | exact quiet2 (power_any _ _ (by omega) (by omega)) | exact quiet1 (power_any _ _ (by omega) (by omega))))
  go_wp2_with (go_at_call 44; refine (power_any _ _ (by omega) (by omega)).mono ?_; rintro e w' ⟨rfl, ⟨nd, rfl⟩⟩)
  refine bodyPost_ret (res4 rfl _ _ _) rfl ?_
  refine ⟨?_, by repeat (first | exact Dr.refl _ | apply Dr.step)⟩
  unfold tup4
  first | rfl | (simp [HP.out]; done) | (simp [HP.out]; omega)

set_option maxHeartbeats 1000000 in
set_option maxRecDepth 100000 in
theorem apart8_sub (bits y f x z : Nat) (s : Bool) (w : World) (hA : (bits : Int) % pw 52 = f) (hB : (bits : Int) / pw 52 = y) (hC : (y : Int) % 2048 = x)
    (hD : (bits : Int) / pw 63 = z) (hE : ((z : Int) % 2 == 1) = s) (hbits : (bits : Int) ≤ 18446744073709551615) (hy : (y : Int) ≤ 18446744073709551615) (hz : (z : Int) ≤ 18446744073709551615) (hfb : (f : Int) < 4503599627370496) (hx : x = 0) :
    Calls Try.prog 45 #[.int .u64 bits, .int .i64 8] w fun e w' => e = .returned (tup4 (0, s, f, -1074)) ∧ Dr w w' := by
  have h11 := pw_11
  have p1 := pw_pos 52
  have p2 := pw_pos 63
  have q1 : (pw 52 == 0) = false := by rw [beq_eq_false_iff_ne]; omega
  have q2 : (pw 63 == 0) = false := by rw [beq_eq_false_iff_ne]; omega
  have hp := pw_52
  have hp52 : pw 52 ≤ 4503599627370496 := by omega
  have HP := Lib.hid hp
  clear hp
  subst hx
  go_enter Try.func45, Try.ntmps45
  go_wp2_with (go_at_call 44; refine (power_any _ _ (by omega) (by omega)).mono ?_; rintro e w' ⟨rfl, ⟨nd, rfl⟩⟩)
  go_quiet ((go_at_call 44; first | exact quiet2 (power_any _ _ (by omega) (by omega)) | exact quiet1 (power_any _ _ (by omega) (by omega))))
  go_wp2_with (go_at_call 44; refine (power_any _ _ (by omega) (by omega)).mono ?_; rintro e w' ⟨rfl, ⟨nd, rfl⟩⟩)
  refine bodyPost_ret (res4 rfl _ _ _) rfl ?_
  refine ⟨?_, by repeat (first | exact Dr.refl _ | apply Dr.step)⟩
  unfold tup4
  first | rfl | (simp [HP.out]; done) | (simp [HP.out]; omega)

set_option maxHeartbeats 1000000 in
set_option maxRecDepth 100000 in
theorem apart8_nor (bits y f x z : Nat) (s : Bool) (w : World) (hA : (bits : Int) % pw 52 = f) (hB : (bits : Int) / pw 52 = y) (hC : (y : Int) % 2048 = x)
    (hD : (bits : Int) / pw 63 = z) (hE : ((z : Int) % 2 == 1) = s) (hbits : (bits : Int) ≤ 18446744073709551615) (hy : (y : Int) ≤ 18446744073709551615) (hz : (z : Int) ≤ 18446744073709551615) (hfb : (f : Int) < 4503599627370496) (hx0 : 0 < x) (hx : x < 2047) :
    Calls Try.prog 45 #[.int .u64 bits, .int .i64 8] w fun e w' => e = .returned (tup4 (0, s, 4503599627370496 + f, -1074 + x - 1)) ∧ Dr w w' := by
  have h11 := pw_11
  have p1 := pw_pos 52
  have p2 := pw_pos 63
  have q1 : (pw 52 == 0) = false := by rw [beq_eq_false_iff_ne]; omega
  have q2 : (pw 63 == 0) = false := by rw [beq_eq_false_iff_ne]; omega
  have hp := pw_52
  have hp52 : pw 52 ≤ 4503599627370496 := by omega
  have HP := Lib.hid hp
  clear hp
  have hx1 : ((x : Int) == 2047) = false := by rw [beq_eq_false_iff_ne]; omega
  have hx2 : ((x : Int) == 0) = false := by rw [beq_eq_false_iff_ne]; omega
  go_enter Try.func45, Try.ntmps45
  go_wp2_with (go_at_call 44; refine (power_any _ _ (by omega) (by omega)).mono ?_; rintro e w' ⟨rfl, ⟨nd, rfl⟩⟩)
  go_quiet ((go_at_call 44; first | exact quiet2 (power_any _ _ (by omega) (by omega)) | exact quiet1 (power_any _ _ (by omega) (by omega))))
  go_wp2_with (go_at_call 44; refine (power_any _ _ (by omega) (by omega)).mono ?_; rintro e w' ⟨rfl, ⟨nd, rfl⟩⟩)
  refine bodyPost_ret (res4 rfl _ _ _) rfl ?_
  refine ⟨?_, by repeat (first | exact Dr.refl _ | apply Dr.step)⟩
  unfold tup4
  first | rfl | (simp [HP.out]; done) | (simp [HP.out]; omega)

theorem apart8_any (bits : Nat) (w : World) (hb : (bits : Int) ≤ 18446744073709551615) :
    Calls Try.prog 45 #[.int .u64 bits, .int .i64 8] w fun e w' => e = .returned (tup4 (apartV (Ieee.double.read bits))) ∧ Dr w w' := by
  have hA : (bits : Int) % pw 52 = ((bits % 4503599627370496 : Nat) : Int) := by rw [pw_52]; omega
  have hB : (bits : Int) / pw 52 = ((bits / 4503599627370496 : Nat) : Int) := by rw [pw_52]; omega
  have hC : ((bits / 4503599627370496 : Nat) : Int) % 2048 = ((bits / 4503599627370496 % 2048 : Nat) : Int) := by omega
  have hD : (bits : Int) / pw 63 = ((bits / 9223372036854775808 : Nat) : Int) := by rw [pw_63]; omega
  have hE : (((bits / 9223372036854775808 : Nat) : Int) % 2 == 1) = (bits / 9223372036854775808 % 2 == 1) := by
    rw [Bool.eq_iff_iff]; simp only [beq_iff_eq]; omega
  have hr : Ieee.double.read bits = (if bits / 4503599627370496 % 2048 = 0 then .number (bits / 9223372036854775808 % 2 == 1) (bits % 4503599627370496) (-1074)
      else if bits / 4503599627370496 % 2048 < 2047 then .number (bits / 9223372036854775808 % 2 == 1) (4503599627370496 + bits % 4503599627370496) (-1074 + (bits / 4503599627370496 % 2048 : Nat) - 1)
      else if bits % 4503599627370496 = 0 then .infinity (bits / 9223372036854775808 % 2 == 1) else .nan (bits / 9223372036854775808 % 2 == 1) (bits % 9223372036854775808 - 9218868437227405312)) := by
    have h2 : Ieee.double.leastPlace = -1074 := by decide
    have h3 : Ieee.double.binade = 4503599627370496 := by decide
    have h4 : Ieee.double.infRung = 9218868437227405312 := by decide
    have h5 : Ieee.double.signWeight = 9223372036854775808 := by decide
    unfold Ieee.Format.read
    simp only [h2, h3, h4, h5]
    have e1 : bits % 9223372036854775808 / 4503599627370496 = bits / 4503599627370496 % 2048 := by omega
    have e2 : bits % 9223372036854775808 % 4503599627370496 = bits % 4503599627370496 := by omega
    rw [e1, e2]
    have hx : bits / 4503599627370496 % 2048 ≤ 2047 := by omega
    have e3 : bits % 9223372036854775808 = bits / 4503599627370496 % 2048 * 4503599627370496 + bits % 4503599627370496 := by omega
    have hf : bits % 4503599627370496 < 4503599627370496 := by omega
    rw [e3]
    generalize bits / 4503599627370496 % 2048 = x at *
    generalize bits % 4503599627370496 = f at *
    by_cases c0 : x = 0
    · rw [if_pos (by omega), if_pos c0]; subst c0; simp
    · rw [if_neg (by omega), if_neg c0]
      by_cases c1 : x < 2047
      · rw [if_pos (by omega), if_pos c1]; congr 1; omega
      · rw [if_neg (by omega), if_neg c1]
        by_cases c2 : f = 0
        · rw [if_pos (by omega), if_pos c2]
        · rw [if_neg (by omega), if_neg c2]
  rw [hr]
  have hx : bits / 4503599627370496 % 2048 ≤ 2047 := by omega
  by_cases c0 : bits / 4503599627370496 % 2048 = 0
  · rw [if_pos c0]
    exact apart8_sub _ _ _ _ _ _ w hA hB hC hD hE hb (by omega) (by omega) (by omega) c0
  · rw [if_neg c0]
    by_cases c1 : bits / 4503599627370496 % 2048 < 2047
    · rw [if_pos c1]
      exact apart8_nor _ _ _ _ _ _ w hA hB hC hD hE hb (by omega) (by omega) (by omega) (by omega) c1
    · rw [if_neg c1]
      by_cases c2 : bits % 4503599627370496 = 0
      · rw [if_pos c2]
        exact apart8_inf _ _ _ _ _ _ w hA hB hC hD hE hb (by omega) (by omega) (by omega) (by omega) c2
      · rw [if_neg c2]
        exact apart8_nan _ _ _ _ _ _ w hA hB hC hD hE hb (by omega) (by omega) (by omega) (by omega) (by omega)


set_option maxHeartbeats 1000000 in
set_option maxRecDepth 100000 in
theorem apart4_inf (bits y f x z : Nat) (s : Bool) (w : World) (hA : (bits : Int) % pw 23 = f) (hB : (bits : Int) / pw 23 = y) (hC : (y : Int) % 256 = x)
    (hD : (bits : Int) / pw 31 = z) (hE : ((z : Int) % 2 == 1) = s) (hbits : (bits : Int) ≤ 18446744073709551615) (hy : (y : Int) ≤ 18446744073709551615) (hz : (z : Int) ≤ 18446744073709551615) (hfb : (f : Int) < 8388608) (hx : x = 255) (hf : f = 0) :
    Calls Try.prog 45 #[.int .u64 bits, .int .i64 4] w fun e w' => e = .returned (tup4 (1, s, 0, 0)) ∧ Dr w w' := by
  have h11 := pw_8
  have p1 := pw_pos 23
  have p2 := pw_pos 31
  have q1 : (pw 23 == 0) = false := by rw [beq_eq_false_iff_ne]; omega
  have q2 : (pw 31 == 0) = false := by rw [beq_eq_false_iff_ne]; omega
  have hp := pw_23
  have hp52 : pw 23 ≤ 8388608 := by omega
  have HP := Lib.hid hp
  clear hp
  subst hx hf
  go_enter Try.func45, Try.ntmps45
  go_wp2_with (go_at_call 44; refine (power_any _ _ (by omega) (by omega)).mono ?_; rintro e w' ⟨rfl, ⟨nd, rfl⟩⟩)
  go_quiet ((go_at_call 44; first | exact quiet2 (power_any _ _ (by omega) (by omega)) | exact quiet1 (power_any _ _ (by omega) (by omega))))
  go_wp2_with (go_at_call 44; refine (power_any _ _ (by omega) (by omega)).mono ?_; rintro e w' ⟨rfl, ⟨nd, rfl⟩⟩)
  refine bodyPost_ret (res4 rfl _ _ _) rfl ?_
  refine ⟨?_, by repeat (first | exact Dr.refl _ | apply Dr.step)⟩
  unfold tup4
  first | rfl | (simp [HP.out]; done) | (simp [HP.out]; omega)

set_option maxHeartbeats 1000000 in
set_option maxRecDepth 100000 in
theorem apart4_nan (bits y f x z : Nat) (s : Bool) (w : World) (hA : (bits : Int) % pw 23 = f) (hB : (bits : Int) / pw 23 = y) (hC : (y : Int) % 256 = x)
    (hD : (bits : Int) / pw 31 = z) (hE : ((z : Int) % 2 == 1) = s) (hbits : (bits : Int) ≤ 18446744073709551615) (hy : (y : Int) ≤ 18446744073709551615) (hz : (z : Int) ≤ 18446744073709551615) (hfb : (f : Int) < 8388608) (hx : x = 255) (hf : 0 < f) :
    Calls Try.prog 45 #[.int .u64 bits, .int .i64 4] w fun e w' => e = .returned (tup4 (2, s, 0, 0)) ∧ Dr w w' := by
  have h11 := pw_8
  have p1 := pw_pos 23
  have p2 := pw_pos 31
  have q1 : (pw 23 == 0) = false := by rw [beq_eq_false_iff_ne]; omega
  have q2 : (pw 31 == 0) = false := by rw [beq_eq_false_iff_ne]; omega
  have hp := pw_23
  have hp52 : pw 23 ≤ 8388608 := by omega
  have HP := Lib.hid hp
  clear hp
  subst hx
  have hf0 : ((f : Int) == 0) = false := by rw [beq_eq_false_iff_ne]; omega
  go_enter Try.func45, Try.ntmps45
  go_wp2_with (go_at_call 44; refine (power_any _ _ (by omega) (by omega)).mono ?_; rintro e w' ⟨rfl, ⟨nd, rfl⟩⟩)
  go_quiet ((go_at_call 44; first | exact quiet2 (power_any _ _ (by omega) (by omega)) | exact quiet1 (power_any _ _ (by omega) (by omega))))
  go_wp2_with (go_at_call 44; refine (power_any _ _ (by omega) (by omega)).mono ?_; rintro e w' ⟨rfl, ⟨nd, rfl⟩⟩)
  refine bodyPost_ret (res4 rfl _ _ _) rfl ?_
  refine ⟨?_, by repeat (first | exact Dr.refl _ | apply Dr.step)⟩
  unfold tup4
  first | rfl | (simp [HP.out]; done) | (simp [HP.out]; omega)

set_option maxHeartbeats 1000000 in
set_option maxRecDepth 100000 in
theorem apart4_sub (bits y f x z : Nat) (s : Bool) (w : World) (hA : (bits : Int) % pw 23 = f) (hB : (bits : Int) / pw 23 = y) (hC : (y : Int) % 256 = x)
    (hD : (bits : Int) / pw 31 = z) (hE : ((z : Int) % 2 == 1) = s) (hbits : (bits : Int) ≤ 18446744073709551615) (hy : (y : Int) ≤ 18446744073709551615) (hz : (z : Int) ≤ 18446744073709551615) (hfb : (f : Int) < 8388608) (hx : x = 0) :
    Calls Try.prog 45 #[.int .u64 bits, .int .i64 4] w fun e w' => e = .returned (tup4 (0, s, f, -149)) ∧ Dr w w' := by
  have h11 := pw_8
  have p1 := pw_pos 23
  have p2 := pw_pos 31
  have q1 : (pw 23 == 0) = false := by rw [beq_eq_false_iff_ne]; omega
  have q2 : (pw 31 == 0) = false := by rw [beq_eq_false_iff_ne]; omega
  have hp := pw_23
  have hp52 : pw 23 ≤ 8388608 := by omega
  have HP := Lib.hid hp
  clear hp
  subst hx
  go_enter Try.func45, Try.ntmps45
  go_wp2_with (go_at_call 44; refine (power_any _ _ (by omega) (by omega)).mono ?_; rintro e w' ⟨rfl, ⟨nd, rfl⟩⟩)
  go_quiet ((go_at_call 44; first | exact quiet2 (power_any _ _ (by omega) (by omega)) | exact quiet1 (power_any _ _ (by omega) (by omega))))
  go_wp2_with (go_at_call 44; refine (power_any _ _ (by omega) (by omega)).mono ?_; rintro e w' ⟨rfl, ⟨nd, rfl⟩⟩)
  refine bodyPost_ret (res4 rfl _ _ _) rfl ?_
  refine ⟨?_, by repeat (first | exact Dr.refl _ | apply Dr.step)⟩
  unfold tup4
  first | rfl | (simp [HP.out]; done) | (simp [HP.out]; omega)

set_option maxHeartbeats 1000000 in
set_option maxRecDepth 100000 in
theorem apart4_nor (bits y f x z : Nat) (s : Bool) (w : World) (hA : (bits : Int) % pw 23 = f) (hB : (bits : Int) / pw 23 = y) (hC : (y : Int) % 256 = x)
    (hD : (bits : Int) / pw 31 = z) (hE : ((z : Int) % 2 == 1) = s) (hbits : (bits : Int) ≤ 18446744073709551615) (hy : (y : Int) ≤ 18446744073709551615) (hz : (z : Int) ≤ 18446744073709551615) (hfb : (f : Int) < 8388608) (hx0 : 0 < x) (hx : x < 255) :
    Calls Try.prog 45 #[.int .u64 bits, .int .i64 4] w fun e w' => e = .returned (tup4 (0, s, 8388608 + f, -149 + x - 1)) ∧ Dr w w' := by
  have h11 := pw_8
  have p1 := pw_pos 23
  have p2 := pw_pos 31
  have q1 : (pw 23 == 0) = false := by rw [beq_eq_false_iff_ne]; omega
  have q2 : (pw 31 == 0) = false := by rw [beq_eq_false_iff_ne]; omega
  have hp := pw_23
  have hp52 : pw 23 ≤ 8388608 := by omega
  have HP := Lib.hid hp
  clear hp
  have hx1 : ((x : Int) == 255) = false := by rw [beq_eq_false_iff_ne]; omega
  have hx2 : ((x : Int) == 0) = false := by rw [beq_eq_false_iff_ne]; omega
  go_enter Try.func45, Try.ntmps45
  go_wp2_with (go_at_call 44; refine (power_any _ _ (by omega) (by omega)).mono ?_; rintro e w' ⟨rfl, ⟨nd, rfl⟩⟩)
  go_quiet ((go_at_call 44; first | exact quiet2 (power_any _ _ (by omega) (by omega)) | exact quiet1 (power_any _ _ (by omega) (by omega))))
  go_wp2_with (go_at_call 44; refine (power_any _ _ (by omega) (by omega)).mono ?_; rintro e w' ⟨rfl, ⟨nd, rfl⟩⟩)
  refine bodyPost_ret (res4 rfl _ _ _) rfl ?_
  refine ⟨?_, by repeat (first | exact Dr.refl _ | apply Dr.step)⟩
  unfold tup4
  first | rfl | (simp [HP.out]; done) | (simp [HP.out]; omega)

theorem apart4_any (bits : Nat) (w : World) (hb : (bits : Int) ≤ 18446744073709551615) :
    Calls Try.prog 45 #[.int .u64 bits, .int .i64 4] w fun e w' => e = .returned (tup4 (apartV (Ieee.single.read bits))) ∧ Dr w w' := by
  have hA : (bits : Int) % pw 23 = ((bits % 8388608 : Nat) : Int) := by rw [pw_23]; omega
  have hB : (bits : Int) / pw 23 = ((bits / 8388608 : Nat) : Int) := by rw [pw_23]; omega
  have hC : ((bits / 8388608 : Nat) : Int) % 256 = ((bits / 8388608 % 256 : Nat) : Int) := by omega
  have hD : (bits : Int) / pw 31 = ((bits / 2147483648 : Nat) : Int) := by rw [pw_31]; omega
  have hE : (((bits / 2147483648 : Nat) : Int) % 2 == 1) = (bits / 2147483648 % 2 == 1) := by
    rw [Bool.eq_iff_iff]; simp only [beq_iff_eq]; omega
  have hr : Ieee.single.read bits = (if bits / 8388608 % 256 = 0 then .number (bits / 2147483648 % 2 == 1) (bits % 8388608) (-149)
      else if bits / 8388608 % 256 < 255 then .number (bits / 2147483648 % 2 == 1) (8388608 + bits % 8388608) (-149 + (bits / 8388608 % 256 : Nat) - 1)
      else if bits % 8388608 = 0 then .infinity (bits / 2147483648 % 2 == 1) else .nan (bits / 2147483648 % 2 == 1) (bits % 2147483648 - 2139095040)) := by
    have h2 : Ieee.single.leastPlace = -149 := by decide
    have h3 : Ieee.single.binade = 8388608 := by decide
    have h4 : Ieee.single.infRung = 2139095040 := by decide
    have h5 : Ieee.single.signWeight = 2147483648 := by decide
    unfold Ieee.Format.read
    simp only [h2, h3, h4, h5]
    have e1 : bits % 2147483648 / 8388608 = bits / 8388608 % 256 := by omega
    have e2 : bits % 2147483648 % 8388608 = bits % 8388608 := by omega
    rw [e1, e2]
    have hx : bits / 8388608 % 256 ≤ 255 := by omega
    have e3 : bits % 2147483648 = bits / 8388608 % 256 * 8388608 + bits % 8388608 := by omega
    have hf : bits % 8388608 < 8388608 := by omega
    rw [e3]
    generalize bits / 8388608 % 256 = x at *
    generalize bits % 8388608 = f at *
    by_cases c0 : x = 0
    · rw [if_pos (by omega), if_pos c0]; subst c0; simp
    · rw [if_neg (by omega), if_neg c0]
      by_cases c1 : x < 255
      · rw [if_pos (by omega), if_pos c1]; congr 1; omega
      · rw [if_neg (by omega), if_neg c1]
        by_cases c2 : f = 0
        · rw [if_pos (by omega), if_pos c2]
        · rw [if_neg (by omega), if_neg c2]
  rw [hr]
  have hx : bits / 8388608 % 256 ≤ 255 := by omega
  by_cases c0 : bits / 8388608 % 256 = 0
  · rw [if_pos c0]
    exact apart4_sub _ _ _ _ _ _ w hA hB hC hD hE hb (by omega) (by omega) (by omega) c0
  · rw [if_neg c0]
    by_cases c1 : bits / 8388608 % 256 < 255
    · rw [if_pos c1]
      exact apart4_nor _ _ _ _ _ _ w hA hB hC hD hE hb (by omega) (by omega) (by omega) (by omega) c1
    · rw [if_neg c1]
      by_cases c2 : bits % 8388608 = 0
      · rw [if_pos c2]
        exact apart4_inf _ _ _ _ _ _ w hA hB hC hD hE hb (by omega) (by omega) (by omega) (by omega) c2
      · rw [if_neg c2]
        exact apart4_nan _ _ _ _ _ _ w hA hB hC hD hE hb (by omega) (by omega) (by omega) (by omega) (by omega)


end Go.Proofs.Ytmhgbpgilhboeaa.Ra
