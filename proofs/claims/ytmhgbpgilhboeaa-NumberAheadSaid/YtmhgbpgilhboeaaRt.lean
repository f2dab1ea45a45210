/- The reference's Trunc: what it tells. -/
import Derived.Test.YtmhgbpgilhboeaaFy
import Derived.Test.YtmhgbpgilhboeaaFloats
namespace Go.Proofs.Ytmhgbpgilhboeaa.Ra
set_option linter.unusedVariables false
set_option linter.unusedSimpArgs false
open Go.RowKit Wd Go.Proofs.Ytmhgbpgilhboeaa.Math10

/-- a float as an integer of m bytes. -/
def truncV (d : Ieee.Datum) (m : Nat) (sign : Bool) : Int :=
  match d with
  | .nan _ _ => 0
  | .infinity s => withinV s 0 true m sign
  | .number s a e => if 2 ^ 64 ≤ whole a e then withinV s 0 true m sign else withinV s (whole a e) false m sign
theorem length_nil (w : World) : Calls Try.prog 46 #[.int .u64 0] w fun e w' => e = .returned (.int .i64 0) ∧ Dr w w' := length_any 0 w (by omega)
theorem shl_step {a k : Nat} (h : 2 * (a * 2 ^ k) ≤ 18446744073709551615) : IntKind.u64.wrap (2 * ((a * 2 ^ k : Nat) : Int)) = ((a * 2 ^ (k + 1) : Nat) : Int) := by
  rw [u64_in (by omega) (by omega), Nat.pow_succ, ← Nat.mul_assoc]; omega


set_option maxHeartbeats 1000000 in
set_option maxRecDepth 100000 in
theorem reftrunc8_nan (bits : Nat) (m : Nat) (sign s : Bool) (t : Nat) (w : World) (h0 : 1 ≤ m) (h1 : m ≤ 8) (hb : (bits : Int) ≤ 18446744073709551615) (HR : Hid (Ieee.double.read bits = .nan s t)) :
    Calls Try.prog 35 #[.int .u64 bits, .int .i64 8, .int .i64 m, .bool sign] w fun e' w' => e' = .returned (.tuple #[.int .u64 (0), .int .i64 0]) ∧ Dr w w' := by
  go_enter Try.func35, Try.ntmps35
  go_wp2_with (first
    | (go_at_call 45; refine (apart8_x _ _ _ _ (by omega) HR.out).mono ?_; rintro e' w' ⟨rfl, ⟨nd, rfl⟩⟩)
    | (go_at_call 44; refine (power_any _ _ (by omega) (by omega)).mono ?_; rintro e' w' ⟨rfl, ⟨nd, rfl⟩⟩)
    | (go_at_call 41; refine (within_any _ _ _ _ _ _ (by omega) (by omega) (by omega) (by omega)).mono ?_; rintro e' w' ⟨rfl, ⟨nd, rfl⟩⟩))
  go_ret2
  exact ⟨rfl, by repeat (first | exact Dr.refl _ | apply Dr.step)⟩

set_option maxHeartbeats 1000000 in
set_option maxRecDepth 100000 in
theorem reftrunc8_inf (bits : Nat) (m : Nat) (sign s : Bool) (w : World) (h0 : 1 ≤ m) (h1 : m ≤ 8) (hb : (bits : Int) ≤ 18446744073709551615) (HR : Hid (Ieee.double.read bits = .infinity s)) :
    Calls Try.prog 35 #[.int .u64 bits, .int .i64 8, .int .i64 m, .bool sign] w fun e' w' => e' = .returned (.tuple #[.int .u64 (withinV s 0 true m sign), .int .i64 0]) ∧ Dr w w' := by
  go_enter Try.func35, Try.ntmps35
  go_wp2_with (first
    | (go_at_call 45; refine (apart8_i _ _ _ (by omega) HR.out).mono ?_; rintro e' w' ⟨rfl, ⟨nd, rfl⟩⟩)
    | (go_at_call 44; refine (power_any _ _ (by omega) (by omega)).mono ?_; rintro e' w' ⟨rfl, ⟨nd, rfl⟩⟩)
    | (go_at_call 41; refine (within_any _ _ _ _ _ _ (by omega) (by omega) (by omega) (by omega)).mono ?_; rintro e' w' ⟨rfl, ⟨nd, rfl⟩⟩))
  go_ret2
  exact ⟨rfl, by repeat (first | exact Dr.refl _ | apply Dr.step)⟩

set_option maxHeartbeats 1000000 in
set_option maxRecDepth 100000 in
theorem reftrunc8_great (bits : Nat) (m : Nat) (sign s : Bool) (a : Nat) (e : Int) (w : World) (h0 : 1 ≤ m) (h1 : m ≤ 8) (hb : (bits : Int) ≤ 18446744073709551615) (HR : Hid (Ieee.double.read bits = .number s a e)) (ha : (a : Int) ≤ 18446744073709551615) (hl : len a ≤ 53) (he0 : -1100 ≤ e) (he1 : e ≤ 1000) (hg : 64 < (len a : Int) + e) (ha0 : 0 < a) :
    Calls Try.prog 35 #[.int .u64 bits, .int .i64 8, .int .i64 m, .bool sign] w fun e' w' => e' = .returned (.tuple #[.int .u64 (withinV s 0 true m sign), .int .i64 0]) ∧ Dr w w' := by
  go_enter Try.func35, Try.ntmps35
  go_wp2_with (first
    | (go_at_call 45; refine (apart8_n _ _ _ _ _ (by omega) HR.out).mono ?_; rintro e' w' ⟨rfl, ⟨nd, rfl⟩⟩)
    | (go_at_call 46; refine (length_any _ _ (by omega)).mono ?_; rintro e' w' ⟨rfl, ⟨nd, rfl⟩⟩)
    | (go_at_call 44; refine (power_any _ _ (by omega) (by omega)).mono ?_; rintro e' w' ⟨rfl, ⟨nd, rfl⟩⟩)
    | (go_at_call 41; refine (within_any _ _ _ _ _ _ (by omega) (by omega) (by omega) (by omega)).mono ?_; rintro e' w' ⟨rfl, ⟨nd, rfl⟩⟩))
  go_ret2
  exact ⟨by simp, by repeat (first | exact Dr.refl _ | apply Dr.step)⟩

set_option maxHeartbeats 1000000 in
set_option maxRecDepth 100000 in
theorem reftrunc8_deep (bits : Nat) (m : Nat) (sign s : Bool) (a : Nat) (e : Int) (w : World) (h0 : 1 ≤ m) (h1 : m ≤ 8) (hb : (bits : Int) ≤ 18446744073709551615) (HR : Hid (Ieee.double.read bits = .number s a e)) (ha : (a : Int) ≤ 18446744073709551615) (hl : len a ≤ 53) (he0 : -1100 ≤ e) (he1 : e ≤ 1000) (hg : (len a : Int) + e ≤ 64) (he : e ≤ -64) :
    Calls Try.prog 35 #[.int .u64 bits, .int .i64 8, .int .i64 m, .bool sign] w fun e' w' => e' = .returned (.tuple #[.int .u64 (withinV s 0 false m sign), .int .i64 0]) ∧ Dr w w' := by
  go_enter Try.func35, Try.ntmps35
  go_wp2_with (first
    | (go_at_call 45; refine (apart8_n _ _ _ _ _ (by omega) HR.out).mono ?_; rintro e' w' ⟨rfl, ⟨nd, rfl⟩⟩)
    | (go_at_call 46; refine (length_any _ _ (by omega)).mono ?_; rintro e' w' ⟨rfl, ⟨nd, rfl⟩⟩)
    | (go_at_call 44; refine (power_any _ _ (by omega) (by omega)).mono ?_; rintro e' w' ⟨rfl, ⟨nd, rfl⟩⟩)
    | (go_at_call 41; refine (within_any _ _ _ _ _ _ (by omega) (by omega) (by omega) (by omega)).mono ?_; rintro e' w' ⟨rfl, ⟨nd, rfl⟩⟩))
  go_ret2
  exact ⟨by simp, by repeat (first | exact Dr.refl _ | apply Dr.step)⟩

set_option maxHeartbeats 1000000 in
set_option maxRecDepth 100000 in
theorem reftrunc8_low (bits : Nat) (m : Nat) (sign s : Bool) (a : Nat) (e : Int) (w : World) (h0 : 1 ≤ m) (h1 : m ≤ 8) (hb : (bits : Int) ≤ 18446744073709551615) (HR : Hid (Ieee.double.read bits = .number s a e)) (ha : (a : Int) ≤ 18446744073709551615) (hl : len a ≤ 53) (he0 : -1100 ≤ e) (he1 : e ≤ 1000) (hg : (len a : Int) + e ≤ 64) (he : e < 0) (he2 : -64 < e) (q : Nat) (hq : (a : Int) / pw (-e).toNat = q) (hqb : (q : Int) ≤ 18446744073709551615) :
    Calls Try.prog 35 #[.int .u64 bits, .int .i64 8, .int .i64 m, .bool sign] w fun e' w' => e' = .returned (.tuple #[.int .u64 (withinV s q false m sign), .int .i64 0]) ∧ Dr w w' := by
  have hp : (pw (-e).toNat == 0) = false := by rw [beq_eq_false_iff_ne]; have := pw_pos (-e).toNat; omega
  have hp1 := pw_pos (-e).toNat
  go_enter Try.func35, Try.ntmps35
  go_wp2_with (first
    | (go_at_call 45; refine (apart8_n _ _ _ _ _ (by omega) HR.out).mono ?_; rintro e' w' ⟨rfl, ⟨nd, rfl⟩⟩)
    | (go_at_call 46; refine (length_any _ _ (by omega)).mono ?_; rintro e' w' ⟨rfl, ⟨nd, rfl⟩⟩)
    | (go_at_call 44; refine (power_any _ _ (by omega) (by omega)).mono ?_; rintro e' w' ⟨rfl, ⟨nd, rfl⟩⟩)
    | (go_at_call 41; refine (within_any _ _ _ _ _ _ (by omega) (by omega) (by omega) (by omega)).mono ?_; rintro e' w' ⟨rfl, ⟨nd, rfl⟩⟩))
  go_ret2
  exact ⟨by simp, by repeat (first | exact Dr.refl _ | apply Dr.step)⟩

set_option maxHeartbeats 1000000 in
set_option maxRecDepth 100000 in
theorem reftrunc8_zero (bits : Nat) (m : Nat) (sign s : Bool) (e : Int) (w : World) (h0 : 1 ≤ m) (h1 : m ≤ 8) (hb : (bits : Int) ≤ 18446744073709551615) (HR : Hid (Ieee.double.read bits = .number s 0 e)) (he0 : -1100 ≤ e) (he1 : e ≤ 1000) (he : 0 ≤ e) :
    Calls Try.prog 35 #[.int .u64 bits, .int .i64 8, .int .i64 m, .bool sign] w fun e' w' => e' = .returned (.tuple #[.int .u64 (withinV s 0 false m sign), .int .i64 0]) ∧ Dr w w' := by
  by_cases hgt : 64 < e
  all_goals
    go_enter Try.func35, Try.ntmps35
    go_wp2_with (first
    | (go_at_call 46; refine (length_nil _).mono ?_; rintro e' w' ⟨rfl, ⟨nd, rfl⟩⟩)
    | (go_at_call 45; refine (apart8_n _ _ _ _ _ (by omega) HR.out).mono ?_; rintro e' w' ⟨rfl, ⟨nd, rfl⟩⟩)
    | (go_at_call 46; refine (length_any _ _ (by omega)).mono ?_; rintro e' w' ⟨rfl, ⟨nd, rfl⟩⟩)
    | (go_at_call 44; refine (power_any _ _ (by omega) (by omega)).mono ?_; rintro e' w' ⟨rfl, ⟨nd, rfl⟩⟩)
    | (go_at_call 41; refine (within_any _ _ _ _ _ _ (by omega) (by omega) (by omega) (by omega)).mono ?_; rintro e' w' ⟨rfl, ⟨nd, rfl⟩⟩))
    go_loopw [15, 16] (fun z i wr => z = .int .u64 0 ∧ i = .int .i64 0 ∧ Dr w wr) (fun _ _ _ => 0)
    case atStart => exact ⟨rfl, rfl, by repeat (first | exact Dr.refl _ | apply Dr.step)⟩
    case round =>
      obtain ⟨rfl, rfl, hd⟩ := hrel
      go_wp2_with (first
    | (go_at_call 45; refine (apart8_n _ _ _ _ _ (by omega) HR.out).mono ?_; rintro e' w' ⟨rfl, ⟨nd, rfl⟩⟩)
    | (go_at_call 46; refine (length_any _ _ (by omega)).mono ?_; rintro e' w' ⟨rfl, ⟨nd, rfl⟩⟩)
    | (go_at_call 44; refine (power_any _ _ (by omega) (by omega)).mono ?_; rintro e' w' ⟨rfl, ⟨nd, rfl⟩⟩)
    | (go_at_call 41; refine (within_any _ _ _ _ _ _ (by omega) (by omega) (by omega) (by omega)).mono ?_; rintro e' w' ⟨rfl, ⟨nd, rfl⟩⟩))
      all_goals
        go_ret2
        exact ⟨rfl, by repeat (first | exact hd | apply Dr.step)⟩

set_option maxHeartbeats 1000000 in
set_option maxRecDepth 100000 in
theorem reftrunc8_high (bits : Nat) (m : Nat) (sign s : Bool) (a : Nat) (e : Nat) (w : World) (h0 : 1 ≤ m) (h1 : m ≤ 8) (hb : (bits : Int) ≤ 18446744073709551615) (HR : Hid (Ieee.double.read bits = .number s a e)) (ha : (a : Int) ≤ 18446744073709551615) (hl : len a ≤ 53) (ha0 : 0 < a) (he1 : (e : Int) ≤ 1000) (hg : (len a : Int) + e ≤ 64) :
    Calls Try.prog 35 #[.int .u64 bits, .int .i64 8, .int .i64 m, .bool sign] w fun e' w' => e' = .returned (.tuple #[.int .u64 (withinV s ((a * 2 ^ e : Nat) : Int) false m sign), .int .i64 0]) ∧ Dr w w' := by
  have hs : ∀ k, k ≤ e → a * 2 ^ k ≤ 18446744073709551615 := fun k hk => by
    have h1 := len_bound (u := a * 2 ^ k) (n := 64)
    have h2 := len_scale a k ha0
    have h3 := len_lt (a * 2 ^ k)
    have h4 : 2 ^ len (a * 2 ^ k) ≤ 2 ^ 64 := Nat.pow_le_pow_right (by omega) (by omega)
    have h5 : (2 : Nat) ^ 64 = 18446744073709551616 := by decide
    omega
  have HS := Lib.hid hs
  clear hs
  go_enter Try.func35, Try.ntmps35
  go_wp2_with (first
    | (go_at_call 45; refine (apart8_n _ _ _ _ _ (by omega) HR.out).mono ?_; rintro e' w' ⟨rfl, ⟨nd, rfl⟩⟩)
    | (go_at_call 46; refine (length_any _ _ (by omega)).mono ?_; rintro e' w' ⟨rfl, ⟨nd, rfl⟩⟩)
    | (go_at_call 44; refine (power_any _ _ (by omega) (by omega)).mono ?_; rintro e' w' ⟨rfl, ⟨nd, rfl⟩⟩)
    | (go_at_call 41; refine (within_any _ _ _ _ _ _ (by omega) (by omega) (by omega) (by omega)).mono ?_; rintro e' w' ⟨rfl, ⟨nd, rfl⟩⟩))
  go_loopw [15, 16] (fun z i wr => ∃ k : Nat, k ≤ e ∧ z = .int .u64 ((a * 2 ^ k : Nat) : Int) ∧ i = .int .i64 k ∧ Dr w wr) (fun _ i _ => e - (intOf i).toNat)
  case atStart => exact ⟨0, by omega, by simp, rfl, by repeat (first | exact Dr.refl _ | apply Dr.step)⟩
  case round =>
    obtain ⟨k, hk, rfl, rfl, hd⟩ := hrel
    have hst : k < e → IntKind.u64.wrap (2 * ((a * 2 ^ k : Nat) : Int)) = ((a * 2 ^ (k + 1) : Nat) : Int) := fun h => shl_step (by have := HS.out (k + 1) h; rw [Nat.pow_succ, ← Nat.mul_assoc] at this; omega)
    have hk64 := HS.out k hk
    by_cases hlt : k < e
    · have HST := Lib.hid (hst hlt)
      clear hst
      generalize hz : ((a * 2 ^ k : Nat) : Int) = z at *
      clear hz
      go_wp2_with (first
    | (go_at_call 45; refine (apart8_n _ _ _ _ _ (by omega) HR.out).mono ?_; rintro e' w' ⟨rfl, ⟨nd, rfl⟩⟩)
    | (go_at_call 46; refine (length_any _ _ (by omega)).mono ?_; rintro e' w' ⟨rfl, ⟨nd, rfl⟩⟩)
    | (go_at_call 44; refine (power_any _ _ (by omega) (by omega)).mono ?_; rintro e' w' ⟨rfl, ⟨nd, rfl⟩⟩)
    | (go_at_call 41; refine (within_any _ _ _ _ _ _ (by omega) (by omega) (by omega) (by omega)).mono ?_; rintro e' w' ⟨rfl, ⟨nd, rfl⟩⟩))
      go_roundw
      case rel => exact ⟨k + 1, by omega, by rw [← HST.out], by go_num, by repeat (first | exact hd | apply Dr.step)⟩
      case measure => simp [intOf]; omega
    · obtain rfl : k = e := by omega
      clear hst
      have hk65 : ((a * 2 ^ k : Nat) : Int) ≤ 18446744073709551615 := by omega
      have hk66 : 0 ≤ ((a * 2 ^ k : Nat) : Int) := by omega
      generalize hz : ((a * 2 ^ k : Nat) : Int) = z at *
      have HZ := Lib.hid hz
      clear hz
      go_wp2_with (first
    | (go_at_call 45; refine (apart8_n _ _ _ _ _ (by omega) HR.out).mono ?_; rintro e' w' ⟨rfl, ⟨nd, rfl⟩⟩)
    | (go_at_call 46; refine (length_any _ _ (by omega)).mono ?_; rintro e' w' ⟨rfl, ⟨nd, rfl⟩⟩)
    | (go_at_call 44; refine (power_any _ _ (by omega) (by omega)).mono ?_; rintro e' w' ⟨rfl, ⟨nd, rfl⟩⟩)
    | (go_at_call 41; refine (within_any _ _ _ _ _ _ (by omega) (by omega) (by omega) (by omega)).mono ?_; rintro e' w' ⟨rfl, ⟨nd, rfl⟩⟩))
      all_goals
        go_ret2
        exact ⟨by rw [HZ.out]; rfl, by repeat (first | exact hd | apply Dr.step)⟩

set_option maxHeartbeats 1000000 in
set_option maxRecDepth 100000 in
theorem reftrunc4_nan (bits : Nat) (m : Nat) (sign s : Bool) (t : Nat) (w : World) (h0 : 1 ≤ m) (h1 : m ≤ 8) (hb : (bits : Int) ≤ 4294967295) (HR : Hid (Ieee.single.read bits = .nan s t)) :
    Calls Try.prog 35 #[.int .u64 bits, .int .i64 4, .int .i64 m, .bool sign] w fun e' w' => e' = .returned (.tuple #[.int .u64 (0), .int .i64 0]) ∧ Dr w w' := by
  have hlt : (bits : Int) < pw 32 := by rw [pw_32]; omega
  have hb' : (bits : Int) ≤ 18446744073709551615 := by omega
  clear hb
  go_enter Try.func35, Try.ntmps35
  go_wp2_with (first
    | (go_at_call 45; refine (apart4_x _ _ _ _ (by omega) HR.out).mono ?_; rintro e' w' ⟨rfl, ⟨nd, rfl⟩⟩)
    | (go_at_call 44; refine (power_any _ _ (by omega) (by omega)).mono ?_; rintro e' w' ⟨rfl, ⟨nd, rfl⟩⟩)
    | (go_at_call 41; refine (within_any _ _ _ _ _ _ (by omega) (by omega) (by omega) (by omega)).mono ?_; rintro e' w' ⟨rfl, ⟨nd, rfl⟩⟩))
  go_ret2
  exact ⟨rfl, by repeat (first | exact Dr.refl _ | apply Dr.step)⟩

set_option maxHeartbeats 1000000 in
set_option maxRecDepth 100000 in
theorem reftrunc4_inf (bits : Nat) (m : Nat) (sign s : Bool) (w : World) (h0 : 1 ≤ m) (h1 : m ≤ 8) (hb : (bits : Int) ≤ 4294967295) (HR : Hid (Ieee.single.read bits = .infinity s)) :
    Calls Try.prog 35 #[.int .u64 bits, .int .i64 4, .int .i64 m, .bool sign] w fun e' w' => e' = .returned (.tuple #[.int .u64 (withinV s 0 true m sign), .int .i64 0]) ∧ Dr w w' := by
  have hlt : (bits : Int) < pw 32 := by rw [pw_32]; omega
  have hb' : (bits : Int) ≤ 18446744073709551615 := by omega
  clear hb
  go_enter Try.func35, Try.ntmps35
  go_wp2_with (first
    | (go_at_call 45; refine (apart4_i _ _ _ (by omega) HR.out).mono ?_; rintro e' w' ⟨rfl, ⟨nd, rfl⟩⟩)
    | (go_at_call 44; refine (power_any _ _ (by omega) (by omega)).mono ?_; rintro e' w' ⟨rfl, ⟨nd, rfl⟩⟩)
    | (go_at_call 41; refine (within_any _ _ _ _ _ _ (by omega) (by omega) (by omega) (by omega)).mono ?_; rintro e' w' ⟨rfl, ⟨nd, rfl⟩⟩))
  go_ret2
  exact ⟨rfl, by repeat (first | exact Dr.refl _ | apply Dr.step)⟩

set_option maxHeartbeats 1000000 in
set_option maxRecDepth 100000 in
theorem reftrunc4_great (bits : Nat) (m : Nat) (sign s : Bool) (a : Nat) (e : Int) (w : World) (h0 : 1 ≤ m) (h1 : m ≤ 8) (hb : (bits : Int) ≤ 4294967295) (HR : Hid (Ieee.single.read bits = .number s a e)) (ha : (a : Int) ≤ 18446744073709551615) (hl : len a ≤ 53) (he0 : -1100 ≤ e) (he1 : e ≤ 1000) (hg : 64 < (len a : Int) + e) (ha0 : 0 < a) :
    Calls Try.prog 35 #[.int .u64 bits, .int .i64 4, .int .i64 m, .bool sign] w fun e' w' => e' = .returned (.tuple #[.int .u64 (withinV s 0 true m sign), .int .i64 0]) ∧ Dr w w' := by
  have hlt : (bits : Int) < pw 32 := by rw [pw_32]; omega
  have hb' : (bits : Int) ≤ 18446744073709551615 := by omega
  clear hb
  go_enter Try.func35, Try.ntmps35
  go_wp2_with (first
    | (go_at_call 45; refine (apart4_n _ _ _ _ _ (by omega) HR.out).mono ?_; rintro e' w' ⟨rfl, ⟨nd, rfl⟩⟩)
    | (go_at_call 46; refine (length_any _ _ (by omega)).mono ?_; rintro e' w' ⟨rfl, ⟨nd, rfl⟩⟩)
    | (go_at_call 44; refine (power_any _ _ (by omega) (by omega)).mono ?_; rintro e' w' ⟨rfl, ⟨nd, rfl⟩⟩)
    | (go_at_call 41; refine (within_any _ _ _ _ _ _ (by omega) (by omega) (by omega) (by omega)).mono ?_; rintro e' w' ⟨rfl, ⟨nd, rfl⟩⟩))
  go_ret2
  exact ⟨by simp, by repeat (first | exact Dr.refl _ | apply Dr.step)⟩

set_option maxHeartbeats 1000000 in
set_option maxRecDepth 100000 in
theorem reftrunc4_deep (bits : Nat) (m : Nat) (sign s : Bool) (a : Nat) (e : Int) (w : World) (h0 : 1 ≤ m) (h1 : m ≤ 8) (hb : (bits : Int) ≤ 4294967295) (HR : Hid (Ieee.single.read bits = .number s a e)) (ha : (a : Int) ≤ 18446744073709551615) (hl : len a ≤ 53) (he0 : -1100 ≤ e) (he1 : e ≤ 1000) (hg : (len a : Int) + e ≤ 64) (he : e ≤ -64) :
    Calls Try.prog 35 #[.int .u64 bits, .int .i64 4, .int .i64 m, .bool sign] w fun e' w' => e' = .returned (.tuple #[.int .u64 (withinV s 0 false m sign), .int .i64 0]) ∧ Dr w w' := by
  have hlt : (bits : Int) < pw 32 := by rw [pw_32]; omega
  have hb' : (bits : Int) ≤ 18446744073709551615 := by omega
  clear hb
  go_enter Try.func35, Try.ntmps35
  go_wp2_with (first
    | (go_at_call 45; refine (apart4_n _ _ _ _ _ (by omega) HR.out).mono ?_; rintro e' w' ⟨rfl, ⟨nd, rfl⟩⟩)
    | (go_at_call 46; refine (length_any _ _ (by omega)).mono ?_; rintro e' w' ⟨rfl, ⟨nd, rfl⟩⟩)
    | (go_at_call 44; refine (power_any _ _ (by omega) (by omega)).mono ?_; rintro e' w' ⟨rfl, ⟨nd, rfl⟩⟩)
    | (go_at_call 41; refine (within_any _ _ _ _ _ _ (by omega) (by omega) (by omega) (by omega)).mono ?_; rintro e' w' ⟨rfl, ⟨nd, rfl⟩⟩))
  go_ret2
  exact ⟨by simp, by repeat (first | exact Dr.refl _ | apply Dr.step)⟩

set_option maxHeartbeats 1000000 in
set_option maxRecDepth 100000 in
theorem reftrunc4_low (bits : Nat) (m : Nat) (sign s : Bool) (a : Nat) (e : Int) (w : World) (h0 : 1 ≤ m) (h1 : m ≤ 8) (hb : (bits : Int) ≤ 4294967295) (HR : Hid (Ieee.single.read bits = .number s a e)) (ha : (a : Int) ≤ 18446744073709551615) (hl : len a ≤ 53) (he0 : -1100 ≤ e) (he1 : e ≤ 1000) (hg : (len a : Int) + e ≤ 64) (he : e < 0) (he2 : -64 < e) (q : Nat) (hq : (a : Int) / pw (-e).toNat = q) (hqb : (q : Int) ≤ 18446744073709551615) :
    Calls Try.prog 35 #[.int .u64 bits, .int .i64 4, .int .i64 m, .bool sign] w fun e' w' => e' = .returned (.tuple #[.int .u64 (withinV s q false m sign), .int .i64 0]) ∧ Dr w w' := by
  have hlt : (bits : Int) < pw 32 := by rw [pw_32]; omega
  have hb' : (bits : Int) ≤ 18446744073709551615 := by omega
  clear hb
  have hp : (pw (-e).toNat == 0) = false := by rw [beq_eq_false_iff_ne]; have := pw_pos (-e).toNat; omega
  have hp1 := pw_pos (-e).toNat
  go_enter Try.func35, Try.ntmps35
  go_wp2_with (first
    | (go_at_call 45; refine (apart4_n _ _ _ _ _ (by omega) HR.out).mono ?_; rintro e' w' ⟨rfl, ⟨nd, rfl⟩⟩)
    | (go_at_call 46; refine (length_any _ _ (by omega)).mono ?_; rintro e' w' ⟨rfl, ⟨nd, rfl⟩⟩)
    | (go_at_call 44; refine (power_any _ _ (by omega) (by omega)).mono ?_; rintro e' w' ⟨rfl, ⟨nd, rfl⟩⟩)
    | (go_at_call 41; refine (within_any _ _ _ _ _ _ (by omega) (by omega) (by omega) (by omega)).mono ?_; rintro e' w' ⟨rfl, ⟨nd, rfl⟩⟩))
  go_ret2
  exact ⟨by simp, by repeat (first | exact Dr.refl _ | apply Dr.step)⟩

set_option maxHeartbeats 1000000 in
set_option maxRecDepth 100000 in
theorem reftrunc4_zero (bits : Nat) (m : Nat) (sign s : Bool) (e : Int) (w : World) (h0 : 1 ≤ m) (h1 : m ≤ 8) (hb : (bits : Int) ≤ 4294967295) (HR : Hid (Ieee.single.read bits = .number s 0 e)) (he0 : -1100 ≤ e) (he1 : e ≤ 1000) (he : 0 ≤ e) :
    Calls Try.prog 35 #[.int .u64 bits, .int .i64 4, .int .i64 m, .bool sign] w fun e' w' => e' = .returned (.tuple #[.int .u64 (withinV s 0 false m sign), .int .i64 0]) ∧ Dr w w' := by
  have hlt : (bits : Int) < pw 32 := by rw [pw_32]; omega
  have hb' : (bits : Int) ≤ 18446744073709551615 := by omega
  clear hb
  by_cases hgt : 64 < e
  all_goals
    go_enter Try.func35, Try.ntmps35
    go_wp2_with (first
    | (go_at_call 46; refine (length_nil _).mono ?_; rintro e' w' ⟨rfl, ⟨nd, rfl⟩⟩)
    | (go_at_call 45; refine (apart4_n _ _ _ _ _ (by omega) HR.out).mono ?_; rintro e' w' ⟨rfl, ⟨nd, rfl⟩⟩)
    | (go_at_call 46; refine (length_any _ _ (by omega)).mono ?_; rintro e' w' ⟨rfl, ⟨nd, rfl⟩⟩)
    | (go_at_call 44; refine (power_any _ _ (by omega) (by omega)).mono ?_; rintro e' w' ⟨rfl, ⟨nd, rfl⟩⟩)
    | (go_at_call 41; refine (within_any _ _ _ _ _ _ (by omega) (by omega) (by omega) (by omega)).mono ?_; rintro e' w' ⟨rfl, ⟨nd, rfl⟩⟩))
    go_loopw [15, 16] (fun z i wr => z = .int .u64 0 ∧ i = .int .i64 0 ∧ Dr w wr) (fun _ _ _ => 0)
    case atStart => exact ⟨rfl, rfl, by repeat (first | exact Dr.refl _ | apply Dr.step)⟩
    case round =>
      obtain ⟨rfl, rfl, hd⟩ := hrel
      go_wp2_with (first
    | (go_at_call 45; refine (apart4_n _ _ _ _ _ (by omega) HR.out).mono ?_; rintro e' w' ⟨rfl, ⟨nd, rfl⟩⟩)
    | (go_at_call 46; refine (length_any _ _ (by omega)).mono ?_; rintro e' w' ⟨rfl, ⟨nd, rfl⟩⟩)
    | (go_at_call 44; refine (power_any _ _ (by omega) (by omega)).mono ?_; rintro e' w' ⟨rfl, ⟨nd, rfl⟩⟩)
    | (go_at_call 41; refine (within_any _ _ _ _ _ _ (by omega) (by omega) (by omega) (by omega)).mono ?_; rintro e' w' ⟨rfl, ⟨nd, rfl⟩⟩))
      all_goals
        go_ret2
        exact ⟨rfl, by repeat (first | exact hd | apply Dr.step)⟩

set_option maxHeartbeats 1000000 in
set_option maxRecDepth 100000 in
theorem reftrunc4_high (bits : Nat) (m : Nat) (sign s : Bool) (a : Nat) (e : Nat) (w : World) (h0 : 1 ≤ m) (h1 : m ≤ 8) (hb : (bits : Int) ≤ 4294967295) (HR : Hid (Ieee.single.read bits = .number s a e)) (ha : (a : Int) ≤ 18446744073709551615) (hl : len a ≤ 53) (ha0 : 0 < a) (he1 : (e : Int) ≤ 1000) (hg : (len a : Int) + e ≤ 64) :
    Calls Try.prog 35 #[.int .u64 bits, .int .i64 4, .int .i64 m, .bool sign] w fun e' w' => e' = .returned (.tuple #[.int .u64 (withinV s ((a * 2 ^ e : Nat) : Int) false m sign), .int .i64 0]) ∧ Dr w w' := by
  have hlt : (bits : Int) < pw 32 := by rw [pw_32]; omega
  have hb' : (bits : Int) ≤ 18446744073709551615 := by omega
  clear hb
  have hs : ∀ k, k ≤ e → a * 2 ^ k ≤ 18446744073709551615 := fun k hk => by
    have h1 := len_bound (u := a * 2 ^ k) (n := 64)
    have h2 := len_scale a k ha0
    have h3 := len_lt (a * 2 ^ k)
    have h4 : 2 ^ len (a * 2 ^ k) ≤ 2 ^ 64 := Nat.pow_le_pow_right (by omega) (by omega)
    have h5 : (2 : Nat) ^ 64 = 18446744073709551616 := by decide
    omega
  have HS := Lib.hid hs
  clear hs
  go_enter Try.func35, Try.ntmps35
  go_wp2_with (first
    | (go_at_call 45; refine (apart4_n _ _ _ _ _ (by omega) HR.out).mono ?_; rintro e' w' ⟨rfl, ⟨nd, rfl⟩⟩)
    | (go_at_call 46; refine (length_any _ _ (by omega)).mono ?_; rintro e' w' ⟨rfl, ⟨nd, rfl⟩⟩)
    | (go_at_call 44; refine (power_any _ _ (by omega) (by omega)).mono ?_; rintro e' w' ⟨rfl, ⟨nd, rfl⟩⟩)
    | (go_at_call 41; refine (within_any _ _ _ _ _ _ (by omega) (by omega) (by omega) (by omega)).mono ?_; rintro e' w' ⟨rfl, ⟨nd, rfl⟩⟩))
  go_loopw [15, 16] (fun z i wr => ∃ k : Nat, k ≤ e ∧ z = .int .u64 ((a * 2 ^ k : Nat) : Int) ∧ i = .int .i64 k ∧ Dr w wr) (fun _ i _ => e - (intOf i).toNat)
  case atStart => exact ⟨0, by omega, by simp, rfl, by repeat (first | exact Dr.refl _ | apply Dr.step)⟩
  case round =>
    obtain ⟨k, hk, rfl, rfl, hd⟩ := hrel
    have hst : k < e → IntKind.u64.wrap (2 * ((a * 2 ^ k : Nat) : Int)) = ((a * 2 ^ (k + 1) : Nat) : Int) := fun h => shl_step (by have := HS.out (k + 1) h; rw [Nat.pow_succ, ← Nat.mul_assoc] at this; omega)
    have hk64 := HS.out k hk
    by_cases hlt : k < e
    · have HST := Lib.hid (hst hlt)
      clear hst
      generalize hz : ((a * 2 ^ k : Nat) : Int) = z at *
      clear hz
      go_wp2_with (first
    | (go_at_call 45; refine (apart4_n _ _ _ _ _ (by omega) HR.out).mono ?_; rintro e' w' ⟨rfl, ⟨nd, rfl⟩⟩)
    | (go_at_call 46; refine (length_any _ _ (by omega)).mono ?_; rintro e' w' ⟨rfl, ⟨nd, rfl⟩⟩)
    | (go_at_call 44; refine (power_any _ _ (by omega) (by omega)).mono ?_; rintro e' w' ⟨rfl, ⟨nd, rfl⟩⟩)
    | (go_at_call 41; refine (within_any _ _ _ _ _ _ (by omega) (by omega) (by omega) (by omega)).mono ?_; rintro e' w' ⟨rfl, ⟨nd, rfl⟩⟩))
      go_roundw
      case rel => exact ⟨k + 1, by omega, by rw [← HST.out], by go_num, by repeat (first | exact hd | apply Dr.step)⟩
      case measure => simp [intOf]; omega
    · obtain rfl : k = e := by omega
      clear hst
      have hk65 : ((a * 2 ^ k : Nat) : Int) ≤ 18446744073709551615 := by omega
      have hk66 : 0 ≤ ((a * 2 ^ k : Nat) : Int) := by omega
      generalize hz : ((a * 2 ^ k : Nat) : Int) = z at *
      have HZ := Lib.hid hz
      clear hz
      go_wp2_with (first
    | (go_at_call 45; refine (apart4_n _ _ _ _ _ (by omega) HR.out).mono ?_; rintro e' w' ⟨rfl, ⟨nd, rfl⟩⟩)
    | (go_at_call 46; refine (length_any _ _ (by omega)).mono ?_; rintro e' w' ⟨rfl, ⟨nd, rfl⟩⟩)
    | (go_at_call 44; refine (power_any _ _ (by omega) (by omega)).mono ?_; rintro e' w' ⟨rfl, ⟨nd, rfl⟩⟩)
    | (go_at_call 41; refine (within_any _ _ _ _ _ _ (by omega) (by omega) (by omega) (by omega)).mono ?_; rintro e' w' ⟨rfl, ⟨nd, rfl⟩⟩))
      all_goals
        go_ret2
        exact ⟨by rw [HZ.out]; rfl, by repeat (first | exact hd | apply Dr.step)⟩

end Go.Proofs.Ytmhgbpgilhboeaa.Ra
