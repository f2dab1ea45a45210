/- The reference's Clamp, Float, Nan, and one float as another. -/
import Derived.Test.YtmhgbpgilhboeaaRf
namespace Go.Proofs.Ytmhgbpgilhboeaa.Ra
set_option linter.unusedVariables false
set_option linter.unusedSimpArgs false
open Go.RowKit Wd Go.Proofs.Ytmhgbpgilhboeaa.Math10

theorem pw_32 : pw 32 = 4294967296 := by rw [pw_eq]; decide
theorem within_any (minus : Bool) (size : Int) (great : Bool) (m : Nat) (sign : Bool) (w : World) (hs : 0 ≤ size) (hs1 : size ≤ 18446744073709551615) (h0 : 1 ≤ m) (h1 : m ≤ 8) :
    Calls Try.prog 41 #[.bool minus, .int .u64 size, .bool great, .int .i64 m, .bool sign] w fun e w' => e = .returned (.int .u64 (withinV minus size great m sign)) ∧ Dr w w' := by
  cases minus <;> cases sign
  · exact within_plus_no size great m w hs hs1 h0 h1
  · exact within_plus size great m w hs hs1 h0 h1
  · exact within_minus_no size great m w
  · exact within_minus size great m w hs hs1 h0 h1

theorem refclampu_no (u width : Int) (sign : Bool) (w : World) (h : width < 1 ∨ 8 < width) :
    Calls Try.prog 17 #[.int .u64 u, .int .i64 width, .bool sign] w fun e w' => e = .returned (.tuple #[.int .u64 0, .int .i64 2]) ∧ Dr w w' := by
  rcases h with h | h
  all_goals
    have h' : ¬ (1 ≤ width ∧ width ≤ 8) := by omega
    go_enter Try.func17, Try.ntmps17
    go_wp2
    go_ret2
    exact ⟨rfl, Dr.refl _⟩
theorem refclampu (u : Int) (m : Nat) (sign : Bool) (w : World) (hs : 0 ≤ u) (hs1 : u ≤ 18446744073709551615) (h0 : 1 ≤ m) (h1 : m ≤ 8) :
    Calls Try.prog 17 #[.int .u64 u, .int .i64 m, .bool sign] w fun e w' => e = .returned (.tuple #[.int .u64 (withinV false u false m sign), .int .i64 0]) ∧ Dr w w' := by
  go_enter Try.func17, Try.ntmps17
  go_wp2_with (go_at_call 41; refine (within_any _ _ _ _ _ _ (by omega) (by omega) (by omega) (by omega)).mono ?_; rintro e w' ⟨rfl, ⟨nd, rfl⟩⟩)
  go_ret2
  exact ⟨rfl, Dr.step (Dr.refl _) _⟩
theorem refclamp_no (n width : Int) (sign : Bool) (w : World) (h : width < 1 ∨ 8 < width) :
    Calls Try.prog 16 #[.int .i64 n, .int .i64 width, .bool sign] w fun e w' => e = .returned (.tuple #[.int .u64 0, .int .i64 2]) ∧ Dr w w' := by
  rcases h with h | h
  all_goals
    have h' : ¬ (1 ≤ width ∧ width ≤ 8) := by omega
    go_enter Try.func16, Try.ntmps16
    go_wp2
    go_ret2
    exact ⟨rfl, Dr.refl _⟩
theorem refclamp (n : Int) (m : Nat) (sign : Bool) (w : World) (hn0 : -9223372036854775808 ≤ n) (hn1 : n ≤ 9223372036854775807) (h0 : 1 ≤ m) (h1 : m ≤ 8) :
    Calls Try.prog 16 #[.int .i64 n, .int .i64 m, .bool sign] w fun e w' => e = .returned (.tuple #[.int .u64 (if n < 0 then withinV true (-n) false m sign else withinV false n false m sign), .int .i64 0]) ∧ Dr w w' := by
  by_cases hn : n < 0
  · have e1 : IntKind.u64.wrap (-IntKind.u64.wrap n) = -n := by simp only [IntKind.wrap_u64]; omega
    rw [if_pos hn]
    go_enter Try.func16, Try.ntmps16
    go_wp2_with (go_at_call 41; refine (within_any _ _ _ _ _ _ (by omega) (by omega) (by omega) (by omega)).mono ?_; rintro e w' ⟨rfl, ⟨nd, rfl⟩⟩)
    go_ret2
    exact ⟨rfl, Dr.step (Dr.refl _) _⟩
  · have e1 : IntKind.u64.wrap n = n := by simp only [IntKind.wrap_u64]; omega
    rw [if_neg hn]
    go_enter Try.func16, Try.ntmps16
    go_wp2_with (go_at_call 41; refine (within_any _ _ _ _ _ _ (by omega) (by omega) (by omega) (by omega)).mono ?_; rintro e w' ⟨rfl, ⟨nd, rfl⟩⟩)
    go_ret2
    exact ⟨rfl, Dr.step (Dr.refl _) _⟩


theorem read8_num {bits : Nat} {s : Bool} {m : Nat} {e : Int} (h : Ieee.double.read bits = .number s m e) : m < 2 * 4503599627370496 ∧ -1074 ≤ e ∧ e ≤ 971 := by
  have h2 : Ieee.double.leastPlace = -1074 := by decide
  have h3 : Ieee.double.binade = 4503599627370496 := by decide
  have h4 : Ieee.double.infRung = 9218868437227405312 := by decide
  have h5 : Ieee.double.signWeight = 9223372036854775808 := by decide
  unfold Ieee.Format.read at h
  simp only [h2, h3, h4, h5] at h
  split at h
  · simp only [Ieee.Datum.number.injEq] at h
    omega
  · split at h
    · simp only [Ieee.Datum.number.injEq] at h
      omega
    · split at h <;> cases h
theorem apart8_n (bits : Nat) (s : Bool) (m : Nat) (e : Int) (w : World) (hb : (bits : Int) ≤ 18446744073709551615) (h : Ieee.double.read bits = .number s m e) :
    Calls Try.prog 45 #[.int .u64 bits, .int .i64 8] w fun e' w' => e' = .returned (.tuple #[.int .i64 0, .bool s, .int .u64 m, .int .i64 e]) ∧ Dr w w' := by
  have := apart8_any bits w hb
  rwa [h] at this
theorem apart8_i (bits : Nat) (s : Bool) (w : World) (hb : (bits : Int) ≤ 18446744073709551615) (h : Ieee.double.read bits = .infinity s) :
    Calls Try.prog 45 #[.int .u64 bits, .int .i64 8] w fun e' w' => e' = .returned (.tuple #[.int .i64 1, .bool s, .int .u64 0, .int .i64 0]) ∧ Dr w w' := by
  have := apart8_any bits w hb
  rwa [h] at this
theorem apart8_x (bits : Nat) (s : Bool) (t : Nat) (w : World) (hb : (bits : Int) ≤ 18446744073709551615) (h : Ieee.double.read bits = .nan s t) :
    Calls Try.prog 45 #[.int .u64 bits, .int .i64 8] w fun e' w' => e' = .returned (.tuple #[.int .i64 2, .bool s, .int .u64 0, .int .i64 0]) ∧ Dr w w' := by
  have := apart8_any bits w hb
  rwa [h] at this
theorem refnan8 (bits : Nat) (w : World) (hb : (bits : Int) ≤ 18446744073709551615) :
    Calls Try.prog 29 #[.int .u64 bits, .int .i64 8] w fun e' w' => e' = .returned (.tuple #[.bool (Ieee.double.read bits).isNaN, .int .i64 0]) ∧ Dr w w' := by
  cases hr : Ieee.double.read bits with
  | number s m e =>
    have HR := Lib.hid hr
    clear hr
    show Calls _ _ _ _ fun e' w' => e' = .returned (.tuple #[.bool false, .int .i64 0]) ∧ Dr w w'
    go_enter Try.func29, Try.ntmps29
    go_wp2_with (first
      | (go_at_call 44; refine (power_any _ _ (by omega) (by omega)).mono ?_; rintro e' w' ⟨rfl, ⟨nd, rfl⟩⟩)
      | (go_at_call 45; refine (apart8_n _ _ _ _ _ (by omega) HR.out).mono ?_; rintro e' w' ⟨rfl, ⟨nd, rfl⟩⟩))
    go_ret2
    exact ⟨rfl, by repeat (first | exact Dr.refl _ | apply Dr.step)⟩
  | infinity s =>
    have HR := Lib.hid hr
    clear hr
    show Calls _ _ _ _ fun e' w' => e' = .returned (.tuple #[.bool false, .int .i64 0]) ∧ Dr w w'
    go_enter Try.func29, Try.ntmps29
    go_wp2_with (first
      | (go_at_call 44; refine (power_any _ _ (by omega) (by omega)).mono ?_; rintro e' w' ⟨rfl, ⟨nd, rfl⟩⟩)
      | (go_at_call 45; refine (apart8_i _ _ _ (by omega) HR.out).mono ?_; rintro e' w' ⟨rfl, ⟨nd, rfl⟩⟩))
    go_ret2
    exact ⟨rfl, by repeat (first | exact Dr.refl _ | apply Dr.step)⟩
  | nan s t =>
    have HR := Lib.hid hr
    clear hr
    show Calls _ _ _ _ fun e' w' => e' = .returned (.tuple #[.bool true, .int .i64 0]) ∧ Dr w w'
    go_enter Try.func29, Try.ntmps29
    go_wp2_with (first
      | (go_at_call 44; refine (power_any _ _ (by omega) (by omega)).mono ?_; rintro e' w' ⟨rfl, ⟨nd, rfl⟩⟩)
      | (go_at_call 45; refine (apart8_x _ _ _ _ (by omega) HR.out).mono ?_; rintro e' w' ⟨rfl, ⟨nd, rfl⟩⟩))
    go_ret2
    exact ⟨rfl, by repeat (first | exact Dr.refl _ | apply Dr.step)⟩
theorem reffloatu8 (u : Nat) (w : World) (hu : (u : Int) ≤ 18446744073709551615) :
    Calls Try.prog 27 #[.int .u64 u, .int .i64 8] w fun e' w' => e' = .returned (.tuple #[.int .u64 (Ieee.double.nearest false u 0 : Nat), .int .i64 0]) ∧ Dr w w' := by
  go_enter Try.func27, Try.ntmps27
  go_wp2_with (go_at_call 43; refine (round8_any _ _ _ _ (by omega) (by omega) (by omega)).mono ?_; rintro e' w' ⟨rfl, ⟨nd, rfl⟩⟩)
  go_ret2
  exact ⟨rfl, Dr.step (Dr.refl _) _⟩
theorem reffloat8 (n : Int) (w : World) (hn0 : -9223372036854775808 ≤ n) (hn1 : n ≤ 9223372036854775807) :
    Calls Try.prog 26 #[.int .i64 n, .int .i64 8] w fun e' w' => e' = .returned (.tuple #[.int .u64 (Ieee.double.nearest (decide (n < 0)) n.natAbs 0 : Nat), .int .i64 0]) ∧ Dr w w' := by
  by_cases hn : n < 0
  · have e1 : IntKind.u64.wrap (-IntKind.u64.wrap n) = (n.natAbs : Int) := by simp only [IntKind.wrap_u64]; omega
    have e2 : ((n.natAbs : Nat) : Int) ≤ 18446744073709551615 := by omega
    rw [decide_eq_true hn]
    go_enter Try.func26, Try.ntmps26
    go_wp2_with (go_at_call 43; refine (round8_any _ n.natAbs _ _ (by omega) (by omega) (by omega)).mono ?_; rintro e' w' ⟨rfl, ⟨nd, rfl⟩⟩)
    go_ret2
    exact ⟨rfl, Dr.step (Dr.refl _) _⟩
  · have e1 : IntKind.u64.wrap n = (n.natAbs : Int) := by simp only [IntKind.wrap_u64]; omega
    have e2 : ((n.natAbs : Nat) : Int) ≤ 18446744073709551615 := by omega
    rw [decide_eq_false hn]
    go_enter Try.func26, Try.ntmps26
    go_wp2_with (go_at_call 43; refine (round8_any _ n.natAbs _ _ (by omega) (by omega) (by omega)).mono ?_; rintro e' w' ⟨rfl, ⟨nd, rfl⟩⟩)
    go_ret2
    exact ⟨rfl, Dr.step (Dr.refl _) _⟩


theorem read4_num {bits : Nat} {s : Bool} {m : Nat} {e : Int} (h : Ieee.single.read bits = .number s m e) : m < 2 * 8388608 ∧ -149 ≤ e ∧ e ≤ 104 := by
  have h2 : Ieee.single.leastPlace = -149 := by decide
  have h3 : Ieee.single.binade = 8388608 := by decide
  have h4 : Ieee.single.infRung = 2139095040 := by decide
  have h5 : Ieee.single.signWeight = 2147483648 := by decide
  unfold Ieee.Format.read at h
  simp only [h2, h3, h4, h5] at h
  split at h
  · simp only [Ieee.Datum.number.injEq] at h
    omega
  · split at h
    · simp only [Ieee.Datum.number.injEq] at h
      omega
    · split at h <;> cases h
theorem apart4_n (bits : Nat) (s : Bool) (m : Nat) (e : Int) (w : World) (hb : (bits : Int) ≤ 18446744073709551615) (h : Ieee.single.read bits = .number s m e) :
    Calls Try.prog 45 #[.int .u64 bits, .int .i64 4] w fun e' w' => e' = .returned (.tuple #[.int .i64 0, .bool s, .int .u64 m, .int .i64 e]) ∧ Dr w w' := by
  have := apart4_any bits w hb
  rwa [h] at this
theorem apart4_i (bits : Nat) (s : Bool) (w : World) (hb : (bits : Int) ≤ 18446744073709551615) (h : Ieee.single.read bits = .infinity s) :
    Calls Try.prog 45 #[.int .u64 bits, .int .i64 4] w fun e' w' => e' = .returned (.tuple #[.int .i64 1, .bool s, .int .u64 0, .int .i64 0]) ∧ Dr w w' := by
  have := apart4_any bits w hb
  rwa [h] at this
theorem apart4_x (bits : Nat) (s : Bool) (t : Nat) (w : World) (hb : (bits : Int) ≤ 18446744073709551615) (h : Ieee.single.read bits = .nan s t) :
    Calls Try.prog 45 #[.int .u64 bits, .int .i64 4] w fun e' w' => e' = .returned (.tuple #[.int .i64 2, .bool s, .int .u64 0, .int .i64 0]) ∧ Dr w w' := by
  have := apart4_any bits w hb
  rwa [h] at this
theorem refnan4 (bits : Nat) (w : World) (hb : (bits : Int) ≤ 4294967295) :
    Calls Try.prog 29 #[.int .u64 bits, .int .i64 4] w fun e' w' => e' = .returned (.tuple #[.bool (Ieee.single.read bits).isNaN, .int .i64 0]) ∧ Dr w w' := by
  have hlt : (bits : Int) < pw 32 := by rw [pw_32]; omega
  have hb' : (bits : Int) ≤ 18446744073709551615 := by omega
  clear hb
  cases hr : Ieee.single.read bits with
  | number s m e =>
    have HR := Lib.hid hr
    clear hr
    show Calls _ _ _ _ fun e' w' => e' = .returned (.tuple #[.bool false, .int .i64 0]) ∧ Dr w w'
    go_enter Try.func29, Try.ntmps29
    go_wp2_with (first
      | (go_at_call 44; refine (power_any _ _ (by omega) (by omega)).mono ?_; rintro e' w' ⟨rfl, ⟨nd, rfl⟩⟩)
      | (go_at_call 45; refine (apart4_n _ _ _ _ _ (by omega) HR.out).mono ?_; rintro e' w' ⟨rfl, ⟨nd, rfl⟩⟩))
    go_ret2
    exact ⟨rfl, by repeat (first | exact Dr.refl _ | apply Dr.step)⟩
  | infinity s =>
    have HR := Lib.hid hr
    clear hr
    show Calls _ _ _ _ fun e' w' => e' = .returned (.tuple #[.bool false, .int .i64 0]) ∧ Dr w w'
    go_enter Try.func29, Try.ntmps29
    go_wp2_with (first
      | (go_at_call 44; refine (power_any _ _ (by omega) (by omega)).mono ?_; rintro e' w' ⟨rfl, ⟨nd, rfl⟩⟩)
      | (go_at_call 45; refine (apart4_i _ _ _ (by omega) HR.out).mono ?_; rintro e' w' ⟨rfl, ⟨nd, rfl⟩⟩))
    go_ret2
    exact ⟨rfl, by repeat (first | exact Dr.refl _ | apply Dr.step)⟩
  | nan s t =>
    have HR := Lib.hid hr
    clear hr
    show Calls _ _ _ _ fun e' w' => e' = .returned (.tuple #[.bool true, .int .i64 0]) ∧ Dr w w'
    go_enter Try.func29, Try.ntmps29
    go_wp2_with (first
      | (go_at_call 44; refine (power_any _ _ (by omega) (by omega)).mono ?_; rintro e' w' ⟨rfl, ⟨nd, rfl⟩⟩)
      | (go_at_call 45; refine (apart4_x _ _ _ _ (by omega) HR.out).mono ?_; rintro e' w' ⟨rfl, ⟨nd, rfl⟩⟩))
    go_ret2
    exact ⟨rfl, by repeat (first | exact Dr.refl _ | apply Dr.step)⟩
theorem reffloatu4 (u : Nat) (w : World) (hu : (u : Int) ≤ 18446744073709551615) :
    Calls Try.prog 27 #[.int .u64 u, .int .i64 4] w fun e' w' => e' = .returned (.tuple #[.int .u64 (Ieee.single.nearest false u 0 : Nat), .int .i64 0]) ∧ Dr w w' := by
  go_enter Try.func27, Try.ntmps27
  go_wp2_with (go_at_call 43; refine (round4_any _ _ _ _ (by omega) (by omega) (by omega)).mono ?_; rintro e' w' ⟨rfl, ⟨nd, rfl⟩⟩)
  go_ret2
  exact ⟨rfl, Dr.step (Dr.refl _) _⟩
theorem reffloat4 (n : Int) (w : World) (hn0 : -9223372036854775808 ≤ n) (hn1 : n ≤ 9223372036854775807) :
    Calls Try.prog 26 #[.int .i64 n, .int .i64 4] w fun e' w' => e' = .returned (.tuple #[.int .u64 (Ieee.single.nearest (decide (n < 0)) n.natAbs 0 : Nat), .int .i64 0]) ∧ Dr w w' := by
  by_cases hn : n < 0
  · have e1 : IntKind.u64.wrap (-IntKind.u64.wrap n) = (n.natAbs : Int) := by simp only [IntKind.wrap_u64]; omega
    have e2 : ((n.natAbs : Nat) : Int) ≤ 18446744073709551615 := by omega
    rw [decide_eq_true hn]
    go_enter Try.func26, Try.ntmps26
    go_wp2_with (go_at_call 43; refine (round4_any _ n.natAbs _ _ (by omega) (by omega) (by omega)).mono ?_; rintro e' w' ⟨rfl, ⟨nd, rfl⟩⟩)
    go_ret2
    exact ⟨rfl, Dr.step (Dr.refl _) _⟩
  · have e1 : IntKind.u64.wrap n = (n.natAbs : Int) := by simp only [IntKind.wrap_u64]; omega
    have e2 : ((n.natAbs : Nat) : Int) ≤ 18446744073709551615 := by omega
    rw [decide_eq_false hn]
    go_enter Try.func26, Try.ntmps26
    go_wp2_with (go_at_call 43; refine (round4_any _ n.natAbs _ _ (by omega) (by omega) (by omega)).mono ?_; rintro e' w' ⟨rfl, ⟨nd, rfl⟩⟩)
    go_ret2
    exact ⟨rfl, Dr.step (Dr.refl _) _⟩


end Go.Proofs.Ytmhgbpgilhboeaa.Ra
