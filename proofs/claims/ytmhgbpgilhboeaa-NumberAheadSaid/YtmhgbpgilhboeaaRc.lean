/- The reference's rounding to a float. -/
import Derived.Test.YtmhgbpgilhboeaaRb
import Derived.WalkLawsBesides
namespace Go.Proofs.Ytmhgbpgilhboeaa.Ra
set_option linter.unusedVariables false
set_option linter.unusedSimpArgs false
open Go.RowKit Wd Go.Proofs.Ytmhgbpgilhboeaa.Math10


/-- the bits: the sign, and the rung of so many units. -/
def R8 (b u q : Int) : Int := b + min ((u + 1074) * 4503599627370496 + q) 9218868437227405312

set_option maxHeartbeats 1000000 in
set_option maxRecDepth 100000 in
theorem round8_pos_a (m q : Nat) (e u : Int) (w : World) (hm : (m : Int) ≤ 18446744073709551615) (hm0 : 0 < m) (he0 : -5000 ≤ e) (he1 : e ≤ 5000)
    (hmx : (if ((len m : Nat) : Int) + e - 53 < -1074 then -1074 else ((len m : Nat) : Int) + e - 53) = u) (hue : e < u) (hq : rne m (u - e).toNat = q) (hqb : (q : Int) ≤ pw 53)
    (hu1 : u ≤ 5100) (hu2 : -1074 ≤ u) (ho : -1074 < u → pw 52 ≤ q) :
    Calls Try.prog 43 #[.bool false, .int .u64 m, .int .i64 e, .int .i64 8] w fun e w' => e = .returned (.int .u64 (R8 (0) u q)) ∧ Dr w w' := by
  have hl := len_bound (u := m) (n := 64) (by omega)
  have hm0' : ((m : Int) == 0) = false := by rw [beq_eq_false_iff_ne]; omega
  have HO := Lib.hid ho
  clear ho
  have h11 := pw_11
  go_enter Try.func43, Try.ntmps43
  go_wp2_with (first
    | (go_at_call 44; refine (power_any _ _ (by omega) (by omega)).mono ?_; rintro e w' ⟨rfl, ⟨nd, rfl⟩⟩)
    | (go_at_call 46; refine (length_any _ _ (by omega)).mono ?_; rintro e w' ⟨rfl, ⟨nd, rfl⟩⟩)
    | (go_at_call 51; refine (shifted_any _ _ _ (by omega) (by omega)).mono ?_; rintro e w' ⟨rfl, ⟨nd, rfl⟩⟩))
  all_goals
    go_ret
    refine ⟨ret_u64 ?_, Dr.step (Dr.refl _) _⟩
    have ho := HO.out
    clear HO hmx hq
    unfold R8
    simp only [pw_52, pw_53, pw_63, IntKind.wrap_u64, beq_iff_eq, beq_eq_false_iff_ne, ne_eq] at *
    omega

set_option maxHeartbeats 1000000 in
set_option maxRecDepth 100000 in
theorem round8_pos_b (m q : Nat) (e u : Int) (w : World) (hm : (m : Int) ≤ 18446744073709551615) (hm0 : 0 < m) (he0 : -5000 ≤ e) (he1 : e ≤ 5000)
    (hmx : (if ((len m : Nat) : Int) + e - 53 < -1074 then -1074 else ((len m : Nat) : Int) + e - 53) = u) (hue : u ≤ e) (heu : e - u ≤ 60) (hq : IntKind.u64.wrap ((m : Int) * pw (e - u).toNat) = q) (hqb : (q : Int) ≤ pw 53)
    (hu1 : u ≤ 5100) (hu2 : -1074 ≤ u) (ho : -1074 < u → pw 52 ≤ q) :
    Calls Try.prog 43 #[.bool false, .int .u64 m, .int .i64 e, .int .i64 8] w fun e w' => e = .returned (.int .u64 (R8 (0) u q)) ∧ Dr w w' := by
  have hl := len_bound (u := m) (n := 64) (by omega)
  have hm0' : ((m : Int) == 0) = false := by rw [beq_eq_false_iff_ne]; omega
  have HO := Lib.hid ho
  clear ho
  have h11 := pw_11
  go_enter Try.func43, Try.ntmps43
  go_wp2_with (first
    | (go_at_call 44; refine (power_any _ _ (by omega) (by omega)).mono ?_; rintro e w' ⟨rfl, ⟨nd, rfl⟩⟩)
    | (go_at_call 46; refine (length_any _ _ (by omega)).mono ?_; rintro e w' ⟨rfl, ⟨nd, rfl⟩⟩)
    | (go_at_call 51; refine (shifted_any _ _ _ (by omega) (by omega)).mono ?_; rintro e w' ⟨rfl, ⟨nd, rfl⟩⟩))
  all_goals
    go_ret
    refine ⟨ret_u64 ?_, Dr.step (Dr.refl _) _⟩
    have ho := HO.out
    clear HO hmx hq
    unfold R8
    simp only [pw_52, pw_53, pw_63, IntKind.wrap_u64, beq_iff_eq, beq_eq_false_iff_ne, ne_eq] at *
    omega

set_option maxHeartbeats 1000000 in
set_option maxRecDepth 100000 in
theorem round8_neg_a (m q : Nat) (e u : Int) (w : World) (hm : (m : Int) ≤ 18446744073709551615) (hm0 : 0 < m) (he0 : -5000 ≤ e) (he1 : e ≤ 5000)
    (hmx : (if ((len m : Nat) : Int) + e - 53 < -1074 then -1074 else ((len m : Nat) : Int) + e - 53) = u) (hue : e < u) (hq : rne m (u - e).toNat = q) (hqb : (q : Int) ≤ pw 53)
    (hu1 : u ≤ 5100) (hu2 : -1074 ≤ u) (ho : -1074 < u → pw 52 ≤ q) :
    Calls Try.prog 43 #[.bool true, .int .u64 m, .int .i64 e, .int .i64 8] w fun e w' => e = .returned (.int .u64 (R8 (pw 63) u q)) ∧ Dr w w' := by
  have hl := len_bound (u := m) (n := 64) (by omega)
  have hm0' : ((m : Int) == 0) = false := by rw [beq_eq_false_iff_ne]; omega
  have HO := Lib.hid ho
  clear ho
  have h11 := pw_11
  go_enter Try.func43, Try.ntmps43
  go_wp2_with (first
    | (go_at_call 44; refine (power_any _ _ (by omega) (by omega)).mono ?_; rintro e w' ⟨rfl, ⟨nd, rfl⟩⟩)
    | (go_at_call 46; refine (length_any _ _ (by omega)).mono ?_; rintro e w' ⟨rfl, ⟨nd, rfl⟩⟩)
    | (go_at_call 51; refine (shifted_any _ _ _ (by omega) (by omega)).mono ?_; rintro e w' ⟨rfl, ⟨nd, rfl⟩⟩))
  all_goals
    go_ret
    refine ⟨ret_u64 ?_, Dr.step (Dr.refl _) _⟩
    have ho := HO.out
    clear HO hmx hq
    unfold R8
    simp only [pw_52, pw_53, pw_63, IntKind.wrap_u64, beq_iff_eq, beq_eq_false_iff_ne, ne_eq] at *
    omega

set_option maxHeartbeats 1000000 in
set_option maxRecDepth 100000 in
theorem round8_neg_b (m q : Nat) (e u : Int) (w : World) (hm : (m : Int) ≤ 18446744073709551615) (hm0 : 0 < m) (he0 : -5000 ≤ e) (he1 : e ≤ 5000)
    (hmx : (if ((len m : Nat) : Int) + e - 53 < -1074 then -1074 else ((len m : Nat) : Int) + e - 53) = u) (hue : u ≤ e) (heu : e - u ≤ 60) (hq : IntKind.u64.wrap ((m : Int) * pw (e - u).toNat) = q) (hqb : (q : Int) ≤ pw 53)
    (hu1 : u ≤ 5100) (hu2 : -1074 ≤ u) (ho : -1074 < u → pw 52 ≤ q) :
    Calls Try.prog 43 #[.bool true, .int .u64 m, .int .i64 e, .int .i64 8] w fun e w' => e = .returned (.int .u64 (R8 (pw 63) u q)) ∧ Dr w w' := by
  have hl := len_bound (u := m) (n := 64) (by omega)
  have hm0' : ((m : Int) == 0) = false := by rw [beq_eq_false_iff_ne]; omega
  have HO := Lib.hid ho
  clear ho
  have h11 := pw_11
  go_enter Try.func43, Try.ntmps43
  go_wp2_with (first
    | (go_at_call 44; refine (power_any _ _ (by omega) (by omega)).mono ?_; rintro e w' ⟨rfl, ⟨nd, rfl⟩⟩)
    | (go_at_call 46; refine (length_any _ _ (by omega)).mono ?_; rintro e w' ⟨rfl, ⟨nd, rfl⟩⟩)
    | (go_at_call 51; refine (shifted_any _ _ _ (by omega) (by omega)).mono ?_; rintro e w' ⟨rfl, ⟨nd, rfl⟩⟩))
  all_goals
    go_ret
    refine ⟨ret_u64 ?_, Dr.step (Dr.refl _) _⟩
    have ho := HO.out
    clear HO hmx hq
    unfold R8
    simp only [pw_52, pw_53, pw_63, IntKind.wrap_u64, beq_iff_eq, beq_eq_false_iff_ne, ne_eq] at *
    omega

/-- the bits: the sign, and the rung of so many units. -/
def R4 (b u q : Int) : Int := b + min ((u + 149) * 8388608 + q) 2139095040

set_option maxHeartbeats 1000000 in
set_option maxRecDepth 100000 in
theorem round4_pos_a (m q : Nat) (e u : Int) (w : World) (hm : (m : Int) ≤ 18446744073709551615) (hm0 : 0 < m) (he0 : -5000 ≤ e) (he1 : e ≤ 5000)
    (hmx : (if ((len m : Nat) : Int) + e - 24 < -149 then -149 else ((len m : Nat) : Int) + e - 24) = u) (hue : e < u) (hq : rne m (u - e).toNat = q) (hqb : (q : Int) ≤ pw 24)
    (hu1 : u ≤ 5100) (hu2 : -149 ≤ u) (ho : -149 < u → pw 23 ≤ q) :
    Calls Try.prog 43 #[.bool false, .int .u64 m, .int .i64 e, .int .i64 4] w fun e w' => e = .returned (.int .u64 (R4 (0) u q)) ∧ Dr w w' := by
  have hl := len_bound (u := m) (n := 64) (by omega)
  have hm0' : ((m : Int) == 0) = false := by rw [beq_eq_false_iff_ne]; omega
  have HO := Lib.hid ho
  clear ho
  have h11 := pw_8
  go_enter Try.func43, Try.ntmps43
  go_wp2_with (first
    | (go_at_call 44; refine (power_any _ _ (by omega) (by omega)).mono ?_; rintro e w' ⟨rfl, ⟨nd, rfl⟩⟩)
    | (go_at_call 46; refine (length_any _ _ (by omega)).mono ?_; rintro e w' ⟨rfl, ⟨nd, rfl⟩⟩)
    | (go_at_call 51; refine (shifted_any _ _ _ (by omega) (by omega)).mono ?_; rintro e w' ⟨rfl, ⟨nd, rfl⟩⟩))
  all_goals
    go_ret
    refine ⟨ret_u64 ?_, Dr.step (Dr.refl _) _⟩
    have ho := HO.out
    clear HO hmx hq
    unfold R4
    simp only [pw_23, pw_24, pw_31, IntKind.wrap_u64, beq_iff_eq, beq_eq_false_iff_ne, ne_eq] at *
    omega

set_option maxHeartbeats 1000000 in
set_option maxRecDepth 100000 in
theorem round4_pos_b (m q : Nat) (e u : Int) (w : World) (hm : (m : Int) ≤ 18446744073709551615) (hm0 : 0 < m) (he0 : -5000 ≤ e) (he1 : e ≤ 5000)
    (hmx : (if ((len m : Nat) : Int) + e - 24 < -149 then -149 else ((len m : Nat) : Int) + e - 24) = u) (hue : u ≤ e) (heu : e - u ≤ 60) (hq : IntKind.u64.wrap ((m : Int) * pw (e - u).toNat) = q) (hqb : (q : Int) ≤ pw 24)
    (hu1 : u ≤ 5100) (hu2 : -149 ≤ u) (ho : -149 < u → pw 23 ≤ q) :
    Calls Try.prog 43 #[.bool false, .int .u64 m, .int .i64 e, .int .i64 4] w fun e w' => e = .returned (.int .u64 (R4 (0) u q)) ∧ Dr w w' := by
  have hl := len_bound (u := m) (n := 64) (by omega)
  have hm0' : ((m : Int) == 0) = false := by rw [beq_eq_false_iff_ne]; omega
  have HO := Lib.hid ho
  clear ho
  have h11 := pw_8
  go_enter Try.func43, Try.ntmps43
  go_wp2_with (first
    | (go_at_call 44; refine (power_any _ _ (by omega) (by omega)).mono ?_; rintro e w' ⟨rfl, ⟨nd, rfl⟩⟩)
    | (go_at_call 46; refine (length_any _ _ (by omega)).mono ?_; rintro e w' ⟨rfl, ⟨nd, rfl⟩⟩)
    | (go_at_call 51; refine (shifted_any _ _ _ (by omega) (by omega)).mono ?_; rintro e w' ⟨rfl, ⟨nd, rfl⟩⟩))
  all_goals
    go_ret
    refine ⟨ret_u64 ?_, Dr.step (Dr.refl _) _⟩
    have ho := HO.out
    clear HO hmx hq
    unfold R4
    simp only [pw_23, pw_24, pw_31, IntKind.wrap_u64, beq_iff_eq, beq_eq_false_iff_ne, ne_eq] at *
    omega

set_option maxHeartbeats 1000000 in
set_option maxRecDepth 100000 in
theorem round4_neg_a (m q : Nat) (e u : Int) (w : World) (hm : (m : Int) ≤ 18446744073709551615) (hm0 : 0 < m) (he0 : -5000 ≤ e) (he1 : e ≤ 5000)
    (hmx : (if ((len m : Nat) : Int) + e - 24 < -149 then -149 else ((len m : Nat) : Int) + e - 24) = u) (hue : e < u) (hq : rne m (u - e).toNat = q) (hqb : (q : Int) ≤ pw 24)
    (hu1 : u ≤ 5100) (hu2 : -149 ≤ u) (ho : -149 < u → pw 23 ≤ q) :
    Calls Try.prog 43 #[.bool true, .int .u64 m, .int .i64 e, .int .i64 4] w fun e w' => e = .returned (.int .u64 (R4 (pw 31) u q)) ∧ Dr w w' := by
  have hl := len_bound (u := m) (n := 64) (by omega)
  have hm0' : ((m : Int) == 0) = false := by rw [beq_eq_false_iff_ne]; omega
  have HO := Lib.hid ho
  clear ho
  have h11 := pw_8
  go_enter Try.func43, Try.ntmps43
  go_wp2_with (first
    | (go_at_call 44; refine (power_any _ _ (by omega) (by omega)).mono ?_; rintro e w' ⟨rfl, ⟨nd, rfl⟩⟩)
    | (go_at_call 46; refine (length_any _ _ (by omega)).mono ?_; rintro e w' ⟨rfl, ⟨nd, rfl⟩⟩)
    | (go_at_call 51; refine (shifted_any _ _ _ (by omega) (by omega)).mono ?_; rintro e w' ⟨rfl, ⟨nd, rfl⟩⟩))
  all_goals
    go_ret
    refine ⟨ret_u64 ?_, Dr.step (Dr.refl _) _⟩
    have ho := HO.out
    clear HO hmx hq
    unfold R4
    simp only [pw_23, pw_24, pw_31, IntKind.wrap_u64, beq_iff_eq, beq_eq_false_iff_ne, ne_eq] at *
    omega

set_option maxHeartbeats 1000000 in
set_option maxRecDepth 100000 in
theorem round4_neg_b (m q : Nat) (e u : Int) (w : World) (hm : (m : Int) ≤ 18446744073709551615) (hm0 : 0 < m) (he0 : -5000 ≤ e) (he1 : e ≤ 5000)
    (hmx : (if ((len m : Nat) : Int) + e - 24 < -149 then -149 else ((len m : Nat) : Int) + e - 24) = u) (hue : u ≤ e) (heu : e - u ≤ 60) (hq : IntKind.u64.wrap ((m : Int) * pw (e - u).toNat) = q) (hqb : (q : Int) ≤ pw 24)
    (hu1 : u ≤ 5100) (hu2 : -149 ≤ u) (ho : -149 < u → pw 23 ≤ q) :
    Calls Try.prog 43 #[.bool true, .int .u64 m, .int .i64 e, .int .i64 4] w fun e w' => e = .returned (.int .u64 (R4 (pw 31) u q)) ∧ Dr w w' := by
  have hl := len_bound (u := m) (n := 64) (by omega)
  have hm0' : ((m : Int) == 0) = false := by rw [beq_eq_false_iff_ne]; omega
  have HO := Lib.hid ho
  clear ho
  have h11 := pw_8
  go_enter Try.func43, Try.ntmps43
  go_wp2_with (first
    | (go_at_call 44; refine (power_any _ _ (by omega) (by omega)).mono ?_; rintro e w' ⟨rfl, ⟨nd, rfl⟩⟩)
    | (go_at_call 46; refine (length_any _ _ (by omega)).mono ?_; rintro e w' ⟨rfl, ⟨nd, rfl⟩⟩)
    | (go_at_call 51; refine (shifted_any _ _ _ (by omega) (by omega)).mono ?_; rintro e w' ⟨rfl, ⟨nd, rfl⟩⟩))
  all_goals
    go_ret
    refine ⟨ret_u64 ?_, Dr.step (Dr.refl _) _⟩
    have ho := HO.out
    clear HO hmx hq
    unfold R4
    simp only [pw_23, pw_24, pw_31, IntKind.wrap_u64, beq_iff_eq, beq_eq_false_iff_ne, ne_eq] at *
    omega

end Go.Proofs.Ytmhgbpgilhboeaa.Ra
