/- The reference's Round tells the nearest float, as the model's floats have it. -/
import Derived.Test.YtmhgbpgilhboeaaRc
namespace Go.Proofs.Ytmhgbpgilhboeaa.Ra
set_option linter.unusedVariables false
set_option linter.unusedSimpArgs false
open Go.RowKit Wd Go.Proofs.Ytmhgbpgilhboeaa.Math10


theorem nearest8 (neg : Bool) (m : Nat) (e : Int) (hm : 0 < m) :
    ((Ieee.double.nearest neg m e : Nat) : Int) = R8 (if neg then pw 63 else 0) (unitOf 53 (-1074) m e) (keptOf 53 (-1074) m e) := by
  rw [nearest_eq _ _ _ _ hm]
  have h1 : Ieee.double.fractionBits + 1 = 53 := rfl
  have h2 : Ieee.double.leastPlace = -1074 := by decide
  have h3 : Ieee.double.binade = 4503599627370496 := by decide
  have h4 : Ieee.double.infRung = 9218868437227405312 := by decide
  have h5 : Ieee.double.signWeight = 9223372036854775808 := by decide
  rw [h1, h2, h3, h4]
  have hu : -1074 ≤ unitOf 53 (-1074) m e := by unfold unitOf; omega
  unfold Ieee.Format.word R8
  rw [h5, pw_63]
  generalize unitOf 53 (-1074) m e = u at *
  generalize keptOf 53 (-1074) m e = q
  cases neg <;> simp <;> omega

set_option maxHeartbeats 400000 in
set_option maxRecDepth 100000 in
theorem round8_zero_pos (e : Int) (w : World) :
    Calls Try.prog 43 #[.bool false, .int .u64 0, .int .i64 e, .int .i64 8] w fun e w' => e = .returned (.int .u64 0) ∧ Dr w w' := by
  go_enter Try.func43, Try.ntmps43
  go_wp2_with (go_at_call 44; refine (power_any _ _ (by omega) (by omega)).mono ?_; rintro e w' ⟨rfl, ⟨nd, rfl⟩⟩)
  go_ret
  exact ⟨rfl, Dr.step (Dr.refl _) _⟩
set_option maxHeartbeats 400000 in
set_option maxRecDepth 100000 in
theorem round8_zero_neg (e : Int) (w : World) :
    Calls Try.prog 43 #[.bool true, .int .u64 0, .int .i64 e, .int .i64 8] w fun e w' => e = .returned (.int .u64 (pw 63)) ∧ Dr w w' := by
  go_enter Try.func43, Try.ntmps43
  go_wp2_with (go_at_call 44; refine (power_any _ _ (by omega) (by omega)).mono ?_; rintro e w' ⟨rfl, ⟨nd, rfl⟩⟩)
  go_ret
  exact ⟨rfl, Dr.step (Dr.refl _) _⟩
theorem nearest8_zero (neg : Bool) (e : Int) : ((Ieee.double.nearest neg 0 e : Nat) : Int) = if neg then pw 63 else 0 := by
  have h5 : Ieee.double.signWeight = 9223372036854775808 := by decide
  unfold Ieee.Format.nearest Ieee.Format.word
  rw [if_pos rfl, h5, pw_63]
  cases neg <;> rfl

theorem round8_any (neg : Bool) (m : Nat) (e : Int) (w : World) (hm : (m : Int) ≤ 18446744073709551615) (he0 : -5000 ≤ e) (he1 : e ≤ 5000) :
    Calls Try.prog 43 #[.bool neg, .int .u64 m, .int .i64 e, .int .i64 8] w fun e' w' => e' = .returned (.int .u64 (Ieee.double.nearest neg m e : Nat)) ∧ Dr w w' := by
  rcases Nat.eq_zero_or_pos m with h0 | h0
  · subst h0
    rw [nearest8_zero]
    cases neg
    · exact round8_zero_pos e w
    · exact round8_zero_neg e w
  rw [nearest8 _ _ _ h0]
  have hl := len_bound (u := m) (n := 64) (by omega)
  have hl0 := len_pos h0
  have hle := kept_le 53 (-1074) m e
  have hge := kept_ge 53 (-1074) m e h0 (by omega)
  have hu1 : unitOf 53 (-1074) m e ≤ 5100 := by unfold unitOf; omega
  have hu2 : -1074 ≤ unitOf 53 (-1074) m e := by unfold unitOf; omega
  have hu3 : (len m : Int) + e - 53 ≤ unitOf 53 (-1074) m e := by unfold unitOf; omega
  have hmx : (if ((len m : Nat) : Int) + e - 53 < -1074 then -1074 else ((len m : Nat) : Int) + e - 53) = unitOf 53 (-1074) m e := by
    unfold unitOf; split <;> omega
  have hqb : ((keptOf 53 (-1074) m e : Nat) : Int) ≤ pw 53 := by rw [pw_eq]; exact Int.ofNat_le.2 hle
  have ho : -1074 < unitOf 53 (-1074) m e → pw 52 ≤ ((keptOf 53 (-1074) m e : Nat) : Int) := fun h => by
    rw [pw_eq]; exact Int.ofNat_le.2 (hge h)
  by_cases hue : e < unitOf 53 (-1074) m e
  · have hq : rne m (unitOf 53 (-1074) m e - e).toNat = keptOf 53 (-1074) m e := by
      unfold keptOf; simp only; rw [if_pos hue]
    cases neg
    · exact round8_pos_a m _ e _ w hm h0 he0 he1 hmx hue hq hqb hu1 hu2 ho
    · exact round8_neg_a m _ e _ w hm h0 he0 he1 hmx hue hq hqb hu1 hu2 ho
  · have hk : keptOf 53 (-1074) m e = m * 2 ^ (e - unitOf 53 (-1074) m e).toNat := by
      unfold keptOf; simp only; rw [if_neg hue]
    have hq : IntKind.u64.wrap ((m : Int) * pw (e - unitOf 53 (-1074) m e).toNat) = ((keptOf 53 (-1074) m e : Nat) : Int) := by
      rw [pw_eq, ← Int.natCast_mul, ← hk]
      refine u64_in (by omega) ?_
      rw [pw_53] at hqb; omega
    have heu : e - unitOf 53 (-1074) m e ≤ 60 := by omega
    cases neg
    · exact round8_pos_b m _ e _ w hm h0 he0 he1 hmx (by omega) heu hq hqb hu1 hu2 ho
    · exact round8_neg_b m _ e _ w hm h0 he0 he1 hmx (by omega) heu hq hqb hu1 hu2 ho


theorem nearest4 (neg : Bool) (m : Nat) (e : Int) (hm : 0 < m) :
    ((Ieee.single.nearest neg m e : Nat) : Int) = R4 (if neg then pw 31 else 0) (unitOf 24 (-149) m e) (keptOf 24 (-149) m e) := by
  rw [nearest_eq _ _ _ _ hm]
  have h1 : Ieee.single.fractionBits + 1 = 24 := rfl
  have h2 : Ieee.single.leastPlace = -149 := by decide
  have h3 : Ieee.single.binade = 8388608 := by decide
  have h4 : Ieee.single.infRung = 2139095040 := by decide
  have h5 : Ieee.single.signWeight = 2147483648 := by decide
  rw [h1, h2, h3, h4]
  have hu : -149 ≤ unitOf 24 (-149) m e := by unfold unitOf; omega
  unfold Ieee.Format.word R4
  rw [h5, pw_31]
  generalize unitOf 24 (-149) m e = u at *
  generalize keptOf 24 (-149) m e = q
  cases neg <;> simp <;> omega

set_option maxHeartbeats 400000 in
set_option maxRecDepth 100000 in
theorem round4_zero_pos (e : Int) (w : World) :
    Calls Try.prog 43 #[.bool false, .int .u64 0, .int .i64 e, .int .i64 4] w fun e w' => e = .returned (.int .u64 0) ∧ Dr w w' := by
  go_enter Try.func43, Try.ntmps43
  go_wp2_with (go_at_call 44; refine (power_any _ _ (by omega) (by omega)).mono ?_; rintro e w' ⟨rfl, ⟨nd, rfl⟩⟩)
  go_ret
  exact ⟨rfl, Dr.step (Dr.refl _) _⟩
set_option maxHeartbeats 400000 in
set_option maxRecDepth 100000 in
theorem round4_zero_neg (e : Int) (w : World) :
    Calls Try.prog 43 #[.bool true, .int .u64 0, .int .i64 e, .int .i64 4] w fun e w' => e = .returned (.int .u64 (pw 31)) ∧ Dr w w' := by
  go_enter Try.func43, Try.ntmps43
  go_wp2_with (go_at_call 44; refine (power_any _ _ (by omega) (by omega)).mono ?_; rintro e w' ⟨rfl, ⟨nd, rfl⟩⟩)
  go_ret
  exact ⟨rfl, Dr.step (Dr.refl _) _⟩
theorem nearest4_zero (neg : Bool) (e : Int) : ((Ieee.single.nearest neg 0 e : Nat) : Int) = if neg then pw 31 else 0 := by
  have h5 : Ieee.single.signWeight = 2147483648 := by decide
  unfold Ieee.Format.nearest Ieee.Format.word
  rw [if_pos rfl, h5, pw_31]
  cases neg <;> rfl

theorem round4_any (neg : Bool) (m : Nat) (e : Int) (w : World) (hm : (m : Int) ≤ 18446744073709551615) (he0 : -5000 ≤ e) (he1 : e ≤ 5000) :
    Calls Try.prog 43 #[.bool neg, .int .u64 m, .int .i64 e, .int .i64 4] w fun e' w' => e' = .returned (.int .u64 (Ieee.single.nearest neg m e : Nat)) ∧ Dr w w' := by
  rcases Nat.eq_zero_or_pos m with h0 | h0
  · subst h0
    rw [nearest4_zero]
    cases neg
    · exact round4_zero_pos e w
    · exact round4_zero_neg e w
  rw [nearest4 _ _ _ h0]
  have hl := len_bound (u := m) (n := 64) (by omega)
  have hl0 := len_pos h0
  have hle := kept_le 24 (-149) m e
  have hge := kept_ge 24 (-149) m e h0 (by omega)
  have hu1 : unitOf 24 (-149) m e ≤ 5100 := by unfold unitOf; omega
  have hu2 : -149 ≤ unitOf 24 (-149) m e := by unfold unitOf; omega
  have hu3 : (len m : Int) + e - 24 ≤ unitOf 24 (-149) m e := by unfold unitOf; omega
  have hmx : (if ((len m : Nat) : Int) + e - 24 < -149 then -149 else ((len m : Nat) : Int) + e - 24) = unitOf 24 (-149) m e := by
    unfold unitOf; split <;> omega
  have hqb : ((keptOf 24 (-149) m e : Nat) : Int) ≤ pw 24 := by rw [pw_eq]; exact Int.ofNat_le.2 hle
  have ho : -149 < unitOf 24 (-149) m e → pw 23 ≤ ((keptOf 24 (-149) m e : Nat) : Int) := fun h => by
    rw [pw_eq]; exact Int.ofNat_le.2 (hge h)
  by_cases hue : e < unitOf 24 (-149) m e
  · have hq : rne m (unitOf 24 (-149) m e - e).toNat = keptOf 24 (-149) m e := by
      unfold keptOf; simp only; rw [if_pos hue]
    cases neg
    · exact round4_pos_a m _ e _ w hm h0 he0 he1 hmx hue hq hqb hu1 hu2 ho
    · exact round4_neg_a m _ e _ w hm h0 he0 he1 hmx hue hq hqb hu1 hu2 ho
  · have hk : keptOf 24 (-149) m e = m * 2 ^ (e - unitOf 24 (-149) m e).toNat := by
      unfold keptOf; simp only; rw [if_neg hue]
    have hq : IntKind.u64.wrap ((m : Int) * pw (e - unitOf 24 (-149) m e).toNat) = ((keptOf 24 (-149) m e : Nat) : Int) := by
      rw [pw_eq, ← Int.natCast_mul, ← hk]
      refine u64_in (by omega) ?_
      rw [pw_24] at hqb; omega
    have heu : e - unitOf 24 (-149) m e ≤ 60 := by omega
    cases neg
    · exact round4_pos_b m _ e _ w hm h0 he0 he1 hmx (by omega) heu hq hqb hu1 hu2 ho
    · exact round4_neg_b m _ e _ w hm h0 he0 he1 hmx (by omega) heu hq hqb hu1 hu2 ho


end Go.Proofs.Ytmhgbpgilhboeaa.Ra
