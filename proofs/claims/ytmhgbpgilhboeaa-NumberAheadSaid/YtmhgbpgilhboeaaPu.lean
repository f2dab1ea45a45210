/- number.Trunc and the reference's Trunc tell the same; NumberTruncs: the walk of the law. -/
import Derived.Test.YtmhgbpgilhboeaaPt
namespace Go.Proofs.Ytmhgbpgilhboeaa.Pa
set_option linter.unusedVariables false
set_option linter.unusedSimpArgs false
open Go.RowKit Wd Ra Fl Go.Proofs.Ytmhgbpgilhboeaa.Math10

/-- the ends of a range. -/
def lstOf (m : Nat) (sign : Bool) : Int := if sign then -pw (8 * m - 1) else 0
def mostOf (m : Nat) (sign : Bool) : Int := if sign then pw (8 * m - 1) - 1 else pw (8 * m) - 1
theorem ends_any (m : Nat) (sign : Bool) (h0 : 1 ≤ m) (h1 : m ≤ 8) (W : World) :
    Calls Try.prog 39 #[.int .i64 m, .bool sign] W fun e w' => e = .returned (.tuple #[.int .i64 (lstOf m sign), .int .u64 (mostOf m sign)]) ∧ Dr W w' := by
  cases sign
  · exact ends_no m W h0 h1
  · exact ends_yes m W h0 h1
theorem lst_isInt (m : Nat) (sign : Bool) (h0 : 1 ≤ m) (h1 : m ≤ 8) : IsInt Ieee.double (floatOfInt .f64 (lstOf m sign)) sign (if sign then 2 ^ (8 * m - 1) else 0) := by
  cases sign
  · exact least0_isInt
  · exact least_isInt (8 * m - 1) (by omega)
theorem sgn_lst (m : Nat) (sign : Bool) : sgn sign (if sign then 2 ^ (8 * m - 1) else 0) = lstOf m sign := by
  cases sign
  · rfl
  · show -((2 ^ (8 * m - 1) : Nat) : Int) = -pw (8 * m - 1); rw [pw_eq]

theorem val_a (s : Bool) (M m : Nat) (sign : Bool) (h0 : 1 ≤ m) (h1 : m ≤ 8) (hneg : sgn s M < 0) (h : sgn s M ≤ lstOf m sign) (g : Bool) (z : Int) (hz : g = true ∨ z = M) :
    lstOf m sign % pw (8 * m) = withinV s z g m sign := by
  have hs : s = true := by cases s <;> simp [sgn] at hneg ⊢ <;> omega
  subst hs
  cases sign
  · simp [lstOf, withinV]
  · have hM : pw (8 * m - 1) ≤ M := by simp [sgn, lstOf] at h; omega
    simp only [lstOf, withinV, if_true]
    rw [wrap_mod _ h0 h1, wrap_mod _ h0 h1]
    rcases hz with rfl | rfl
    · simp
    · by_cases hc : pw (8 * m - 1) < M
      · rw [if_pos (Or.inr hc)]
      · cases g
        · rw [if_neg (by simp; omega), show (M : Int) = pw (8 * m - 1) from by omega]
        · simp
theorem val_b (s : Bool) (M m : Nat) (sign : Bool) (h0 : 1 ≤ m) (h1 : m ≤ 8) (hneg : sgn s M < 0) (h : ¬ sgn s M ≤ lstOf m sign) :
    sgn s M % pw (8 * m) = withinV s M false m sign := by
  have hs : s = true := by cases s <;> simp [sgn] at hneg ⊢ <;> omega
  subst hs
  cases sign
  · rw [show lstOf m false = 0 from rfl] at h; omega
  · have hM : ¬ pw (8 * m - 1) < M := by simp [sgn, lstOf] at h; omega
    simp only [withinV, if_true, sgn]
    rw [if_neg (by simp; omega), wrap_mod _ h0 h1]
theorem val_c (s : Bool) (M m : Nat) (sign : Bool) (z : Int) (h : 18446744073709551616 ≤ sgn s M) : mostOf m sign = withinV s z true m sign := by
  have hs : s = false := by cases s <;> simp [sgn] at h ⊢ <;> omega
  subst hs
  cases sign <;> simp [mostOf, withinV]
theorem val_d (s : Bool) (M m : Nat) (sign : Bool) (h0 : 1 ≤ m) (h1 : m ≤ 8) (h : ¬ sgn s M < 0) : (if mostOf m sign < sgn s M then mostOf m sign else sgn s M) = withinV s M false m sign := by
  have p1 := pw_pos (8 * m - 1)
  have p2 := pw_pos (8 * m)
  cases s
  · cases sign <;> simp [mostOf, withinV, sgn]
  · have hM : M = 0 := by simp [sgn] at h; omega
    subst hM
    have hw : IntKind.u64.wrap 0 = 0 := by decide
    cases sign
    · simp [mostOf, withinV, sgn]; omega
    · simp [mostOf, withinV, sgn, hw]; omega

theorem f2i (F : Nat) (s : Bool) (M : Nat) (k : IntKind) (hF : IsInt Ieee.double F s M) (h1 : k.min ≤ sgn s M) (h2 : sgn s M ≤ k.max) : floatToIntVal .f64 F k = some (sgn s M) := by
  unfold floatToIntVal
  rw [show (FloatKind.f64.decode F).toInt .zero = some (sgn s M) from hF.toInt]
  simp only
  rw [if_pos ⟨h1, h2⟩]
theorem isInt_nn {F : Nat} {s : Bool} {M : Nat} (hF : IsInt Ieee.double F s M) : (FloatKind.f64.format.order F F != some .eq) = false := by
  obtain ⟨a, u, hr, _⟩ := hF
  rw [isNaN_order FloatKind.f64.format F]
  rw [show FloatKind.f64.format.read F = _ from hr]; rfl

/-! infinities -/
theorem read_inf (s : Bool) : Ieee.double.read (Ieee.double.write (.infinity s)) = .infinity s := by cases s <;> decide +kernel
theorem order_inf_int (s : Bool) {v : Nat} {t : Bool} {K : Nat} (k : IsInt Ieee.double v t K) : FloatKind.f64.format.order (Ieee.double.write (.infinity s)) v = some (if s then .lt else .gt) := by
  obtain ⟨b, x, kr, _⟩ := k
  show Ieee.double.order _ _ = _
  unfold Ieee.Format.order
  rw [read_inf, kr]; rfl
theorem inf_nn (s : Bool) : (FloatKind.f64.format.order (Ieee.double.write (.infinity s)) (Ieee.double.write (.infinity s)) != some .eq) = false := by
  rw [isNaN_order FloatKind.f64.format _, show FloatKind.f64.format.read (Ieee.double.write (.infinity s)) = .infinity s from read_inf s]; rfl
theorem val_inf_t (m : Nat) (sign : Bool) (h0 : 1 ≤ m) (h1 : m ≤ 8) : lstOf m sign % pw (8 * m) = withinV true 0 true m sign := by
  cases sign
  · simp [lstOf, withinV]
  · simp only [lstOf, withinV, if_true, true_or]
    rw [wrap_mod _ h0 h1]
theorem val_inf_f (m : Nat) (sign : Bool) : mostOf m sign = withinV false 0 true m sign := by
  cases sign <;> simp [mostOf, withinV]


theorem trunc8_int (bits : Nat) (F M : Nat) (s : Bool) (m : Nat) (sign : Bool) (w : World) (h0 : 1 ≤ m) (h1 : m ≤ 8) (hb : (bits : Int) ≤ 18446744073709551615)
    (HT : ∀ W : World, Calls Try.prog 36 #[.float .f64 bits] W fun e w' => e = .returned (.float .f64 F) ∧ Dr W w') (hF : IsInt Ieee.double F s M) :
    Calls Try.prog 34 #[.int .u64 bits, .int .i64 8, .int .i64 m, .bool sign] w fun e w' => e = .returned (.tuple #[.int .u64 (if 2 ^ 64 ≤ M then withinV s 0 true m sign else withinV s M false m sign), .int .i64 0]) ∧ Dr w w' := by
  have hL := lst_isInt m sign h0 h1
  have o1 : (FloatKind.f64.format.order F 0 == some .lt) = decide (sgn s M < 0) := by
    rw [show FloatKind.f64.format.order F 0 = _ from hF.order zero_isInt, cmp_lt]; rfl
  have o2 : (FloatKind.f64.format.order F (floatOfInt .f64 (lstOf m sign)) == some .lt || FloatKind.f64.format.order F (floatOfInt .f64 (lstOf m sign)) == some .eq) = decide (sgn s M ≤ lstOf m sign) := by
    rw [show FloatKind.f64.format.order F (floatOfInt .f64 (lstOf m sign)) = _ from hF.order hL, cmp_le, sgn_lst]
  have o3 : (FloatKind.f64.format.order F 4895412794951729152 == some .gt || FloatKind.f64.format.order F 4895412794951729152 == some .eq) = decide (18446744073709551616 ≤ sgn s M) := by
    rw [show FloatKind.f64.format.order F 4895412794951729152 = _ from hF.order top_isInt, cmp_ge]; rfl
  have hE := Lib.hid (fun W => ends_any m sign h0 h1 W)
  have hT := Lib.hid HT
  have hn := isInt_nn hF
  have hp : pw (8 * m - 1) ≤ 9223372036854775808 := by rw [← pw_63]; exact pw_le (by omega)
  have h64 : (2 : Nat) ^ 64 = 18446744073709551616 := by decide
  by_cases c1 : sgn s M < 0
  · rw [decide_eq_true c1] at o1
    have hs : s = true := by cases s <;> simp [sgn] at c1 ⊢ <;> omega
    by_cases c2 : sgn s M ≤ lstOf m sign
    · rw [decide_eq_true c2] at o2
      have hv : lstOf m sign % pw (8 * m) = (if 2 ^ 64 ≤ M then withinV s 0 true m sign else withinV s M false m sign) := by
        split
        · exact val_a s M m sign h0 h1 c1 c2 true 0 (Or.inl rfl)
        · exact val_a s M m sign h0 h1 c1 c2 false M (Or.inr rfl)
      rw [← hv]
      exact trunc8_a bits F m sign _ _ w h0 h1 hb hE hT hn o1 o2
    · rw [decide_eq_false c2] at o2
      have hlo : -9223372036854775808 ≤ lstOf m sign := by unfold lstOf; split <;> omega
      have hv := val_b s M m sign h0 h1 c1 c2
      have hM : ¬ 2 ^ 64 ≤ M := by
        rw [h64]; subst hs; simp [sgn] at c2; omega
      rw [if_neg hM, ← hv]
      exact trunc8_b bits F m sign _ _ w h0 h1 hb hE hT hn o1 o2 _ (f2i F s M .i64 hF (by show (-9223372036854775808 : Int) ≤ _; omega) (by show _ ≤ (9223372036854775807 : Int); omega))
  · rw [decide_eq_false c1] at o1
    by_cases c3 : 18446744073709551616 ≤ sgn s M
    · rw [decide_eq_true c3] at o3
      have hM : 2 ^ 64 ≤ M := by
        rw [h64]; cases s <;> simp [sgn] at c3 <;> omega
      rw [if_pos hM, ← val_c s M m sign 0 c3]
      exact trunc8_c bits F m sign _ _ w h0 h1 hb hE hT hn o1 o3
    · rw [decide_eq_false c3] at o3
      have hM : ¬ 2 ^ 64 ≤ M := by
        rw [h64]; cases s <;> simp [sgn] at c3 c1 <;> omega
      rw [if_neg hM, ← val_d s M m sign h0 h1 c1]
      exact trunc8_d bits F m sign _ _ w h0 h1 hb hE hT hn o1 o3 _ (f2i F s M .u64 hF (by show (0 : Int) ≤ _; omega) (by show _ ≤ (18446744073709551615 : Int); omega))
theorem trunc8_infty (bits : Nat) (s : Bool) (m : Nat) (sign : Bool) (w : World) (h0 : 1 ≤ m) (h1 : m ≤ 8) (hb : (bits : Int) ≤ 18446744073709551615)
    (HT : ∀ W : World, Calls Try.prog 36 #[.float .f64 bits] W fun e w' => e = .returned (.float .f64 (Ieee.double.write (.infinity s))) ∧ Dr W w') :
    Calls Try.prog 34 #[.int .u64 bits, .int .i64 8, .int .i64 m, .bool sign] w fun e w' => e = .returned (.tuple #[.int .u64 (withinV s 0 true m sign), .int .i64 0]) ∧ Dr w w' := by
  have hL := lst_isInt m sign h0 h1
  have hE := Lib.hid (fun W => ends_any m sign h0 h1 W)
  have hT := Lib.hid HT
  have hn := inf_nn s
  have o1 := order_inf_int s zero_isInt
  have o2 := order_inf_int s hL
  have o3 := order_inf_int s top_isInt
  cases s
  · rw [← val_inf_f]
    exact trunc8_c bits _ m sign _ _ w h0 h1 hb hE hT hn (by rw [o1]; rfl) (by rw [o3]; rfl)
  · rw [← val_inf_t m sign h0 h1]
    exact trunc8_a bits _ m sign _ _ w h0 h1 hb hE hT hn (by rw [o1]; rfl) (by rw [o2]; rfl)

theorem trunc4_int (bits : Nat) (x : Nat) (F M : Nat) (s : Bool) (m : Nat) (sign : Bool) (w : World) (h0 : 1 ≤ m) (h1 : m ≤ 8) (hb : (bits : Int) ≤ 4294967295) (HC : ∀ W : World, (convert 51 49 (.float .f32 bits)).run Try.prog W = .ok (.float .f64 x) W)
    (HT : ∀ W : World, Calls Try.prog 36 #[.float .f64 x] W fun e w' => e = .returned (.float .f64 F) ∧ Dr W w') (hF : IsInt Ieee.double F s M) :
    Calls Try.prog 34 #[.int .u64 bits, .int .i64 4, .int .i64 m, .bool sign] w fun e w' => e = .returned (.tuple #[.int .u64 (if 2 ^ 64 ≤ M then withinV s 0 true m sign else withinV s M false m sign), .int .i64 0]) ∧ Dr w w' := by
  have hL := lst_isInt m sign h0 h1
  have o1 : (FloatKind.f64.format.order F 0 == some .lt) = decide (sgn s M < 0) := by
    rw [show FloatKind.f64.format.order F 0 = _ from hF.order zero_isInt, cmp_lt]; rfl
  have o2 : (FloatKind.f64.format.order F (floatOfInt .f64 (lstOf m sign)) == some .lt || FloatKind.f64.format.order F (floatOfInt .f64 (lstOf m sign)) == some .eq) = decide (sgn s M ≤ lstOf m sign) := by
    rw [show FloatKind.f64.format.order F (floatOfInt .f64 (lstOf m sign)) = _ from hF.order hL, cmp_le, sgn_lst]
  have o3 : (FloatKind.f64.format.order F 4895412794951729152 == some .gt || FloatKind.f64.format.order F 4895412794951729152 == some .eq) = decide (18446744073709551616 ≤ sgn s M) := by
    rw [show FloatKind.f64.format.order F 4895412794951729152 = _ from hF.order top_isInt, cmp_ge]; rfl
  have hE := Lib.hid (fun W => ends_any m sign h0 h1 W)
  have hT := Lib.hid HT
  have hn := isInt_nn hF
  have hp : pw (8 * m - 1) ≤ 9223372036854775808 := by rw [← pw_63]; exact pw_le (by omega)
  have h64 : (2 : Nat) ^ 64 = 18446744073709551616 := by decide
  by_cases c1 : sgn s M < 0
  · rw [decide_eq_true c1] at o1
    have hs : s = true := by cases s <;> simp [sgn] at c1 ⊢ <;> omega
    by_cases c2 : sgn s M ≤ lstOf m sign
    · rw [decide_eq_true c2] at o2
      have hv : lstOf m sign % pw (8 * m) = (if 2 ^ 64 ≤ M then withinV s 0 true m sign else withinV s M false m sign) := by
        split
        · exact val_a s M m sign h0 h1 c1 c2 true 0 (Or.inl rfl)
        · exact val_a s M m sign h0 h1 c1 c2 false M (Or.inr rfl)
      rw [← hv]
      exact trunc4_a bits x F m sign _ _ w h0 h1 hb HC hE hT hn o1 o2
    · rw [decide_eq_false c2] at o2
      have hlo : -9223372036854775808 ≤ lstOf m sign := by unfold lstOf; split <;> omega
      have hv := val_b s M m sign h0 h1 c1 c2
      have hM : ¬ 2 ^ 64 ≤ M := by
        rw [h64]; subst hs; simp [sgn] at c2; omega
      rw [if_neg hM, ← hv]
      exact trunc4_b bits x F m sign _ _ w h0 h1 hb HC hE hT hn o1 o2 _ (f2i F s M .i64 hF (by show (-9223372036854775808 : Int) ≤ _; omega) (by show _ ≤ (9223372036854775807 : Int); omega))
  · rw [decide_eq_false c1] at o1
    by_cases c3 : 18446744073709551616 ≤ sgn s M
    · rw [decide_eq_true c3] at o3
      have hM : 2 ^ 64 ≤ M := by
        rw [h64]; cases s <;> simp [sgn] at c3 <;> omega
      rw [if_pos hM, ← val_c s M m sign 0 c3]
      exact trunc4_c bits x F m sign _ _ w h0 h1 hb HC hE hT hn o1 o3
    · rw [decide_eq_false c3] at o3
      have hM : ¬ 2 ^ 64 ≤ M := by
        rw [h64]; cases s <;> simp [sgn] at c3 c1 <;> omega
      rw [if_neg hM, ← val_d s M m sign h0 h1 c1]
      exact trunc4_d bits x F m sign _ _ w h0 h1 hb HC hE hT hn o1 o3 _ (f2i F s M .u64 hF (by show (0 : Int) ≤ _; omega) (by show _ ≤ (18446744073709551615 : Int); omega))
theorem trunc4_infty (bits : Nat) (x : Nat) (s : Bool) (m : Nat) (sign : Bool) (w : World) (h0 : 1 ≤ m) (h1 : m ≤ 8) (hb : (bits : Int) ≤ 4294967295) (HC : ∀ W : World, (convert 51 49 (.float .f32 bits)).run Try.prog W = .ok (.float .f64 x) W)
    (HT : ∀ W : World, Calls Try.prog 36 #[.float .f64 x] W fun e w' => e = .returned (.float .f64 (Ieee.double.write (.infinity s))) ∧ Dr W w') :
    Calls Try.prog 34 #[.int .u64 bits, .int .i64 4, .int .i64 m, .bool sign] w fun e w' => e = .returned (.tuple #[.int .u64 (withinV s 0 true m sign), .int .i64 0]) ∧ Dr w w' := by
  have hL := lst_isInt m sign h0 h1
  have hE := Lib.hid (fun W => ends_any m sign h0 h1 W)
  have hT := Lib.hid HT
  have hn := inf_nn s
  have o1 := order_inf_int s zero_isInt
  have o2 := order_inf_int s hL
  have o3 := order_inf_int s top_isInt
  cases s
  · rw [← val_inf_f]
    exact trunc4_c bits x _ m sign _ _ w h0 h1 hb HC hE hT hn (by rw [o1]; rfl) (by rw [o3]; rfl)
  · rw [← val_inf_t m sign h0 h1]
    exact trunc4_a bits x _ m sign _ _ w h0 h1 hb HC hE hT hn (by rw [o1]; rfl) (by rw [o2]; rfl)

theorem trunc8_any (bits : Nat) (m : Nat) (sign : Bool) (w : World) (h0 : 1 ≤ m) (h1 : m ≤ 8) (hb : (bits : Int) ≤ 18446744073709551615) :
    Calls Try.prog 34 #[.int .u64 bits, .int .i64 8, .int .i64 m, .bool sign] w fun e w' => e = .returned (.tuple #[.int .u64 (truncV (Ieee.double.read bits) m sign), .int .i64 0]) ∧ Dr w w' := by
  unfold truncV
  cases hr : Ieee.double.read bits with
  | nan s t => exact trunc8_nan bits m sign _ _ w h0 h1 hb (by rw [hr]; rfl) (Lib.hid (fun W => ends_any m sign h0 h1 W))
  | infinity s =>
    refine trunc8_infty bits s m sign w h0 h1 hb (fun W => ?_)
    have := mtrunc bits W (by rw [hr]; rfl)
    rwa [hr] at this
  | number s a e =>
    obtain ⟨n1, n2, n3⟩ := read8_num hr
    refine trunc8_int bits _ (whole a e) s m sign w h0 h1 hb (fun W => mtrunc bits W (by rw [hr]; rfl)) ?_
    rw [hr]
    exact whole_isInt s a e (by omega) n3
theorem reftrunc8_any (bits : Nat) (m : Nat) (sign : Bool) (w : World) (h0 : 1 ≤ m) (h1 : m ≤ 8) (hb : (bits : Int) ≤ 18446744073709551615) :
    Calls Try.prog 35 #[.int .u64 bits, .int .i64 8, .int .i64 m, .bool sign] w fun e w' => e = .returned (.tuple #[.int .u64 (truncV (Ieee.double.read bits) m sign), .int .i64 0]) ∧ Dr w w' := by
  unfold truncV
  cases hr : Ieee.double.read bits with
  | nan s t => exact reftrunc8_nan bits m sign s t w h0 h1 hb (Lib.hid hr)
  | infinity s => exact reftrunc8_inf bits m sign s w h0 h1 hb (Lib.hid hr)
  | number s a e =>
    obtain ⟨n1, n2, n3⟩ := read8_num hr
    have hl : len a ≤ 53 := len_bound (by omega)
    have hg := great_iff a e (by omega)
    simp only
    rcases Nat.eq_zero_or_pos a with ha | ha
    · subst ha
      rw [if_neg (by rw [← hg]; omega)]
      by_cases he : 0 ≤ e
      · rw [show whole 0 e = 0 from by unfold whole; simp]
        exact reftrunc8_zero bits m sign s e w h0 h1 hb (Lib.hid hr) (by omega) (by omega) he
      · rw [show whole 0 e = 0 from by unfold whole; simp]
        by_cases he2 : e ≤ -64
        · exact reftrunc8_deep bits m sign s 0 e w h0 h1 hb (Lib.hid hr) (by omega) (by decide) (by omega) (by omega) (by rw [show len 0 = 0 from rfl]; omega) he2
        · exact reftrunc8_low bits m sign s 0 e w h0 h1 hb (Lib.hid hr) (by omega) (by decide) (by omega) (by omega) (by rw [show len 0 = 0 from rfl]; omega) (by omega) (by omega) 0 (by simp) (by omega)
    · by_cases h64 : 64 < (len a : Int) + e
      · rw [if_pos (hg.1 ⟨h64, ha⟩)]
        exact reftrunc8_great bits m sign s a e w h0 h1 hb (Lib.hid hr) (by omega) hl (by omega) (by omega) h64 ha
      · rw [if_neg (by rw [← hg]; omega)]
        by_cases he : 0 ≤ e
        · obtain ⟨k, rfl⟩ := Int.eq_ofNat_of_zero_le he
          rw [show whole a k = a * 2 ^ k from by unfold whole; rw [if_pos he, Int.toNat_natCast]]
          exact reftrunc8_high bits m sign s a k w h0 h1 hb (Lib.hid hr) (by omega) hl ha (by omega) (by omega)
        · by_cases he2 : e ≤ -64
          · rw [show whole a e = 0 from by
              unfold whole; rw [if_neg he, Nat.div_eq_of_lt]
              exact Nat.lt_of_lt_of_le (show a < 2 ^ 53 by omega) (Nat.pow_le_pow_right (by omega) (by omega))]
            exact reftrunc8_deep bits m sign s a e w h0 h1 hb (Lib.hid hr) (by omega) hl (by omega) (by omega) (by omega) he2
          · refine reftrunc8_low bits m sign s a e w h0 h1 hb (Lib.hid hr) (by omega) hl (by omega) (by omega) (by omega) (by omega) (by omega) _ ?_ ?_
            · unfold whole; rw [if_neg he, pw_eq]; exact (Int.natCast_ediv _ _).symm
            · unfold whole; rw [if_neg he]
              have : a / 2 ^ (-e).toNat ≤ a := Nat.div_le_self _ _
              omega

theorem trunc4_any (bits : Nat) (m : Nat) (sign : Bool) (w : World) (h0 : 1 ≤ m) (h1 : m ≤ 8) (hb : (bits : Int) ≤ 4294967295) :
    Calls Try.prog 34 #[.int .u64 bits, .int .i64 4, .int .i64 m, .bool sign] w fun e w' => e = .returned (.tuple #[.int .u64 (truncV (Ieee.single.read bits) m sign), .int .i64 0]) ∧ Dr w w' := by
  unfold truncV
  cases hr : Ieee.single.read bits with
  | nan s t => exact trunc4_nan bits m sign _ _ w h0 h1 hb s t hr (Lib.hid (fun W => ends_any m sign h0 h1 W))
  | infinity s =>
    have hx : Ieee.double.read (Ieee.double.write (.infinity s)) = .infinity s := read_inf s
    refine trunc4_infty bits (Ieee.double.write (.infinity s)) s m sign w h0 h1 hb (fun W => ?_) (fun W => ?_)
    · refine run_convert_float_float (P := Try.prog) W 51 49 .f32 .f64 bits _ (by rw [Try.underlying51]; rfl) Try.underlying49 ?_
      unfold floatToFloatBits
      rw [if_neg (by decide), show FloatKind.f32.decode bits = _ from hr]; rfl
    · have := mtrunc (Ieee.double.write (.infinity s)) W (by rw [hx]; rfl)
      rwa [hx] at this
  | number s a e =>
    obtain ⟨n1, n2, n3⟩ := read4_num hr
    have hfin := widen_finite hr
    have hc : ∀ W : World, (convert 51 49 (.float .f32 bits)).run Try.prog W = .ok (.float .f64 (Ieee.double.nearest s a e)) W := fun W => by
      refine run_convert_float_float (P := Try.prog) W 51 49 .f32 .f64 bits _ (by rw [Try.underlying51]; rfl) Try.underlying49 ?_
      unfold floatToFloatBits
      rw [if_neg (by decide), show FloatKind.f32.decode bits = _ from hr]
      simp only
      rw [if_neg]
      · rfl
      · simp only [FloatKind.decode, FloatKind.encode, FloatKind.format, Ieee.Format.write, hfin]
        simp
    obtain ⟨a', u, hrd, hw, ha', hu⟩ : ∃ a' u, Ieee.double.read (Ieee.double.nearest s a e) = .number s a' u ∧ whole a' u = whole a e ∧ a' < 2 ^ 53 ∧ u ≤ 971 := by
      rcases Nat.eq_zero_or_pos a with ha | ha
      · subst ha
        exact ⟨0, _, read_zero _ _ _, by unfold whole; simp, by decide, by decide⟩
      · have d1 : Ieee.double.fractionBits + 1 = 53 := rfl
        have d2 : Ieee.double.leastPlace = -1074 := by decide
        have d3 : Ieee.double.binade = 4503599627370496 := by decide
        have d4 : Ieee.double.infRung = 9218868437227405312 := by decide
        have hl : len a ≤ 24 := len_bound (by omega)
        have hl0 := len_pos ha
        have hrn := read_nearest Ieee.double s a e ha (by rw [d1]; omega) (by rw [d2]; omega) (by
          rw [d1, d2, d3, d4]
          have : (unitOf 53 (-1074) a e - -1074).toNat ≤ 2045 := by unfold unitOf; omega
          generalize (unitOf 53 (-1074) a e - -1074).toNat = x at *
          omega)
        rw [d1, d2] at hrn
        refine ⟨_, _, hrn, ?_, ?_, ?_⟩
        · rw [whole_scale]; congr 1
          have : unitOf 53 (-1074) a e ≤ e := by unfold unitOf; omega
          omega
        · have h2 : a * 2 ^ (e - unitOf 53 (-1074) a e).toNat < 2 ^ len a * 2 ^ (e - unitOf 53 (-1074) a e).toNat := Nat.mul_lt_mul_of_pos_right (len_lt a) (Nat.two_pow_pos _)
          rw [← Nat.pow_add] at h2
          refine Nat.lt_of_lt_of_le h2 (Nat.pow_le_pow_right (by omega) ?_)
          unfold unitOf; omega
        · unfold unitOf; omega
    simp only
    rw [← hw]
    refine trunc4_int bits (Ieee.double.nearest s a e) _ (whole a' u) s m sign w h0 h1 hb hc (fun W => mtrunc _ W (by rw [hrd]; rfl)) ?_
    rw [hrd]
    exact whole_isInt s a' u ha' hu
theorem reftrunc4_any (bits : Nat) (m : Nat) (sign : Bool) (w : World) (h0 : 1 ≤ m) (h1 : m ≤ 8) (hb : (bits : Int) ≤ 4294967295) :
    Calls Try.prog 35 #[.int .u64 bits, .int .i64 4, .int .i64 m, .bool sign] w fun e w' => e = .returned (.tuple #[.int .u64 (truncV (Ieee.single.read bits) m sign), .int .i64 0]) ∧ Dr w w' := by
  unfold truncV
  cases hr : Ieee.single.read bits with
  | nan s t => exact reftrunc4_nan bits m sign s t w h0 h1 hb (Lib.hid hr)
  | infinity s => exact reftrunc4_inf bits m sign s w h0 h1 hb (Lib.hid hr)
  | number s a e =>
    obtain ⟨n1, n2, n3⟩ := read4_num hr
    have hl : len a ≤ 53 := len_bound (by omega)
    have hg := great_iff a e (by omega)
    simp only
    rcases Nat.eq_zero_or_pos a with ha | ha
    · subst ha
      rw [if_neg (by rw [← hg]; omega)]
      by_cases he : 0 ≤ e
      · rw [show whole 0 e = 0 from by unfold whole; simp]
        exact reftrunc4_zero bits m sign s e w h0 h1 hb (Lib.hid hr) (by omega) (by omega) he
      · rw [show whole 0 e = 0 from by unfold whole; simp]
        by_cases he2 : e ≤ -64
        · exact reftrunc4_deep bits m sign s 0 e w h0 h1 hb (Lib.hid hr) (by omega) (by decide) (by omega) (by omega) (by rw [show len 0 = 0 from rfl]; omega) he2
        · exact reftrunc4_low bits m sign s 0 e w h0 h1 hb (Lib.hid hr) (by omega) (by decide) (by omega) (by omega) (by rw [show len 0 = 0 from rfl]; omega) (by omega) (by omega) 0 (by simp) (by omega)
    · by_cases h64 : 64 < (len a : Int) + e
      · rw [if_pos (hg.1 ⟨h64, ha⟩)]
        exact reftrunc4_great bits m sign s a e w h0 h1 hb (Lib.hid hr) (by omega) hl (by omega) (by omega) h64 ha
      · rw [if_neg (by rw [← hg]; omega)]
        by_cases he : 0 ≤ e
        · obtain ⟨k, rfl⟩ := Int.eq_ofNat_of_zero_le he
          rw [show whole a k = a * 2 ^ k from by unfold whole; rw [if_pos he, Int.toNat_natCast]]
          exact reftrunc4_high bits m sign s a k w h0 h1 hb (Lib.hid hr) (by omega) hl ha (by omega) (by omega)
        · by_cases he2 : e ≤ -64
          · rw [show whole a e = 0 from by
              unfold whole; rw [if_neg he, Nat.div_eq_of_lt]
              exact Nat.lt_of_lt_of_le (show a < 2 ^ 53 by omega) (Nat.pow_le_pow_right (by omega) (by omega))]
            exact reftrunc4_deep bits m sign s a e w h0 h1 hb (Lib.hid hr) (by omega) hl (by omega) (by omega) (by omega) he2
          · refine reftrunc4_low bits m sign s a e w h0 h1 hb (Lib.hid hr) (by omega) hl (by omega) (by omega) (by omega) (by omega) (by omega) _ ?_ ?_
            · unfold whole; rw [if_neg he, pw_eq]; exact (Int.natCast_ediv _ _).symm
            · unfold whole; rw [if_neg he]
              have : a / 2 ^ (-e).toNat ≤ a := Nat.div_le_self _ _
              omega

theorem reftrunc_no (bits fr width : Int) (sign : Bool) (w : World) (h : (fr ≠ 4 ∧ fr ≠ 8) ∨ width < 1 ∨ 8 < width) :
    Calls Try.prog 35 #[.int .u64 bits, .int .i64 fr, .int .i64 width, .bool sign] w fun e w' => e = .returned (.tuple #[.int .u64 0, .int .i64 2]) ∧ Dr w w' := by
  by_cases h1 : fr = 4 ∨ fr = 8
  · have hw : width < 1 ∨ 8 < width := by omega
    clear h
    rcases h1 with rfl | rfl <;> rcases hw with hw | hw
    all_goals
      have h' : ¬ (1 ≤ width ∧ width ≤ 8) := by omega
      go_enter Try.func35, Try.ntmps35
      go_wp2
      go_ret2
      exact ⟨rfl, Dr.refl _⟩
  · have n4 : (fr != 4) = true := by rw [bne_iff_ne]; omega
    have n8 : (fr != 8) = true := by rw [bne_iff_ne]; omega
    clear h h1
    go_enter Try.func35, Try.ntmps35
    go_wp2
    go_ret2
    exact ⟨rfl, Dr.refl _⟩
theorem reftrunc_big (bits : Nat) (m : Nat) (sign : Bool) (w : World) (h0 : 1 ≤ m) (h1 : m ≤ 8) (hb : 4294967296 ≤ (bits : Int)) (hb2 : (bits : Int) ≤ 18446744073709551615) :
    Calls Try.prog 35 #[.int .u64 bits, .int .i64 4, .int .i64 m, .bool sign] w fun e w' => e = .returned (.tuple #[.int .u64 0, .int .i64 3]) ∧ Dr w w' := by
  have hlt : pw 32 ≤ (bits : Int) := by rw [pw_32]; omega
  clear hb
  go_enter Try.func35, Try.ntmps35
  go_wp2_with (go_at_call 44; refine (power_any _ _ (by omega) (by omega)).mono ?_; rintro e' w' ⟨rfl, ⟨nd, rfl⟩⟩)
  go_ret2
  exact ⟨rfl, Dr.step (Dr.refl _) _⟩

def tvx (bits : Nat) (fr width : Int) (sign : Bool) : Int :=
  if (fr ≠ 4 ∧ fr ≠ 8) ∨ width < 1 ∨ 8 < width then 0 else if fr = 8 then truncV (Ieee.double.read bits) width.toNat sign else if (bits : Int) ≤ 4294967295 then truncV (Ieee.single.read bits) width.toNat sign else 0
def tve (bits : Nat) (fr width : Int) : Int :=
  if (fr ≠ 4 ∧ fr ≠ 8) ∨ width < 1 ∨ 8 < width then 2 else if fr = 8 then 0 else if (bits : Int) ≤ 4294967295 then 0 else 3
theorem trunc_cv (bits : Nat) (fr width : Int) (sign : Bool) (w : World) (hb : (bits : Int) ≤ 18446744073709551615) :
    Calls Try.prog 34 #[.int .u64 bits, .int .i64 fr, .int .i64 width, .bool sign] w fun e w' => e = .returned (.tuple #[.int .u64 (tvx bits fr width sign), .int .i64 (tve bits fr width)]) ∧ Dr w w' := by
  unfold tvx tve
  by_cases h : (fr ≠ 4 ∧ fr ≠ 8) ∨ width < 1 ∨ 8 < width
  · rw [if_pos h, if_pos h]; exact trunc_no bits fr width sign w h
  · rw [if_neg h, if_neg h]
    obtain ⟨m, rfl⟩ := Int.eq_ofNat_of_zero_le (show 0 ≤ width by omega)
    rw [Int.toNat_natCast]
    by_cases h8 : fr = 8
    · subst h8; exact trunc8_any bits m sign w (by omega) (by omega) hb
    · obtain rfl : fr = 4 := by omega
      rw [if_neg h8, if_neg h8]
      by_cases hs : (bits : Int) ≤ 4294967295
      · rw [if_pos hs, if_pos hs]; exact trunc4_any bits m sign w (by omega) (by omega) hs
      · rw [if_neg hs, if_neg hs]; exact trunc_big bits m sign w (by omega) (by omega) (by omega) hb
theorem reftrunc_cv (bits : Nat) (fr width : Int) (sign : Bool) (w : World) (hb : (bits : Int) ≤ 18446744073709551615) :
    Calls Try.prog 35 #[.int .u64 bits, .int .i64 fr, .int .i64 width, .bool sign] w fun e w' => e = .returned (.tuple #[.int .u64 (tvx bits fr width sign), .int .i64 (tve bits fr width)]) ∧ Dr w w' := by
  unfold tvx tve
  by_cases h : (fr ≠ 4 ∧ fr ≠ 8) ∨ width < 1 ∨ 8 < width
  · rw [if_pos h, if_pos h]; exact reftrunc_no bits fr width sign w h
  · rw [if_neg h, if_neg h]
    obtain ⟨m, rfl⟩ := Int.eq_ofNat_of_zero_le (show 0 ≤ width by omega)
    rw [Int.toNat_natCast]
    by_cases h8 : fr = 8
    · subst h8; exact reftrunc8_any bits m sign w (by omega) (by omega) hb
    · obtain rfl : fr = 4 := by omega
      rw [if_neg h8, if_neg h8]
      by_cases hs : (bits : Int) ≤ 4294967295
      · rw [if_pos hs, if_pos hs]; exact reftrunc4_any bits m sign w (by omega) (by omega) hs
      · rw [if_neg hs, if_neg hs]; exact reftrunc_big bits m sign w (by omega) (by omega) (by omega) hb

set_option maxHeartbeats 1000000 in
set_option maxRecDepth 100000 in
theorem truncs_walk (bits fr width : Int) (w : World) (hb0 : 0 ≤ bits) (hb1 : bits ≤ 18446744073709551615) :
    Calls Try.prog 10 #[.int .u64 bits, .int .i64 fr, .int .i64 width] w fun e w' => e = .returned (.bool true) ∧ Dr w w' := by
  obtain ⟨n, rfl⟩ := Int.eq_ofNat_of_zero_le hb0
  go_enter Try.func10, Try.ntmps10
  go_wp2
  go_loopw [7] (fun k wr => ∃ j : Nat, j ≤ 2 ∧ k = .int .i64 j ∧ Dr w wr) (fun k _ => 2 - (intOf k).toNat)
  case atStart => exact ⟨0, by omega, rfl, Dr.refl _⟩
  case round =>
    obtain ⟨j, hj, rfl, hd⟩ := hrel
    by_cases hlt : j < 2
    · have hk : ((j : Int) == 1) = decide (j = 1) := by rw [Bool.eq_iff_iff]; simp; omega
      generalize decide (j = 1) = s at hk
      go_wp2_with (first
        | (go_at_call 34; refine (trunc_cv _ _ _ _ _ (by omega)).mono ?_; rintro e w' ⟨rfl, ⟨nd, rfl⟩⟩)
        | (go_at_call 35; refine (reftrunc_cv _ _ _ _ _ (by omega)).mono ?_; rintro e w' ⟨rfl, ⟨nd, rfl⟩⟩))
      go_roundw
      case rel => exact ⟨j + 1, by omega, by go_num, by repeat (first | exact hd | apply Dr.step)⟩
      case measure => simp [intOf]; omega
    · go_wp2_with (go_at_call 18; refine (lives _).mono ?_; rintro e w' ⟨rfl, ⟨nd, rfl⟩⟩)
      go_ret
      exact ⟨rfl, by repeat (first | exact hd | apply Dr.step)⟩
end Go.Proofs.Ytmhgbpgilhboeaa.Pa
