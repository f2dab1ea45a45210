/- NumberAhead: the walk of the law. -/
import Derived.Test.YtmhgbpgilhboeaaPu
import Derived.Laws.BitsAllLaws
namespace Go.Proofs.Ytmhgbpgilhboeaa.Pa
set_option linter.unusedVariables false
set_option linter.unusedSimpArgs false
open Go.RowKit Wd Ra Fl Go.Proofs.Ytmhgbpgilhboeaa.Math10

/-- a float nearer to nought than a whole number: so is its whole part. -/
theorem below_of {f : Ieee.Format} {w v : Nat} {s t : Bool} {a K : Nat} {e : Int} (hw : f.read w = .number s a e) (hv : IsInt f v t K)
    (h : (s = false ∧ t = false ∧ f.order w v = some .lt) ∨ (s = true ∧ t = true ∧ f.order w v = some .gt)) : whole a e < K := by
  obtain ⟨b, x, kr, k1, k2⟩ := hv
  have key : a * 2 ^ (e - min e x).toNat < b * 2 ^ (x - min e x).toNat := by
    unfold Ieee.Format.order at h
    rw [hw, kr] at h
    simp only [Ieee.Datum.order, signed_eq, Option.some.injEq] at h
    rcases h with ⟨rfl, rfl, h⟩ | ⟨rfl, rfl, h⟩
    · have := Int.compare_eq_lt.1 h
      simp only [sgn, Bool.false_eq_true, if_false] at this
      omega
    · have := Int.compare_eq_gt.1 h
      simp only [sgn, if_true] at this
      omega
  obtain ⟨N, hN1, hN2⟩ : ∃ N : Nat, 0 ≤ e + N ∧ 0 ≤ x + N := ⟨((-e).toNat + (-x).toNat), by omega, by omega⟩
  have h1 : a * 2 ^ (e + N).toNat < b * 2 ^ (x + N).toNat := by
    have := Nat.mul_lt_mul_of_pos_right key (Nat.two_pow_pos (min e x + N).toNat)
    rw [Nat.mul_assoc, Nat.mul_assoc, ← Nat.pow_add, ← Nat.pow_add] at this
    rwa [show (e - min e x).toNat + (min e x + N).toNat = (e + N).toNat from by omega, show (x - min e x).toNat + (min e x + N).toNat = (x + N).toNat from by omega] at this
  have h2 : b * 2 ^ (x + N).toNat = K * 2 ^ N := by
    by_cases hx : 0 ≤ x
    · rw [k1 hx, Nat.mul_assoc, ← Nat.pow_add]; congr 2; omega
    · rw [k2 (by omega), Nat.mul_assoc, ← Nat.pow_add]; congr 2; omega
  have h3 : whole a e * 2 ^ N ≤ a * 2 ^ (e + N).toNat := by
    unfold whole
    split
    · rw [Nat.mul_assoc, ← Nat.pow_add, show e.toNat + N = (e + N).toNat from by omega]
      exact Nat.le_refl _
    · rw [show N = (-e).toNat + (e + N).toNat from by omega, Nat.pow_add, ← Nat.mul_assoc, show (-e).toNat + (e + N).toNat = N from by omega]
      exact Nat.mul_le_mul_right _ (Nat.div_mul_le_self _ _)
  have h4 : whole a e * 2 ^ N < K * 2 ^ N := by omega
  exact Nat.lt_of_mul_lt_mul_right h4

theorem neg63_isInt : IsInt Ieee.double 14114281232179134464 true (2 ^ 63) := ⟨4503599627370496, 11, by decide +kernel, by decide, by simp⟩
theorem pos63_isInt : IsInt Ieee.double 4890909195324358656 false (2 ^ 63) := ⟨4503599627370496, 11, by decide +kernel, by decide, by simp⟩
theorem neg1_isInt : IsInt Ieee.double 13830554455654793216 true 1 := ⟨4503599627370496, -52, by decide +kernel, by simp, by decide⟩

/-! math.Abs -/
theorem bits_top (n : Nat) (h : (n : Int) ≤ 18446744073709551615) : bits .andNot .u64 (n : Int) 9223372036854775808 = ((n % 9223372036854775808 : Nat) : Int) := by
  have e := u64_andNot_nat n 9223372036854775808 (by omega) (by omega)
  rw [show ((9223372036854775808 : Nat) : Int) = 9223372036854775808 from rfl] at e
  rw [e]
  have e2 : (18446744073709551615 - 9223372036854775808 : Nat) = 2 ^ 63 - 1 := by decide
  rw [e2, Nat.and_two_pow_sub_one_eq_mod]
theorem mabs (n : Nat) (w : World) (h : (n : Int) ≤ 18446744073709551615) :
    Calls Try.prog 37 #[.float .f64 n] w fun e w' => e = .returned (.float .f64 (n % 9223372036854775808)) ∧ Dr w w' := by
  have h33 := ext33 n
  have h30 := ext30 ((n % 9223372036854775808 : Nat) : Int)
  rw [Int.toNat_natCast] at h30
  have ha := bits_top n h
  generalize n % 9223372036854775808 = r at *
  clear h
  go_enter Try.func37, Try.ntmps37
  go_wp2
  go_ret
  exact ⟨rfl, Dr.refl _⟩
theorem read_abs {n : Nat} {s : Bool} {a : Nat} {e : Int} (h : Ieee.double.read n = .number s a e) : Ieee.double.read (n % 9223372036854775808) = .number false a e := by
  have d5 : Ieee.double.signWeight = 9223372036854775808 := by decide
  unfold Ieee.Format.read at h ⊢
  simp only [d5] at h ⊢
  have e1 : n % 9223372036854775808 / 9223372036854775808 % 2 = 0 := by omega
  have e2 : n % 9223372036854775808 % 9223372036854775808 = n % 9223372036854775808 := Nat.mod_mod _ _
  rw [e1, e2]
  split at h
  · rename_i c
    rw [if_pos c]
    simp only [Ieee.Datum.number.injEq] at h ⊢
    exact ⟨rfl, h.2.1, h.2.2⟩
  · rename_i c
    rw [if_neg c]
    split at h
    · rename_i c2
      rw [if_pos c2]
      simp only [Ieee.Datum.number.injEq] at h ⊢
      exact ⟨rfl, h.2.1, h.2.2⟩
    · split at h <;> cases h


set_option maxHeartbeats 1000000 in
set_option maxRecDepth 100000 in
theorem ahead_f_f (n : Nat) (X Y : Int) (w : World) (hb : (n : Int) ≤ 18446744073709551615)
    (H1 : Hid (∀ W : World, Calls Try.prog 34 #[.int .u64 n, .int .i64 8, .int .i64 8, .bool true] W fun e w' => e = .returned (.tuple #[.int .u64 X, .int .i64 0]) ∧ Dr W w'))
    (H2 : Hid (∀ W : World, Calls Try.prog 34 #[.int .u64 n, .int .i64 8, .int .i64 8, .bool false] W fun e w' => e = .returned (.tuple #[.int .u64 Y, .int .i64 0]) ∧ Dr W w'))
    (bn : (FloatKind.f64.format.order n n != some .eq) = false) (b1 : (FloatKind.f64.format.order n 14114281232179134464 == some .gt) = false) (b3 : (FloatKind.f64.format.order n 13830554455654793216 == some .gt) = false) :
    Calls Try.prog 11 #[.int .u64 n] w fun e w' => e = .returned (.bool true) ∧ Dr w w' := by
  have hx30 := ext30 n
  rw [Int.toNat_natCast] at hx30
  have HB := Lib.hid hb
  clear hb
  go_enter Try.func11, Try.ntmps11
  go_wp2_with (first
    | (go_at_call 34; (first | (with_reducible refine (H1.out _).mono ?_) | (with_reducible refine (H2.out _).mono ?_)); rintro e w' ⟨rfl, ⟨nd, rfl⟩⟩)
    | (go_at_call 37; refine (mabs _ _ HB.out).mono ?_; rintro e w' ⟨rfl, ⟨nd, rfl⟩⟩)
    | (go_at_call 36; (with_reducible refine (HT.out _).mono ?_); rintro e w' ⟨rfl, ⟨nd, rfl⟩⟩)
    | (go_at_call 18; refine (lives _).mono ?_; rintro e w' ⟨rfl, ⟨nd, rfl⟩⟩))
  go_ret
  exact ⟨rfl, by repeat (first | exact Dr.refl _ | apply Dr.step)⟩

set_option maxHeartbeats 1000000 in
set_option maxRecDepth 100000 in
theorem ahead_f_tf (n : Nat) (X Y : Int) (w : World) (hb : (n : Int) ≤ 18446744073709551615)
    (H1 : Hid (∀ W : World, Calls Try.prog 34 #[.int .u64 n, .int .i64 8, .int .i64 8, .bool true] W fun e w' => e = .returned (.tuple #[.int .u64 X, .int .i64 0]) ∧ Dr W w'))
    (H2 : Hid (∀ W : World, Calls Try.prog 34 #[.int .u64 n, .int .i64 8, .int .i64 8, .bool false] W fun e w' => e = .returned (.tuple #[.int .u64 Y, .int .i64 0]) ∧ Dr W w'))
    (bn : (FloatKind.f64.format.order n n != some .eq) = false) (b1 : (FloatKind.f64.format.order n 14114281232179134464 == some .gt) = false) (b3 : (FloatKind.f64.format.order n 13830554455654793216 == some .gt) = true) (b4 : (FloatKind.f64.format.order n 4895412794951729152 == some .lt) = false) :
    Calls Try.prog 11 #[.int .u64 n] w fun e w' => e = .returned (.bool true) ∧ Dr w w' := by
  have hx30 := ext30 n
  rw [Int.toNat_natCast] at hx30
  have HB := Lib.hid hb
  clear hb
  go_enter Try.func11, Try.ntmps11
  go_wp2_with (first
    | (go_at_call 34; (first | (with_reducible refine (H1.out _).mono ?_) | (with_reducible refine (H2.out _).mono ?_)); rintro e w' ⟨rfl, ⟨nd, rfl⟩⟩)
    | (go_at_call 37; refine (mabs _ _ HB.out).mono ?_; rintro e w' ⟨rfl, ⟨nd, rfl⟩⟩)
    | (go_at_call 36; (with_reducible refine (HT.out _).mono ?_); rintro e w' ⟨rfl, ⟨nd, rfl⟩⟩)
    | (go_at_call 18; refine (lives _).mono ?_; rintro e w' ⟨rfl, ⟨nd, rfl⟩⟩))
  go_ret
  exact ⟨rfl, by repeat (first | exact Dr.refl _ | apply Dr.step)⟩

set_option maxHeartbeats 1000000 in
set_option maxRecDepth 100000 in
theorem ahead_f_tt (n : Nat) (X Y : Int) (w : World) (hb : (n : Int) ≤ 18446744073709551615)
    (H1 : Hid (∀ W : World, Calls Try.prog 34 #[.int .u64 n, .int .i64 8, .int .i64 8, .bool true] W fun e w' => e = .returned (.tuple #[.int .u64 X, .int .i64 0]) ∧ Dr W w'))
    (H2 : Hid (∀ W : World, Calls Try.prog 34 #[.int .u64 n, .int .i64 8, .int .i64 8, .bool false] W fun e w' => e = .returned (.tuple #[.int .u64 Y, .int .i64 0]) ∧ Dr W w'))
    (bn : (FloatKind.f64.format.order n n != some .eq) = false) (b1 : (FloatKind.f64.format.order n 14114281232179134464 == some .gt) = false) (b3 : (FloatKind.f64.format.order n 13830554455654793216 == some .gt) = true) (b4 : (FloatKind.f64.format.order n 4895412794951729152 == some .lt) = true) (F2 : Nat) (HT : Hid (∀ W : World, Calls Try.prog 36 #[.float .f64 (n % 9223372036854775808)] W fun e w' => e = .returned (.float .f64 F2) ∧ Dr W w')) (hY : floatToIntVal .f64 F2 .u64 = some Y) :
    Calls Try.prog 11 #[.int .u64 n] w fun e w' => e = .returned (.bool true) ∧ Dr w w' := by
  have hx30 := ext30 n
  rw [Int.toNat_natCast] at hx30
  have HB := Lib.hid hb
  clear hb
  have hcw := fun W => run_convert_float_int (P := Try.prog) W 49 22 .f64 .u64 F2 Y (by rw [Try.underlying49]; rfl) Try.underlying22 hY
  clear hY
  go_enter Try.func11, Try.ntmps11
  go_wp2_with (first
    | (go_at_call 34; (first | (with_reducible refine (H1.out _).mono ?_) | (with_reducible refine (H2.out _).mono ?_)); rintro e w' ⟨rfl, ⟨nd, rfl⟩⟩)
    | (go_at_call 37; refine (mabs _ _ HB.out).mono ?_; rintro e w' ⟨rfl, ⟨nd, rfl⟩⟩)
    | (go_at_call 36; (with_reducible refine (HT.out _).mono ?_); rintro e w' ⟨rfl, ⟨nd, rfl⟩⟩)
    | (go_at_call 18; refine (lives _).mono ?_; rintro e w' ⟨rfl, ⟨nd, rfl⟩⟩))
  go_ret
  exact ⟨rfl, by repeat (first | exact Dr.refl _ | apply Dr.step)⟩

set_option maxHeartbeats 1000000 in
set_option maxRecDepth 100000 in
theorem ahead_tf_f (n : Nat) (X Y : Int) (w : World) (hb : (n : Int) ≤ 18446744073709551615)
    (H1 : Hid (∀ W : World, Calls Try.prog 34 #[.int .u64 n, .int .i64 8, .int .i64 8, .bool true] W fun e w' => e = .returned (.tuple #[.int .u64 X, .int .i64 0]) ∧ Dr W w'))
    (H2 : Hid (∀ W : World, Calls Try.prog 34 #[.int .u64 n, .int .i64 8, .int .i64 8, .bool false] W fun e w' => e = .returned (.tuple #[.int .u64 Y, .int .i64 0]) ∧ Dr W w'))
    (bn : (FloatKind.f64.format.order n n != some .eq) = false) (b1 : (FloatKind.f64.format.order n 14114281232179134464 == some .gt) = true) (b2 : (FloatKind.f64.format.order n 4890909195324358656 == some .lt) = false) (b3 : (FloatKind.f64.format.order n 13830554455654793216 == some .gt) = false) :
    Calls Try.prog 11 #[.int .u64 n] w fun e w' => e = .returned (.bool true) ∧ Dr w w' := by
  have hx30 := ext30 n
  rw [Int.toNat_natCast] at hx30
  have HB := Lib.hid hb
  clear hb
  go_enter Try.func11, Try.ntmps11
  go_wp2_with (first
    | (go_at_call 34; (first | (with_reducible refine (H1.out _).mono ?_) | (with_reducible refine (H2.out _).mono ?_)); rintro e w' ⟨rfl, ⟨nd, rfl⟩⟩)
    | (go_at_call 37; refine (mabs _ _ HB.out).mono ?_; rintro e w' ⟨rfl, ⟨nd, rfl⟩⟩)
    | (go_at_call 36; (with_reducible refine (HT.out _).mono ?_); rintro e w' ⟨rfl, ⟨nd, rfl⟩⟩)
    | (go_at_call 18; refine (lives _).mono ?_; rintro e w' ⟨rfl, ⟨nd, rfl⟩⟩))
  go_ret
  exact ⟨rfl, by repeat (first | exact Dr.refl _ | apply Dr.step)⟩

set_option maxHeartbeats 1000000 in
set_option maxRecDepth 100000 in
theorem ahead_tf_tf (n : Nat) (X Y : Int) (w : World) (hb : (n : Int) ≤ 18446744073709551615)
    (H1 : Hid (∀ W : World, Calls Try.prog 34 #[.int .u64 n, .int .i64 8, .int .i64 8, .bool true] W fun e w' => e = .returned (.tuple #[.int .u64 X, .int .i64 0]) ∧ Dr W w'))
    (H2 : Hid (∀ W : World, Calls Try.prog 34 #[.int .u64 n, .int .i64 8, .int .i64 8, .bool false] W fun e w' => e = .returned (.tuple #[.int .u64 Y, .int .i64 0]) ∧ Dr W w'))
    (bn : (FloatKind.f64.format.order n n != some .eq) = false) (b1 : (FloatKind.f64.format.order n 14114281232179134464 == some .gt) = true) (b2 : (FloatKind.f64.format.order n 4890909195324358656 == some .lt) = false) (b3 : (FloatKind.f64.format.order n 13830554455654793216 == some .gt) = true) (b4 : (FloatKind.f64.format.order n 4895412794951729152 == some .lt) = false) :
    Calls Try.prog 11 #[.int .u64 n] w fun e w' => e = .returned (.bool true) ∧ Dr w w' := by
  have hx30 := ext30 n
  rw [Int.toNat_natCast] at hx30
  have HB := Lib.hid hb
  clear hb
  go_enter Try.func11, Try.ntmps11
  go_wp2_with (first
    | (go_at_call 34; (first | (with_reducible refine (H1.out _).mono ?_) | (with_reducible refine (H2.out _).mono ?_)); rintro e w' ⟨rfl, ⟨nd, rfl⟩⟩)
    | (go_at_call 37; refine (mabs _ _ HB.out).mono ?_; rintro e w' ⟨rfl, ⟨nd, rfl⟩⟩)
    | (go_at_call 36; (with_reducible refine (HT.out _).mono ?_); rintro e w' ⟨rfl, ⟨nd, rfl⟩⟩)
    | (go_at_call 18; refine (lives _).mono ?_; rintro e w' ⟨rfl, ⟨nd, rfl⟩⟩))
  go_ret
  exact ⟨rfl, by repeat (first | exact Dr.refl _ | apply Dr.step)⟩

set_option maxHeartbeats 1000000 in
set_option maxRecDepth 100000 in
theorem ahead_tf_tt (n : Nat) (X Y : Int) (w : World) (hb : (n : Int) ≤ 18446744073709551615)
    (H1 : Hid (∀ W : World, Calls Try.prog 34 #[.int .u64 n, .int .i64 8, .int .i64 8, .bool true] W fun e w' => e = .returned (.tuple #[.int .u64 X, .int .i64 0]) ∧ Dr W w'))
    (H2 : Hid (∀ W : World, Calls Try.prog 34 #[.int .u64 n, .int .i64 8, .int .i64 8, .bool false] W fun e w' => e = .returned (.tuple #[.int .u64 Y, .int .i64 0]) ∧ Dr W w'))
    (bn : (FloatKind.f64.format.order n n != some .eq) = false) (b1 : (FloatKind.f64.format.order n 14114281232179134464 == some .gt) = true) (b2 : (FloatKind.f64.format.order n 4890909195324358656 == some .lt) = false) (b3 : (FloatKind.f64.format.order n 13830554455654793216 == some .gt) = true) (b4 : (FloatKind.f64.format.order n 4895412794951729152 == some .lt) = true) (F2 : Nat) (HT : Hid (∀ W : World, Calls Try.prog 36 #[.float .f64 (n % 9223372036854775808)] W fun e w' => e = .returned (.float .f64 F2) ∧ Dr W w')) (hY : floatToIntVal .f64 F2 .u64 = some Y) :
    Calls Try.prog 11 #[.int .u64 n] w fun e w' => e = .returned (.bool true) ∧ Dr w w' := by
  have hx30 := ext30 n
  rw [Int.toNat_natCast] at hx30
  have HB := Lib.hid hb
  clear hb
  have hcw := fun W => run_convert_float_int (P := Try.prog) W 49 22 .f64 .u64 F2 Y (by rw [Try.underlying49]; rfl) Try.underlying22 hY
  clear hY
  go_enter Try.func11, Try.ntmps11
  go_wp2_with (first
    | (go_at_call 34; (first | (with_reducible refine (H1.out _).mono ?_) | (with_reducible refine (H2.out _).mono ?_)); rintro e w' ⟨rfl, ⟨nd, rfl⟩⟩)
    | (go_at_call 37; refine (mabs _ _ HB.out).mono ?_; rintro e w' ⟨rfl, ⟨nd, rfl⟩⟩)
    | (go_at_call 36; (with_reducible refine (HT.out _).mono ?_); rintro e w' ⟨rfl, ⟨nd, rfl⟩⟩)
    | (go_at_call 18; refine (lives _).mono ?_; rintro e w' ⟨rfl, ⟨nd, rfl⟩⟩))
  go_ret
  exact ⟨rfl, by repeat (first | exact Dr.refl _ | apply Dr.step)⟩

set_option maxHeartbeats 1000000 in
set_option maxRecDepth 100000 in
theorem ahead_tt_f (n : Nat) (X Y : Int) (w : World) (hb : (n : Int) ≤ 18446744073709551615)
    (H1 : Hid (∀ W : World, Calls Try.prog 34 #[.int .u64 n, .int .i64 8, .int .i64 8, .bool true] W fun e w' => e = .returned (.tuple #[.int .u64 X, .int .i64 0]) ∧ Dr W w'))
    (H2 : Hid (∀ W : World, Calls Try.prog 34 #[.int .u64 n, .int .i64 8, .int .i64 8, .bool false] W fun e w' => e = .returned (.tuple #[.int .u64 Y, .int .i64 0]) ∧ Dr W w'))
    (bn : (FloatKind.f64.format.order n n != some .eq) = false) (b1 : (FloatKind.f64.format.order n 14114281232179134464 == some .gt) = true) (b2 : (FloatKind.f64.format.order n 4890909195324358656 == some .lt) = true) (v : Int) (hv : floatToIntVal .f64 n .i64 = some v) (hX : wrap64 X = v) (b3 : (FloatKind.f64.format.order n 13830554455654793216 == some .gt) = false) :
    Calls Try.prog 11 #[.int .u64 n] w fun e w' => e = .returned (.bool true) ∧ Dr w w' := by
  have hx30 := ext30 n
  rw [Int.toNat_natCast] at hx30
  have HB := Lib.hid hb
  clear hb
  have hcv := fun W => run_convert_float_int (P := Try.prog) W 49 3 .f64 .i64 n v (by rw [Try.underlying49]; rfl) Try.underlying3 hv
  clear hv
  go_enter Try.func11, Try.ntmps11
  go_wp2_with (first
    | (go_at_call 34; (first | (with_reducible refine (H1.out _).mono ?_) | (with_reducible refine (H2.out _).mono ?_)); rintro e w' ⟨rfl, ⟨nd, rfl⟩⟩)
    | (go_at_call 37; refine (mabs _ _ HB.out).mono ?_; rintro e w' ⟨rfl, ⟨nd, rfl⟩⟩)
    | (go_at_call 36; (with_reducible refine (HT.out _).mono ?_); rintro e w' ⟨rfl, ⟨nd, rfl⟩⟩)
    | (go_at_call 18; refine (lives _).mono ?_; rintro e w' ⟨rfl, ⟨nd, rfl⟩⟩))
  go_ret
  exact ⟨rfl, by repeat (first | exact Dr.refl _ | apply Dr.step)⟩

set_option maxHeartbeats 1000000 in
set_option maxRecDepth 100000 in
theorem ahead_tt_tf (n : Nat) (X Y : Int) (w : World) (hb : (n : Int) ≤ 18446744073709551615)
    (H1 : Hid (∀ W : World, Calls Try.prog 34 #[.int .u64 n, .int .i64 8, .int .i64 8, .bool true] W fun e w' => e = .returned (.tuple #[.int .u64 X, .int .i64 0]) ∧ Dr W w'))
    (H2 : Hid (∀ W : World, Calls Try.prog 34 #[.int .u64 n, .int .i64 8, .int .i64 8, .bool false] W fun e w' => e = .returned (.tuple #[.int .u64 Y, .int .i64 0]) ∧ Dr W w'))
    (bn : (FloatKind.f64.format.order n n != some .eq) = false) (b1 : (FloatKind.f64.format.order n 14114281232179134464 == some .gt) = true) (b2 : (FloatKind.f64.format.order n 4890909195324358656 == some .lt) = true) (v : Int) (hv : floatToIntVal .f64 n .i64 = some v) (hX : wrap64 X = v) (b3 : (FloatKind.f64.format.order n 13830554455654793216 == some .gt) = true) (b4 : (FloatKind.f64.format.order n 4895412794951729152 == some .lt) = false) :
    Calls Try.prog 11 #[.int .u64 n] w fun e w' => e = .returned (.bool true) ∧ Dr w w' := by
  have hx30 := ext30 n
  rw [Int.toNat_natCast] at hx30
  have HB := Lib.hid hb
  clear hb
  have hcv := fun W => run_convert_float_int (P := Try.prog) W 49 3 .f64 .i64 n v (by rw [Try.underlying49]; rfl) Try.underlying3 hv
  clear hv
  go_enter Try.func11, Try.ntmps11
  go_wp2_with (first
    | (go_at_call 34; (first | (with_reducible refine (H1.out _).mono ?_) | (with_reducible refine (H2.out _).mono ?_)); rintro e w' ⟨rfl, ⟨nd, rfl⟩⟩)
    | (go_at_call 37; refine (mabs _ _ HB.out).mono ?_; rintro e w' ⟨rfl, ⟨nd, rfl⟩⟩)
    | (go_at_call 36; (with_reducible refine (HT.out _).mono ?_); rintro e w' ⟨rfl, ⟨nd, rfl⟩⟩)
    | (go_at_call 18; refine (lives _).mono ?_; rintro e w' ⟨rfl, ⟨nd, rfl⟩⟩))
  go_ret
  exact ⟨rfl, by repeat (first | exact Dr.refl _ | apply Dr.step)⟩

set_option maxHeartbeats 1000000 in
set_option maxRecDepth 100000 in
theorem ahead_tt_tt (n : Nat) (X Y : Int) (w : World) (hb : (n : Int) ≤ 18446744073709551615)
    (H1 : Hid (∀ W : World, Calls Try.prog 34 #[.int .u64 n, .int .i64 8, .int .i64 8, .bool true] W fun e w' => e = .returned (.tuple #[.int .u64 X, .int .i64 0]) ∧ Dr W w'))
    (H2 : Hid (∀ W : World, Calls Try.prog 34 #[.int .u64 n, .int .i64 8, .int .i64 8, .bool false] W fun e w' => e = .returned (.tuple #[.int .u64 Y, .int .i64 0]) ∧ Dr W w'))
    (bn : (FloatKind.f64.format.order n n != some .eq) = false) (b1 : (FloatKind.f64.format.order n 14114281232179134464 == some .gt) = true) (b2 : (FloatKind.f64.format.order n 4890909195324358656 == some .lt) = true) (v : Int) (hv : floatToIntVal .f64 n .i64 = some v) (hX : wrap64 X = v) (b3 : (FloatKind.f64.format.order n 13830554455654793216 == some .gt) = true) (b4 : (FloatKind.f64.format.order n 4895412794951729152 == some .lt) = true) (F2 : Nat) (HT : Hid (∀ W : World, Calls Try.prog 36 #[.float .f64 (n % 9223372036854775808)] W fun e w' => e = .returned (.float .f64 F2) ∧ Dr W w')) (hY : floatToIntVal .f64 F2 .u64 = some Y) :
    Calls Try.prog 11 #[.int .u64 n] w fun e w' => e = .returned (.bool true) ∧ Dr w w' := by
  have hx30 := ext30 n
  rw [Int.toNat_natCast] at hx30
  have HB := Lib.hid hb
  clear hb
  have hcv := fun W => run_convert_float_int (P := Try.prog) W 49 3 .f64 .i64 n v (by rw [Try.underlying49]; rfl) Try.underlying3 hv
  clear hv
  have hcw := fun W => run_convert_float_int (P := Try.prog) W 49 22 .f64 .u64 F2 Y (by rw [Try.underlying49]; rfl) Try.underlying22 hY
  clear hY
  go_enter Try.func11, Try.ntmps11
  go_wp2_with (first
    | (go_at_call 34; (first | (with_reducible refine (H1.out _).mono ?_) | (with_reducible refine (H2.out _).mono ?_)); rintro e w' ⟨rfl, ⟨nd, rfl⟩⟩)
    | (go_at_call 37; refine (mabs _ _ HB.out).mono ?_; rintro e w' ⟨rfl, ⟨nd, rfl⟩⟩)
    | (go_at_call 36; (with_reducible refine (HT.out _).mono ?_); rintro e w' ⟨rfl, ⟨nd, rfl⟩⟩)
    | (go_at_call 18; refine (lives _).mono ?_; rintro e w' ⟨rfl, ⟨nd, rfl⟩⟩))
  go_ret
  exact ⟨rfl, by repeat (first | exact Dr.refl _ | apply Dr.step)⟩

set_option maxHeartbeats 1000000 in
set_option maxRecDepth 100000 in
theorem ahead_nan (n : Nat) (w : World) (hb : (n : Int) ≤ 18446744073709551615)
    (H1 : Hid (∀ W : World, Calls Try.prog 34 #[.int .u64 n, .int .i64 8, .int .i64 8, .bool true] W fun e w' => e = .returned (.tuple #[.int .u64 0, .int .i64 0]) ∧ Dr W w'))
    (H2 : Hid (∀ W : World, Calls Try.prog 34 #[.int .u64 n, .int .i64 8, .int .i64 8, .bool false] W fun e w' => e = .returned (.tuple #[.int .u64 0, .int .i64 0]) ∧ Dr W w'))
    (bn : (FloatKind.f64.format.order n n != some .eq) = true) (b1 : (FloatKind.f64.format.order n 14114281232179134464 == some .gt) = false) (b3 : (FloatKind.f64.format.order n 13830554455654793216 == some .gt) = false) :
    Calls Try.prog 11 #[.int .u64 n] w fun e w' => e = .returned (.bool true) ∧ Dr w w' := by
  have hx30 := ext30 n
  rw [Int.toNat_natCast] at hx30
  clear hb
  go_enter Try.func11, Try.ntmps11
  go_wp2_with (first
    | (go_at_call 34; (first | (with_reducible refine (H1.out _).mono ?_) | (with_reducible refine (H2.out _).mono ?_)); rintro e w' ⟨rfl, ⟨nd, rfl⟩⟩)
    | (go_at_call 18; refine (lives _).mono ?_; rintro e w' ⟨rfl, ⟨nd, rfl⟩⟩))
  go_ret
  exact ⟨rfl, by repeat (first | exact Dr.refl _ | apply Dr.step)⟩

theorem order_nan_l {n v : Nat} {s : Bool} {t : Nat} (h : Ieee.double.read n = .nan s t) : FloatKind.f64.format.order n v = none := by
  show Ieee.double.order n v = none
  unfold Ieee.Format.order; rw [h]; rfl
theorem ahead_walk (n : Nat) (w : World) (hb : (n : Int) ≤ 18446744073709551615) :
    Calls Try.prog 11 #[.int .u64 n] w fun e w' => e = .returned (.bool true) ∧ Dr w w' := by
  have T1 := fun W => trunc8_any n 8 true W (by omega) (by omega) hb
  have T2 := fun W => trunc8_any n 8 false W (by omega) (by omega) hb
  cases hr : Ieee.double.read n with
  | nan s t =>
    rw [hr] at T1 T2
    exact ahead_nan n w hb (Lib.hid T1) (Lib.hid T2) (by rw [order_nan_l hr]; rfl) (by rw [order_nan_l hr]; rfl) (by rw [order_nan_l hr]; rfl)
  | infinity s =>
    have on : (FloatKind.f64.format.order n n != some .eq) = false := by rw [isNaN_order FloatKind.f64.format n, show FloatKind.f64.format.read n = _ from hr]; rfl
    have oc : ∀ {v : Nat} {t : Bool} {K : Nat}, IsInt Ieee.double v t K → FloatKind.f64.format.order n v = some (if s then .lt else .gt) := fun k => by
      obtain ⟨b, x, kr, _⟩ := k
      show Ieee.double.order n _ = _
      unfold Ieee.Format.order; rw [hr, kr]; rfl
    cases s
    · exact ahead_tf_tf n _ _ w hb (Lib.hid T1) (Lib.hid T2) on (by rw [oc neg63_isInt]; rfl) (by rw [oc pos63_isInt]; rfl) (by rw [oc neg1_isInt]; rfl) (by rw [oc top_isInt]; rfl)
    · exact ahead_f_f n _ _ w hb (Lib.hid T1) (Lib.hid T2) on (by rw [oc neg63_isInt]; rfl) (by rw [oc neg1_isInt]; rfl)
  | number s a e =>
    obtain ⟨n1, n2, n3⟩ := read8_num hr
    have on : (FloatKind.f64.format.order n n != some .eq) = false := by rw [isNaN_order FloatKind.f64.format n, show FloatKind.f64.format.read n = _ from hr]; rfl
    have hint : (FloatKind.f64.decode n).toInt .zero = some (sgn s (whole a e)) := by rw [show FloatKind.f64.decode n = _ from hr, toInt_eq]
    -- the first test
    have P1 : ((FloatKind.f64.format.order n 14114281232179134464 == some .gt) = false) ∨ ((FloatKind.f64.format.order n 14114281232179134464 == some .gt) = true ∧ (FloatKind.f64.format.order n 4890909195324358656 == some .lt) = false) ∨
        ((FloatKind.f64.format.order n 14114281232179134464 == some .gt) = true ∧ (FloatKind.f64.format.order n 4890909195324358656 == some .lt) = true ∧ floatToIntVal .f64 n .i64 = some (sgn s (whole a e)) ∧ wrap64 (truncV (Ieee.double.read n) 8 true) = sgn s (whole a e)) := by
      cases c1 : (FloatKind.f64.format.order n 14114281232179134464 == some .gt)
      · exact Or.inl rfl
      · cases c2 : (FloatKind.f64.format.order n 4890909195324358656 == some .lt)
        · exact Or.inr (Or.inl ⟨rfl, rfl⟩)
        · refine Or.inr (Or.inr ⟨rfl, rfl, ?_⟩)
          have hM : whole a e < 2 ^ 63 := by
            cases s
            · exact below_of hr pos63_isInt (Or.inl ⟨rfl, rfl, by exact beq_iff_eq.1 c2⟩)
            · exact below_of hr neg63_isInt (Or.inr ⟨rfl, rfl, by exact beq_iff_eq.1 c1⟩)
          have h63 : (2 : Nat) ^ 63 = 9223372036854775808 := by decide
          have h64 : (2 : Nat) ^ 64 = 18446744073709551616 := by decide
          refine ⟨?_, ?_⟩
          · unfold floatToIntVal
            rw [hint]
            simp only
            rw [if_pos]
            constructor
            · show (-9223372036854775808 : Int) ≤ _; unfold sgn; split <;> omega
            · show _ ≤ (9223372036854775807 : Int); unfold sgn; split <;> omega
          · rw [hr]
            unfold truncV
            simp only
            rw [if_neg (by omega)]
            have e63 : pw (8 * 8 - 1) = 9223372036854775808 := pw_63
            unfold withinV wrap64
            rw [pw_top64, e63, IntKind.wrap_u64, IntKind.wrap_u64]
            generalize whole a e = M at *
            cases s
            · simp [sgn]; omega
            · simp [sgn]; omega
    have P2 : ((FloatKind.f64.format.order n 13830554455654793216 == some .gt) = false) ∨ ((FloatKind.f64.format.order n 13830554455654793216 == some .gt) = true ∧ (FloatKind.f64.format.order n 4895412794951729152 == some .lt) = false) ∨
        ((FloatKind.f64.format.order n 13830554455654793216 == some .gt) = true ∧ (FloatKind.f64.format.order n 4895412794951729152 == some .lt) = true ∧ ∃ F2, (∀ W : World, Calls Try.prog 36 #[.float .f64 (n % 9223372036854775808)] W fun e w' => e = .returned (.float .f64 F2) ∧ Dr W w') ∧ floatToIntVal .f64 F2 .u64 = some (truncV (Ieee.double.read n) 8 false)) := by
      cases c1 : (FloatKind.f64.format.order n 13830554455654793216 == some .gt)
      · exact Or.inl rfl
      · cases c2 : (FloatKind.f64.format.order n 4895412794951729152 == some .lt)
        · exact Or.inr (Or.inl ⟨rfl, rfl⟩)
        · refine Or.inr (Or.inr ⟨rfl, rfl, ?_⟩)
          have h64 : (2 : Nat) ^ 64 = 18446744073709551616 := by decide
          have hM : whole a e < 2 ^ 64 ∧ (s = true → whole a e = 0) := by
            cases s
            · exact ⟨below_of hr top_isInt (Or.inl ⟨rfl, rfl, by exact beq_iff_eq.1 c2⟩), fun h => by cases h⟩
            · have := below_of hr neg1_isInt (Or.inr ⟨rfl, rfl, by exact beq_iff_eq.1 c1⟩)
              exact ⟨by omega, fun _ => by omega⟩
          have hra := read_abs hr
          refine ⟨_, fun W => mtrunc _ W (by rw [hra]; rfl), ?_⟩
          have hI := whole_isInt false a e (by omega) n3
          rw [hra]
          rw [f2i _ _ _ .u64 hI (by show (0 : Int) ≤ _; simp [sgn]) (by show _ ≤ (18446744073709551615 : Int); simp only [sgn, Bool.false_eq_true, if_false]; omega)]
          rw [hr]
          unfold truncV
          simp only
          rw [if_neg (by omega)]
          have e63 : pw (8 * 8 - 1) = 9223372036854775808 := pw_63
          unfold withinV
          rw [pw_top64]
          generalize whole a e = M at *
          cases s
          · simp [sgn]; omega
          · obtain rfl : M = 0 := hM.2 rfl
            simp [sgn]
    rcases P1 with p | ⟨p, p2⟩ | ⟨p, p2, p3, p4⟩ <;> rcases P2 with q | ⟨q, q2⟩ | ⟨q, q2, F2, q3, q4⟩
    · exact ahead_f_f n _ _ w hb (Lib.hid T1) (Lib.hid T2) on p q
    · exact ahead_f_tf n _ _ w hb (Lib.hid T1) (Lib.hid T2) on p q q2
    · exact ahead_f_tt n _ _ w hb (Lib.hid T1) (Lib.hid T2) on p q q2 F2 (Lib.hid q3) q4
    · exact ahead_tf_f n _ _ w hb (Lib.hid T1) (Lib.hid T2) on p p2 q
    · exact ahead_tf_tf n _ _ w hb (Lib.hid T1) (Lib.hid T2) on p p2 q q2
    · exact ahead_tf_tt n _ _ w hb (Lib.hid T1) (Lib.hid T2) on p p2 q q2 F2 (Lib.hid q3) q4
    · exact ahead_tt_f n _ _ w hb (Lib.hid T1) (Lib.hid T2) on p p2 _ p3 p4 q
    · exact ahead_tt_tf n _ _ w hb (Lib.hid T1) (Lib.hid T2) on p p2 _ p3 p4 q q2
    · exact ahead_tt_tt n _ _ w hb (Lib.hid T1) (Lib.hid T2) on p p2 _ p3 p4 q q2 F2 (Lib.hid q3) q4
end Go.Proofs.Ytmhgbpgilhboeaa.Pa
