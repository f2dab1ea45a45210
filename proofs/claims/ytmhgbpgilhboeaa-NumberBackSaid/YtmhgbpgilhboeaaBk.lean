/- NumberBack: the walk of the law. -/
import Derived.Test.YtmhgbpgilhboeaaPu
namespace Go.Proofs.Ytmhgbpgilhboeaa.Pa
set_option linter.unusedVariables false
set_option linter.unusedSimpArgs false
open Go.RowKit Wd Ra Fl Go.Proofs.Ytmhgbpgilhboeaa.Math10

theorem isInt_read {f : Ieee.Format} {w : Nat} {s : Bool} {M : Nat} (h : IsInt f w s M) : ∃ a u, f.read w = .number s a u ∧ whole a u = M := by
  obtain ⟨a, u, hr, h1, h2⟩ := h
  refine ⟨a, u, hr, ?_⟩
  unfold whole
  split
  · rw [h1 (by assumption)]
  · rw [h2 (by omega), Nat.mul_div_cancel _ (Nat.two_pow_pos _)]
theorem nearest8_isInt (s : Bool) (M : Nat) (h : M ≤ 2 ^ 53) : IsInt Ieee.double (Ieee.double.nearest s M 0) s M := by
  by_cases h1 : M < 2 ^ 53
  · exact nearest_isInt s M h1
  · obtain rfl : M = 2 ^ 53 := by omega
    exact pow_isInt s 53 (by omega)
theorem nearest4_isInt (s : Bool) (M : Nat) (h : M ≤ 2 ^ 24) : IsInt Ieee.single (Ieee.single.nearest s M 0) s M := by
  have d1 : Ieee.single.fractionBits + 1 = 24 := rfl
  have d2 : Ieee.single.leastPlace = -149 := by decide
  have d3 : Ieee.single.binade = 8388608 := by decide
  have d4 : Ieee.single.infRung = 2139095040 := by decide
  obtain ⟨a, k, hw, ha, hk⟩ : ∃ a k : Nat, M = a * 2 ^ k ∧ a < 2 ^ 24 ∧ k ≤ 24 := by
    by_cases h1 : M < 2 ^ 24
    · exact ⟨M, 0, by simp, h1, by omega⟩
    · exact ⟨1, 24, by omega, by decide, by omega⟩
  rw [hw]
  rcases Nat.eq_zero_or_pos a with h0 | h0
  · subst h0
    rw [Nat.zero_mul]
    exact ⟨0, _, read_zero _ _ _, fun _ => (Nat.zero_mul _).symm, fun _ => (Nat.zero_mul _).symm⟩
  · have hl : len a ≤ 24 := len_bound ha
    have hl0 := len_pos h0
    rw [nearest_scale, Int.zero_add]
    have hu1 : unitOf (Ieee.single.fractionBits + 1) Ieee.single.leastPlace a k ≤ k := by rw [d1, d2]; unfold unitOf; omega
    refine ⟨_, _, read_nearest Ieee.single s a k h0 (by rw [d1]; exact hl) (by rw [d2]; omega) ?_, ?_, ?_⟩
    · rw [d2, d3, d4, d1] at *
      have : (unitOf 24 (-149) a k - -149).toNat ≤ 252 := by omega
      generalize (unitOf 24 (-149) a k - -149).toNat = x at *
      omega
    · intro hu
      rw [Nat.mul_assoc, ← Nat.pow_add]; congr 2; omega
    · intro hu
      rw [Nat.mul_assoc, ← Nat.pow_add]; congr 2; omega
theorem wrap_back (s : Bool) (M : Nat) (h : M ≤ 2 ^ 53) : IntKind.i64.wrap (withinV s M false 8 true) = sgn s M := by
  have e : pw (8 * 8 - 1) = 9223372036854775808 := pw_63
  have h53 : (2 : Nat) ^ 53 = 9007199254740992 := by decide
  unfold withinV
  rw [pw_top64, e, IntKind.wrap_i64, IntKind.wrap_u64, IntKind.wrap_u64]
  cases s
  · simp [sgn]; omega
  · simp [sgn]; omega
theorem sgn_abs (M : Int) : sgn (decide (M < 0)) M.natAbs = M := by
  unfold sgn
  by_cases h : M < 0
  · rw [decide_eq_true h]; simp; omega
  · rw [decide_eq_false h]; simp; omega
theorem small64 (x : Nat) (h : x ≤ 2 ^ 53) : ¬ 2 ^ 64 ≤ x := by
  have h53 : (2 : Nat) ^ 53 = 9007199254740992 := by decide
  have h64 : (2 : Nat) ^ 64 = 18446744073709551616 := by decide
  omega
theorem back8 (M : Int) (h0 : -9007199254740992 ≤ M) (h1 : M ≤ 9007199254740992) :
    ∃ X : Nat, ∃ Y : Int, (∀ W : World, Calls Try.prog 24 #[.int .i64 M, .int .i64 8] W fun e w' => e = .returned (.tuple #[.int .u64 X, .int .i64 0]) ∧ Dr W w') ∧
      (∀ W : World, Calls Try.prog 34 #[.int .u64 X, .int .i64 8, .int .i64 8, .bool true] W fun e w' => e = .returned (.tuple #[.int .u64 Y, .int .i64 0]) ∧ Dr W w') ∧ IntKind.i64.wrap Y = M := by
  have h53 : (2 : Nat) ^ 53 = 9007199254740992 := by decide
  have hI := nearest8_isInt (decide (M < 0)) M.natAbs (by omega)
  obtain ⟨a, u, hr, hw⟩ := isInt_read hI
  have hlt := Ieee.double.nearest_lt (decide (M < 0)) M.natAbs 0
  have hwid : 2 ^ Ieee.double.width = 18446744073709551616 := by decide
  refine ⟨_, withinV (decide (M < 0)) M.natAbs false 8 true, fun W => float8 M W, fun W => ?_, ?_⟩
  · have := trunc8_any (Ieee.double.nearest (decide (M < 0)) M.natAbs 0) 8 true W (by omega) (by omega) (by omega)
    rw [hr] at this
    unfold truncV at this
    simp only [hw] at this
    rw [if_neg (small64 _ (by omega))] at this
    exact this
  · rw [wrap_back _ _ (by omega), sgn_abs]
theorem back4 (M : Int) (h0 : -16777216 ≤ M) (h1 : M ≤ 16777216) :
    ∃ X : Nat, ∃ Y : Int, (∀ W : World, Calls Try.prog 24 #[.int .i64 M, .int .i64 4] W fun e w' => e = .returned (.tuple #[.int .u64 X, .int .i64 0]) ∧ Dr W w') ∧
      (∀ W : World, Calls Try.prog 34 #[.int .u64 X, .int .i64 4, .int .i64 8, .bool true] W fun e w' => e = .returned (.tuple #[.int .u64 Y, .int .i64 0]) ∧ Dr W w') ∧ IntKind.i64.wrap Y = M := by
  have h53 : (2 : Nat) ^ 53 = 9007199254740992 := by decide
  have h24 : (2 : Nat) ^ 24 = 16777216 := by decide
  have hI := nearest4_isInt (decide (M < 0)) M.natAbs (by omega)
  obtain ⟨a, u, hr, hw⟩ := isInt_read hI
  have hlt := nearest_lt32 (decide (M < 0)) M.natAbs
  refine ⟨_, withinV (decide (M < 0)) M.natAbs false 8 true, fun W => float4 M W, fun W => ?_, ?_⟩
  · have := trunc4_any (Ieee.single.nearest (decide (M < 0)) M.natAbs 0) 8 true W (by omega) (by omega) (by omega)
    rw [hr] at this
    unfold truncV at this
    simp only [hw] at this
    rw [if_neg (small64 _ (by omega))] at this
    exact this
  · rw [wrap_back _ _ (by omega), sgn_abs]

/-! a float of 4 bytes comes back from 8 -/
theorem word_back (w : Nat) (h : w < 4294967296) : Ieee.single.word (w / 2147483648 % 2 == 1) (w % 2147483648) = w := by
  have d5 : Ieee.single.signWeight = 2147483648 := by decide
  unfold Ieee.Format.word
  rw [d5]
  by_cases h1 : w / 2147483648 % 2 = 1
  · simp [h1]; omega
  · simp [h1]; omega
theorem write_read (w : Nat) (s : Bool) (a : Nat) (e : Int) (hw : w < 4294967296) (h : Ieee.single.read w = .number s a e) : Ieee.single.nearest s a e = w := by
  have d1 : Ieee.single.fractionBits + 1 = 24 := rfl
  have d2 : Ieee.single.leastPlace = -149 := by decide
  have d3 : Ieee.single.binade = 8388608 := by decide
  have d4 : Ieee.single.infRung = 2139095040 := by decide
  have d5 : Ieee.single.signWeight = 2147483648 := by decide
  have hb := word_back w hw
  unfold Ieee.Format.read at h
  simp only [d2, d3, d4, d5] at h
  split at h
  · rename_i hr
    simp only [Ieee.Datum.number.injEq] at h
    obtain ⟨rfl, rfl, rfl⟩ := h
    rcases Nat.eq_zero_or_pos (w % 2147483648) with h0 | h0
    · rw [h0] at hb ⊢
      unfold Ieee.Format.nearest
      rw [if_pos rfl]; exact hb
    · rw [nearest_eq _ _ _ _ h0]
      have hl : len (w % 2147483648) ≤ 23 := len_bound (by omega)
      have hu : unitOf 24 (-149) (w % 2147483648) (-149) = -149 := by unfold unitOf; omega
      have hk : keptOf 24 (-149) (w % 2147483648) (-149) = w % 2147483648 := by
        unfold keptOf; simp only [hu]; rw [if_neg (by omega)]; simp
      rw [d1, d2, d3, d4, hu, hk]
      rw [show (-149 - (-149 : Int)).toNat = 0 from rfl, Nat.zero_mul, Nat.zero_add, Nat.min_eq_left (by omega)]
      exact hb
  · split at h
    · rename_i hr1 hr2
      simp only [Ieee.Datum.number.injEq] at h
      obtain ⟨rfl, rfl, rfl⟩ := h
      obtain ⟨x, hx⟩ : ∃ x, w % 2147483648 / 8388608 = x := ⟨_, rfl⟩
      obtain ⟨q, hq⟩ : ∃ q, 8388608 + w % 2147483648 % 8388608 = q := ⟨_, rfl⟩
      have q1 : 8388608 ≤ q := by omega
      have q2 : q < 16777216 := by omega
      have hx1 : 1 ≤ x := by omega
      have hx2 : x < 255 := by omega
      have hrung : w % 2147483648 = (x - 1) * 8388608 + q := by omega
      rw [hx, hq]
      rw [hrung] at hb
      clear hr1 hr2 hx hq hrung
      generalize (w / 2147483648 % 2 == 1) = s at *
      have hl : len q = 24 := by
        have h1 : len q ≤ 24 := len_bound (by omega)
        have h2 : 23 < len q := (len_le_iff _ _).2 (by omega)
        omega
      obtain ⟨y, rfl⟩ : ∃ y, x = y + 1 := ⟨x - 1, by omega⟩
      rw [Nat.add_sub_cancel] at hb ⊢
      have hu : unitOf 24 (-149) q (-149 + (y : Int)) = -149 + (y : Int) := by unfold unitOf; omega
      have hk : keptOf 24 (-149) q (-149 + (y : Int)) = q := by
        unfold keptOf; simp only [hu]; rw [if_neg (by omega)]; simp
      rw [nearest_eq _ _ _ _ (by omega), d1, d2, d3, d4, hu, hk]
      rw [show (-149 + (y : Int) - (-149 : Int)).toNat = y from by omega, Nat.min_eq_left (by omega)]
      exact hb
    · split at h <;> cases h
theorem inf_back (w : Nat) (s : Bool) (hw : w < 4294967296) (h : Ieee.single.read w = .infinity s) : Ieee.single.word s Ieee.single.infRung = w := by
  have d3 : Ieee.single.binade = 8388608 := by decide
  have d4 : Ieee.single.infRung = 2139095040 := by decide
  have d5 : Ieee.single.signWeight = 2147483648 := by decide
  have hb := word_back w hw
  unfold Ieee.Format.read at h
  simp only [d3, d4, d5] at h
  split at h
  · cases h
  · split at h
    · cases h
    · split at h
      · rename_i hr
        simp only [Ieee.Datum.infinity.injEq] at h
        rw [d4, ← h, ← hr]; exact hb
      · cases h
/-- what Widen tells leads back. -/
theorem narrow_bits (bits : Nat) (hb : bits < 4294967296) (h : (Ieee.single.read bits).isNaN = false) : floatToFloatBits .f64 (widenV bits) .f32 = some bits := by
  unfold floatToFloatBits widenV
  rw [if_neg (by decide)]
  cases hr : Ieee.single.read bits with
  | nan s t => rw [hr] at h; cases h
  | infinity s =>
    simp only [inf8]
    rw [show FloatKind.f64.decode (Ieee.double.word s Ieee.double.infRung) = .infinity s from by cases s <;> decide +kernel]
    simp only
    rw [show FloatKind.f32.encode (.infinity s) = Ieee.single.word s Ieee.single.infRung from rfl, inf_back bits s hb hr]
  | number s a e =>
    obtain ⟨n1, n2, n3⟩ := read4_num hr
    obtain ⟨a', u, hrd, hn⟩ : ∃ a' u, Ieee.double.read (Ieee.double.nearest s a e) = .number s a' u ∧ Ieee.single.nearest s a' u = bits := by
      rcases Nat.eq_zero_or_pos a with ha | ha
      · subst ha
        refine ⟨0, _, read_zero _ _ _, ?_⟩
        have := write_read bits s 0 e hb hr
        rw [← this]; simp [Ieee.Format.nearest]
      · have d1 : Ieee.double.fractionBits + 1 = 53 := rfl
        have d2 : Ieee.double.leastPlace = -1074 := by decide
        have d3 : Ieee.double.binade = 4503599627370496 := by decide
        have d4 : Ieee.double.infRung = 9218868437227405312 := by decide
        have hl : len a ≤ 24 := len_bound (by omega)
        have hrn := read_nearest Ieee.double s a e ha (by rw [d1]; omega) (by rw [d2]; omega) (by
          rw [d1, d2, d3, d4]
          have : (unitOf 53 (-1074) a e - -1074).toNat ≤ 2045 := by unfold unitOf; omega
          generalize (unitOf 53 (-1074) a e - -1074).toNat = x at *
          omega)
        rw [d1, d2] at hrn
        refine ⟨_, _, hrn, ?_⟩
        rw [nearest_scale]
        have hu : unitOf 53 (-1074) a e ≤ e := by unfold unitOf; omega
        rw [show unitOf 53 (-1074) a e + ((e - unitOf 53 (-1074) a e).toNat : Int) = e from by omega]
        exact write_read bits s a e hb hr
    simp only
    rw [show FloatKind.f64.decode (Ieee.double.nearest s a e) = .number s a' u from hrd]
    simp only
    rw [show FloatKind.f32.encode (.number s a' u) = bits from hn, show FloatKind.f32.decode bits = .number s a e from hr]
    simp [Ieee.Datum.isInfinity]
theorem narrow_back (bits : Nat) (w : World) (hb : (bits : Int) ≤ 4294967295) (h : (Ieee.single.read bits).isNaN = false) :
    Calls Try.prog 22 #[.int .u64 (widenV bits)] w fun e w' => e = .returned (.int .u32 bits) ∧ Dr w w' := by
  have hx := ext30 (widenV bits)
  simp only [Int.toNat_natCast] at hx
  have hx2 := ext32 bits
  have hn : (FloatKind.f64.format.order (widenV bits) (widenV bits) != some .eq) = false := (isNaN_order Ieee.double (widenV bits)).trans ((widenV_nan bits).trans h)
  have hc := fun W => run_convert_float_float (P := Try.prog) W 49 51 .f64 .f32 (widenV bits) bits (by rw [Try.underlying49]; rfl) Try.underlying51 (narrow_bits bits (by omega) h)
  generalize widenV bits = x at *
  clear h
  go_enter Try.func22, Try.ntmps22
  go_wp2
  go_ret
  exact ⟨rfl, Dr.refl _⟩

theorem tmod_bd (n : Int) (c : Int) (h : 0 < c) : -(c - 1) ≤ n.tmod c ∧ n.tmod c ≤ c - 1 := by
  by_cases hn : 0 ≤ n
  · rw [Int.tmod_eq_emod_of_nonneg hn]
    have := Int.emod_nonneg n (show c ≠ 0 by omega)
    have := Int.emod_lt_of_pos n h
    omega
  · have e : n.tmod c = -((-n).tmod c) := by rw [Int.neg_tmod, Int.neg_neg]
    rw [e, Int.tmod_eq_emod_of_nonneg (show 0 ≤ -n by omega)]
    have := Int.emod_nonneg (-n) (show c ≠ 0 by omega)
    have := Int.emod_lt_of_pos (-n) h
    omega
theorem wrap64_of' {a b : Int} (h : IntKind.i64.wrap a = b) : wrap64 a = b := by
  unfold wrap64; rw [IntKind.wrap_i64] at h; exact h
set_option maxHeartbeats 2000000 in
set_option maxRecDepth 100000 in
theorem back_walk (n bits : Int) (w : World) (hb0 : 0 ≤ bits) (hb1 : bits ≤ 4294967295) :
    Calls Try.prog 13 #[.int .i64 n, .int .u32 bits] w fun e w' => e = .returned (.bool true) ∧ Dr w w' := by
  obtain ⟨b, rfl⟩ := Int.eq_ofNat_of_zero_le hb0
  have b8 := tmod_bd n 9007199254740993 (by omega)
  have b4 := tmod_bd n 16777217 (by omega)
  obtain ⟨X8, Y8, F8, T8, W8⟩ := back8 (n.tmod 9007199254740993) (by omega) (by omega)
  obtain ⟨X4, Y4, F4, T4, W4⟩ := back4 (n.tmod 16777217) (by omega) (by omega)
  have c8 : wrap64 (n.tmod 9007199254740993) = n.tmod 9007199254740993 := wrap64_of' (by rw [IntKind.wrap_i64]; omega)
  have c4 : wrap64 (n.tmod 16777217) = n.tmod 16777217 := wrap64_of' (by rw [IntKind.wrap_i64]; omega)
  have V8 := wrap64_of' W8
  have V4 := wrap64_of' W4
  generalize e8 : n.tmod 9007199254740993 = M8 at *
  generalize e4 : n.tmod 16777217 = M4 at *
  have hF8 := Lib.hid F8
  have hT8 := Lib.hid T8
  have hF4 := Lib.hid F4
  have hT4 := Lib.hid T4
  clear F8 T8 F4 T4 b8 b4
  have hnan := nan4 b
  have hw2 := fun (h : (Ieee.single.read b).isNaN = false) => fun W => narrow_back b W hb1 h
  have u1 : IntKind.u64.wrap (b : Int) = b := by simp only [IntKind.wrap_u64]; omega
  cases hN : (Ieee.single.read b).isNaN
  all_goals
    have A1 : Hid (∀ W : World, Calls Try.prog 28 #[.int .u64 b, .int .i64 4] W fun e w' => e = .returned (.tuple #[.bool _, .int .i64 0]) ∧ Dr W w') := Lib.hid (fun W => by have h := nan4 b W hb1; rw [hN] at h; exact h)
    first
      | (have A2 := Lib.hid (hw2 hN))
      | skip
    clear hnan hw2 hN
    go_enter Try.func13, Try.ntmps13
    go_wp2
    go_loopw [5] (fun k wr => ∃ j : Nat, j ≤ 2 ∧ k = .int .i64 j ∧ Dr w wr) (fun k _ => 2 - (intOf k).toNat)
    case atStart => exact ⟨0, by omega, rfl, Dr.refl _⟩
    case round =>
      obtain ⟨j, hj, rfl, hd⟩ := hrel
      by_cases hj0 : j = 0
      · subst hj0
        go_wp2_with (first
          | (go_at_call 24; (with_reducible refine (hF8.out _).mono ?_); rintro e w' ⟨rfl, ⟨nd, rfl⟩⟩)
          | (go_at_call 34; (with_reducible refine (hT8.out _).mono ?_); rintro e w' ⟨rfl, ⟨nd, rfl⟩⟩))
        go_roundw
        case rel => exact ⟨1, by omega, rfl, by repeat (first | exact hd | apply Dr.step)⟩
        case measure => simp [intOf]
      · by_cases hj1 : j = 1
        · subst hj1
          go_wp2_with (first
            | (go_at_call 24; (with_reducible refine (hF4.out _).mono ?_); rintro e w' ⟨rfl, ⟨nd, rfl⟩⟩)
            | (go_at_call 34; (with_reducible refine (hT4.out _).mono ?_); rintro e w' ⟨rfl, ⟨nd, rfl⟩⟩))
          go_roundw
          case rel => exact ⟨2, by omega, rfl, by repeat (first | exact hd | apply Dr.step)⟩
          case measure => simp [intOf]
        · obtain rfl : j = 2 := by omega
          clear hj0 hj1 hj
          go_wp2_with (first
            | (go_at_call 28; (with_reducible refine (A1.out _).mono ?_); rintro e w' ⟨rfl, ⟨nd, rfl⟩⟩)
            | (go_at_call 19; refine (widen_any _ _).mono ?_; rintro e w' ⟨rfl, ⟨nd, rfl⟩⟩)
            | (go_at_call 22; (with_reducible refine (A2.out _).mono ?_); rintro e w' ⟨rfl, ⟨nd, rfl⟩⟩)
            | (go_at_call 18; refine (lives _).mono ?_; rintro e w' ⟨rfl, ⟨nd, rfl⟩⟩))
          go_ret
          exact ⟨rfl, by repeat (first | exact hd | apply Dr.step)⟩
end Go.Proofs.Ytmhgbpgilhboeaa.Pa
