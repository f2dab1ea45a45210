/- NumberOrder: the walk of the law. -/
import Derived.Test.YtmhgbpgilhboeaaLv
namespace Go.Proofs.Ytmhgbpgilhboeaa.Pa
set_option linter.unusedVariables false
set_option linter.unusedSimpArgs false
open Go.RowKit Wd Ra Fl Go.Proofs.Ytmhgbpgilhboeaa.Math10

/-- an integer within the range of m bytes, with a sign and without. -/
def cS (n : Int) (m : Nat) : Int := if n < -pw (8 * m - 1) then -pw (8 * m - 1) else if pw (8 * m - 1) - 1 < n then pw (8 * m - 1) - 1 else n
def cU (n : Int) (m : Nat) : Int := if n < 0 then 0 else if pw (8 * m) - 1 < n then pw (8 * m) - 1 else n

theorem cS_range (n : Int) (m : Nat) : -pw (8 * m - 1) ≤ cS n m ∧ cS n m < pw (8 * m - 1) := by
  have := pw_pos (8 * m - 1)
  unfold cS
  split
  · omega
  · split <;> omega
theorem cS_mono {n k : Int} (h : n ≤ k) (m : Nat) : cS n m ≤ cS k m := by
  have := pw_pos (8 * m - 1)
  unfold cS
  split <;> split <;> (try split) <;> (try split) <;> omega
theorem cU_mono {n k : Int} (h : n ≤ k) (m : Nat) : cU n m ≤ cU k m := by
  have := pw_pos (8 * m)
  unfold cU
  split <;> split <;> (try split) <;> (try split) <;> omega
theorem cS_again (n : Int) (m : Nat) : cS (cS n m) m = cS n m := by
  have h := cS_range n m
  generalize cS n m = x at *
  unfold cS
  rw [if_neg (by omega), if_neg (by omega)]
theorem clampS (n : Int) (m : Nat) (w : World) (hn0 : -9223372036854775808 ≤ n) (hn1 : n ≤ 9223372036854775807) (h0 : 1 ≤ m) (h1 : m ≤ 8) :
    Calls Try.prog 14 #[.int .i64 n, .int .i64 m, .bool true] w fun e w' => e = .returned (.tuple #[.int .u64 (cS n m % pw (8 * m)), .int .i64 0]) ∧ Dr w w' := by
  have p1 := pw_pos (8 * m - 1)
  have p2 := pw_top h0 h1
  by_cases hn : n < 0
  · have h := clamp_neg n m true w hn hn0 h0 h1
    rwa [show withinV true (-n) false m true = cS n m % pw (8 * m) from by
      unfold withinV cS
      simp only [if_true, Bool.false_eq_true, false_or]
      rw [wrap_mod _ h0 h1, wrap_mod _ h0 h1, Int.neg_neg]
      by_cases hc : n < -pw (8 * m - 1)
      · rw [if_pos hc, if_pos (by omega)]
      · rw [if_neg hc, if_neg (by omega), if_neg (by omega)]] at h
  · have h := clamp_pos n m true w (by omega) hn1 h0 h1
    rwa [show withinV false n false m true = cS n m % pw (8 * m) from by
      unfold withinV cS
      simp only [if_true, Bool.false_eq_true, false_or, if_false]
      rw [if_neg (show ¬ n < -pw (8 * m - 1) by omega)]
      by_cases hc : pw (8 * m - 1) - 1 < n
      · rw [if_pos hc, Int.emod_eq_of_lt (by omega) (by omega)]
      · rw [if_neg hc, Int.emod_eq_of_lt (by omega) (by omega)]] at h
theorem clampU (n : Int) (m : Nat) (w : World) (hn0 : -9223372036854775808 ≤ n) (hn1 : n ≤ 9223372036854775807) (h0 : 1 ≤ m) (h1 : m ≤ 8) :
    Calls Try.prog 14 #[.int .i64 n, .int .i64 m, .bool false] w fun e w' => e = .returned (.tuple #[.int .u64 (cU n m), .int .i64 0]) ∧ Dr w w' := by
  by_cases hn : n < 0
  · have h := clamp_neg n m false w hn hn0 h0 h1
    rwa [show withinV true (-n) false m false = cU n m from by simp [withinV, cU, hn]] at h
  · have h := clamp_pos n m false w (by omega) hn1 h0 h1
    rwa [show withinV false n false m false = cU n m from by simp [withinV, cU, hn]] at h
/-- what was told by its lowest bytes. -/
theorem signed_of (c : Int) (m : Nat) (w : World) (h0 : 1 ≤ m) (h1 : m ≤ 8) (hc0 : -pw (8 * m - 1) ≤ c) (hc1 : c < pw (8 * m - 1)) :
    Calls Try.prog 21 #[.int .u64 (c % pw (8 * m)), .int .i64 m] w fun e w' => e = .returned (.int .i64 c) ∧ Dr w w' := by
  have H0 := Lib.hid hc0
  have H1 := Lib.hid hc1
  clear hc0 hc1
  have hx : ∃ x : Int, c % pw (8 * m) = x := ⟨_, rfl⟩
  obtain ⟨x, hx⟩ := hx
  rw [hx]
  have HX := Lib.hid hx
  clear hx
  rcases small8 h0 h1 with rfl | rfl | rfl | rfl | rfl | rfl | rfl | rfl
  all_goals
    go_enter Try.func21, Try.ntmps21
    go_wp2
    try (go_quiet (fail); try go_wp2)
    go_ret
    refine ⟨ret_i64 ?_, by repeat (first | exact Dr.refl _ | apply Dr.step)⟩
    have e0 := H0.out
    have e1 := H1.out
    have e2 := HX.out
    clear H0 H1 HX
    simp only [pw_eq] at e0 e1 e2
    subst e2
    simp only [wrap64, IntKind.wrap_u64]
    omega

theorem i64_back (n : Int) (h0 : -9223372036854775808 ≤ n) (h1 : n ≤ 9223372036854775807) : IntKind.i64.wrap (cS n 8 % pw (8 * 8)) = n := by
  have e : pw (8 * 8 - 1) = 9223372036854775808 := pw_63
  have h : cS n 8 = n := by unfold cS; rw [e, if_neg (by omega), if_neg (by omega)]
  rw [h, pw_top64, IntKind.wrap_i64]; omega
theorem wrap64_of {a b : Int} (h : IntKind.i64.wrap a = b) : wrap64 a = b := by
  unfold wrap64; rw [IntKind.wrap_i64] at h; exact h
set_option maxHeartbeats 2000000 in
set_option maxRecDepth 100000 in
theorem order_walk (n k : Int) (width : Int) (w : World) (hn0 : -9223372036854775808 ≤ n) (hn1 : n ≤ 9223372036854775807) (hk0 : -9223372036854775808 ≤ k) (hk1 : k ≤ 9223372036854775807) (hw0 : 0 ≤ width) (hw1 : width ≤ 18446744073709551615) :
    Calls Try.prog 5 #[.int .i64 n, .int .i64 k, .int .u64 width] w fun e w' => e = .returned (.bool true) ∧ Dr w w' := by
  obtain ⟨m, hm⟩ : ∃ m : Nat, 1 + width % 8 = m := ⟨(1 + width % 8).toNat, by omega⟩
  have h0 : 1 ≤ m := by omega
  have h1 : m ≤ 8 := by omega
  by_cases c : k < n
  · have x1 := cS_mono (Int.le_of_lt c) m
    have x2 := cU_mono (Int.le_of_lt c) m
    have x3 := cS_again k m
    have pb : pw (8 * m - 1) ≤ 9223372036854775808 := by rw [← pw_63]; exact pw_le (by omega)
    have A1 := Lib.hid (fun W => clampS k m W (by omega) (by omega) h0 h1)
    have A2 := Lib.hid (fun W => clampS n m W (by omega) (by omega) h0 h1)
    have A3 := Lib.hid (fun W => clampU k m W (by omega) (by omega) h0 h1)
    have A4 := Lib.hid (fun W => clampU n m W (by omega) (by omega) h0 h1)
    have A5 := Lib.hid (fun W => clampS (cS k m) m W (by have := cS_range k m; omega) (by have := cS_range k m; omega) h0 h1)
    clear pb
    have r1 := cS_range k m
    have r2 := cS_range n m
    obtain ⟨r10, r11⟩ := r1
    obtain ⟨r20, r21⟩ := r2
    by_cases h8 : m = 8
    all_goals
      have i8 : m = 8 → IntKind.i64.wrap (cS k m % pw (8 * m)) = k ∧ IntKind.i64.wrap (cS n m % pw (8 * m)) = n := fun h => by
        subst h; exact ⟨i64_back _ (by omega) (by omega), i64_back _ (by omega) (by omega)⟩
      first
        | (have j8 := i8 h8; obtain ⟨j1, j2⟩ := j8; have j1' := wrap64_of j1; have j2' := wrap64_of j2; have g8 : 8 ≤ (m : Int) := by omega)
        | have g8 : (m : Int) < 8 := by omega
      clear h8 i8
      go_enter Try.func5, Try.ntmps5
      go_wp2_with (first
        | (go_at_call 14; (first | (with_reducible refine (A1.out _).mono ?_) | (with_reducible refine (A2.out _).mono ?_) | (with_reducible refine (A3.out _).mono ?_) | (with_reducible refine (A4.out _).mono ?_) | (with_reducible refine (A5.out _).mono ?_)); rintro e w' ⟨rfl, ⟨nd, rfl⟩⟩)
        | (go_at_call 21; refine (signed_of _ _ _ h0 h1 (by assumption) (by assumption)).mono ?_; rintro e w' ⟨rfl, ⟨nd, rfl⟩⟩)
        | (go_at_call 18; refine (lives _).mono ?_; rintro e w' ⟨rfl, ⟨nd, rfl⟩⟩))
      go_ret
      exact ⟨rfl, by repeat (first | exact Dr.refl _ | apply Dr.step)⟩
  · have x1 := cS_mono (Int.not_lt.1 c) m
    have x2 := cU_mono (Int.not_lt.1 c) m
    have x3 := cS_again n m
    have pb : pw (8 * m - 1) ≤ 9223372036854775808 := by rw [← pw_63]; exact pw_le (by omega)
    have A1 := Lib.hid (fun W => clampS n m W (by omega) (by omega) h0 h1)
    have A2 := Lib.hid (fun W => clampS k m W (by omega) (by omega) h0 h1)
    have A3 := Lib.hid (fun W => clampU n m W (by omega) (by omega) h0 h1)
    have A4 := Lib.hid (fun W => clampU k m W (by omega) (by omega) h0 h1)
    have A5 := Lib.hid (fun W => clampS (cS n m) m W (by have := cS_range n m; omega) (by have := cS_range n m; omega) h0 h1)
    clear pb
    have r1 := cS_range n m
    have r2 := cS_range k m
    obtain ⟨r10, r11⟩ := r1
    obtain ⟨r20, r21⟩ := r2
    by_cases h8 : m = 8
    all_goals
      have i8 : m = 8 → IntKind.i64.wrap (cS n m % pw (8 * m)) = n ∧ IntKind.i64.wrap (cS k m % pw (8 * m)) = k := fun h => by
        subst h; exact ⟨i64_back _ (by omega) (by omega), i64_back _ (by omega) (by omega)⟩
      first
        | (have j8 := i8 h8; obtain ⟨j1, j2⟩ := j8; have j1' := wrap64_of j1; have j2' := wrap64_of j2; have g8 : 8 ≤ (m : Int) := by omega)
        | have g8 : (m : Int) < 8 := by omega
      clear h8 i8
      go_enter Try.func5, Try.ntmps5
      go_wp2_with (first
        | (go_at_call 14; (first | (with_reducible refine (A1.out _).mono ?_) | (with_reducible refine (A2.out _).mono ?_) | (with_reducible refine (A3.out _).mono ?_) | (with_reducible refine (A4.out _).mono ?_) | (with_reducible refine (A5.out _).mono ?_)); rintro e w' ⟨rfl, ⟨nd, rfl⟩⟩)
        | (go_at_call 21; refine (signed_of _ _ _ h0 h1 (by assumption) (by assumption)).mono ?_; rintro e w' ⟨rfl, ⟨nd, rfl⟩⟩)
        | (go_at_call 18; refine (lives _).mono ?_; rintro e w' ⟨rfl, ⟨nd, rfl⟩⟩))
      go_ret
      exact ⟨rfl, by repeat (first | exact Dr.refl _ | apply Dr.step)⟩
end Go.Proofs.Ytmhgbpgilhboeaa.Pa
