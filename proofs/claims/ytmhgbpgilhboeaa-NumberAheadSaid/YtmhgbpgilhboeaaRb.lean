/- The reference's rounding shift. -/
import Derived.Test.YtmhgbpgilhboeaaRa
namespace Go.Proofs.Ytmhgbpgilhboeaa.Ra
set_option linter.unusedVariables false
set_option linter.unusedSimpArgs false
open Go.RowKit Wd Go.Proofs.Ytmhgbpgilhboeaa.Math10

theorem shifted_big (u : Nat) (n : Int) (w : World) (hu : (u : Int) ≤ 18446744073709551615) (h : 64 < n) :
    Calls Try.prog 51 #[.int .u64 u, .int .i64 n] w fun e w' => e = .returned (.int .u64 (rne u n.toNat)) ∧ Dr w w' := by
  have hr : rne u n.toNat = 0 := rne_big (Nat.lt_of_lt_of_le (show 2 * u < 2 ^ 65 by omega) (Nat.pow_le_pow_right (by omega) (by omega)))
  rw [hr]
  clear hr
  go_enter Try.func51, Try.ntmps51
  go_wp2
  go_ret
  exact ⟨rfl, Dr.refl _⟩

theorem rne_close (u d : Nat) (hu : (u : Int) ≤ 18446744073709551615) (V : Int)
    (h : (pw d < (u : Int) % pw (d + 1) ∧ V = IntKind.u64.wrap (IntKind.u64.wrap ((u : Int) / pw (d + 1)) + 1)) ∨
      ((u : Int) % pw (d + 1) = pw d ∧ ((IntKind.u64.wrap ((u : Int) / pw (d + 1))).tmod 2 == 1) = true ∧ V = IntKind.u64.wrap (IntKind.u64.wrap ((u : Int) / pw (d + 1)) + 1)) ∨
      ((u : Int) % pw (d + 1) ≤ pw d ∧ ¬ (u : Int) % pw (d + 1) = pw d ∧ V = IntKind.u64.wrap ((u : Int) / pw (d + 1))) ∨
      ((u : Int) % pw (d + 1) = pw d ∧ ((IntKind.u64.wrap ((u : Int) / pw (d + 1))).tmod 2 == 1) = false ∧ V = IntKind.u64.wrap ((u : Int) / pw (d + 1)))) :
    V = ((rne u (d + 1) : Nat) : Int) := by
  have hR : (u : Int) % pw (d + 1) = ((u % 2 ^ (d + 1) : Nat) : Int) := by rw [pw_eq]; exact (Int.natCast_emod _ _).symm
  have hD : (u : Int) / pw (d + 1) = ((u / 2 ^ (d + 1) : Nat) : Int) := by rw [pw_eq]; exact (Int.natCast_ediv _ _).symm
  have hl : u / 2 ^ (d + 1) ≤ u / 2 := by
    rw [Nat.pow_succ, Nat.mul_comm, ← Nat.div_div_eq_div_mul]; exact Nat.div_le_self _ _
  have hP : pw d = ((2 ^ d : Nat) : Int) := pw_eq d
  rw [hR, hD, hP] at h
  rw [rne_cases]
  clear hR hD hP
  generalize u % 2 ^ (d + 1) = r at *
  generalize u / 2 ^ (d + 1) = q at *
  generalize 2 ^ d = p at *
  rw [u64_in (x := (q : Int)) (by omega) (by omega), u64_in (x := (q : Int) + 1) (by omega) (by omega)] at h
  rw [show (2 : Int) = ((2 : Nat) : Int) from rfl, tmod_nat, show ((1 : Int)) = ((1 : Nat) : Int) from rfl] at h
  simp only [beq_iff_eq, beq_eq_false_iff_ne] at h
  rcases h with ⟨a, rfl⟩ | ⟨a, b, rfl⟩ | ⟨a, b, rfl⟩ | ⟨a, b, rfl⟩
  · rw [if_pos (by omega)]; omega
  · rw [if_pos (by omega)]; omega
  · rw [if_neg (by omega)]
  · rw [if_neg (by omega)]

theorem shifted_mid (u d : Nat) (w : World) (hu : (u : Int) ≤ 18446744073709551615) (h : d < 63) :
    Calls Try.prog 51 #[.int .u64 u, .int .i64 ((d + 1 : Nat) : Int)] w fun e w' => e = .returned (.int .u64 (rne u (d + 1))) ∧ Dr w w' := by
  have hp := pw_pos (d + 1)
  have hp0 : (pw (d + 1) == 0) = false := by rw [beq_eq_false_iff_ne]; omega
  have h64 : (((d + 1 : Nat) : Int) == 64) = false := by rw [beq_eq_false_iff_ne]; omega
  go_enter Try.func51, Try.ntmps51
  go_wp2
  go_quiet ((go_at_call 44; exact quiet1 (power_any _ _ (by omega) (by omega))))
  go_wp2
  all_goals
    go_ret
    refine ⟨ret_u64 (rne_close u d hu _ ?_), Dr.step (Dr.refl _) _⟩
    first
      | exact Or.inl ⟨by assumption, rfl⟩
      | exact Or.inr (Or.inl ⟨by assumption, by assumption, rfl⟩)
      | exact Or.inr (Or.inr (Or.inl ⟨by assumption, by assumption, rfl⟩))
      | exact Or.inr (Or.inr (Or.inr ⟨by assumption, by assumption, rfl⟩))

theorem rne64 (u : Nat) (hu : (u : Int) ≤ 18446744073709551615) : rne u 64 = if pw 63 < (u : Int) then 1 else 0 := by
  have hP : pw 63 = ((2 ^ 63 : Nat) : Int) := pw_eq 63
  rw [rne_cases, hP, Nat.mod_eq_of_lt (show u < 2 ^ (63 + 1) by omega), Nat.div_eq_of_lt (show u < 2 ^ (63 + 1) by omega)]
  by_cases h : 2 ^ 63 < u
  · rw [if_pos (Or.inl h), if_pos (by omega)]
  · rw [if_neg (by omega), if_neg (by omega)]
theorem shifted_64 (u : Nat) (w : World) (hu : (u : Int) ≤ 18446744073709551615) :
    Calls Try.prog 51 #[.int .u64 u, .int .i64 64] w fun e w' => e = .returned (.int .u64 (rne u 64)) ∧ Dr w w' := by
  have HN := Lib.hid (rne64 u hu)
  go_enter Try.func51, Try.ntmps51
  go_wp2_with (go_at_call 44; refine (power_any _ _ (by omega) (by omega)).mono ?_; rintro e w' ⟨rfl, ⟨nd, rfl⟩⟩)
  · go_ret
    exact ⟨ret_u64 (by rw [HN.out, if_neg (by omega)]; rfl), Dr.step (Dr.refl _) _⟩
  · go_ret
    exact ⟨ret_u64 (by rw [HN.out, if_neg (by omega)]; rfl), Dr.step (Dr.refl _) _⟩
  · go_ret
    exact ⟨ret_u64 (by rw [HN.out, if_pos (by omega)]; rfl), Dr.step (Dr.refl _) _⟩

theorem shifted_any (u : Nat) (n : Int) (w : World) (hu : (u : Int) ≤ 18446744073709551615) (h : 0 < n) :
    Calls Try.prog 51 #[.int .u64 u, .int .i64 n] w fun e w' => e = .returned (.int .u64 (rne u n.toNat)) ∧ Dr w w' := by
  by_cases h1 : 64 < n
  · exact shifted_big u n w hu h1
  · by_cases h2 : n = 64
    · subst h2
      exact shifted_64 u w hu
    · obtain ⟨d, hd⟩ : ∃ d : Nat, n = ((d + 1 : Nat) : Int) := ⟨(n - 1).toNat, by omega⟩
      subst hd
      rw [Int.toNat_natCast]
      exact shifted_mid u d w hu (by omega)
end Go.Proofs.Ytmhgbpgilhboeaa.Ra
