import Ieee.Arith
namespace Go.Proofs.Ytmhgbpgilhboeaa.Math10
set_option linter.unusedVariables false
set_option linter.unusedSimpArgs false
open Ieee

/-- a number over a power of two, rounded to the nearest, of two as near to the even one. -/
def rne (n d : Nat) : Nat := n / 2 ^ d + (if 2 ^ d < 2 * (n % 2 ^ d) ∨ (2 ^ d = 2 * (n % 2 ^ d) ∧ n / 2 ^ d % 2 = 1) then 1 else 0)

theorem rne_big {n d : Nat} (h : 2 * n < 2 ^ d) : rne n d = 0 := by
  unfold rne
  rw [Nat.div_eq_of_lt (by omega), Nat.mod_eq_of_lt (by omega), if_neg (by omega)]

theorem cut_even (neg : Bool) (n d : Nat) : Toward.even.cut neg n d = rne n d := by
  unfold Toward.cut
  simp only [Nat.one_shiftLeft]
  by_cases h : d ≤ n.log2 + 2
  · rw [Nat.min_eq_left h]
    unfold rne
    congr 1
    by_cases h1 : 2 ^ d < 2 * (n % 2 ^ d)
    · simp [h1]
    · by_cases h2 : 2 ^ d = 2 * (n % 2 ^ d)
      · by_cases h3 : n / 2 ^ d % 2 = 1
        · rw [if_pos (Or.inr ⟨h2, h3⟩)]; simp [h3, ← h2]
        · rw [if_neg (by intro h; rcases h with h | h; exact h1 h; exact h3 h.2)]; simp [h3, h1]
      · rw [if_neg (by intro h; rcases h with h | h; exact h1 h; exact h2 h.1)]; simp [h2, h1]
  · rw [Nat.min_eq_right (by omega)]
    have hlt : n < 2 ^ (n.log2 + 1) := Nat.lt_log2_self
    have hp : 2 ^ (n.log2 + 2) = 2 * 2 ^ (n.log2 + 1) := by rw [Nat.pow_succ]; omega
    have hd : 2 ^ (n.log2 + 2) ≤ 2 ^ d := Nat.pow_le_pow_right (by omega) (by omega)
    rw [rne_big (by omega), Nat.div_eq_of_lt (by omega), Nat.mod_eq_of_lt (by omega)]
    have h1 : ¬ 2 ^ (n.log2 + 2) < 2 * n := by omega
    have h2 : ¬ 2 ^ (n.log2 + 2) = 2 * n := by omega
    simp [h1]

/-- how many digits a number has to the base 2. -/
def len (u : Nat) : Nat := if u = 0 then 0 else u.log2 + 1
theorem len_pos {u : Nat} (h : 0 < u) : len u = u.log2 + 1 := by unfold len; rw [if_neg (by omega)]
theorem len_lt (u : Nat) : u < 2 ^ len u := by
  unfold len
  split
  · subst_vars; decide
  · exact Nat.lt_log2_self
theorem len_le {u : Nat} (h : 0 < u) : 2 ^ (len u - 1) ≤ u := by
  rw [len_pos h]; exact Nat.log2_self_le (by omega)
theorem len_half {u : Nat} (h : 0 < u) : len u = len (u / 2) + 1 := by
  rw [len_pos h]
  unfold len
  split
  · have : u = 1 := by omega
    subst this; decide
  · rename_i h2
    rw [Nat.log2_def u, if_pos (by omega)]
theorem len_bound {u n : Nat} (h : u < 2 ^ n) : len u ≤ n := by
  rcases Nat.eq_zero_or_pos u with h0 | h0
  · subst h0; simp [len]
  · have := len_le h0
    rcases Nat.lt_or_ge n (len u) with h1 | h1
    · have : 2 ^ n ≤ 2 ^ (len u - 1) := Nat.pow_le_pow_right (by omega) (by omega)
      omega
    · exact h1

/-- the unit of the last digit that is kept. -/
def unitOf (D : Nat) (L : Int) (mag : Nat) (place : Int) : Int := max ((len mag : Int) + place - D) L
/-- the whole units. -/
def keptOf (D : Nat) (L : Int) (mag : Nat) (place : Int) : Nat :=
  let u := unitOf D L mag place
  if u > place then rne mag (u - place).toNat else mag * 2 ^ (place - u).toNat

theorem nearest_eq (f : Format) (neg : Bool) (mag : Nat) (place : Int) (h : 0 < mag) :
    f.nearest neg mag place = f.word neg (min ((unitOf (f.fractionBits + 1) f.leastPlace mag place - f.leastPlace).toNat * f.binade + keptOf (f.fractionBits + 1) f.leastPlace mag place) f.infRung) := by
  unfold Format.nearest
  rw [if_neg (by omega)]
  have hu : max (place + mag.log2 - f.fractionBits) f.leastPlace = unitOf (f.fractionBits + 1) f.leastPlace mag place := by
    unfold unitOf; rw [len_pos h]; congr 1; omega
  simp only [hu, cut_even]
  unfold keptOf
  simp only
  generalize unitOf (f.fractionBits + 1) f.leastPlace mag place = u
  by_cases hc : u > place
  · rw [if_pos hc, show (place - u).toNat = 0 from by omega]
    simp
  · rw [if_neg hc, show (u - place).toNat = 0 from by omega, Nat.shiftLeft_eq]
    unfold rne
    simp [Nat.mod_one]

/-- what is kept has at most D digits, or is 2 to the power of D. -/
theorem rne_le {n d m : Nat} (h : n < 2 ^ (d + m)) : rne n d ≤ 2 ^ m := by
  unfold rne
  have hq : n / 2 ^ d < 2 ^ m := by
    rw [Nat.div_lt_iff_lt_mul (Nat.two_pow_pos d), ← Nat.pow_add, Nat.add_comm]; exact h
  split <;> omega
theorem kept_le (D : Nat) (L : Int) (mag : Nat) (place : Int) : keptOf D L mag place ≤ 2 ^ D := by
  unfold keptOf
  simp only
  have hl := len_lt mag
  have hu : (len mag : Int) + place - D ≤ unitOf D L mag place := by unfold unitOf; omega
  generalize unitOf D L mag place = u at *
  split
  · refine rne_le (Nat.lt_of_lt_of_le hl (Nat.pow_le_pow_right (by omega) ?_))
    omega
  · rename_i hc
    have : mag * 2 ^ (place - u).toNat < 2 ^ len mag * 2 ^ (place - u).toNat := Nat.mul_lt_mul_of_pos_right hl (Nat.two_pow_pos _)
    rw [← Nat.pow_add] at this
    have h2 : 2 ^ (len mag + (place - u).toNat) ≤ 2 ^ D := Nat.pow_le_pow_right (by omega) (by omega)
    omega
/-- above the least unit it has D digits. -/
theorem kept_ge (D : Nat) (L : Int) (mag : Nat) (place : Int) (h : 0 < mag) (hD : 0 < D) (hu : L < unitOf D L mag place) : 2 ^ (D - 1) ≤ keptOf D L mag place := by
  have he : unitOf D L mag place = (len mag : Int) + place - D := by unfold unitOf at *; omega
  unfold keptOf
  simp only
  have hl := len_le h
  have hp : 0 < len mag := by rw [len_pos h]; omega
  generalize unitOf D L mag place = u at *
  split
  · rename_i hc
    unfold rne
    have : 2 ^ (D - 1) ≤ mag / 2 ^ (u - place).toNat := by
      rw [Nat.le_div_iff_mul_le (Nat.two_pow_pos _), ← Nat.pow_add]
      rw [show D - 1 + (u - place).toNat = len mag - 1 from by omega]
      exact hl
    omega
  · have : 2 ^ (len mag - 1) * 2 ^ (place - u).toNat ≤ mag * 2 ^ (place - u).toNat := Nat.mul_le_mul_right _ hl
    rw [← Nat.pow_add, show len mag - 1 + (place - u).toNat = D - 1 from by omega] at this
    exact this
end Go.Proofs.Ytmhgbpgilhboeaa.Math10
