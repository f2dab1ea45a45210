/- Floats whose numbers are exact: what is written is read again; how two stand to each other; their whole part. -/
import Derived.Test.YtmhgbpgilhboeaaMath
import Derived.Laws.FloatArith
namespace Go.Proofs.Ytmhgbpgilhboeaa.Math10
set_option linter.unusedVariables false
set_option linter.unusedSimpArgs false
open Ieee

theorem rne_zero (m : Nat) : rne m 0 = m := by unfold rne; simp [Nat.mod_one]
theorem rne_scale (m k d : Nat) : rne (m * 2 ^ k) (d + k) = rne m d := by
  unfold rne
  have hk := Nat.two_pow_pos k
  rw [Nat.pow_add, Nat.mul_div_mul_right _ _ hk, Nat.mul_mod_mul_right]
  have e1 : (2 ^ d * 2 ^ k < 2 * (m % 2 ^ d * 2 ^ k)) ↔ 2 ^ d < 2 * (m % 2 ^ d) := by
    rw [← Nat.mul_assoc]; exact Nat.mul_lt_mul_right hk
  have e2 : (2 ^ d * 2 ^ k = 2 * (m % 2 ^ d * 2 ^ k)) ↔ 2 ^ d = 2 * (m % 2 ^ d) := by
    rw [← Nat.mul_assoc]; exact Nat.mul_right_cancel_iff hk
  simp only [e1, e2]
theorem len_scale (m k : Nat) (h : 0 < m) : len (m * 2 ^ k) = len m + k := by
  induction k with
  | zero => simp
  | succ k ih =>
    have hp : 0 < m * 2 ^ (k + 1) := Nat.mul_pos h (Nat.two_pow_pos _)
    rw [len_half hp, Nat.pow_succ, ← Nat.mul_assoc, Nat.mul_div_cancel _ (by omega), ih]
    omega
theorem nearest_scale (f : Format) (s : Bool) (m k : Nat) (p : Int) : f.nearest s (m * 2 ^ k) p = f.nearest s m (p + k) := by
  rcases Nat.eq_zero_or_pos m with h | h
  · subst h; simp [Format.nearest]
  have hp : 0 < m * 2 ^ k := Nat.mul_pos h (Nat.two_pow_pos _)
  rw [nearest_eq _ _ _ _ hp, nearest_eq _ _ _ _ h]
  generalize f.fractionBits + 1 = D
  have hu : unitOf D f.leastPlace (m * 2 ^ k) p = unitOf D f.leastPlace m (p + k) := by
    unfold unitOf; rw [len_scale _ _ h]; congr 1; omega
  have hk : keptOf D f.leastPlace (m * 2 ^ k) p = keptOf D f.leastPlace m (p + k) := by
    unfold keptOf
    simp only [hu]
    generalize unitOf D f.leastPlace m (p + k) = u
    by_cases h1 : u > p + k
    · rw [if_pos h1, if_pos (show u > p by omega), show (u - p).toNat = (u - (p + k)).toNat + k from by omega, rne_scale]
    · rw [if_neg h1]
      by_cases h2 : u > p
      · rw [if_pos h2, show k = (p + k - u).toNat + (u - p).toNat from by omega, Nat.pow_add, ← Nat.mul_assoc]
        have := rne_scale (m * 2 ^ (p + k - u).toNat) (u - p).toNat 0
        rw [Nat.zero_add, rne_zero] at this
        rw [this]
        congr 2
        omega
      · rw [if_neg h2, Nat.mul_assoc, ← Nat.pow_add]
        congr 2
        omega
  rw [hu, hk]

/-- the rung that is read out of a word. -/
theorem read_word (f : Format) (s : Bool) (r : Nat) (h : r < f.signWeight) :
    f.read (f.word s r) = if r < f.binade then .number s r f.leastPlace
      else if r < f.infRung then .number s (f.binade + r % f.binade) (f.leastPlace + (r / f.binade - 1 : Nat))
      else if r = f.infRung then .infinity s else .nan s (r - f.infRung) := by
  have h1 : f.word s r / f.signWeight % 2 = (if s then 1 else 0) ∧ f.word s r % f.signWeight = r := by
    unfold Format.word
    cases s
    · simp [Nat.div_eq_of_lt h, Nat.mod_eq_of_lt h]
    · simp only [if_true]
      rw [Nat.add_div_left _ (by omega), Nat.add_mod_left, Nat.div_eq_of_lt h, Nat.mod_eq_of_lt h]
      exact ⟨rfl, rfl⟩
  unfold Format.read
  rw [h1.1, h1.2]
  cases s <;> simp

/-- what fits is written exactly, and read so again. -/
theorem read_nearest (f : Format) (s : Bool) (m : Nat) (e : Int) (h : 0 < m) (hl : len m ≤ f.fractionBits + 1) (he : f.leastPlace ≤ e)
    (hr : (unitOf (f.fractionBits + 1) f.leastPlace m e - f.leastPlace).toNat * f.binade + 2 ^ (f.fractionBits + 1) ≤ f.infRung) :
    f.read (f.nearest s m e) = .number s (m * 2 ^ (e - unitOf (f.fractionBits + 1) f.leastPlace m e).toNat) (unitOf (f.fractionBits + 1) f.leastPlace m e) := by
  rw [nearest_eq _ _ _ _ h]
  have hge := kept_ge (f.fractionBits + 1) f.leastPlace m e h (by omega)
  have hk : keptOf (f.fractionBits + 1) f.leastPlace m e = m * 2 ^ (e - unitOf (f.fractionBits + 1) f.leastPlace m e).toNat := by
    unfold keptOf; simp only; rw [if_neg]; unfold unitOf; omega
  have hlt : keptOf (f.fractionBits + 1) f.leastPlace m e < 2 ^ (f.fractionBits + 1) := by
    rw [hk]
    have h1 := len_lt m
    have : m * 2 ^ (e - unitOf (f.fractionBits + 1) f.leastPlace m e).toNat < 2 ^ len m * 2 ^ (e - unitOf (f.fractionBits + 1) f.leastPlace m e).toNat := Nat.mul_lt_mul_of_pos_right h1 (Nat.two_pow_pos _)
    rw [← Nat.pow_add] at this
    refine Nat.lt_of_lt_of_le this (Nat.pow_le_pow_right (by omega) ?_)
    unfold unitOf; omega
  rw [← hk]
  have hu : f.leastPlace ≤ unitOf (f.fractionBits + 1) f.leastPlace m e := by unfold unitOf; omega
  have hb : 2 ^ (f.fractionBits + 1) = 2 * f.binade := by unfold Format.binade; rw [Nat.pow_succ]; omega
  have hb2 : 2 ^ (f.fractionBits + 1 - 1) = f.binade := rfl
  rw [hb2] at hge
  have hbp : 0 < f.binade := Nat.two_pow_pos _
  have hs := Format.infRung_lt f
  rw [hb] at hlt hr
  generalize keptOf (f.fractionBits + 1) f.leastPlace m e = q at *
  generalize unitOf (f.fractionBits + 1) f.leastPlace m e = u at *
  obtain ⟨x, hx⟩ : ∃ x : Nat, (u - f.leastPlace).toNat = x := ⟨_, rfl⟩
  rw [hx] at hr ⊢
  rw [Nat.min_eq_left (by omega), read_word _ _ _ (by omega)]
  by_cases c : q < f.binade
  · have h0 : x = 0 := by
      rcases Nat.eq_zero_or_pos x with h0 | h0
      · exact h0
      · have := hge (by omega); omega
    subst h0
    rw [Nat.zero_mul, Nat.zero_add, if_pos c]
    congr 1; omega
  · have e1 : x * f.binade + q = (q - f.binade) + f.binade * (x + 1) := by
      rw [Nat.mul_add, Nat.mul_comm]; omega
    have e2 : (x * f.binade + q) / f.binade = x + 1 := by
      rw [e1, Nat.add_mul_div_left _ _ hbp, Nat.div_eq_of_lt (by omega)]; omega
    have e3 : (x * f.binade + q) % f.binade = q - f.binade := by
      rw [e1, Nat.add_mul_mod_self_left, Nat.mod_eq_of_lt (by omega)]
    have e4 : f.binade ≤ x * f.binade + q := by omega
    rw [e2, e3, if_neg (by omega), if_pos (by omega)]
    congr 1 <;> omega

theorem read_zero (f : Format) (s : Bool) (e : Int) : f.read (f.nearest s 0 e) = .number s 0 f.leastPlace := by
  have : f.nearest s 0 e = f.word s 0 := by simp [Format.nearest]
  rw [this, read_word _ _ _ (Nat.two_pow_pos _), if_pos (show 0 < f.binade from Nat.two_pow_pos _)]

theorem cut_zero (neg : Bool) (n d : Nat) : Toward.zero.cut neg n d = n / 2 ^ d := by
  unfold Toward.cut
  simp only [Nat.one_shiftLeft, Bool.toNat_false, Nat.add_zero]
  by_cases h : d ≤ n.log2 + 2
  · rw [Nat.min_eq_left h]
  · rw [Nat.min_eq_right (by omega)]
    have hlt : n < 2 ^ (n.log2 + 1) := Nat.lt_log2_self
    have hp : 2 ^ (n.log2 + 2) = 2 * 2 ^ (n.log2 + 1) := by rw [Nat.pow_succ]; omega
    have hd : 2 ^ (n.log2 + 2) ≤ 2 ^ d := Nat.pow_le_pow_right (by omega) (by omega)
    rw [Nat.div_eq_of_lt (by omega), Nat.div_eq_of_lt (by omega)]

/-- a number with its sign. -/
def sgn (s : Bool) (m : Nat) : Int := if s then -(m : Int) else m
/-- the whole part of a number. -/
def whole (m : Nat) (e : Int) : Nat := if 0 ≤ e then m * 2 ^ e.toNat else m / 2 ^ (-e).toNat
theorem integral_eq (s : Bool) (m : Nat) (e : Int) : (Datum.number s m e).integral .zero = .number s (whole m e) 0 := by
  unfold Datum.integral whole
  simp only [cut_zero]
  split
  · rw [show (-e).toNat = 0 from by omega, Nat.shiftLeft_eq]; simp
  · rw [show e.toNat = 0 from by omega]; simp
theorem toInt_eq (s : Bool) (m : Nat) (e : Int) : (Datum.number s m e).toInt .zero = some (sgn s (whole m e)) := by
  unfold Datum.toInt
  rw [integral_eq]
  simp [signed, sgn]
/-- A word that is a whole number. -/
def IsInt (f : Format) (w : Nat) (s : Bool) (M : Nat) : Prop := ∃ a u, f.read w = .number s a u ∧ (0 ≤ u → M = a * 2 ^ u.toNat) ∧ (u < 0 → a = M * 2 ^ (-u).toNat)
theorem IsInt.toInt {f : Format} {w : Nat} {s : Bool} {M : Nat} (h : IsInt f w s M) : (f.read w).toInt .zero = some (sgn s M) := by
  obtain ⟨a, u, hr, h1, h2⟩ := h
  rw [hr, toInt_eq]
  unfold whole
  split
  · rw [h1 (by assumption)]
  · rw [h2 (by omega), Nat.mul_div_cancel _ (Nat.two_pow_pos _)]
theorem compare_mul (c : Nat) (hc : 0 < c) (x y : Int) : compare (x * c) (y * c) = compare x y := by
  have hc' : (0 : Int) < c := by omega
  rcases Int.lt_trichotomy x y with h | h | h
  · rw [Int.compare_eq_lt.2 h, Int.compare_eq_lt.2 (Int.mul_lt_mul_of_pos_right h hc')]
  · subst h; simp
  · rw [Int.compare_eq_gt.2 h, Int.compare_eq_gt.2 (Int.mul_lt_mul_of_pos_right h hc')]
theorem signed_eq (s : Bool) (m k : Nat) : signed s m k = sgn s (m * 2 ^ k) := by
  unfold signed sgn; rw [Nat.shiftLeft_eq]
theorem sgn_mul (s : Bool) (m c : Nat) : sgn s (m * c) = sgn s m * c := by
  unfold sgn; cases s <;> simp [Int.neg_mul]
theorem IsInt.order {f : Format} {w v : Nat} {s t : Bool} {M K : Nat} (h : IsInt f w s M) (k : IsInt f v t K) : f.order w v = some (compare (sgn s M) (sgn t K)) := by
  obtain ⟨a, u, hr, h1, h2⟩ := h
  obtain ⟨b, x, kr, k1, k2⟩ := k
  unfold Format.order
  rw [hr, kr]
  simp only [Datum.order, signed_eq]
  congr 1
  have hpow : ∀ i j : Nat, 2 ^ (i + j) = 2 ^ i * 2 ^ j := fun i j => Nat.pow_add 2 i j
  by_cases hb : min u x ≤ 0
  · have e1 : a * 2 ^ (u - min u x).toNat = M * 2 ^ (-(min u x)).toNat := by
      by_cases hu : 0 ≤ u
      · rw [h1 hu, Nat.mul_assoc, ← Nat.pow_add]; congr 2; omega
      · rw [h2 (by omega), Nat.mul_assoc, ← Nat.pow_add]; congr 2; omega
    have e2 : b * 2 ^ (x - min u x).toNat = K * 2 ^ (-(min u x)).toNat := by
      by_cases hu : 0 ≤ x
      · rw [k1 hu, Nat.mul_assoc, ← Nat.pow_add]; congr 2; omega
      · rw [k2 (by omega), Nat.mul_assoc, ← Nat.pow_add]; congr 2; omega
    rw [e1, e2, sgn_mul, sgn_mul, compare_mul _ (Nat.two_pow_pos _)]
  · have e1 : M = a * 2 ^ (u - min u x).toNat * 2 ^ (min u x).toNat := by
      rw [h1 (by omega), Nat.mul_assoc, ← Nat.pow_add]; congr 2; omega
    have e2 : K = b * 2 ^ (x - min u x).toNat * 2 ^ (min u x).toNat := by
      rw [k1 (by omega), Nat.mul_assoc, ← Nat.pow_add]; congr 2; omega
    rw [e1, e2, sgn_mul s (a * _), sgn_mul t (b * _), compare_mul _ (Nat.two_pow_pos _)]

/-- The whole number of a float, written again: it is that whole number. -/
theorem whole_isInt (s : Bool) (m : Nat) (e : Int) (hm : m < 2 ^ 53) (he : e ≤ 971) : IsInt double (double.write ((Datum.number s m e).integral .zero)) s (whole m e) := by
  rw [integral_eq]
  show IsInt double (double.nearest s (whole m e) 0) s (whole m e)
  have h1 : double.fractionBits + 1 = 53 := rfl
  have h2 : double.leastPlace = -1074 := by decide
  have h3 : double.binade = 4503599627370496 := by decide
  have h4 : double.infRung = 9218868437227405312 := by decide
  -- the whole part is some number of at most 53 digits, scaled
  obtain ⟨a, k, hw, ha, hk⟩ : ∃ a k : Nat, whole m e = a * 2 ^ k ∧ a < 2 ^ 53 ∧ k ≤ 971 := by
    unfold whole
    split
    · exact ⟨m, e.toNat, rfl, hm, by omega⟩
    · exact ⟨m / 2 ^ (-e).toNat, 0, by simp, Nat.lt_of_le_of_lt (Nat.div_le_self _ _) hm, by omega⟩
  rw [hw]
  rcases Nat.eq_zero_or_pos a with h0 | h0
  · subst h0
    rw [Nat.zero_mul]
    exact ⟨0, _, read_zero _ _ _, by simp, by simp⟩
  · have hl : len a ≤ 53 := len_bound ha
    have hl0 := len_pos h0
    rw [nearest_scale, Int.zero_add]
    have hu1 : unitOf (double.fractionBits + 1) double.leastPlace a k ≤ k := by rw [h1, h2]; unfold unitOf; omega
    refine ⟨_, _, read_nearest double s a k h0 (by rw [h1]; exact hl) (by rw [h2]; omega) ?_, ?_, ?_⟩
    · rw [h2, h3, h4, h1] at *
      have : (unitOf 53 (-1074) a k - -1074).toNat ≤ 2045 := by omega
      generalize (unitOf 53 (-1074) a k - -1074).toNat = x at *
      omega
    · intro hu
      rw [Nat.mul_assoc, ← Nat.pow_add]; congr 2; omega
    · intro hu
      rw [Nat.mul_assoc, ← Nat.pow_add]; congr 2; omega
/-- A whole number of at most 53 digits, written: it is that whole number. -/
theorem nearest_isInt (s : Bool) (m : Nat) (hm : m < 2 ^ 53) : IsInt double (double.nearest s m 0) s m := by
  have := whole_isInt s m 0 hm (by omega)
  rw [integral_eq] at this
  have hw : whole m 0 = m := by unfold whole; simp
  rwa [hw] at this
end Go.Proofs.Ytmhgbpgilhboeaa.Math10
