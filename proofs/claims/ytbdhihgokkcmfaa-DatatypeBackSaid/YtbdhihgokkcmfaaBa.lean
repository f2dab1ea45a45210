/- bare, within; names. -/
import Derived.Test.YtbdhihgokkcmfaaTy
import Derived.Test.YtbdhihgokkcmfaaMw
import Derived.WalkLawsBesides
import Derived.StillTailTactics
import Derived.Deep.LoopGhost
namespace Go.Proofs.Ytbdhihgokkcmfaa.Ty9
set_option linter.unusedVariables false
set_option linter.unusedSimpArgs false
open Go.RowKit Wd

set_option maxHeartbeats 1000000 in
theorem bare_any (t : Ty) (v : Value) (w : World) (f d b n : Bool) (ht : TyAt w w.heap.size t v) :
    Calls Try.prog 48 #[v, .bool f, .bool d, .bool b, .bool n] w fun e w' => e = .returned (.bool ((f || decide (t.fs.length = 0)) && (d || decide (t.ds.length = 0)) && (b || decide (t.bs.length = 0)) && (n || decide (t.ns.length = 0)))) ∧ Below w.heap.size w w' := by
  cases ht with
  | mk c wd bb fs ds bs ns fA dA bA nA fC dC bC nC fb fo db dO bbb bo nb nO fv bv hf hd hb hn hfz hnz hnr hcap hfA hdA hbA hnA hf0 hf1 hf2 hft hd0 hb0 hbt hn0' hn1' =>
  clear hfz hnz hnr hcap hfA hdA hbA hnA hf0 hf1 hf2 hft hd0 hb0 hbt hn0' hn1'
  go_enter Try.func48, Try.ntmps48
  go_wp2
  all_goals
    go_ret
    refine ⟨congrArg (fun b => Ending.returned (Value.bool b)) (Bool.eq_iff_iff.mpr ?_), (Below.refl _ _).alloc (Nat.le_refl _) _⟩
    simp_all [Ty.fs, Ty.ds, Ty.bs, Ty.ns]

set_option maxHeartbeats 1000000 in
theorem number_any (t : Ty) (v : Value) (w : World) (ht : TyAt w w.heap.size t v) :
    Calls Try.prog 55 #[v] w fun e w' => e = .returned (.bool (numB t)) ∧ Below w.heap.size w w' := by
  cases ht with
  | mk c wd bb fs ds bs ns fA dA bA nA fC dC bC nC fb fo db dO bbb bo nb nO fv bv hf hd hb hn hfz hnz hnr hcap hfA hdA hbA hnA hf0 hf1 hf2 hft hd0 hb0 hbt hn0' hn1' =>
  clear hfz hnz hnr hcap hfA hdA hbA hnA hf0 hf1 hf2 hft hd0 hb0 hbt hn0' hn1'
  go_enter Try.func55, Try.ntmps55
  go_wp2
  all_goals
    go_ret
    refine ⟨congrArg (fun b => Ending.returned (Value.bool b)) (Bool.eq_iff_iff.mpr ?_), (Below.refl _ _).alloc (Nat.le_refl _) _⟩
    rw [numB_iff]
    simp only [Ty.fs, Ty.ds, Ty.bs, Ty.ns, Ty.c, Ty.w, Bool.and_eq_true, Bool.or_eq_true, decide_eq_true_eq, beq_iff_eq, Bool.false_eq_true, reduceCtorEq, true_iff, false_iff, not_and, not_or]
    try simp only [beq_iff_eq, beq_eq_false_iff_ne, ne_eq] at *
    omega

set_option maxHeartbeats 1000000 in
theorem within_any (t : Ty) (v : Value) (x : Int) (w : World) (ht : TyAt w w.heap.size t v) (h1 : 1 ≤ t.w) (h8 : t.w ≤ 8) (hc : t.c = 1 ∨ t.c = 2) (hx0 : -9223372036854775808 ≤ x) (hx1 : x ≤ 9223372036854775807) :
    Calls Try.prog 73 #[.int .i64 x, v] w fun e w' => e = .returned (.bool (fitsB x t.c t.w)) ∧ Below w.heap.size w w' := by
  cases ht with
  | mk c wd bb fs ds bs ns fA dA bA nA fC dC bC nC fb fo db dO bbb bo nb nO fv bv hf hd hb hn hfz hnz hnr hcap hfA hdA hbA hnA hf0 hf1 hf2 hft hd0 hb0 hbt hn0' hn1' =>
  clear hfz hnz hnr hcap hfA hdA hbA hnA hf0 hf1 hf2 hft hd0 hb0 hbt hn0' hn1'
  simp only [Ty.w, Ty.c] at *
  go_enter Try.func73, Try.ntmps73
  have hw : wd = 1 ∨ wd = 2 ∨ wd = 3 ∨ wd = 4 ∨ wd = 5 ∨ wd = 6 ∨ wd = 7 ∨ wd = 8 := by omega
  rcases hw with rfl | rfl | rfl | rfl | rfl | rfl | rfl | rfl
  all_goals rcases hc with rfl | rfl
  all_goals go_wp2
  all_goals
    go_ret
    refine ⟨congrArg (fun b => Ending.returned (Value.bool b)) (Bool.eq_iff_iff.mpr ?_), (Below.refl _ _).alloc (Nat.le_refl _) _⟩
    simp [fitsB, wrap64]
    try omega

theorem div_step (x m : Nat) (h : 0 < m) : x / 256 / 256 ^ (m - 1) = x / 256 ^ m := by
  obtain ⟨k, rfl⟩ : ∃ k, m = k + 1 := ⟨m - 1, by omega⟩
  rw [Nat.div_div_eq_div_mul, Nat.add_sub_cancel, Nat.pow_succ, Nat.mul_comm]

set_option maxHeartbeats 1000000 in
theorem Fits_any (u n : Nat) (w : World) (hn : n ≤ 8) (hu : (u : Int) ≤ 18446744073709551615) :
    Calls Try.prog 85 #[.int .u64 u, .int .i64 n] w fun e w' => e = .returned (.bool (decide (u < 256 ^ n))) ∧ Dr w w' := by
  go_enter Try.func85, Try.ntmps85
  go_wp2
  go_loop [0, 5] (fun v i => ∃ x k : Nat, v = .int .u64 x ∧ i = .int .i64 k ∧ k ≤ n ∧ x ≤ u ∧ x / 256 ^ (n - k) = u / 256 ^ n) (fun _ i => n - (intOf i).toNat)
  case atStart => exact ⟨u, 0, rfl, rfl, Nat.zero_le _, Nat.le_refl _, rfl⟩
  case round =>
    obtain ⟨x, k, rfl, rfl, hk, hx, he⟩ := hrel
    have HE := Lib.hid he
    clear he
    by_cases hlt : k < n
    · go_wp2
      go_round
      case rel =>
        refine ⟨x / 256, k + 1, by go_num, by go_num, by omega, by omega, ?_⟩
        rw [← HE.out, ← div_step x (n - k) (by omega)]
        rfl
      case measure => simp [intOf]; omega
    · go_wp2
      go_ret
      obtain rfl : k = n := by omega
      refine ⟨congrArg (fun b => Ending.returned (Value.bool b)) (Bool.eq_iff_iff.mpr ?_), Dr.refl _⟩
      have := HE.out
      rw [Nat.sub_self, Nat.pow_zero, Nat.div_one] at this
      simp only [beq_iff_eq, decide_eq_true_eq]
      rw [← Nat.div_eq_zero_iff_lt (Nat.pow_pos (by omega)), ← this]
      omega

theorem half_step {h m k : Nat} (hk : k < m) (he : h * 2 ^ (m - k) = 2 ^ (m - 1)) (hm : m ≤ 56) : h ≤ 18014398509481984 ∧ 2 * h * 2 ^ (m - (k + 1)) = 2 ^ (m - 1) := by
  have e1 : 2 * h * 2 ^ (m - (k + 1)) = 2 ^ (m - 1) := by
    rw [← he, show m - k = m - (k + 1) + 1 by omega, Nat.pow_succ, Nat.mul_comm 2 h, Nat.mul_assoc, Nat.mul_comm 2]
  refine ⟨?_, e1⟩
  have h1 : 2 * h * 1 ≤ 2 * h * 2 ^ (m - (k + 1)) := Nat.mul_le_mul_left _ (Nat.two_pow_pos _)
  have h2 : 2 ^ (m - 1) ≤ 2 ^ 55 := Nat.pow_le_pow_right (by omega) (by omega)
  have h3 : (2:Nat) ^ 55 = 36028797018963968 := by decide
  omega

set_option maxHeartbeats 1000000 in
theorem fits_any (t : Ty) (v : Value) (x : Int) (w : World) (ht : TyAt w w.heap.size t v) (h1 : 1 ≤ t.w) (h8 : t.w ≤ 8) (hc : t.c = 1 ∨ t.c = 2) (hx0 : -9223372036854775808 ≤ x) (hx1 : x ≤ 9223372036854775807) :
    Calls Try.prog 75 #[.int .i64 x, v] w fun e w' => e = .returned (.bool (fitsB x t.c t.w)) ∧ Below w.heap.size w w' := by
  cases ht with
  | mk c wd bb fs ds bs ns fA dA bA nA fC dC bC nC fb fo db dO bbb bo nb nO fv bv hf hd hb hn hfz hnz hnr hcap hfA hdA hbA hnA hf0 hf1 hf2 hft hd0 hb0 hbt hn0' hn1' =>
  clear hfz hnz hnr hcap hfA hdA hbA hnA hf0 hf1 hf2 hft hd0 hb0 hbt hn0' hn1'
  simp only [Ty.w, Ty.c] at *
  obtain ⟨q, rfl⟩ : ∃ q : Nat, wd = q := ⟨wd.toNat, by omega⟩
  go_enter Try.func75, Try.ntmps75
  by_cases hc2 : c = 2
  · subst hc2
    clear hc
    by_cases hx : 0 ≤ x
    · obtain ⟨u, rfl⟩ : ∃ u : Nat, x = u := ⟨x.toNat, by omega⟩
      go_wp2_with (go_at_call 85; refine (Fits_any u q _ (by omega) (by omega)).mono ?_; rintro e w' ⟨rfl, hd⟩)
      go_ret
      refine ⟨congrArg (fun b => Ending.returned (Value.bool b)) (Bool.eq_iff_iff.mpr ?_), below_dr (below_new _ _) hd⟩
      have e : (256 : Int) ^ q = ((256 ^ q : Nat) : Int) := (Int.natCast_pow 256 q).symm
      simp [fitsB]
      rw [e]
      exact Int.ofNat_lt.symm
    · go_wp2
      go_ret
      refine ⟨congrArg (fun b => Ending.returned (Value.bool b)) (Bool.eq_iff_iff.mpr ?_), (Below.refl _ _).alloc (Nat.le_refl _) _⟩
      simp [fitsB]
      omega
  · obtain rfl : c = 1 := by omega
    clear hc hc2
    by_cases h8' : q = 8
    · subst h8'
      go_wp2
      go_ret
      refine ⟨congrArg (fun b => Ending.returned (Value.bool b)) (Bool.eq_iff_iff.mpr ?_), (Below.refl _ _).alloc (Nat.le_refl _) _⟩
      simp [fitsB]
      omega
    · have hbx := Bx.new w 28 #[.int .i64 1, .int .i64 q, .bool bb, .slice fA fs.length fC, .slice dA ds.length dC, .slice bA bs.length bC, .slice nA ns.length nC]
      have c1 := hbx.cell 1
      go_wp2
      go_loop [5, 6] (fun v i => ∃ h k : Nat, v = .int .i64 h ∧ i = .int .i64 k ∧ 1 ≤ k ∧ k ≤ 8 * q ∧ h * 2 ^ (8 * q - k) = 2 ^ (8 * q - 1)) (fun _ i => 8 * q - (intOf i).toNat)
      case atStart => exact ⟨1, 1, rfl, rfl, Nat.le_refl _, by omega, Nat.one_mul _⟩
      case round =>
        obtain ⟨h, k, rfl, rfl, hk1, hk, he⟩ := hrel
        by_cases hlt : k < 8 * q
        · obtain ⟨hb1, hs⟩ := half_step hlt he (by omega)
          have HS := Lib.hid hs
          clear he hs
          go_wp2
          go_round
          case rel => exact ⟨2 * h, k + 1, by go_num, by go_num, by omega, by omega, HS.out⟩
          case measure => simp [intOf]; omega
        · obtain rfl : k = 8 * q := by omega
          rw [Nat.sub_self, Nat.pow_zero, Nat.mul_one] at he
          have hh : (h : Int) = 256 ^ q / 2 := by
            rw [he]
            have hq : q = 1 ∨ q = 2 ∨ q = 3 ∨ q = 4 ∨ q = 5 ∨ q = 6 ∨ q = 7 := by omega
            rcases hq with rfl | rfl | rfl | rfl | rfl | rfl | rfl <;> rfl
          have hb1 : h ≤ 36028797018963968 := by
            rw [he]
            exact Nat.le_trans (Nat.pow_le_pow_right (by omega) (show 8 * q - 1 ≤ 55 by omega)) (Nat.le_of_eq (by decide))
          have HH := Lib.hid hh
          clear he hh
          go_wp2
          all_goals
            go_ret
            refine ⟨congrArg (fun b => Ending.returned (Value.bool b)) (Bool.eq_iff_iff.mpr ?_), (Below.refl _ _).alloc (Nat.le_refl _) _⟩
            simp only [fitsB, Int.toNat_natCast, ← HH.out]
            simp
            try omega
end Go.Proofs.Ytbdhihgokkcmfaa.Ty9
