/- bare, number, within, fits. -/
import Derived.Test.YtbdhihgokkcmfaaTm
import Derived.Test.YtbdhihgokkcmfaaTs
import Derived.WalkLawsBesides
import Derived.StillTailTactics
import Derived.Deep.LoopGhost
namespace Go.Proofs.Ytbdhihgokkcmfaa.Ty9
set_option linter.unusedVariables false
set_option linter.unusedSimpArgs false
open Go.RowKit Wd

set_option maxHeartbeats 1000000 in
theorem bare_any (t : Ty) (v : Value) (w : World) (f d b n : Bool) (ht : TyAt w w.heap.size t v) :
    Calls Try.prog 48 #[v, .bool f, .bool d, .bool b, .bool n] w fun e w' => e = .returned (.bool ((f || decide (t.fs.length = 0)) && (d || decide (t.ds.length = 0)) && (b || decide (t.bs.length = 0)) && (n || decide (t.ns.length = 0)))) ∧ Below w.heap.size w w' := by
  cases ht with
  | mk c wd bb fs ds bs ns fA dA bA nA fC dC bC nC fb fo db dO bbb bo nb nO fv bv hf hd hb hn hfz hnz hnr hcap hfA hdA hbA hnA hf0 hf1 hf2 hft hd0 hb0 hbt hn0' hn1' =>
  clear hfz hnz hnr hcap hfA hdA hbA hnA hf0 hf1 hf2 hft hd0 hb0 hbt hn0' hn1'
  go_enter Try.func48, Try.ntmps48
  go_wp2
  all_goals
    go_ret
    refine ⟨congrArg (fun b => Ending.returned (Value.bool b)) (Bool.eq_iff_iff.mpr ?_), (Below.refl _ _).alloc (Nat.le_refl _) _⟩
    simp_all [Ty.fs, Ty.ds, Ty.bs, Ty.ns]

set_option maxHeartbeats 1000000 in
theorem number_any (t : Ty) (v : Value) (w : World) (ht : TyAt w w.heap.size t v) :
    Calls Try.prog 55 #[v] w fun e w' => e = .returned (.bool (numB t)) ∧ Below w.heap.size w w' := by
  cases ht with
  | mk c wd bb fs ds bs ns fA dA bA nA fC dC bC nC fb fo db dO bbb bo nb nO fv bv hf hd hb hn hfz hnz hnr hcap hfA hdA hbA hnA hf0 hf1 hf2 hft hd0 hb0 hbt hn0' hn1' =>
  clear hfz hnz hnr hcap hfA hdA hbA hnA hf0 hf1 hf2 hft hd0 hb0 hbt hn0' hn1'
  go_enter Try.func55, Try.ntmps55
  go_wp2
  all_goals
    go_ret
    refine ⟨congrArg (fun b => Ending.returned (Value.bool b)) (Bool.eq_iff_iff.mpr ?_), (Below.refl _ _).alloc (Nat.le_refl _) _⟩
    rw [numB_iff]
    simp only [Ty.fs, Ty.ds, Ty.bs, Ty.ns, Ty.c, Ty.w, Bool.and_eq_true, Bool.or_eq_true, decide_eq_true_eq, beq_iff_eq, Bool.false_eq_true, reduceCtorEq, true_iff, false_iff, not_and, not_or]
    try simp only [beq_iff_eq, beq_eq_false_iff_ne, ne_eq] at *
    omega

set_option maxHeartbeats 1000000 in
theorem within_any (t : Ty) (v : Value) (x : Int) (w : World) (ht : TyAt w w.heap.size t v) (h1 : 1 ≤ t.w) (h8 : t.w ≤ 8) (hc : t.c = 1 ∨ t.c = 2) (hx0 : -9223372036854775808 ≤ x) (hx1 : x ≤ 9223372036854775807) :
    Calls Try.prog 73 #[.int .i64 x, v] w fun e w' => e = .returned (.bool (fitsB x t.c t.w)) ∧ Below w.heap.size w w' := by
  cases ht with
  | mk c wd bb fs ds bs ns fA dA bA nA fC dC bC nC fb fo db dO bbb bo nb nO fv bv hf hd hb hn hfz hnz hnr hcap hfA hdA hbA hnA hf0 hf1 hf2 hft hd0 hb0 hbt hn0' hn1' =>
  clear hfz hnz hnr hcap hfA hdA hbA hnA hf0 hf1 hf2 hft hd0 hb0 hbt hn0' hn1'
  simp only [Ty.w, Ty.c] at *
  go_enter Try.func73, Try.ntmps73
  have hw : wd = 1 ∨ wd = 2 ∨ wd = 3 ∨ wd = 4 ∨ wd = 5 ∨ wd = 6 ∨ wd = 7 ∨ wd = 8 := by omega
  rcases hw with rfl | rfl | rfl | rfl | rfl | rfl | rfl | rfl
  all_goals rcases hc with rfl | rfl
  all_goals go_wp2
  all_goals
    go_ret
    refine ⟨congrArg (fun b => Ending.returned (Value.bool b)) (Bool.eq_iff_iff.mpr ?_), (Below.refl _ _).alloc (Nat.le_refl _) _⟩
    simp [fitsB, wrap64]
    try omega
end Go.Proofs.Ytbdhihgokkcmfaa.Ty9
