/- The seven cells of a type. -/
import Derived.Test.YtbdhihgokkcmfaaSr
import Derived.WalkSmall
namespace Go.Proofs.Ytbdhihgokkcmfaa.Ty9
set_option linter.unusedVariables false
set_option linter.unusedSimpArgs false
open Go.RowKit Wd

theorem TyAt.cells {w : World} {B : Nat} {t : Ty} {v0 v1 v2 v3 v4 v5 v6 : Value} (h : TyAt w B t (.agg #[v0, v1, v2, v3, v4, v5, v6])) :
    ∃ fA dA bA nA fC dC bC nC, v0 = .int .i64 t.c ∧ v1 = .int .i64 t.w ∧ v2 = .bool t.big ∧ v3 = .slice fA t.fs.length fC ∧ v4 = .slice dA t.ds.length dC ∧ v5 = .slice bA t.bs.length bC ∧ v6 = .slice nA t.ns.length nC := by
  generalize hv : Value.agg #[v0, v1, v2, v3, v4, v5, v6] = v at h
  cases h with
  | mk c wd bb fs ds bs ns fA dA bA nA fC dC bC nC fb fo db dO bbb bo nb nO fv bv hf hd hb hn hfz hnz hnr hcap hfA hdA hbA hnA hf0 hf1 hf2 hft hd0 hb0 hbt hn0' hn1' =>
  simp only [Value.agg.injEq, Array.mk.injEq, List.cons.injEq, and_true] at hv
  obtain ⟨rfl, rfl, rfl, rfl, rfl, rfl, rfl⟩ := hv
  exact ⟨fA, dA, bA, nA, fC, dC, bC, nC, rfl, rfl, rfl, rfl, rfl, rfl, rfl⟩
theorem TyAt.shape {w : World} {B : Nat} {t : Ty} {v : Value} (h : TyAt w B t v) :
    ∃ fA dA bA nA fC dC bC nC, v = .agg #[.int .i64 t.c, .int .i64 t.w, .bool t.big, .slice fA t.fs.length fC, .slice dA t.ds.length dC, .slice bA t.bs.length bC, .slice nA t.ns.length nC] := by
  cases h with
  | mk c wd bb fs ds bs ns fA dA bA nA fC dC bC nC fb fo db dO bbb bo nb nO fv bv hf hd hb hn hfz hnz hnr hcap hfA hdA hbA hnA hf0 hf1 hf2 hft hd0 hb0 hbt hn0' hn1' =>
  exact ⟨fA, dA, bA, nA, fC, dC, bC, nC, rfl⟩
theorem TyAt.lens {w : World} {B : Nat} {t : Ty} {v : Value} (h : TyAt w B t v) : t.fs.length ≤ 140737488355328 ∧ t.ds.length ≤ 140737488355328 ∧ t.bs.length ≤ 140737488355328 ∧ t.ns.length ≤ 140737488355328 := by
  cases h with
  | mk c wd bb fs ds bs ns fA dA bA nA fC dC bC nC fb fo db dO bbb bo nb nO fv bv hf hd hb hn hfz hnz hnr hcap hfA hdA hbA hnA hf0 hf1 hf2 hft hd0 hb0 hbt hn0' hn1' =>
  exact ⟨hf, hd, hb, hn⟩
end Go.Proofs.Ytbdhihgokkcmfaa.Ty9
