/- What was taken and is given back, in plain data. -/
import Derived.Test.YtkdfafaiabidgaaKac
namespace Go.Proofs.Ytkdfafaiabidgaa.X5
set_option linter.unusedVariables false
set_option linter.unusedSimpArgs false
open Go.RowKit Wd Ty9

theorem cov_app (a b : List Xt) (p : Int) : cov (a ++ b) p ↔ cov a p ∨ cov b p := by
  unfold cov
  constructor
  · rintro ⟨x, hx, h⟩
    rcases List.mem_append.mp hx with hx | hx
    · exact .inl ⟨x, hx, h⟩
    · exact .inr ⟨x, hx, h⟩
  · rintro (⟨x, hx, h⟩ | ⟨x, hx, h⟩)
    · exact ⟨x, List.mem_append_left _ hx, h⟩
    · exact ⟨x, List.mem_append_right _ hx, h⟩
theorem cov_one (x : Xt) (p : Int) : cov [x] p ↔ x.1 ≤ p ∧ p < x.1 + x.2 := by
  unfold cov
  constructor
  · rintro ⟨y, hy, h⟩
    rw [List.mem_singleton.mp hy] at h
    exact h
  · intro h
    exact ⟨x, List.mem_singleton.mpr rfl, h⟩
theorem sep_one (x : Xt) (h : 0 < x.2) : Sep [x] := sep_cons.mpr ⟨by simp, h, sep_nil⟩

theorem back_ok {xs : List Xt} {z : Int} {i : Nat} (hg : goodP xs 4194304) (hz : 1 ≤ z) (hi : i < xs.length) (hy : z ≤ xs[i].2) :
    goodP (takeK xs z i) 4194304 ∧ mayP (xs[i].1, z) ∧ noMeet (takeK xs z i ++ [(xs[i].1, z)]) ∧ IsJoin (takeK xs z i ++ [(xs[i].1, z)]) xs ∧
      sumL (takeK xs z i) + z = sumL xs ∧ (takeK xs z i).length ≤ xs.length ∧ (∀ y ∈ takeK xs z i, mayP y) := by
  obtain ⟨_, _, g3, g4, g5⟩ := (goodP_iff _ _).mp hg
  obtain ⟨t1, t2, t3, t4, t5, t6⟩ := take_ok g4 hz hi hy
  have hxi := (g5 _ (List.getElem_mem hi)).1
  have hx : mayP (xs[i].1, z) := by unfold mayP at *; simp only at *; omega
  have hm : ∀ y ∈ takeK xs z i, mayP y ∧ y.1 + y.2 ≤ 4194304 := by
    intro y hy
    obtain ⟨u, hu, h1, h2⟩ := t4 y hy
    have h3 := (g5 u hu).1
    have h4 := t1.2 y hy
    unfold mayP at *
    omega
  have hnm : noMeet (takeK xs z i ++ [(xs[i].1, z)]) := noMeet_two t1 (sep_one _ (by simp only; omega)) fun p hp hq => t3 p hp ((cov_one _ p).mp hq)
  refine ⟨(goodP_iff _ _).mpr ⟨by omega, by omega, by omega, t1, hm⟩, hx, hnm, ⟨g4, fun p => ?_⟩, ?_, t6, fun y hy => (hm y hy).1⟩
  · rw [cov_app, cov_one]
    exact t2 p
  · rw [sumL_tot _ (fun y hy => (hm y hy).1) (by omega), sumL_tot _ (fun y hy => (g5 y hy).1) (by omega)]
    exact t5

/-- The first extent that has so many bytes, or none. -/
theorem first_or (xs : List Xt) (z : Int) : (∀ x ∈ xs, x.2 < z) ∨ ∃ (i : Nat) (hi : i < xs.length), z ≤ xs[i].2 ∧ ∀ x ∈ xs.take i, x.2 < z := by
  induction xs with
  | nil => left; simp
  | cons x l ih =>
    by_cases hx : x.2 < z
    · rcases ih with h | ⟨i, hi, h1, h2⟩
      · left
        intro y hy
        rcases List.mem_cons.mp hy with rfl | hy
        · exact hx
        · exact h y hy
      · right
        refine ⟨i + 1, by simp; omega, by simpa using h1, ?_⟩
        intro y hy
        rw [List.take_succ_cons] at hy
        rcases List.mem_cons.mp hy with rfl | hy
        · exact hx
        · exact h2 y hy
    · right
      exact ⟨0, by simp, by simp; omega, by simp⟩
theorem give_back {xs r : List Xt} {x : Xt} (hr : goodP r 4194304) (hx : mayP x) (hnm : noMeet (r ++ [x])) (hj : IsJoin (r ++ [x]) xs) (hl : xs.length ≤ 65536) {e : Int} {out : List Xt} (h : IsGive r x e out) : e = 0 ∧ out = xs :=
  h.uniq (.inr ⟨⟨hr, hx⟩, .inr ⟨hnm, xs, hj, .inr ⟨hl, rfl, rfl⟩⟩⟩)
end Go.Proofs.Ytkdfafaiabidgaa.X5
