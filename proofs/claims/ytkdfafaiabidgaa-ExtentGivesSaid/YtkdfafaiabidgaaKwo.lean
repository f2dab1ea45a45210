/- What Take tells; extent.Take whole. -/
import Derived.Test.YtkdfafaiabidgaaKad
namespace Go.Proofs.Ytkdfafaiabidgaa.X5
set_option linter.unusedVariables false
set_option linter.unusedSimpArgs false
open Go.RowKit Wd Ty9

/-- What Take tells. -/
def IsTake (xs : List Xt) (z : Int) (R e : Int) (out : List Xt) : Prop :=
  ((z < 1 ∨ ¬ goodP xs 4194304) ∧ R = 0 ∧ e = 2 ∧ out = []) ∨
  ((1 ≤ z ∧ goodP xs 4194304) ∧ (((∀ x ∈ xs, x.2 < z) ∧ R = 0 ∧ e = 7 ∧ out = []) ∨
    ∃ (i : Nat) (hi : i < xs.length), z ≤ xs[i].2 ∧ (∀ x ∈ xs.take i, x.2 < z) ∧ R = xs[i].1 ∧ e = 0 ∧ out = takeK xs z i))
theorem first_uniq {xs : List Xt} {z : Int} {i j : Nat} (hi : i < xs.length) (hj : j < xs.length) (h1 : z ≤ xs[i].2) (h2 : ∀ x ∈ xs.take i, x.2 < z) (h3 : z ≤ xs[j].2) (h4 : ∀ x ∈ xs.take j, x.2 < z) : i = j := by
  rcases Nat.lt_trichotomy i j with h | h | h
  · have := h4 xs[i] (by rw [List.mem_take_iff_getElem]; exact ⟨i, by omega, rfl⟩); omega
  · exact h
  · have := h2 xs[j] (by rw [List.mem_take_iff_getElem]; exact ⟨j, by omega, rfl⟩); omega
theorem IsTake.uniq {xs : List Xt} {z R1 R2 e1 e2 : Int} {o1 o2 : List Xt} (h1 : IsTake xs z R1 e1 o1) (h2 : IsTake xs z R2 e2 o2) : R1 = R2 ∧ e1 = e2 ∧ o1 = o2 := by
  rcases h1 with ⟨a, a1, a2, a3⟩ | ⟨a, p⟩ <;> rcases h2 with ⟨b, b1, b2, b3⟩ | ⟨b, q⟩
  · exact ⟨a1.trans b1.symm, a2.trans b2.symm, a3.trans b3.symm⟩
  · rcases a with a | a
    · have := b.1; omega
    · exact absurd b.2 a
  · rcases b with b | b
    · have := a.1; omega
    · exact absurd a.2 b
  · rcases p with ⟨c, a1, a2, a3⟩ | ⟨i, hi, c1, c2, a1, a2, a3⟩ <;> rcases q with ⟨d, b1, b2, b3⟩ | ⟨j, hj, d1, d2, b1, b2, b3⟩
    · exact ⟨a1.trans b1.symm, a2.trans b2.symm, a3.trans b3.symm⟩
    · have := c _ (List.getElem_mem hj); omega
    · have := d _ (List.getElem_mem hi); omega
    · obtain rfl := first_uniq hi hj c1 c2 d1 d2
      exact ⟨a1.trans b1.symm, a2.trans b2.symm, a3.trans b3.symm⟩
theorem IsTake.len {xs : List Xt} {z R e : Int} {out : List Xt} (h : IsTake xs z R e out) : out.length ≤ xs.length + 1 := by
  rcases h with ⟨_, _, _, h⟩ | ⟨_, ⟨_, _, _, h⟩ | ⟨i, hi, _, _, _, _, h⟩⟩
  · rw [h]; simp
  · rw [h]; simp
  · rw [h]; unfold takeK; simp only [List.length_append, List.length_take, List.length_drop]; split <;> simp <;> omega

theorem take_any (A : Option Addr) (n C lo hi : Nat) (xs : List Xt) (z : Int) (w : World) (hn : n ≤ 140737488355328) (h : Ex w lo hi A n xs) (hhi : hi ≤ w.heap.size) :
    Calls Try.prog 19 #[.slice A n C, .int .i64 z] w fun e w' => ∃ A' C' m R z' out, e = .returned (.tuple #[.int .i64 R, .slice A' m C', .int .i64 z']) ∧ IsTake xs z R z' out ∧ Ex w' w.heap.size w'.heap.size A' m out ∧ Thaw w' A' m ∧ Below w.heap.size w w' := by
  by_cases hb : z < 1 ∨ ¬ goodP xs 4194304
  · refine (take_bad A n C lo hi xs z w hn h hhi hb).mono ?_
    rintro _ w' ⟨rfl, hw⟩
    exact ⟨none, 0, 0, 0, 2, [], rfl, .inl ⟨hb, rfl, rfl, rfl⟩, Ex.nil _ _ _ _, fun h0 => absurd h0 (Nat.lt_irrefl _), hw⟩
  · have hz : 1 ≤ z := by
      rcases Int.lt_or_le z 1 with h1 | h1
      · exact absurd (.inl h1) hb
      · exact h1
    have hg : goodP xs 4194304 := by
      by_cases hg : goodP xs 4194304
      · exact hg
      · exact absurd (.inr hg) hb
    rcases first_or xs z with hno | ⟨i, hi, hyes, hno⟩
    · refine (take_full A n C lo _ xs z w hn h hhi hz hg hno).mono ?_
      rintro _ w' ⟨rfl, hw⟩
      exact ⟨none, 0, 0, 0, 7, [], rfl, .inr ⟨⟨hz, hg⟩, .inl ⟨hno, rfl, rfl, rfl⟩⟩, Ex.nil _ _ _ _, fun h0 => absurd h0 (Nat.lt_irrefl _), hw⟩
    · refine (take_yes A n C lo _ xs z i w hn h hhi hz hg hi hyes hno).mono ?_
      rintro _ w' ⟨A', m, C', rfl, hex, hth, hw, -⟩
      exact ⟨A', C', m, xs[i].1, 0, takeK xs z i, rfl, .inr ⟨⟨hz, hg⟩, .inr ⟨i, hi, hyes, hno, rfl, rfl, rfl⟩⟩, hex, hth, hw⟩
end Go.Proofs.Ytkdfafaiabidgaa.X5
