/- The law's lent, kept, spoil; extent.Total. -/
import Derived.Test.YtcgapkepbnbabaaDoorKk
namespace Go.Proofs.YtcgapkepbnbabaaDoor.X5
set_option linter.unusedVariables false
set_option linter.unusedSimpArgs false
open Go.RowKit Wd Ty9

/-- What was lent: the extents, and one more behind their end. -/
structure Lent (w0 w : World) (g n C : Nat) (xs : List Xt) : Prop where
  own : w.ownsRow w0.heap.size 49 2 (.slice (some ⟨g, 0, none⟩) (n + 1) C) (n + 1) (cl (xs ++ [(-9, -9)]))
  len : xs.length = n
theorem Lent.form {w0 w : World} {g n C : Nat} {xs : List Xt} (h : Lent w0 w g n C xs) : n + 1 ≤ C ∧ w0.heap.size ≤ g ∧ g < w.heap.size ∧ (∀ j, w.frozen? ⟨g, j, none⟩ = false) := by
  obtain ⟨A, C', e, h1, h2, h3⟩ := own_ex h.own
  cases e
  obtain ⟨b, o, e, q1, q2, _⟩ := h2.at_ (Nat.succ_pos _)
  cases e
  exact ⟨h1, q1, q2, h3 (Nat.succ_pos _) g 0 rfl⟩
theorem Lent.ex {w0 w : World} {g n C : Nat} {xs : List Xt} (h : Lent w0 w g n C xs) : Ex w w0.heap.size w.heap.size (some ⟨g, 0, none⟩) n xs := by
  obtain ⟨A, C', e, h1, h2, h3⟩ := own_ex h.own
  cases e
  refine ⟨h.len, fun _ => ?_⟩
  obtain ⟨b, o, e, q1, q2, q3⟩ := h2.at_ (Nat.succ_pos _)
  cases e
  refine ⟨g, 0, rfl, q1, q2, fun j u hu => q3 j u ?_⟩
  rw [cl_app, List.getElem?_append_left (List.getElem?_eq_some_iff.mp hu).1]
  exact hu
theorem Lent.keep {w0 w w2 : World} {g n C : Nat} {xs : List Xt} (h : Lent w0 w g n C xs) (hk : w2.heap[g]? = w.heap[g]?) : Lent w0 w2 g n C xs := by
  refine ⟨⟨h.own.1, ?_⟩, h.len⟩
  rcases h.own.2 with ⟨e, _⟩ | ⟨g', cap, cur, e, h1, h2, h3⟩
  · cases e
  · cases e
    exact .inr ⟨g, C, cur, rfl, h1, hk.trans h2, h3⟩
theorem Lent.later {w0 w w2 : World} {g n C : Nat} {xs : List Xt} (h : Lent w0 w g n C xs) (hb : Below w.heap.size w w2) : Lent w0 w2 g n C xs := h.keep (hb.block g h.form.2.2.1)
theorem Lent.last {w0 w : World} {g n C : Nat} {xs : List Xt} (h : Lent w0 w g n C xs) : w.cell? ⟨g, n * 2, none⟩ = some (.int .i64 (-9)) ∧ w.cell? ⟨g, n * 2 + 1, none⟩ = some (.int .i64 (-9)) := by
  obtain ⟨A, C', e, h1, h2, h3⟩ := own_ex h.own
  cases e
  have hl := h.len
  obtain ⟨c0, c1⟩ := h2.get rfl (i := n) (by simp; omega)
  have e1 : (xs ++ [((-9, -9) : Xt)])[n]'(by simp; omega) = (-9, -9) := by
    rw [List.getElem_append_right (by omega)]
    simp
  rw [e1, Nat.zero_add] at c0 c1
  exact ⟨c0, c1⟩

theorem Ex.set0 {w : World} {lo hi n b o : Nat} {xs : List Xt} (h : Ex w lo hi (some ⟨b, o, none⟩) n xs) {i : Nat} (hi2 : i < xs.length) (z : Int) :
    Ex (w.setCell ⟨b, o + i * 2, none⟩ (.int .i64 z)) lo hi (some ⟨b, o, none⟩) n (xs.set i (z, xs[i].2)) := by
  refine ⟨by rw [List.length_set]; exact h.len, fun hn => ?_⟩
  obtain ⟨b', o', e, h1, h2, h3⟩ := h.at_ hn
  cases e
  obtain ⟨g1, g2⟩ := cl_get xs i hi2
  have q1 : (w.cell? ⟨b, o + i * 2, none⟩).isSome = true := by rw [h3 _ _ g1]; rfl
  refine ⟨b, o, rfl, h1, h2, fun j u hu => ?_⟩
  rcases cl_set hi2 _ j u hu with ⟨rfl, rfl⟩ | ⟨rfl, rfl⟩ | ⟨n1, n2, hu⟩
  · exact World.cell?_setCell_same' _ _ _ q1
  · rw [cell_ne _ _ _ _ _ (by omega)]
    exact h3 _ _ g2
  · rw [cell_ne _ _ _ _ _ (by omega)]
    exact h3 j u hu
theorem Ex.set1 {w : World} {lo hi n b o : Nat} {xs : List Xt} (h : Ex w lo hi (some ⟨b, o, none⟩) n xs) {i : Nat} (hi2 : i < xs.length) (z : Int) :
    Ex (w.setCell ⟨b, o + i * 2 + 1, none⟩ (.int .i64 z)) lo hi (some ⟨b, o, none⟩) n (xs.set i (xs[i].1, z)) := by
  refine ⟨by rw [List.length_set]; exact h.len, fun hn => ?_⟩
  obtain ⟨b', o', e, h1, h2, h3⟩ := h.at_ hn
  cases e
  obtain ⟨g1, g2⟩ := cl_get xs i hi2
  have q1 : (w.cell? ⟨b, o + (i * 2 + 1), none⟩).isSome = true := by rw [h3 _ _ g2]; rfl
  refine ⟨b, o, rfl, h1, h2, fun j u hu => ?_⟩
  rcases cl_set hi2 _ j u hu with ⟨rfl, rfl⟩ | ⟨rfl, rfl⟩ | ⟨n1, n2, hu⟩
  · rw [cell_ne _ _ _ _ _ (by omega)]
    exact h3 _ _ g1
  · rw [← Nat.add_assoc]
    exact World.cell?_setCell_same' _ _ _ q1
  · rw [cell_ne _ _ _ _ _ (by omega)]
    exact h3 j u hu

end Go.Proofs.YtcgapkepbnbabaaDoor.X5
