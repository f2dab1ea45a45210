/- The reference's ordered. -/
import Derived.Test.YtkdfafaiabidgaaDoorKk
namespace Go.Proofs.YtkdfafaiabidgaaDoor.X5
set_option linter.unusedVariables false
set_option linter.unusedSimpArgs false
open Go.RowKit Wd Ty9

theorem cl_set2 {out : List Xt} {i : Nat} (hi : i < out.length) (y : Xt) : cl (out.set i y) = ((cl out).set (i * 2) (.int .i64 y.1)).set (i * 2 + 1) (.int .i64 y.2) := by
  apply List.ext_getElem?
  intro j
  rcases hj : (cl (out.set i y))[j]? with _ | u
  · rw [List.getElem?_eq_none_iff, cl_len, List.length_set] at hj
    symm
    rw [List.getElem?_eq_none_iff, List.length_set, List.length_set, cl_len]
    exact hj
  · symm
    rcases cl_set hi _ j u hj with ⟨rfl, rfl⟩ | ⟨rfl, rfl⟩ | ⟨n1, n2, hu⟩
    · rw [List.getElem?_set_ne (by omega), List.getElem?_set_self (by rw [cl_len]; omega)]
    · rw [List.getElem?_set_self (by rw [List.length_set, cl_len]; omega)]
    · rw [List.getElem?_set_ne (by omega), List.getElem?_set_ne (by omega)]; exact hu
theorem Ow.put2 {e : TypeId} {w wr : World} {g n cap : Nat} {out : List Xt} (h : Ow e w (.slice (some ⟨g, 0, none⟩) n cap) out wr) (hn : n = out.length) {i : Nat} (hi : i < out.length) (y : Xt) :
    Ow e w (.slice (some ⟨g, 0, none⟩) n cap) (out.set i y) ((wr.setCell ⟨g, i * 2, none⟩ (.int .i64 y.1)).setCell ⟨g, i * 2 + 1, none⟩ (.int .i64 y.2)) := by
  subst hn
  obtain ⟨h1, h2⟩ := h.own.stored (i * 2) (.int .i64 y.1)
  obtain ⟨h3, h4⟩ := h1.stored (i * 2 + 1) (.int .i64 y.2)
  refine ⟨?_, (h.be.grown h2 h.be.size (fun k hk => (h.own.lt k hk).1)).grown h4 (by have := h.be.size; simpa [World.setCell] using this) (fun k hk => (h.own.lt k hk).1)⟩
  rw [List.length_set, cl_set2 hi]
  exact h3
theorem insK_len (out : List Xt) (x : Xt) (k : Nat) (hk : k ≤ out.length) : (insK out x k).length = out.length + 1 := by
  unfold insK; simp; omega
theorem insK_step {ou : List Xt} {y : Xt} {j : Nat} (hj : j + 1 ≤ ou.length) : (insK ou y (j + 1)).set (j + 1) (ou[j]'(by omega)) = insK ou (ou[j]'(by omega)) j := by
  unfold insK
  have h1 : (ou.take (j + 1)).length = j + 1 := by rw [List.length_take]; omega
  rw [List.append_assoc, List.set_append_right _ _ (by omega), h1, Nat.sub_self]
  rw [show ou.take (j + 1) = ou.take j ++ [ou[j]'(by omega)] by rw [List.take_add_one, List.getElem?_eq_getElem (by omega)]; rfl, show ou.drop j = ou[j]'(by omega) :: ou.drop (j + 1) from List.drop_eq_getElem_cons (by omega)]
  simp
theorem insK_put {ou : List Xt} {y x : Xt} {k : Nat} (hk : k ≤ ou.length) : (insK ou y k).set k x = insK ou x k := by
  unfold insK
  have h1 : (ou.take k).length = k := by rw [List.length_take]; omega
  rw [List.append_assoc, List.set_append_right _ _ (by omega), h1, Nat.sub_self]
  simp
theorem insK_get {ou : List Xt} {y : Xt} {j : Nat} (hj : j + 1 ≤ ou.length) : (insK ou y (j + 1))[j]? = some (ou[j]'(by omega)) := by
  unfold insK
  rw [List.append_assoc, List.getElem?_append_left (by simp; omega), List.getElem?_take_of_lt (by omega), List.getElem?_eq_getElem]
theorem insK_end (ou : List Xt) (y : Xt) : insK ou y ou.length = ou ++ [y] := by unfold insK; simp

end Go.Proofs.YtkdfafaiabidgaaDoor.X5
