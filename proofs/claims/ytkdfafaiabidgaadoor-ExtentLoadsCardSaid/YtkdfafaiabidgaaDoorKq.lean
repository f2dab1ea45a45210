/- The reference's Join and Normal. -/
import Derived.Test.YtkdfafaiabidgaaDoorKp
namespace Go.Proofs.YtkdfafaiabidgaaDoor.X5
set_option linter.unusedVariables false
set_option linter.unusedSimpArgs false
open Go.RowKit Wd Ty9

theorem rjoin_len (d : List Xt) : (rjoin d).length ≤ d.length := by
  rw [rjoin_eq]
  suffices h : ∀ (l out : List Xt), (l.foldl jstep out).length ≤ out.length + l.length by
    have := h (d.filter posP) []
    have h2 := List.length_filter_le posP d
    unfold joinL
    simp at this
    omega
  intro l
  induction l with
  | nil => intro out; simp
  | cons x l ih =>
    intro out
    rw [List.foldl_cons]
    have := ih (jstep out x)
    have := jstep_len out x
    simp
    omega
theorem max_alt (a s b t : Int) : max t (a + s - b) = max (a + s) (b + t) - b := by omega

end Go.Proofs.YtkdfafaiabidgaaDoor.X5
