/- A drawing region that reads and calls, in a class of worlds counted by a type of its own. -/
import Derived.Test.YtkdfafaiabidgaaDoorKk
import Derived.BigQuiet
namespace Go.Proofs.YtkdfafaiabidgaaDoor.X5
set_option linter.unusedVariables false
set_option linter.unusedSimpArgs false
open Go.RowKit Wd Ty9

/-- The worlds of a class, as a type. -/
structure Wof (G : World → Prop) where
  val : World
  is : G val
/-- One walk in the text's order serves each order: the worlds of the class G are the values of a type, so that facts on their cells are plain equations. -/
theorem wp_region_kept {P : Program} {id : Nat} {Q : Exit → Act → World → Prop} {a : Act} {w : World} {l : List Oper} {G : World → Prop} (hm : P.follows .mixedOrders = true) (hB : Region.lexB .any l.toArray = true)
    (hG : G { w with drawn := w.drawn + 1 })
    (h : wpQuiet P l.toArray (fun w' => ∃ s : Wof G, w' = s.val) (fun a' => ∀ w', (∃ s : Wof G, w' = s.val) → Q .normal a' w') l a) : (Code.region id l.toArray true).wp P Q a w :=
  wp_region_quiet (C := fun w' => ∃ s : Wof G, w' = s.val) hm hB ⟨⟨_, hG⟩, rfl⟩ (by simpa using h)
end Go.Proofs.YtkdfafaiabidgaaDoor.X5
