/- Blocks that turn. -/
import Derived.Test.YtcgapkepbnbabaaDoorMw
import Derived.Laws.IdiomCopy
namespace Go.Proofs.YtcgapkepbnbabaaDoor.Ty9
set_option linter.unusedVariables false
set_option linter.unusedSimpArgs false
open Go.RowKit Wd

/-- Blocks have come, and of those that there were only P's have turned. -/
structure Ch (P : Nat → Prop) (w w' : World) : Prop where
  os : w'.os = w.os
  tape : w'.tape = w.tape
  output : w'.output = w.output
  size : w.heap.size ≤ w'.heap.size
  block : ∀ k, k < w.heap.size → ¬ P k → w'.heap[k]? = w.heap[k]?
theorem Ch.refl (P : Nat → Prop) (w : World) : Ch P w w := ⟨rfl, rfl, rfl, Nat.le_refl _, fun _ _ _ => rfl⟩
theorem Ch.trans {P Q R : Nat → Prop} {w w1 w2 : World} (h : Ch P w w1) (k : Ch Q w1 w2) (hP : ∀ j, P j → R j) (hQ : ∀ j, Q j → R j) : Ch R w w2 :=
  ⟨k.os.trans h.os, k.tape.trans h.tape, k.output.trans h.output, Nat.le_trans h.size k.size, fun j hj hn => (k.block j (Nat.lt_of_lt_of_le hj h.size) (fun q => hn (hQ j q))).trans (h.block j hj fun p => hn (hP j p))⟩
theorem Ch.of_below {P : Nat → Prop} {w w' : World} (h : Below w.heap.size w w') : Ch P w w' := ⟨h.os, h.tape, h.output, h.size, fun k hk _ => h.block k hk⟩
theorem Ch.bx {P : Nat → Prop} {w w' : World} (h : Ch P w w') {k : Nat} {t : TypeId} {cs : Array Value} (hb : Bx w k t cs) (hk : ¬ P k) : Bx w' k t cs := (h.block k hb.lt hk).trans hb
theorem Ch.cell {P : Nat → Prop} {w w' : World} (h : Ch P w w') {g : Nat} (hg : g < w.heap.size) (hk : ¬ P g) (j : Nat) : w'.cell? ⟨g, j, none⟩ = w.cell? ⟨g, j, none⟩ := World.cell?_of_block (w := w) (a := ⟨g, j, none⟩) (h.block g hg hk)
theorem Ch.frozen {P : Nat → Prop} {w w' : World} (h : Ch P w w') {g : Nat} (hg : g < w.heap.size) (hk : ¬ P g) (j : Nat) : w'.frozen? ⟨g, j, none⟩ = w.frozen? ⟨g, j, none⟩ := World.frozen?_of_block (w := w) (a := ⟨g, j, none⟩) (h.block g hg hk)
theorem Ch.below {P : Nat → Prop} {B : Nat} {w w' : World} (h : Ch P w w') (hB : B ≤ w.heap.size) (hP : ∀ j, P j → B ≤ j) : Below B w w' :=
  ⟨h.os, h.tape, h.output, h.size, fun k hk => h.block k (by omega) fun p => by have := hP k p; omega⟩

theorem setCells_keep (b : Nat) : ∀ (vs : List Value) (o : Nat) (w : World), (w.setCells b o vs).heap.size = w.heap.size ∧ (w.setCells b o vs).os = w.os ∧ (w.setCells b o vs).tape = w.tape ∧ (w.setCells b o vs).output = w.output ∧ ∀ k, k ≠ b → (w.setCells b o vs).heap[k]? = w.heap[k]?
  | [], _, _ => ⟨rfl, rfl, rfl, rfl, fun _ _ => rfl⟩
  | v :: r, o, w => by
    obtain ⟨h1, h2, h3, h4, h5⟩ := setCells_keep b r (o + 1) (w.setCell ⟨b, o, none⟩ v)
    rw [World.setCells]
    refine ⟨h1.trans (by simp [World.setCell]), h2, h3, h4, fun k hk => (h5 k hk).trans (Below.heap_setCell _ _ _ _ hk)⟩
end Go.Proofs.YtcgapkepbnbabaaDoor.Ty9
