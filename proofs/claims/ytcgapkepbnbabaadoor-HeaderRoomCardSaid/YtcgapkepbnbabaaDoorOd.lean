/- A row of bytes that grows from call to call; datatype.put. -/
import Derived.Test.YtcgapkepbnbabaaDoorOc
namespace Go.Proofs.YtcgapkepbnbabaaDoor.Ty9
set_option linter.unusedVariables false
set_option linter.unusedSimpArgs false
open Go.RowKit Wd

/-- From world w with the row V to world wr with the row V', which holds bs: all else is as it was. -/
structure Rl (base : Nat) (V : Value) (w : World) (V' : Value) (bs : List Nat) (wr : World) : Prop where
  own : wr.ownsRow base 5 1 V' bs.length (by8 bs)
  lt : ∀ x ∈ bs, x < 256
  gr : w.grownBy wr V.ownBlock
  ow : V'.ownBlock = V.ownBlock ∨ ∃ k, V'.ownBlock = some k ∧ w.heap.size ≤ k
theorem Rl.trans {base : Nat} {V V1 V2 : Value} {w w1 w2 : World} {b1 b2 : List Nat} (h : Rl base V w V1 b1 w1) (k : Rl base V1 w1 V2 b2 w2) : Rl base V w V2 b2 w2 := by
  refine ⟨k.own, k.lt, ⟨k.gr.os.trans h.gr.os, k.gr.tape.trans h.gr.tape, k.gr.output.trans h.gr.output, Nat.le_trans h.gr.size k.gr.size, fun i hi hn => (k.gr.block i (Nat.lt_of_lt_of_le hi h.gr.size) ?_).trans (h.gr.block i hi hn)⟩, ?_⟩
  · rcases h.ow with e | ⟨j, e, hj⟩
    · rwa [e]
    · rw [e]; intro e2; injection e2; omega
  · rcases k.ow with e | ⟨j, e, hj⟩
    · rw [e]; exact h.ow
    · exact .inr ⟨j, e, Nat.le_trans h.gr.size hj⟩
theorem Rl.refl {base : Nat} {V : Value} {w : World} {bs : List Nat} (h : w.ownsRow base 5 1 V bs.length (by8 bs)) (hl : ∀ x ∈ bs, x < 256) : Rl base V w V bs w := ⟨h, hl, World.grownBy.refl _ _, .inl rfl⟩
theorem Rl.below {base : Nat} {V V1 : Value} {w w1 w2 : World} {b1 : List Nat} (h : Rl base V w V1 b1 w1) (hb : Below w1.heap.size w1 w2) : Rl base V w V1 b1 w2 := by
  refine h.trans ⟨h.own.kept ⟨hb.os, hb.tape, hb.output, hb.size, fun k hk _ => hb.block k hk⟩ (?_ : V1.ownBlock = none ∨ V1.ownBlock ≠ some w1.heap.size), h.lt, ⟨hb.os, hb.tape, hb.output, hb.size, fun k hk _ => hb.block k hk⟩, .inl rfl⟩
  rcases hv : V1.ownBlock with _ | k
  · exact .inl rfl
  · exact .inr (fun e => by injection e with e; exact absurd e (Nat.ne_of_lt (h.own.lt k hv).2))
/-- A new row. -/
theorem Rl.new {base : Nat} {V V1 V2 : Value} {w w1 w2 : World} {b1 b2 : List Nat} (h : Rl base V w V1 b1 w1) (hb : Below w1.heap.size w1 w2) (ho : w2.ownsRow w1.heap.size 5 1 V2 b2.length (by8 b2)) (hl : ∀ x ∈ b2, x < 256) (hbase : base ≤ w1.heap.size) (hne : 0 < b2.length) : Rl base V w V2 b2 w2 := by
  refine h.trans ⟨own_base ho hbase, hl, ⟨hb.os, hb.tape, hb.output, hb.size, fun k hk _ => hb.block k hk⟩, ?_⟩
  rcases ho.2 with ⟨_, h0⟩ | ⟨g, cap, cur, rfl, hg, _⟩
  · omega
  · exact .inr ⟨g, rfl, hg⟩
theorem Rl.bx {base : Nat} {V V1 : Value} {w w1 : World} {b1 : List Nat} (h : Rl base V w V1 b1 w1) {g : Nat} {t : TypeId} {cs : Array Value} (hb : Bx w g t cs) (hne : some g ≠ V.ownBlock) : Bx w1 g t cs := (h.gr.block g hb.lt hne).trans hb
theorem Rl.keep {base B : Nat} {V V1 : Value} {w w1 : World} {b1 : List Nat} (h : Rl base V w V1 b1 w1) (hB : B ≤ w.heap.size) (hV : ∀ k, V.ownBlock = some k → B ≤ k) : Below B w w1 :=
  (Below.refl B w).grown h.gr hB hV
/-- What a call that lays bytes down leaves. -/
def LP (base : Nat) (V : Value) (ys : List Nat) (w : World) (e : Ending) (w' : World) : Prop := ∃ V', e = .returned V' ∧ Rl base V w V' ys w'
/-- An int's bits. -/
def bits64 (x : Int) : Nat := (x % 18446744073709551616).toNat
theorem digs_lt (n : Nat) (big : Bool) (u : Nat) : ∀ x ∈ digs n big u, x < 256 := by
  intro x hx
  unfold digs at hx
  rw [List.mem_map] at hx
  obtain ⟨j, _, rfl⟩ := hx
  exact dig_lt _ _
theorem lt_app {a b : List Nat} (ha : ∀ x ∈ a, x < 256) (hb : ∀ x ∈ b, x < 256) : ∀ x ∈ a ++ b, x < 256 := by
  intro x hx
  rcases List.mem_append.mp hx with h | h
  · exact ha x h
  · exact hb x h

end Go.Proofs.YtcgapkepbnbabaaDoor.Ty9
