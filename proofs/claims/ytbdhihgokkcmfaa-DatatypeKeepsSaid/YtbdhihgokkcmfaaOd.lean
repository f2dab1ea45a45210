/- A row of bytes that grows from call to call; datatype.put. -/
import Derived.Test.YtbdhihgokkcmfaaOc
namespace Go.Proofs.Ytbdhihgokkcmfaa.Ty9
set_option linter.unusedVariables false
set_option linter.unusedSimpArgs false
open Go.RowKit Wd

/-- From world w with the row V to world wr with the row V', which holds bs: all else is as it was. -/
structure Rl (base : Nat) (V : Value) (w : World) (V' : Value) (bs : List Nat) (wr : World) : Prop where
  own : wr.ownsRow base 5 1 V' bs.length (by8 bs)
  lt : ∀ x ∈ bs, x < 256
  gr : w.grownBy wr V.ownBlock
  ow : V'.ownBlock = V.ownBlock ∨ ∃ k, V'.ownBlock = some k ∧ w.heap.size ≤ k
theorem Rl.trans {base : Nat} {V V1 V2 : Value} {w w1 w2 : World} {b1 b2 : List Nat} (h : Rl base V w V1 b1 w1) (k : Rl base V1 w1 V2 b2 w2) : Rl base V w V2 b2 w2 := by
  refine ⟨k.own, k.lt, ⟨k.gr.os.trans h.gr.os, k.gr.tape.trans h.gr.tape, k.gr.output.trans h.gr.output, Nat.le_trans h.gr.size k.gr.size, fun i hi hn => (k.gr.block i (Nat.lt_of_lt_of_le hi h.gr.size) ?_).trans (h.gr.block i hi hn)⟩, ?_⟩
  · rcases h.ow with e | ⟨j, e, hj⟩
    · rwa [e]
    · rw [e]; intro e2; injection e2; omega
  · rcases k.ow with e | ⟨j, e, hj⟩
    · rw [e]; exact h.ow
    · exact .inr ⟨j, e, Nat.le_trans h.gr.size hj⟩
theorem Rl.refl {base : Nat} {V : Value} {w : World} {bs : List Nat} (h : w.ownsRow base 5 1 V bs.length (by8 bs)) (hl : ∀ x ∈ bs, x < 256) : Rl base V w V bs w := ⟨h, hl, World.grownBy.refl _ _, .inl rfl⟩
theorem Rl.below {base : Nat} {V V1 : Value} {w w1 w2 : World} {b1 : List Nat} (h : Rl base V w V1 b1 w1) (hb : Below w1.heap.size w1 w2) : Rl base V w V1 b1 w2 := by
  refine h.trans ⟨h.own.kept ⟨hb.os, hb.tape, hb.output, hb.size, fun k hk _ => hb.block k hk⟩ (?_ : V1.ownBlock = none ∨ V1.ownBlock ≠ some w1.heap.size), h.lt, ⟨hb.os, hb.tape, hb.output, hb.size, fun k hk _ => hb.block k hk⟩, .inl rfl⟩
  rcases hv : V1.ownBlock with _ | k
  · exact .inl rfl
  · exact .inr (fun e => by injection e with e; exact absurd e (Nat.ne_of_lt (h.own.lt k hv).2))
/-- A new row. -/
theorem Rl.new {base : Nat} {V V1 V2 : Value} {w w1 w2 : World} {b1 b2 : List Nat} (h : Rl base V w V1 b1 w1) (hb : Below w1.heap.size w1 w2) (ho : w2.ownsRow w1.heap.size 5 1 V2 b2.length (by8 b2)) (hl : ∀ x ∈ b2, x < 256) (hbase : base ≤ w1.heap.size) (hne : 0 < b2.length) : Rl base V w V2 b2 w2 := by
  refine h.trans ⟨own_base ho hbase, hl, ⟨hb.os, hb.tape, hb.output, hb.size, fun k hk _ => hb.block k hk⟩, ?_⟩
  rcases ho.2 with ⟨_, h0⟩ | ⟨g, cap, cur, rfl, hg, _⟩
  · omega
  · exact .inr ⟨g, rfl, hg⟩
theorem Rl.bx {base : Nat} {V V1 : Value} {w w1 : World} {b1 : List Nat} (h : Rl base V w V1 b1 w1) {g : Nat} {t : TypeId} {cs : Array Value} (hb : Bx w g t cs) (hne : some g ≠ V.ownBlock) : Bx w1 g t cs := (h.gr.block g hb.lt hne).trans hb
theorem Rl.keep {base B : Nat} {V V1 : Value} {w w1 : World} {b1 : List Nat} (h : Rl base V w V1 b1 w1) (hB : B ≤ w.heap.size) (hV : ∀ k, V.ownBlock = some k → B ≤ k) : Below B w w1 :=
  (Below.refl B w).grown h.gr hB hV
/-- What a call that lays bytes down leaves. -/
def LP (base : Nat) (V : Value) (ys : List Nat) (w : World) (e : Ending) (w' : World) : Prop := ∃ V', e = .returned V' ∧ Rl base V w V' ys w'
/-- An int's bits. -/
def bits64 (x : Int) : Nat := (x % 18446744073709551616).toNat
theorem digs_lt (n : Nat) (big : Bool) (u : Nat) : ∀ x ∈ digs n big u, x < 256 := by
  intro x hx
  unfold digs at hx
  rw [List.mem_map] at hx
  obtain ⟨j, _, rfl⟩ := hx
  exact dig_lt _ _
theorem lt_app {a b : List Nat} (ha : ∀ x ∈ a, x < 256) (hb : ∀ x ∈ b, x < 256) : ∀ x ∈ a ++ b, x < 256 := by
  intro x hx
  rcases List.mem_append.mp hx with h | h
  · exact ha x h
  · exact hb x h

set_option maxHeartbeats 2000000 in
set_option maxRecDepth 100000 in
theorem dput_any (base n : Nat) (x : Int) (V : Value) (bs : List Nat) (w : World) (h1 : 1 ≤ n) (h8 : n ≤ 8) (hx0 : -9223372036854775808 ≤ x) (hx1 : x ≤ 9223372036854775807) (hu : bits64 x < 256 ^ n) (hl : bs.length ≤ 140737488000000)
    (hbase : base ≤ w.heap.size) (ho : w.ownsRow base 5 1 V bs.length (by8 bs)) (hlt : ∀ y ∈ bs, y < 256) :
    Calls Try.prog 56 #[V, .int .i64 n, .int .i64 x] w (LP base V (bs ++ digs n true (bits64 x)) w) := by
  obtain ⟨A, C, rfl⟩ := own_form ho
  have HO := Lib.hid ho
  have HB := Lib.hid (Byt.of_own ho hlt)
  have HL := Lib.hid hlt
  have HU := Lib.hid hu
  have hux : IntKind.u64.wrap x = ((bits64 x : Nat) : Int) := by unfold bits64; simp [IntKind.wrap, IntKind.bits, IntKind.signed]; omega
  have HUX := Lib.hid hux
  clear ho hlt hu hux
  go_enter Try.func56, Try.ntmps56
  go_wp2_with fail
  rw [HUX.out]
  refine (put_ok true n (bits64 x) bs.length C A bs w h1 h8 HU.out (by omega) HB.out).mono ?_
  rintro _ w2 ⟨V2, rfl, hown, hb2⟩
  have hne : 0 < (bs ++ digs n true (bits64 x)).length := by rw [List.length_append, digs_len]; omega
  have hlen : (bs ++ digs n true (bits64 x)).length = bs.length + n := by rw [List.length_append, digs_len]
  rw [← hlen] at hown
  have HR := Lib.hid ((Rl.refl HO.out HL.out).new hb2 hown (lt_app HL.out (digs_lt _ _ _)) hbase hne)
  clear hb2 hown hlen hne
  go_wp2
  go_ret
  exact ⟨V2, rfl, HR.out⟩
end Go.Proofs.Ytbdhihgokkcmfaa.Ty9
