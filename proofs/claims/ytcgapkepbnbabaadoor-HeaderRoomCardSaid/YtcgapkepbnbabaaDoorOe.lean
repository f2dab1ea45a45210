/- Appending a literal's bytes to a row; setting a byte. -/
import Derived.Test.YtcgapkepbnbabaaDoorOd
import Derived.Laws.OwnMore
import Derived.Deep.AppendLies
namespace Go.Proofs.YtcgapkepbnbabaaDoor.Ty9
set_option linter.unusedVariables false
set_option linter.unusedSimpArgs false
open Go.RowKit Wd

/-- The walk stands at a goal that is hidden; this lays it open again. -/
theorem go_on {p : Prop} (h : p) : Hid p := h

theorem Byt.lit (W : World) (xs : List Nat) (hl : ∀ x ∈ xs, x < 256) : Byt (W.alloc (.cells (by8 xs).toArray 5)) (W.heap.size + 1) (some ⟨W.heap.size, 0, none⟩) xs.length xs :=
  ⟨rfl, hl, fun _ => ⟨W.heap.size, 0, rfl, Nat.lt_succ_self _, fun j hj => by
    rw [(Bx.new W 5 (by8 xs).toArray).cell (0 + j)]
    simp [by8, hj]⟩⟩

theorem wp_app {ops : Array Oper} {rest : List Oper} {o : Oper} {a : Act} {w : World} {Q : Exit → Act → World → Prop} (hgd : o.guard = none) (s x : Operand)
    (ho : o.op = .call { callee := .builtin .append, args := #[s, x], argTypes := #[31, 31] })
    (base m c : Nat) (V : Value) (bs xs : List Nat) (A : Option Addr) (B : Nat) (hs : a.eval s = V) (hx : a.eval x = .slice A m c) (hown : w.ownsRow base 5 1 V bs.length (by8 bs)) (hlt : ∀ y ∈ bs, y < 256) (hb : Byt w B A m xs) (hl : bs.length + m ≤ 140737488355328) (hbase : base ≤ w.heap.size)
    (h : ∀ V' w', Rl base V w V' (bs ++ xs) w' → wpList Tryd.prog ops Q rest (a.put o.dst V') w') :
    wpList Tryd.prog ops Q (o :: rest) a w :=
  wp_append_bytes hgd s x ho base bs.length m c V bs xs A B hs hx hown hb hl hbase fun V' w' h1 h2 h3 => h V' w' ⟨by rw [List.length_append, hb.len]; exact h1, lt_app hlt hb.lt, h2, h3.imp id fun e => ⟨_, e, Nat.le_refl _⟩⟩

theorem Rl.set {base : Nat} {V : Value} {w wr : World} {bs : List Nat} {g n cap : Nat} (h : Rl base V w (.slice (some ⟨g, 0, none⟩) n cap) bs wr) (hn : n = bs.length) (i x : Nat) (hx : x < 256) : Rl base V w (.slice (some ⟨g, 0, none⟩) n cap) (bs.set i x) (wr.setCell ⟨g, i, none⟩ (.int .u8 x)) := by
  subst hn
  obtain ⟨h1, h2⟩ := h.own.stored i (.int .u8 (x : Int))
  refine h.trans ⟨?_, ?_, h2, .inl rfl⟩
  · rw [List.length_set, by8_set]; exact h1
  · intro y hy
    rcases List.mem_or_eq_of_mem_set hy with hy | rfl
    · exact h.lt y hy
    · exact hx
theorem Rl.ne {base : Nat} {V V1 : Value} {w w1 : World} {bs : List Nat} (h : Rl base V w V1 bs w1) {g : Nat} (hg : g < w.heap.size) (hne : some g ≠ V.ownBlock) : some g ≠ V1.ownBlock := by
  rcases h.ow with e | ⟨k, e, hk⟩
  · rwa [e]
  · rw [e]; intro e2; injection e2; omega
theorem Rl.cellAt {base : Nat} {V : Value} {w w1 : World} {bs : List Nat} {g n cap : Nat} (h : Rl base V w (.slice (some ⟨g, 0, none⟩) n cap) bs w1) (hn : n = bs.length) (j : Nat) (hj : j < bs.length) : w1.cell? ⟨g, j, none⟩ = some (.int .u8 ((bs[j] : Nat) : Int)) := by
  subst hn
  rw [h.own.cellAt j (by omega)]
  simp [by8, hj]
theorem Rl.frozenAt {base : Nat} {V : Value} {w w1 : World} {bs : List Nat} {g n cap : Nat} (h : Rl base V w (.slice (some ⟨g, 0, none⟩) n cap) bs w1) (hn : n = bs.length) (j : Nat) : w1.frozen? ⟨g, j, none⟩ = false := by
  subst hn
  exact h.own.frozenAt j
theorem Rl.form {base : Nat} {V V1 : Value} {w w1 : World} {bs : List Nat} (h : Rl base V w V1 bs w1) (hl : 0 < bs.length) : ∃ g cap, V1 = .slice (some ⟨g, 0, none⟩) bs.length cap ∧ base ≤ g ∧ g < w1.heap.size := h.own.form hl
end Go.Proofs.YtcgapkepbnbabaaDoor.Ty9
