/- Rows of messages whose bytes are the call's own; Get and GetBytes whatever lies there; header.messages. -/
import Derived.Test.YtcgapkepbnbabaaDoorQd
import Derived.Test.YtcgapkepbnbabaaDoorLg
import Derived.Test.YtcgapkepbnbabaaDoorLu
namespace Go.Proofs.YtcgapkepbnbabaaDoor.X5
set_option linter.unusedVariables false
set_option linter.unusedSimpArgs false
open Go.RowKit Wd Ty9

/-- V owns the row out, and each element's bytes are of the call's own, too, in another block. -/
structure On (e : TypeId) (w : World) (V : Value) (out : List Mg) (wr : World) : Prop where
  ex : ∃ vs : List (Int × Value), wr.ownsRow w.heap.size e 2 V out.length (mcl vs) ∧ vs.length = out.length ∧ ∀ (i : Nat) (v : Int × Value) (x : Mg), vs[i]? = some v → out[i]? = some x →
    v.1 = x.1 ∧ (∃ A c, v.2 = .slice A x.2.length c ∧ x.2.length ≤ c) ∧ RowB wr w.heap.size v.2 x.2 ∧ x.2.length ≤ 140737488355328 ∧ (∀ k, v.2.ownBlock = some k → V.ownBlock ≠ some k)
  be : Below w.heap.size w wr
theorem On.nil (e : TypeId) (w : World) : On e w (.slice none 0 0) [] w := ⟨⟨[], World.ownsRow_nil _ _ _ _, rfl, fun i v x h => by simp at h⟩, Below.refl _ _⟩
theorem On.below {e : TypeId} {w wr w2 : World} {V : Value} {out : List Mg} (h : On e w V out wr) (hb : Below wr.heap.size wr w2) : On e w V out w2 := by
  obtain ⟨vs, ho, hl, hel⟩ := h.ex
  refine ⟨⟨vs, ho.kept ⟨hb.os, hb.tape, hb.output, hb.size, fun k hk _ => hb.block k hk⟩ (?_ : V.ownBlock = none ∨ V.ownBlock ≠ some w2.heap.size), hl, fun i v x hv hx => ?_⟩, below_more h.be hb⟩
  · rcases hv : V.ownBlock with _ | k
    · exact .inl rfl
    · exact .inr (fun e => by injection e with e; have := (ho.lt k hv).2; have := hb.size; omega)
  · obtain ⟨h1, h2, h3, h4, h5⟩ := hel i v x hv hx
    exact ⟨h1, h2, h3.below hb, h4, h5⟩
theorem On.base {e : TypeId} {w w0 wr : World} {V : Value} {out : List Mg} (h : On e w V out wr) (hb : Below w0.heap.size w0 w) : On e w0 V out wr := by
  obtain ⟨vs, ho, hl, hel⟩ := h.ex
  refine ⟨⟨vs, own_base ho hb.size, hl, fun i v x hv hx => ?_⟩, below_more hb h.be⟩
  obtain ⟨h1, h2, h3, h4, h5⟩ := hel i v x hv hx
  exact ⟨h1, h2, h3.up hb.size, h4, h5⟩
theorem On.om {e : TypeId} {w wr : World} {V : Value} {out : List Mg} (h : On e w V out wr) : Om e w V out wr := by
  obtain ⟨vs, ho, hl, hel⟩ := h.ex
  refine ⟨⟨vs, ho, hl, fun i v x hv hx => ?_⟩, h.be⟩
  obtain ⟨h1, ⟨A, c, h2, h2c⟩, h3, h4, h5⟩ := hel i v x hv hx
  obtain ⟨A2, c2, h6, h7⟩ := h3.byt
  rw [h2] at h6
  injection h6 with e1 e2 e3
  subst e1
  refine ⟨h1, A, c, h2, h2c, h4, h7, fun h0 b o e2 => ?_⟩
  refine h5 b ?_
  rw [h2, e2]
  rfl
theorem On.form {e : TypeId} {w wr : World} {V : Value} {out : List Mg} (h : On e w V out wr) : ∃ A c, V = .slice A out.length c := h.om.form
/-- One message more. -/
theorem wp_pushM {t e : TypeId} (ht : Tryd.prog.underlying t = some (.slice e)) (hinf : (Tryd.prog.info? e).map (fun i => (i.zero, i.size, i.bytes)) = some (some (.agg #[.int .i64 0, .slice none 0 0]), 2, 32))
    {ops : Array Oper} {rest : List Oper} {o : Oper} {a : Act} {w : World} {Q : Exit → Act → World → Prop} (hgd : o.guard = none) (s x : Operand)
    (ho : o.op = .call { callee := .builtin .append, args := #[s, x], argTypes := #[t, t] })
    (w0 : World) (V : Value) (out : List Mg) (y : Mg) (Vy : Value) (g : Nat) (hs : a.eval s = V) (hx : a.eval x = .slice (some ⟨g, 0, none⟩) 1 1) (h : On e w0 V out w) (hb : Bx w g e #[.int .i64 y.1, Vy])
    (hf : ∃ A c, Vy = .slice A y.2.length c ∧ y.2.length ≤ c) (hy : RowB w w0.heap.size Vy y.2) (hq2 : y.2.length ≤ 140737488355328) (hne : ∀ k, Vy.ownBlock = some k → V.ownBlock ≠ some k) (hl : (out.length + 1) * 32 ≤ 140737488355328)
    (hK : ∀ V' w', On e w0 V' (out ++ [y]) w' → wpList Tryd.prog ops Q rest (a.put o.dst V') w') :
    wpList Tryd.prog ops Q (o :: rest) a w := by
  obtain ⟨vs, hown, hvl, hel⟩ := h.ex
  obtain ⟨i0, hi0, hz, hs0, hbt⟩ := info_parts hinf
  have hone : Vy.oneCell' = true := by obtain ⟨A, c, e, _⟩ := hf; rw [e]; rfl
  have honl : ∀ u ∈ [Value.int .i64 y.1, Vy], u.oneCell' = true := by
    intro u hu
    simp only [List.mem_cons, List.not_mem_nil, or_false] at hu
    rcases hu with rfl | rfl
    · rfl
    · exact hone
  obtain ⟨V', w', hr, h2, h3, h4, h5⟩ := run_append_own_at (P := Tryd.prog) w w0.heap.size t o.type e i0 _ 2 32 ht hi0 hz hs0 hbt (by rfl) (by decide) V out.length (mcl vs) hown ⟨g, 0, none⟩ 1 1 [.int .i64 y.1, Vy] (by rfl) (World.news_of_block hb) honl (by unfold maxLen; omega) hl h.be.size
  refine Lib.wpList_append_run w hgd s x t t ho _ _ hs hx V' w' hr ?_
  have hold : ∀ k, k < w.heap.size → V.ownBlock ≠ some k → V'.ownBlock ≠ some k := by
    intro k hlt hn
    rcases h5 with h5 | h5
    · rw [h5]; exact hn
    · rw [h5]; intro e; have := Option.some.inj e; omega
  have hrb : ∀ (U : Value) (bs : List Nat), RowB w w0.heap.size U bs → (∀ k, U.ownBlock = some k → V.ownBlock ≠ some k) → RowB w' w0.heap.size U bs ∧ ∀ k, U.ownBlock = some k → V'.ownBlock ≠ some k := by
    intro U bs hU hd
    refine ⟨rowb_grown hU h3 ?_, fun k hk => hold k (hU.own.lt k hk).2 (hd k hk)⟩
    rcases hu : U.ownBlock with _ | k
    · exact .inl rfl
    · exact .inr (fun e => hd k hu e.symm)
  refine hK V' w' ⟨⟨vs ++ [(y.1, Vy)], ?_, by simp [hvl], fun i v z hv hzx => ?_⟩, h.be.grown h3 h.be.size (fun k hk => (hown.lt k hk).1)⟩
  · rw [mcl_app, List.length_append]; exact h2
  · rcases Nat.lt_or_ge i out.length with hi | hi
    · rw [List.getElem?_append_left (by omega)] at hv hzx
      obtain ⟨k1, k2, k3, k4, k5⟩ := hel i v z hv hzx
      obtain ⟨q1, q2⟩ := hrb _ _ k3 k5
      exact ⟨k1, k2, q1, k4, q2⟩
    · have hie : i = out.length := by
        have := (List.getElem?_eq_some_iff.mp hzx).1
        simp at this
        omega
      subst hie
      rw [List.getElem?_append_right (by omega)] at hv hzx
      simp [hvl] at hv hzx
      subst hv hzx
      obtain ⟨q1, q2⟩ := hrb _ _ hy hne
      exact ⟨rfl, hf, q1, hq2, q2⟩

/-- What Get tells of four bytes at p. -/
def GtP (bs : List Nat) (p : Nat) (w : World) (e : Ending) (w' : World) : Prop :=
  ∃ (u : Nat) (z : Int), e = .returned (.tuple #[.int .u64 (u : Int), .int .i64 z]) ∧ Below w.heap.size w w' ∧ ((p + 4 ≤ bs.length ∧ u = getN bs p ∧ z = 0) ∨ (bs.length < p + 4 ∧ u = 0 ∧ z = 4))
/-- What GetBytes tells at p. -/
def GbP (bs : List Nat) (p : Nat) (w : World) (e : Ending) (w' : World) : Prop :=
  ∃ (V : Value) (nx : Nat) (z : Int), e = .returned (.tuple #[V, .int .i64 (nx : Int), .int .i64 z]) ∧ Below w.heap.size w w' ∧
    ((z = 0 ∧ p + 4 ≤ bs.length ∧ getN bs p ≤ 65536 ∧ nx = p + 4 + getN bs p ∧ nx ≤ bs.length ∧ RowB w' w.heap.size V ((bs.drop (p + 4)).take (getN bs p))) ∨
    (z ≠ 0 ∧ V = .slice none 0 0 ∧ ¬ (p + 4 ≤ bs.length ∧ getN bs p ≤ 65536 ∧ p + 4 + getN bs p ≤ bs.length)))
theorem get_full (p m c : Nat) (A : Option Addr) (bs : List Nat) (w : World) (hm : m ≤ 140737488000000) (hc : m ≤ c) (hp : p ≤ m) (hb : Byt w w.heap.size A m bs) :
    Calls Tryd.prog 56 #[.slice A m c, .int .i64 p, .int .i64 4, .bool true] w fun e w' => GtP bs p w e w' := by
  have hl := hb.len
  by_cases h4 : p + 4 ≤ m
  · exact (get84_ok p m c A bs w (by omega) hc h4 hb).mono fun e w' ⟨h1, h2⟩ => ⟨_, _, h1, h2, .inl ⟨by omega, rfl, rfl⟩⟩
  · exact (get84_no p m c A w (by omega) hp (by omega)).mono fun e w' ⟨h1, h2⟩ => ⟨0, 4, h1, h2, .inr ⟨by omega, rfl, rfl⟩⟩
theorem rget_full (p m c : Nat) (A : Option Addr) (bs : List Nat) (w : World) (hm : m ≤ 140737488000000) (hp : p ≤ m) (hb : Byt w w.heap.size A m bs) :
    Calls Tryd.prog 38 #[.slice A m c, .int .i64 p, .int .i64 4, .bool true] w fun e w' => GtP bs p w e w' := by
  have hl := hb.len
  by_cases h4 : p + 4 ≤ m
  · exact (rget84_ok p m c A bs w (by omega) h4 hb).mono fun e w' ⟨h1, h2⟩ => ⟨_, _, h1, h2, .inl ⟨by omega, rfl, rfl⟩⟩
  · exact (rget84_no p m c A w (by omega) hp (by omega)).mono fun e w' ⟨h1, h2⟩ => ⟨0, 4, h1, h2, .inr ⟨by omega, rfl, rfl⟩⟩
theorem getb_full (p m c : Nat) (A : Option Addr) (bs : List Nat) (w : World) (hm : m ≤ 140737488000000) (hc : m ≤ c) (hp : p ≤ m) (hb : Byt w w.heap.size A m bs) :
    Calls Tryd.prog 57 #[.slice A m c, .int .i64 p] w fun e w' => GbP bs p w e w' := by
  have hl := hb.len
  by_cases h4 : p + 4 ≤ m
  · by_cases hk : getN bs p ≤ 65536 ∧ p + 4 + getN bs p ≤ m
    · exact (getb8_ok p m c (getN bs p) A bs w hm hc hb rfl hk.1 hk.2).mono fun e w' ⟨V, h1, h2, h3⟩ => ⟨V, p + 4 + getN bs p, 0, by rw [h1]; simp, h3, .inl ⟨rfl, by omega, hk.1, rfl, by omega, h2⟩⟩
    · exact (getb8_no p m c (getN bs p) A bs w (by omega) hc hb rfl h4 (by omega) (getN_lt hb.lt p)).mono fun e w' ⟨⟨z, h0, h1⟩, h3⟩ => ⟨.slice none 0 0, 0, z, h1, h3, .inr ⟨h0, rfl, fun h => hk ⟨h.2.1, by omega⟩⟩⟩
  · exact (getb8_short p m c A w (by omega) hp (by omega)).mono fun e w' ⟨h1, h3⟩ => ⟨.slice none 0 0, 0, 4, h1, h3, .inr ⟨by omega, rfl, fun h => h4 (by omega)⟩⟩
theorem rgetb_full (p m c : Nat) (A : Option Addr) (bs : List Nat) (w : World) (hm : m ≤ 140737488000000) (hc : m ≤ c) (hp : p ≤ m) (hb : Byt w w.heap.size A m bs) :
    Calls Tryd.prog 58 #[.slice A m c, .int .i64 p] w fun e w' => GbP bs p w e w' := by
  have hl := hb.len
  by_cases h4 : p + 4 ≤ m
  · by_cases hk : getN bs p ≤ 65536 ∧ p + 4 + getN bs p ≤ m
    · exact (rgetb8_ok p m c (getN bs p) A bs w hm hc hb rfl hk.1 hk.2).mono fun e w' ⟨V, h1, h2, h3⟩ => ⟨V, p + 4 + getN bs p, 0, by rw [h1]; simp, h3, .inl ⟨rfl, by omega, hk.1, rfl, by omega, h2⟩⟩
    · exact (rgetb8_no p m c (getN bs p) A bs w (by omega) hc hb rfl h4 (by omega) (getN_lt hb.lt p)).mono fun e w' ⟨⟨z, h0, h1⟩, h3⟩ => ⟨.slice none 0 0, 0, z, h1, h3, .inr ⟨h0, rfl, fun h => hk ⟨h.2.1, by omega⟩⟩⟩
  · exact (rgetb8_short p m c A w (by omega) hp (by omega)).mono fun e w' ⟨h1, h3⟩ => ⟨.slice none 0 0, 0, 4, h1, h3, .inr ⟨by omega, rfl, fun h => h4 (by omega)⟩⟩

theorem getMsg_no {s : List Nat} {p : Nat} (h : ¬ (p + 8 ≤ s.length ∧ getN s (p + 4) ≤ 65536 ∧ p + 8 + getN s (p + 4) ≤ s.length)) : getMsg s p = none := by unfold getMsg; rw [if_neg h]
theorem getMsg_yes {s : List Nat} {p : Nat} (h1 : p + 8 ≤ s.length) (h2 : getN s (p + 4) ≤ 65536) (h3 : p + 8 + getN s (p + 4) ≤ s.length) : getMsg s p = some (((getN s p : Int), (s.drop (p + 8)).take (getN s (p + 4))), p + 8 + getN s (p + 4)) := by unfold getMsg; rw [if_pos ⟨h1, h2, h3⟩]
theorem parseS_head {s : List Nat} (h : ¬ (4 ≤ s.length ∧ getN s 0 ≤ 65536)) : parseS s = none := by unfold parseS; rw [if_neg h]
theorem parseS_none {s : List Nat} (h : parseF s (getN s 0) 4 = none) : parseS s = none := by
  unfold parseS; split
  · rw [h]
  · rfl
theorem parseS_bad {s : List Nat} {l : List Mg} {q : Nat} (h : parseF s (getN s 0) 4 = some (l, q)) (hb : ¬ (q = s.length ∧ IsMay l 0)) : parseS s = none := by
  unfold parseS; split
  · rw [h]; simp only; rw [if_neg hb]
  · rfl
theorem parseS_yes {s : List Nat} {l : List Mg} {q : Nat} (h1 : 4 ≤ s.length) (h2 : getN s 0 ≤ 65536) (h : parseF s (getN s 0) 4 = some (l, q)) (hb : q = s.length) (hm : IsMay l 0) : parseS s = some l := by
  unfold parseS
  rw [if_pos ⟨h1, h2⟩, h]; simp only; rw [if_pos ⟨hb, hm⟩]
/-- The state of a parse: k messages are read, and p is next. -/
def PsAt (s : List Nat) (N k p : Nat) (l : List Mg) : Prop := l.length = k ∧ p ≤ s.length ∧ parseF s N 4 = (parseF s (N - k) p).map fun r => (l ++ r.1, r.2)
theorem PsAt.zero {s : List Nat} {N : Nat} (h : 4 ≤ s.length) : PsAt s N 0 4 [] := ⟨rfl, h, by
  rw [Nat.sub_zero]
  rcases parseF s N 4 with _ | ⟨a, b⟩ <;> rfl⟩
theorem PsAt.no {s : List Nat} {N k p : Nat} {l : List Mg} (h : PsAt s N k p l) (hk : k < N) (hn : getMsg s p = none) : parseF s N 4 = none := by
  rw [h.2.2, show N - k = N - k - 1 + 1 by omega, parseF_no hn]; rfl
theorem PsAt.next {s : List Nat} {N k p q : Nat} {l : List Mg} {m : Mg} (h : PsAt s N k p l) (hk : k < N) (hm : getMsg s p = some (m, q)) : PsAt s N (k + 1) q (l ++ [m]) := by
  refine ⟨by rw [List.length_append, h.1]; rfl, (getMsg_le hm).2.1, ?_⟩
  rw [h.2.2, show N - k = N - (k + 1) + 1 by omega, parseF_yes hm]
  rcases parseF s (N - (k + 1)) q with _ | ⟨a, b⟩
  · rfl
  · simp
theorem PsAt.done {s : List Nat} {N p : Nat} {l : List Mg} (h : PsAt s N N p l) : parseF s N 4 = some (l, p) := by
  rw [h.2.2, Nat.sub_self]; simp [parseF]
end Go.Proofs.YtcgapkepbnbabaaDoor.X5
