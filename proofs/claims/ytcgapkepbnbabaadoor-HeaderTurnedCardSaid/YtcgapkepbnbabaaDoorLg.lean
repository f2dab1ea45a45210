/- Rows of messages and of blocks that grow. -/
import Derived.Test.YtcgapkepbnbabaaDoorLc
import Derived.Test.YtcgapkepbnbabaaDoorKm
namespace Go.Proofs.YtcgapkepbnbabaaDoor.X5
set_option linter.unusedVariables false
set_option linter.unusedSimpArgs false
open Go.RowKit Wd Ty9

theorem byt_grown {w w' : World} {B n : Nat} {A : Option Addr} {bs : List Nat} {r : Option Nat} (h : Byt w B A n bs) (hB : B ≤ w.heap.size) (hg : w.grownBy w' r) (hne : 0 < n → ∀ b o, A = some ⟨b, o, none⟩ → r ≠ some b) : Byt w' w'.heap.size A n bs :=
  ⟨h.len, h.lt, fun h0 => by
    obtain ⟨b, o, e, h1, h2⟩ := h.at_ h0
    refine ⟨b, o, e, Nat.lt_of_lt_of_le h1 (Nat.le_trans hB hg.size), fun j hj => ?_⟩
    have hb : w'.heap[b]? = w.heap[b]? := hg.block b (Nat.lt_of_lt_of_le h1 hB) (fun e2 => hne h0 b o e e2.symm)
    exact (World.cell?_of_block (w := w) (a := ⟨b, o + j, none⟩) hb).trans (h2 j hj)⟩

def mcl (vs : List (Int × Value)) : List Value := vs.flatMap fun x => [.int .i64 x.1, x.2]
theorem mcl_app (a b : List (Int × Value)) : mcl (a ++ b) = mcl a ++ mcl b := by unfold mcl; simp
theorem mcl_get : ∀ (vs : List (Int × Value)) (i : Nat) (h : i < vs.length), (mcl vs)[i * 2]? = some (.int .i64 vs[i].1) ∧ (mcl vs)[i * 2 + 1]? = some vs[i].2
  | [], i, h => absurd h (Nat.not_lt_zero _)
  | x :: vs, 0, _ => ⟨rfl, rfl⟩
  | x :: vs, i + 1, h => by
    have ih := mcl_get vs i (Nat.lt_of_succ_lt_succ h)
    have e : mcl (x :: vs) = .int .i64 x.1 :: x.2 :: mcl vs := rfl
    rw [e, show (i + 1) * 2 = i * 2 + 1 + 1 by omega]
    exact ih
/-- One element in memory. -/
def Em (wr : World) (r : Option Nat) (v : Int × Value) (x : Mg) : Prop :=
  v.1 = x.1 ∧ ∃ Ai ci, v.2 = .slice Ai x.2.length ci ∧ x.2.length ≤ ci ∧ x.2.length ≤ 140737488355328 ∧ Byt wr wr.heap.size Ai x.2.length x.2 ∧ (0 < x.2.length → ∀ b o, Ai = some ⟨b, o, none⟩ → r ≠ some b)
/-- V owns the row out; the elements' bytes lie elsewhere. -/
structure Om (e : TypeId) (w : World) (V : Value) (out : List Mg) (wr : World) : Prop where
  ex : ∃ vs : List (Int × Value), wr.ownsRow w.heap.size e 2 V out.length (mcl vs) ∧ vs.length = out.length ∧ ∀ (i : Nat) (v : Int × Value) (x : Mg), vs[i]? = some v → out[i]? = some x → Em wr V.ownBlock v x
  be : Below w.heap.size w wr
theorem Om.nil (e : TypeId) (w : World) : Om e w (.slice none 0 0) [] w := ⟨⟨[], World.ownsRow_nil _ _ _ _, rfl, fun i v x h => by simp at h⟩, Below.refl _ _⟩
theorem Om.form {e : TypeId} {w wr : World} {V : Value} {out : List Mg} (h : Om e w V out wr) : ∃ A c, V = .slice A out.length c := by
  obtain ⟨vs, ho, _⟩ := h.ex
  exact own_form ho
theorem Om.below {e : TypeId} {w wr w2 : World} {V : Value} {out : List Mg} (h : Om e w V out wr) (hb : Below wr.heap.size wr w2) : Om e w V out w2 := by
  obtain ⟨vs, ho, hl, hel⟩ := h.ex
  refine ⟨⟨vs, ho.kept ⟨hb.os, hb.tape, hb.output, hb.size, fun k hk _ => hb.block k hk⟩ (?_ : V.ownBlock = none ∨ V.ownBlock ≠ some w2.heap.size), hl, fun i v x hv hx => ?_⟩, below_more h.be hb⟩
  · rcases hv : V.ownBlock with _ | k
    · exact .inl rfl
    · exact .inr (fun e => by injection e with e; have := (ho.lt k hv).2; have := hb.size; omega)
  · obtain ⟨h1, Ai, ci, h2, h3, h4, h5, h6⟩ := hel i v x hv hx
    exact ⟨h1, Ai, ci, h2, h3, h4, (h5.later hb).up hb.size, h6⟩
theorem Om.ms {e : TypeId} {w wr : World} {A : Option Addr} {n c : Nat} {out : List Mg} (h : Om e w (.slice A n c) out wr) (hn : out.length = n) : Ms wr wr.heap.size A n out := by
  obtain ⟨vs, ho, hl, hel⟩ := h.ex
  refine ⟨hn, fun h0 => ?_⟩
  rcases ho.2 with ⟨hv, h1⟩ | ⟨g, cap, cur, hv, hb, hg, hc, _⟩
  · injection hv with e1 e2 e3; omega
  · injection hv with e1 e2 e3
    subst e1
    refine ⟨g, 0, rfl, (Array.getElem?_eq_some_iff.1 hg).1, fun i hi => ?_⟩
    have hi2 : i < vs.length := by omega
    obtain ⟨m1, m2⟩ := mcl_get vs i hi2
    obtain ⟨h1, Ai, ci, h2, h3, h4, h5, h6⟩ := hel i vs[i] out[i] (List.getElem?_eq_getElem _) (List.getElem?_eq_getElem _)
    have hadd : ∀ j, (⟨g, 0, none⟩ : Addr).add j = ⟨g, 0 + j, none⟩ := fun j => by unfold Addr.add; split <;> simp_all
    have q0 := ho.cells (g := g) rfl _ _ m1
    have q1 := ho.cells (g := g) rfl _ _ m2
    rw [hadd] at q0 q1
    rw [h1] at q0
    rw [h2] at q1
    exact ⟨Ai, ci, q0, q1, h3, h4, h5⟩
/-- One element more, as a step of a region that draws. -/
theorem step_push {t e : TypeId} (ht : Tryd.prog.underlying t = some (.slice e)) (hinf : (Tryd.prog.info? e).map (fun i => (i.zero, i.size, i.bytes)) = some (some (.agg #[.int .i64 0, .slice none 0 0]), 2, 32))
    {ops : Array Oper} {o : Oper} {a : Act} {w : World} {K : Act → World → Prop} {Q : Exit → Act → World → Prop} {E : Prop} (hgd : o.guard = none) (s x : Operand)
    (ho : o.op = .call { callee := .builtin .append, args := #[s, x], argTypes := #[t, t] })
    (w0 : World) (V : Value) (out : List Mg) (y : Mg) (Ai : Option Addr) (q ci g : Nat) (hs : a.eval s = V) (hx : a.eval x = .slice (some ⟨g, 0, none⟩) 1 1) (h : Om e w0 V out w) (hq : y.2.length = q) (hb : Bx w g e #[.int .i64 y.1, .slice Ai q ci])
    (hci : q ≤ ci) (hq2 : q ≤ 140737488355328) (hy : Byt w w.heap.size Ai q y.2) (hne : 0 < q → ∀ b o, Ai = some ⟨b, o, none⟩ → V.ownBlock ≠ some b) (hl : (out.length + 1) * 32 ≤ 140737488355328)
    (hK : ∀ V' w', Om e w0 V' (out ++ [y]) w' → K (a.put o.dst V') w') :
    if Region.wanted o (yielded ops a.tmps) = true then Oper.wp Tryd.prog o a w K Q else E := by
  have hw : Region.wanted o (yielded ops a.tmps) = true := by simp [Region.wanted, hgd]
  rw [if_pos hw]
  subst hq
  obtain ⟨vs, hown, hvl, hel⟩ := h.ex
  obtain ⟨i0, hi0, hz, hs0, hbt⟩ := info_parts hinf
  obtain ⟨V', w', hr, h2, h3, h4, h5⟩ := run_append_own_at (P := Tryd.prog) w w0.heap.size t o.type e i0 _ 2 32 ht hi0 hz hs0 hbt (by rfl) (by decide) V out.length (mcl vs) hown ⟨g, 0, none⟩ 1 1 [.int .i64 y.1, .slice Ai y.2.length ci] (by rfl) (World.news_of_block hb) (by simp [Value.oneCell']) (by unfold maxLen; omega) hl h.be.size
  unfold Oper.wp execOp
  simp only [ho, resolve, invoke, builtin, Sem.run_bind, Sem.run_pure, Result.andThen_ok, List.map_toArray, List.map_cons, List.map_nil, hs, hx, hr]
  refine hK V' w' ⟨⟨vs ++ [(y.1, .slice Ai y.2.length ci)], ?_, by simp [hvl], fun i v z hv hzx => ?_⟩, h.be.grown h3 h.be.size (fun k hk => (hown.lt k hk).1)⟩
  · rw [mcl_app, List.length_append]; exact h2
  · have hold : ∀ Aj b o, Aj = some (⟨b, o, none⟩ : Addr) → b < w.heap.size → V.ownBlock ≠ some b → V'.ownBlock ≠ some b := by
      intro Aj b o _ hlt hn
      rcases h5 with h5 | h5
      · rw [h5]; exact hn
      · rw [h5]; intro e; have := Option.some.inj e; omega
    rcases Nat.lt_or_ge i out.length with hi | hi
    · rw [List.getElem?_append_left (by omega)] at hv hzx
      obtain ⟨k1, Aj, cj, k2, k3, k4, k5, k6⟩ := hel i v z hv hzx
      refine ⟨k1, Aj, cj, k2, k3, k4, byt_grown k5 (Nat.le_refl _) h3 k6, fun hz0 b o e => ?_⟩
      obtain ⟨b', o', e', hlt, _⟩ := k5.at_ hz0
      rw [e] at e'
      cases e'
      exact hold Aj b o e hlt (k6 hz0 b o e)
    · have hie : i = out.length := by
        have := (List.getElem?_eq_some_iff.mp hzx).1
        simp at this
        omega
      subst hie
      rw [List.getElem?_append_right (by omega)] at hv hzx
      simp [hvl] at hv hzx
      subst hv hzx
      refine ⟨rfl, Ai, ci, rfl, hci, hq2, byt_grown hy (Nat.le_refl _) h3 hne, fun hz0 b o e => ?_⟩
      obtain ⟨b', o', e', hlt, _⟩ := hy.at_ hz0
      rw [e] at e'
      cases e'
      exact hold Ai b o e hlt (hne hz0 b o e)

/-- V owns the row out; element i's bytes are an own row in block gs[i]; the gs rise, and lie below β. -/
structure Ob (e : TypeId) (w : World) (V : Value) (out : List Mg) (β : Nat) (wr : World) : Prop where
  ex : ∃ (vs : List (Int × Value)) (gs : List Nat), wr.ownsRow w.heap.size e 2 V out.length (mcl vs) ∧ vs.length = out.length ∧ gs.length = out.length ∧ gs.Pairwise (· < ·) ∧ (∀ g ∈ gs, g < β) ∧
    ∀ (i : Nat) (v : Int × Value) (x : Mg) (g : Nat), vs[i]? = some v → out[i]? = some x → gs[i]? = some g →
      v.1 = x.1 ∧ (∃ c, v.2 = .slice (some ⟨g, 0, none⟩) x.2.length c ∧ x.2.length ≤ c) ∧ RowB wr w.heap.size v.2 x.2 ∧ x.2.length ≤ 140737488355328 ∧ V.ownBlock ≠ some g ∧ g < wr.heap.size
  be : Below w.heap.size w wr
  le : β ≤ wr.heap.size
theorem Ob.nil (e : TypeId) (w : World) : Ob e w (.slice none 0 0) [] w.heap.size w :=
  ⟨⟨[], [], World.ownsRow_nil _ _ _ _, rfl, rfl, List.Pairwise.nil, fun g h => absurd h (List.not_mem_nil), fun i v x g h => by simp at h⟩, Below.refl _ _, Nat.le_refl _⟩
theorem Ob.below {e : TypeId} {w wr w2 : World} {V : Value} {out : List Mg} {β : Nat} (h : Ob e w V out β wr) (hb : Below wr.heap.size wr w2) : Ob e w V out β w2 := by
  obtain ⟨vs, gs, ho, hl, hgl, hp, hlt, hel⟩ := h.ex
  refine ⟨⟨vs, gs, ho.kept ⟨hb.os, hb.tape, hb.output, hb.size, fun k hk _ => hb.block k hk⟩ (?_ : V.ownBlock = none ∨ V.ownBlock ≠ some w2.heap.size), hl, hgl, hp, hlt, fun i v x g hv hx hg => ?_⟩, below_more h.be hb, Nat.le_trans h.le hb.size⟩
  · rcases hv : V.ownBlock with _ | k
    · exact .inl rfl
    · exact .inr (fun e => by injection e with e; have := (ho.lt k hv).2; have := hb.size; omega)
  · obtain ⟨h1, h2, h3, h4, h5, h6⟩ := hel i v x g hv hx hg
    exact ⟨h1, h2, h3.below hb, h4, h5, Nat.lt_of_lt_of_le h6 hb.size⟩
theorem Ob.wide {e : TypeId} {w wr : World} {V : Value} {out : List Mg} {β : Nat} (h : Ob e w V out β wr) : Ob e w V out wr.heap.size wr := by
  obtain ⟨vs, gs, ho, hl, hgl, hp, hlt, hel⟩ := h.ex
  exact ⟨⟨vs, gs, ho, hl, hgl, hp, fun g hg => Nat.lt_of_lt_of_le (hlt g hg) h.le, hel⟩, h.be, Nat.le_refl _⟩
theorem Ob.base {e : TypeId} {w w0 wr : World} {V : Value} {out : List Mg} {β : Nat} (h : Ob e w V out β wr) (hb : Below w0.heap.size w0 w) : Ob e w0 V out β wr := by
  obtain ⟨vs, gs, ho, hl, hgl, hp, hlt, hel⟩ := h.ex
  refine ⟨⟨vs, gs, own_base ho hb.size, hl, hgl, hp, hlt, fun i v x g hv hx hg => ?_⟩, below_more hb h.be, h.le⟩
  obtain ⟨h1, h2, h3, h4, h5, h6⟩ := hel i v x g hv hx hg
  exact ⟨h1, h2, h3.up hb.size, h4, h5, h6⟩
theorem Ob.om {e : TypeId} {w wr : World} {V : Value} {out : List Mg} {β : Nat} (h : Ob e w V out β wr) : Om e w V out wr := by
  obtain ⟨vs, gs, ho, hl, hgl, hp, hlt, hel⟩ := h.ex
  refine ⟨⟨vs, ho, hl, fun i v x hv hx => ?_⟩, h.be⟩
  have hi : i < gs.length := by rw [hgl, ← hl]; exact (List.getElem?_eq_some_iff.mp hv).1
  obtain ⟨h1, ⟨c, h2, h2c⟩, h3, h4, h5, h6⟩ := hel i v x gs[i] hv hx (List.getElem?_eq_getElem hi)
  refine ⟨h1, _, c, h2, h2c, h4, Byt.of_own (by rw [← h2]; exact h3.own) h3.lt, fun _ b o e2 => ?_⟩
  cases e2
  exact h5
theorem Ob.form {e : TypeId} {w wr : World} {V : Value} {out : List Mg} {β : Nat} (h : Ob e w V out β wr) : ∃ A c, V = .slice A out.length c := h.om.form
theorem own_lt {w : World} {base n c g : Nat} {bs : List Nat} (h : RowB w base (.slice (some ⟨g, 0, none⟩) n c) bs) : base ≤ g ∧ g < w.heap.size := h.own.lt g rfl
theorem rowb_grown {w w' : World} {base : Nat} {V : Value} {bs : List Nat} {r : Option Nat} (h : RowB w base V bs) (hg : w.grownBy w' r) (hne : V.ownBlock = none ∨ V.ownBlock ≠ r) : RowB w' base V bs := ⟨h.own.kept hg hne, h.lt⟩
/-- One block more, as a step of a region that draws. -/
theorem step_pushB {t e : TypeId} (ht : Tryd.prog.underlying t = some (.slice e)) (hinf : (Tryd.prog.info? e).map (fun i => (i.zero, i.size, i.bytes)) = some (some (.agg #[.int .i64 0, .slice none 0 0]), 2, 32))
    {ops : Array Oper} {o : Oper} {a : Act} {w : World} {K : Act → World → Prop} {Q : Exit → Act → World → Prop} {E : Prop} (hgd : o.guard = none) (s x : Operand)
    (ho : o.op = .call { callee := .builtin .append, args := #[s, x], argTypes := #[t, t] })
    (w0 : World) (V : Value) (out : List Mg) (y : Mg) (g2 q ci g β : Nat) (hs : a.eval s = V) (hx : a.eval x = .slice (some ⟨g, 0, none⟩) 1 1) (h : Ob e w0 V out β w) (hq : y.2.length = q) (hb : Bx w g e #[.int .i64 y.1, .slice (some ⟨g2, 0, none⟩) q ci])
    (hci : q ≤ ci) (hq2 : q ≤ 140737488355328) (hy : RowB w w0.heap.size (.slice (some ⟨g2, 0, none⟩) q ci) y.2) (hβ : β ≤ g2) (hne : V.ownBlock ≠ some g2) (hl : (out.length + 1) * 32 ≤ 140737488355328)
    (hK : ∀ V' w', Ob e w0 V' (out ++ [y]) w'.heap.size w' → K (a.put o.dst V') w') :
    if Region.wanted o (yielded ops a.tmps) = true then Oper.wp Tryd.prog o a w K Q else E := by
  have hw : Region.wanted o (yielded ops a.tmps) = true := by simp [Region.wanted, hgd]
  rw [if_pos hw]
  subst hq
  obtain ⟨vs, gs, hown, hvl, hgl, hpw, hglt, hel⟩ := h.ex
  obtain ⟨i0, hi0, hz, hs0, hbt⟩ := info_parts hinf
  obtain ⟨V', w', hr, h2, h3, h4, h5⟩ := run_append_own_at (P := Tryd.prog) w w0.heap.size t o.type e i0 _ 2 32 ht hi0 hz hs0 hbt (by rfl) (by decide) V out.length (mcl vs) hown ⟨g, 0, none⟩ 1 1 [.int .i64 y.1, .slice (some ⟨g2, 0, none⟩) y.2.length ci] (by rfl) (World.news_of_block hb) (by simp [Value.oneCell']) (by unfold maxLen; omega) hl h.be.size
  unfold Oper.wp execOp
  simp only [ho, resolve, invoke, builtin, Sem.run_bind, Sem.run_pure, Result.andThen_ok, List.map_toArray, List.map_cons, List.map_nil, hs, hx, hr]
  have hy2 := own_lt hy
  have hold : ∀ k, k < w.heap.size → V.ownBlock ≠ some k → V'.ownBlock ≠ some k := by
    intro k hlt hn
    rcases h5 with h5 | h5
    · rw [h5]; exact hn
    · rw [h5]; intro e; have := Option.some.inj e; omega
  refine hK V' w' ⟨⟨vs ++ [(y.1, .slice (some ⟨g2, 0, none⟩) y.2.length ci)], gs ++ [g2], ?_, by simp [hvl], by simp [hgl], ?_, ?_, fun i v z k hv hzx hk => ?_⟩, h.be.grown h3 h.be.size (fun k hk => (hown.lt k hk).1), Nat.le_refl _⟩
  · rw [mcl_app, List.length_append]; exact h2
  · rw [List.pairwise_append]
    refine ⟨hpw, by simp, fun a ha b hb => ?_⟩
    obtain rfl : b = g2 := by simpa using hb
    exact Nat.lt_of_lt_of_le (hglt a ha) hβ
  · intro k hk
    have hsz := h3.size
    rcases List.mem_append.mp hk with hk | hk
    · have := hglt k hk; have := h.le; omega
    · obtain rfl : k = g2 := by simpa using hk
      omega
  · have hsz := h3.size
    rcases Nat.lt_or_ge i out.length with hi | hi
    · rw [List.getElem?_append_left (by omega)] at hv hzx hk
      obtain ⟨k1, ⟨c, k2, k2c⟩, k3, k4, k5, k6⟩ := hel i v z k hv hzx hk
      refine ⟨k1, ⟨c, k2, k2c⟩, rowb_grown k3 h3 (.inr ?_), k4, hold k k6 k5, by omega⟩
      rw [k2]
      exact fun e2 => k5 e2.symm
    · have hie : i = out.length := by
        have := (List.getElem?_eq_some_iff.mp hzx).1
        simp at this
        omega
      subst hie
      rw [List.getElem?_append_right (by omega)] at hv hzx hk
      simp [hvl, hgl] at hv hzx hk
      subst hv hzx hk
      exact ⟨rfl, ⟨ci, rfl, hci⟩, rowb_grown hy h3 (.inr fun e2 => hne e2.symm), hq2, hold g2 hy2.2 hne, by omega⟩
/-- What is told of the blocks behind all. -/
theorem Ob.get {e : TypeId} {w wr : World} {A : Option Addr} {n c β : Nat} {out : List Mg} (h : Ob e w (.slice A n c) out β wr) (hn : 0 < out.length) : ∃ b gs, A = some ⟨b, 0, none⟩ ∧ w.heap.size ≤ b ∧ b < wr.heap.size ∧ (gs : List Nat).length = out.length ∧ gs.Pairwise (· < ·) ∧
    ∀ (i : Nat) (x : Mg) (g : Nat), out[i]? = some x → gs[i]? = some g → ∃ ci, wr.cell? ⟨b, i * 2, none⟩ = some (.int .i64 x.1) ∧ wr.cell? ⟨b, i * 2 + 1, none⟩ = some (.slice (some ⟨g, 0, none⟩) x.2.length ci) ∧ x.2.length ≤ ci ∧
      RowB wr w.heap.size (.slice (some ⟨g, 0, none⟩) x.2.length ci) x.2 ∧ b ≠ g := by
  obtain ⟨vs, gs, ho, hl, hgl, hp, hlt, hel⟩ := h.ex
  rcases ho.2 with ⟨hv, h1⟩ | ⟨b, cap, cur, hv, hb, hg, hc, _⟩
  · omega
  · injection hv with e1 e2 e3
    subst e1
    refine ⟨b, gs, rfl, hb, (Array.getElem?_eq_some_iff.1 hg).1, hgl, hp, fun i x g hx hgi => ?_⟩
    have hi2 : i < vs.length := by rw [hl]; exact (List.getElem?_eq_some_iff.mp hx).1
    obtain ⟨m1, m2⟩ := mcl_get vs i hi2
    obtain ⟨h1, ⟨c', h2, h2c⟩, h3, h4, h5, h6⟩ := hel i vs[i] x g (List.getElem?_eq_getElem _) hx hgi
    have hadd : ∀ j, (⟨b, 0, none⟩ : Addr).add j = ⟨b, j, none⟩ := fun j => by unfold Addr.add; split <;> simp_all
    have q0 := ho.cells (g := b) rfl _ _ m1
    have q1 := ho.cells (g := b) rfl _ _ m2
    rw [hadd] at q0 q1
    rw [h1] at q0
    rw [h2] at q1 h3
    exact ⟨c', q0, q1, h2c, h3, fun e2 => h5 (by rw [← e2]; rfl)⟩
end Go.Proofs.YtcgapkepbnbabaaDoor.X5
