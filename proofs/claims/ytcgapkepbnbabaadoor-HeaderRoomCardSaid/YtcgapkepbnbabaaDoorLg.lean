/- A row of messages or blocks that grows. -/
import Derived.Test.YtcgapkepbnbabaaDoorLf
import Derived.Test.YtcgapkepbnbabaaDoorKm
namespace Go.Proofs.YtcgapkepbnbabaaDoor.X5
set_option linter.unusedVariables false
set_option linter.unusedSimpArgs false
open Go.RowKit Wd Ty9

theorem byt_grown {w w' : World} {B n : Nat} {A : Option Addr} {bs : List Nat} {r : Option Nat} (h : Byt w B A n bs) (hB : B ≤ w.heap.size) (hg : w.grownBy w' r) (hne : 0 < n → ∀ b o, A = some ⟨b, o, none⟩ → r ≠ some b) : Byt w' w'.heap.size A n bs :=
  ⟨h.len, h.lt, fun h0 => by
    obtain ⟨b, o, e, h1, h2⟩ := h.at_ h0
    refine ⟨b, o, e, Nat.lt_of_lt_of_le h1 (Nat.le_trans hB hg.size), fun j hj => ?_⟩
    have hb : w'.heap[b]? = w.heap[b]? := hg.block b (Nat.lt_of_lt_of_le h1 hB) (fun e2 => hne h0 b o e e2.symm)
    exact (World.cell?_of_block (w := w) (a := ⟨b, o + j, none⟩) hb).trans (h2 j hj)⟩

def mcl (vs : List (Int × Value)) : List Value := vs.flatMap fun x => [.int .i64 x.1, x.2]
theorem mcl_app (a b : List (Int × Value)) : mcl (a ++ b) = mcl a ++ mcl b := by unfold mcl; simp
theorem mcl_get : ∀ (vs : List (Int × Value)) (i : Nat) (h : i < vs.length), (mcl vs)[i * 2]? = some (.int .i64 vs[i].1) ∧ (mcl vs)[i * 2 + 1]? = some vs[i].2
  | [], i, h => absurd h (Nat.not_lt_zero _)
  | x :: vs, 0, _ => ⟨rfl, rfl⟩
  | x :: vs, i + 1, h => by
    have ih := mcl_get vs i (Nat.lt_of_succ_lt_succ h)
    have e : mcl (x :: vs) = .int .i64 x.1 :: x.2 :: mcl vs := rfl
    rw [e, show (i + 1) * 2 = i * 2 + 1 + 1 by omega]
    exact ih
/-- One element in memory. -/
def Em (wr : World) (r : Option Nat) (v : Int × Value) (x : Mg) : Prop :=
  v.1 = x.1 ∧ ∃ Ai ci, v.2 = .slice Ai x.2.length ci ∧ x.2.length ≤ ci ∧ x.2.length ≤ 140737488355328 ∧ Byt wr wr.heap.size Ai x.2.length x.2 ∧ (0 < x.2.length → ∀ b o, Ai = some ⟨b, o, none⟩ → r ≠ some b)
/-- V owns the row out; the elements' bytes lie elsewhere. -/
structure Om (e : TypeId) (w : World) (V : Value) (out : List Mg) (wr : World) : Prop where
  ex : ∃ vs : List (Int × Value), wr.ownsRow w.heap.size e 2 V out.length (mcl vs) ∧ vs.length = out.length ∧ ∀ (i : Nat) (v : Int × Value) (x : Mg), vs[i]? = some v → out[i]? = some x → Em wr V.ownBlock v x
  be : Below w.heap.size w wr
theorem Om.nil (e : TypeId) (w : World) : Om e w (.slice none 0 0) [] w := ⟨⟨[], World.ownsRow_nil _ _ _ _, rfl, fun i v x h => by simp at h⟩, Below.refl _ _⟩
theorem Om.form {e : TypeId} {w wr : World} {V : Value} {out : List Mg} (h : Om e w V out wr) : ∃ A c, V = .slice A out.length c := by
  obtain ⟨vs, ho, _⟩ := h.ex
  exact own_form ho
theorem Om.below {e : TypeId} {w wr w2 : World} {V : Value} {out : List Mg} (h : Om e w V out wr) (hb : Below wr.heap.size wr w2) : Om e w V out w2 := by
  obtain ⟨vs, ho, hl, hel⟩ := h.ex
  refine ⟨⟨vs, ho.kept ⟨hb.os, hb.tape, hb.output, hb.size, fun k hk _ => hb.block k hk⟩ (?_ : V.ownBlock = none ∨ V.ownBlock ≠ some w2.heap.size), hl, fun i v x hv hx => ?_⟩, below_more h.be hb⟩
  · rcases hv : V.ownBlock with _ | k
    · exact .inl rfl
    · exact .inr (fun e => by injection e with e; have := (ho.lt k hv).2; have := hb.size; omega)
  · obtain ⟨h1, Ai, ci, h2, h3, h4, h5, h6⟩ := hel i v x hv hx
    exact ⟨h1, Ai, ci, h2, h3, h4, (h5.later hb).up hb.size, h6⟩
theorem Om.ms {e : TypeId} {w wr : World} {A : Option Addr} {n c : Nat} {out : List Mg} (h : Om e w (.slice A n c) out wr) (hn : out.length = n) : Ms wr wr.heap.size A n out := by
  obtain ⟨vs, ho, hl, hel⟩ := h.ex
  refine ⟨hn, fun h0 => ?_⟩
  rcases ho.2 with ⟨hv, h1⟩ | ⟨g, cap, cur, hv, hb, hg, hc, _⟩
  · injection hv with e1 e2 e3; omega
  · injection hv with e1 e2 e3
    subst e1
    refine ⟨g, 0, rfl, (Array.getElem?_eq_some_iff.1 hg).1, fun i hi => ?_⟩
    have hi2 : i < vs.length := by omega
    obtain ⟨m1, m2⟩ := mcl_get vs i hi2
    obtain ⟨h1, Ai, ci, h2, h3, h4, h5, h6⟩ := hel i vs[i] out[i] (List.getElem?_eq_getElem _) (List.getElem?_eq_getElem _)
    have hadd : ∀ j, (⟨g, 0, none⟩ : Addr).add j = ⟨g, 0 + j, none⟩ := fun j => by unfold Addr.add; split <;> simp_all
    have q0 := ho.cells (g := g) rfl _ _ m1
    have q1 := ho.cells (g := g) rfl _ _ m2
    rw [hadd] at q0 q1
    rw [h1] at q0
    rw [h2] at q1
    exact ⟨Ai, ci, q0, q1, h3, h4, h5⟩
/-- One element more, as a step of a region that draws. -/
theorem step_push {t e : TypeId} (ht : Tryd.prog.underlying t = some (.slice e)) (hinf : (Tryd.prog.info? e).map (fun i => (i.zero, i.size, i.bytes)) = some (some (.agg #[.int .i64 0, .slice none 0 0]), 2, 32))
    {ops : Array Oper} {o : Oper} {a : Act} {w : World} {K : Act → World → Prop} {Q : Exit → Act → World → Prop} {E : Prop} (hgd : o.guard = none) (s x : Operand)
    (ho : o.op = .call { callee := .builtin .append, args := #[s, x], argTypes := #[t, t] })
    (w0 : World) (V : Value) (out : List Mg) (y : Mg) (Ai : Option Addr) (q ci g : Nat) (hs : a.eval s = V) (hx : a.eval x = .slice (some ⟨g, 0, none⟩) 1 1) (h : Om e w0 V out w) (hq : y.2.length = q) (hb : Bx w g e #[.int .i64 y.1, .slice Ai q ci])
    (hci : q ≤ ci) (hq2 : q ≤ 140737488355328) (hy : Byt w w.heap.size Ai q y.2) (hne : 0 < q → ∀ b o, Ai = some ⟨b, o, none⟩ → V.ownBlock ≠ some b) (hl : (out.length + 1) * 32 ≤ 140737488355328)
    (hK : ∀ V' w', Om e w0 V' (out ++ [y]) w' → K (a.put o.dst V') w') :
    if Region.wanted o (yielded ops a.tmps) = true then Oper.wp Tryd.prog o a w K Q else E := by
  have hw : Region.wanted o (yielded ops a.tmps) = true := by simp [Region.wanted, hgd]
  rw [if_pos hw]
  subst hq
  obtain ⟨vs, hown, hvl, hel⟩ := h.ex
  obtain ⟨i0, hi0, hz, hs0, hbt⟩ := info_parts hinf
  obtain ⟨V', w', hr, h2, h3, h4, h5⟩ := run_append_own_at (P := Tryd.prog) w w0.heap.size t o.type e i0 _ 2 32 ht hi0 hz hs0 hbt (by rfl) (by decide) V out.length (mcl vs) hown ⟨g, 0, none⟩ 1 1 [.int .i64 y.1, .slice Ai y.2.length ci] (by rfl) (World.news_of_block hb) (by simp [Value.oneCell']) (by unfold maxLen; omega) hl h.be.size
  unfold Oper.wp execOp
  simp only [ho, resolve, invoke, builtin, Sem.run_bind, Sem.run_pure, Result.andThen_ok, List.map_toArray, List.map_cons, List.map_nil, hs, hx, hr]
  refine hK V' w' ⟨⟨vs ++ [(y.1, .slice Ai y.2.length ci)], ?_, by simp [hvl], fun i v z hv hzx => ?_⟩, h.be.grown h3 h.be.size (fun k hk => (hown.lt k hk).1)⟩
  · rw [mcl_app, List.length_append]; exact h2
  · have hold : ∀ Aj b o, Aj = some (⟨b, o, none⟩ : Addr) → b < w.heap.size → V.ownBlock ≠ some b → V'.ownBlock ≠ some b := by
      intro Aj b o _ hlt hn
      rcases h5 with h5 | h5
      · rw [h5]; exact hn
      · rw [h5]; intro e; have := Option.some.inj e; omega
    rcases Nat.lt_or_ge i out.length with hi | hi
    · rw [List.getElem?_append_left (by omega)] at hv hzx
      obtain ⟨k1, Aj, cj, k2, k3, k4, k5, k6⟩ := hel i v z hv hzx
      refine ⟨k1, Aj, cj, k2, k3, k4, byt_grown k5 (Nat.le_refl _) h3 k6, fun hz0 b o e => ?_⟩
      obtain ⟨b', o', e', hlt, _⟩ := k5.at_ hz0
      rw [e] at e'
      cases e'
      exact hold Aj b o e hlt (k6 hz0 b o e)
    · have hie : i = out.length := by
        have := (List.getElem?_eq_some_iff.mp hzx).1
        simp at this
        omega
      subst hie
      rw [List.getElem?_append_right (by omega)] at hv hzx
      simp [hvl] at hv hzx
      subst hv hzx
      refine ⟨rfl, Ai, ci, rfl, hci, hq2, byt_grown hy (Nat.le_refl _) h3 hne, fun hz0 b o e => ?_⟩
      obtain ⟨b', o', e', hlt, _⟩ := hy.at_ hz0
      rw [e] at e'
      cases e'
      exact hold Ai b o e hlt (hne hz0 b o e)
end Go.Proofs.YtcgapkepbnbabaaDoor.X5
