/- Extents, walks; a region that is kept. -/
import Derived.Test.YtcgapkepbnbabaaDoorKi
import Derived.Laws.AppendOwnNone
import Derived.BigQuiet
namespace Go.Proofs.YtcgapkepbnbabaaDoor.X5
set_option linter.unusedVariables false
set_option linter.unusedSimpArgs false
open Go.RowKit Wd Ty9

/-- One extent more is appended, whatever the length. -/
theorem wp_app2 {t e : TypeId} (ht : Tryd.prog.underlying t = some (.slice e)) (hinf : (Tryd.prog.info? e).map (fun i => (i.zero, i.size, i.bytes)) = some (some (.agg #[.int .i64 0, .int .i64 0]), 2, 16))
    {ops : Array Oper} {rest : List Oper} {o : Oper} {a : Act} {w : World} {Q : Exit → Act → World → Prop} (hgd : o.guard = none) (s x : Operand)
    (ho : o.op = .call { callee := .builtin .append, args := #[s, x], argTypes := #[t, t] })
    (w0 : World) (V : Value) (ou : List Xt) (y : Xt) (g : Nat) (hs : a.eval s = V) (hx : a.eval x = .slice (some ⟨g, 0, none⟩) 1 1) (h : Ow e w0 V ou w) (hb : Bx w g e #[.int .i64 y.1, .int .i64 y.2]) (hl : (ou.length + 1) * 16 ≤ 140737488355328)
    (hK : ∀ V' w', Ow e w0 V' (ou ++ [y]) w' → wpList Tryd.prog ops Q rest (a.put o.dst V') w') :
    wpList Tryd.prog ops Q (o :: rest) a w := by
  obtain ⟨i0, hi0, hz, hs0, hbt⟩ := info_parts hinf
  refine wpList_append_own _ hgd s x t ho w0.heap.size e i0 _ 2 16 ht hi0 hz hs0 hbt (by rfl) (by decide) V ou.length (cl ou) hs h.own ⟨g, 0, none⟩ 1 1 [.int .i64 y.1, .int .i64 y.2] hx (by rfl) (World.news_of_block hb) (by simp [Value.oneCell']) (by unfold maxLen; omega) hl h.be.size ?_
  intro V2 w4 hown2 hgr2 _
  refine hK V2 w4 (h.grown hgr2 ?_)
  rw [List.length_append, cl_app]
  exact hown2
/-- The same as a step of a region that draws. -/
theorem step_app1 {t e : TypeId} (ht : Tryd.prog.underlying t = some (.slice e)) (hinf : (Tryd.prog.info? e).map (fun i => (i.zero, i.size, i.bytes)) = some (some (.agg #[.int .i64 0, .int .i64 0]), 2, 16))
    {ops : Array Oper} {o : Oper} {a : Act} {w : World} {K : Act → World → Prop} {Q : Exit → Act → World → Prop} {E : Prop} (hgd : o.guard = none) (s x : Operand)
    (ho : o.op = .call { callee := .builtin .append, args := #[s, x], argTypes := #[t, t] })
    (w0 : World) (V : Value) (ou : List Xt) (y : Xt) (g : Nat) (hs : a.eval s = V) (hx : a.eval x = .slice (some ⟨g, 0, none⟩) 1 1) (h : Ow e w0 V ou w) (hb : Bx w g e #[.int .i64 y.1, .int .i64 y.2]) (hl : (ou.length + 1) * 16 ≤ 140737488355328)
    (hK : ∀ V' w', Ow e w0 V' (ou ++ [y]) w' → K (a.put o.dst V') w') :
    if Region.wanted o (yielded ops a.tmps) = true then Oper.wp Tryd.prog o a w K Q else E := by
  have hw : Region.wanted o (yielded ops a.tmps) = true := by simp [Region.wanted, hgd]
  rw [if_pos hw]
  obtain ⟨i0, hi0, hz, hs0, hbt⟩ := info_parts hinf
  refine wp_append_own w s x t ho w0.heap.size e i0 _ 2 16 ht hi0 hz hs0 hbt (by rfl) (by decide) V ou.length (cl ou) hs h.own ⟨g, 0, none⟩ 1 1 [.int .i64 y.1, .int .i64 y.2] hx (by rfl) (World.news_of_block hb) (by simp [Value.oneCell']) (by unfold maxLen; omega) hl h.be.size ?_
  intro V2 w4 hown2 hgr2 _
  refine hK V2 w4 (h.grown hgr2 ?_)
  rw [List.length_append, cl_app]
  exact hown2
/-- A row is appended. -/
theorem wp_appN {t e : TypeId} (ht : Tryd.prog.underlying t = some (.slice e)) (hinf : (Tryd.prog.info? e).map (fun i => (i.zero, i.size, i.bytes)) = some (some (.agg #[.int .i64 0, .int .i64 0]), 2, 16))
    {ops : Array Oper} {rest : List Oper} {o : Oper} {a : Act} {w : World} {Q : Exit → Act → World → Prop} (hgd : o.guard = none) (s x : Operand)
    (ho : o.op = .call { callee := .builtin .append, args := #[s, x], argTypes := #[t, t] })
    (w0 : World) (V : Value) (ou ys : List Xt) (A : Option Addr) (m c lo hi : Nat) (hs : a.eval s = V) (hx : a.eval x = .slice A m c) (hA : A = none → c = 0) (h : Ow e w0 V ou w) (hb : Ex w lo hi A m ys) (hl : (ou.length + m) * 16 ≤ 140737488355328)
    (hK : ∀ V' w', Ow e w0 V' (ou ++ ys) w' → wpList Tryd.prog ops Q rest (a.put o.dst V') w') :
    wpList Tryd.prog ops Q (o :: rest) a w := by
  obtain ⟨i0, hi0, hz, hs0, hbt⟩ := info_parts hinf
  rcases A with _ | ad
  · obtain rfl := hA rfl
    have hm : m = 0 := by
      rcases Nat.eq_zero_or_pos m with h0 | h0
      · exact h0
      · obtain ⟨b, o, e, _⟩ := hb.at_ h0; cases e
    subst hm
    obtain rfl : ys = [] := List.eq_nil_of_length_eq_zero hb.len
    refine wpList_append_own_none hgd s x t ho w0.heap.size e i0 2 ht (by rw [hi0]) V ou.length (cl ou) hs h.own hx ?_
    have := hK V w (by rw [List.append_nil]; exact h)
    exact this
  · refine wpList_append_own _ hgd s x t ho w0.heap.size e i0 _ 2 16 ht hi0 hz hs0 hbt (by rfl) (by decide) V ou.length (cl ou) hs h.own ad m c (cl ys) hx (by rw [cl_len, hb.len]) ?_ (cl_one ys) (by unfold maxLen; omega) hl h.be.size ?_
    · intro j u hu
      obtain ⟨i, hi, _⟩ := cl_at hu
      obtain ⟨b, o, e, _, _, h3⟩ := hb.at_ (by have := hb.len; omega)
      cases e
      have hadd : (⟨b, o, none⟩ : Addr).add j = ⟨b, o + j, none⟩ := by unfold Addr.add; split <;> simp_all
      rw [hadd]
      exact h3 j u hu
    · intro V2 w4 hown2 hgr2 _
      refine hK V2 w4 (h.grown hgr2 ?_)
      rw [List.length_append, cl_app, hb.len]
      exact hown2

/-! ### same -/
theorem take_snoc_eq {xs ys : List Xt} {k : Nat} (h1 : k < xs.length) (h2 : k < ys.length) (h : xs.take k = ys.take k) (he : xs[k] = ys[k]) : xs.take (k + 1) = ys.take (k + 1) := by
  rw [List.take_add_one, List.take_add_one, List.getElem?_eq_getElem h1, List.getElem?_eq_getElem h2, h, he]

/-- The worlds of a class, as a type. -/
structure Wof (G : World → Prop) where
  val : World
  is : G val
/-- One walk in the text's order serves each order: the worlds of the class G are the values of a type, so that facts on their cells are plain equations. -/
theorem wp_region_kept {P : Program} {id : Nat} {Q : Exit → Act → World → Prop} {a : Act} {w : World} {l : List Oper} {G : World → Prop} (hm : P.follows .mixedOrders = true) (hB : Region.lexB .any l.toArray = true)
    (hG : G { w with drawn := w.drawn + 1 })
    (h : wpQuiet P l.toArray (fun w' => ∃ s : Wof G, w' = s.val) (fun a' => ∀ w', (∃ s : Wof G, w' = s.val) → Q .normal a' w') l a) : (Code.region id l.toArray true).wp P Q a w :=
  wp_region_quiet (C := fun w' => ∃ s : Wof G, w' = s.val) hm hB ⟨⟨_, hG⟩, rfl⟩ (by simpa using h)
end Go.Proofs.YtcgapkepbnbabaaDoor.X5
