/- extent.join: the good list of all bytes. -/
import Derived.Test.YtcgapkepbnbabaaDoorKe
import Derived.IntWalk
namespace Go.Proofs.YtcgapkepbnbabaaDoor.X5
set_option linter.unusedVariables false
set_option linter.unusedSimpArgs false
open Go.RowKit Wd Ty9

theorem thaw_below {w w2 : World} {A : Option Addr} {n B : Nat} (h : Thaw w A n) (hb : Below B w w2) (hA : 0 < n → ∀ b o, A = some ⟨b, o, none⟩ → b < B) : Thaw w2 A n :=
  fun hn b o e j => (hb.frozen (p := ⟨b, j, none⟩) (hA hn b o e)).trans (h hn b o e j)
theorem perm_may {xs d : List Xt} {q : Xt → Bool} (hp : d.Perm (xs.filter q)) (hm : ∀ x ∈ xs, mayP x) : ∀ x ∈ d, mayP x := fun x hx => hm x (List.mem_filter.mp (hp.mem_iff.mp hx)).1

theorem go_on {p : Prop} (h : p) : Hid p := h
/-- The loop's state: V owns the list out. -/
structure Ow (e : TypeId) (w : World) (V : Value) (out : List Xt) (wr : World) : Prop where
  own : wr.ownsRow w.heap.size e 2 V out.length (cl out)
  be : Below w.heap.size w wr
theorem Ow.nil (e : TypeId) (w : World) : Ow e w (.slice none 0 0) [] w := ⟨World.ownsRow_nil _ _ _ _, Below.refl _ _⟩
theorem Ow.below {e : TypeId} {w wr w2 : World} {V : Value} {out : List Xt} (h : Ow e w V out wr) (hb : Below wr.heap.size wr w2) : Ow e w V out w2 := by
  refine ⟨h.own.kept ⟨hb.os, hb.tape, hb.output, hb.size, fun k hk _ => hb.block k hk⟩ (?_ : V.ownBlock = none ∨ V.ownBlock ≠ some w2.heap.size), below_more h.be hb⟩
  rcases hv : V.ownBlock with _ | k
  · exact .inl rfl
  · exact .inr (fun e => by injection e with e; have := (h.own.lt k hv).2; have := hb.size; omega)
theorem Ow.grown {e : TypeId} {w wr w2 : World} {V V' : Value} {out out' : List Xt} (h : Ow e w V out wr) (hg : wr.grownBy w2 V.ownBlock) (ho : w2.ownsRow w.heap.size e 2 V' out'.length (cl out')) : Ow e w V' out' w2 :=
  ⟨ho, h.be.grown hg h.be.size (fun k hk => (h.own.lt k hk).1)⟩
/-- A value in the row is written over. -/
theorem Ow.store {e : TypeId} {w wr : World} {g n cap : Nat} {out : List Xt} (h : Ow e w (.slice (some ⟨g, 0, none⟩) n cap) out wr) (hn : n = out.length) {i : Nat} (hi : i < out.length) (z : Int) :
    Ow e w (.slice (some ⟨g, 0, none⟩) n cap) (out.set i (out[i].1, z)) (wr.setCell ⟨g, i * 2 + 1, none⟩ (.int .i64 z)) := by
  subst hn
  obtain ⟨h1, h2⟩ := h.own.stored (i * 2 + 1) (.int .i64 z)
  refine h.grown h2 ?_
  rw [List.length_set]
  have : cl (out.set i (out[i].1, z)) = (cl out).set (i * 2 + 1) (.int .i64 z) := by
    apply List.ext_getElem?
    intro j
    rcases hj : (cl (out.set i (out[i].1, z)))[j]? with _ | u
    · rw [List.getElem?_eq_none_iff, cl_len, List.length_set] at hj
      symm
      rw [List.getElem?_eq_none_iff, List.length_set, cl_len]
      exact hj
    · obtain ⟨g1, g2⟩ := cl_get out i hi
      symm
      rcases cl_set hi _ j u hj with ⟨rfl, rfl⟩ | ⟨rfl, rfl⟩ | ⟨n1, n2, hu⟩
      · rw [List.getElem?_set_ne (by omega)]; exact g1
      · rw [List.getElem?_set_self (by rw [cl_len]; omega)]
      · rw [List.getElem?_set_ne (by omega)]; exact hu
  rw [this]
  exact h1
theorem snoc_set (pre : List Xt) (c y : Xt) : (pre ++ [c]).set pre.length y = pre ++ [y] := by simp

theorem Ow.last {e : TypeId} {w wr : World} {g N L cap : Nat} {pre : List Xt} {c : Xt} (h : Ow e w (.slice (some ⟨g, 0, none⟩) N cap) (pre ++ [c]) wr) (hN : L + 1 = N) (hL : pre.length = L) (z : Int) :
    Ow e w (.slice (some ⟨g, 0, none⟩) N cap) (pre ++ [(c.1, z)]) (wr.setCell ⟨g, L * 2 + 1, none⟩ (.int .i64 z)) := by
  subst hL
  have h1 := h.store (by simp; omega) (i := pre.length) (by simp) z
  rwa [snoc_set, List.getElem_concat_length (by rfl)] at h1
/-- One extent more is appended. -/
theorem wp_app1 {t e : TypeId} (ht : Tryd.prog.underlying t = some (.slice e)) (hinf : (Tryd.prog.info? e).map (fun i => (i.zero, i.size, i.bytes)) = some (some (.agg #[.int .i64 0, .int .i64 0]), 2, 16))
    {ops : Array Oper} {rest : List Oper} {o : Oper} {a : Act} {w : World} {Q : Exit → Act → World → Prop} (hgd : o.guard = none) (s x : Operand)
    (ho : o.op = .call { callee := .builtin .append, args := #[s, x], argTypes := #[t, t] })
    (w0 : World) (V : Value) (ou : List Xt) (y : Xt) (g : Nat) (hs : a.eval s = V) (hx : a.eval x = .slice (some ⟨g, 0, none⟩) 1 1) (h : Ow e w0 V ou w) (hb : Bx w g e #[.int .i64 y.1, .int .i64 y.2]) (hl : ou.length ≤ 2000000)
    (hK : ∀ V' w', Ow e w0 V' (ou ++ [y]) w' → wpList Tryd.prog ops Q rest (a.put o.dst V') w') :
    wpList Tryd.prog ops Q (o :: rest) a w := by
  obtain ⟨i0, hi0, hz, hs0, hbt⟩ := info_parts hinf
  refine wpList_append_own _ hgd s x t ho w0.heap.size e i0 _ 2 16 ht hi0 hz hs0 hbt (by rfl) (by decide) V ou.length (cl ou) hs h.own ⟨g, 0, none⟩ 1 1 [.int .i64 y.1, .int .i64 y.2] hx (by rfl) (World.news_of_block hb) (by simp [Value.oneCell']) (by unfold maxLen; omega) (by omega) h.be.size ?_
  intro V2 w4 hown2 hgr2 _
  refine hK V2 w4 (h.grown hgr2 ?_)
  rw [List.length_append, cl_app]
  exact hown2

end Go.Proofs.YtcgapkepbnbabaaDoor.X5
