/- The state of a Load: what lies where; disjoint extents have no more bytes than the file. -/
import Derived.Test.YtcgapkepbnbabaaDoorQg
namespace Go.Proofs.YtcgapkepbnbabaaDoor.X5
set_option linter.unusedVariables false
set_option linter.unusedSimpArgs false
open Go.RowKit Wd Ty9

def sumTo : Nat → (Nat → Nat) → Nat
  | 0, _ => 0
  | n + 1, f => sumTo n f + f n
theorem sumTo_add (f g : Nat → Nat) : ∀ n, sumTo n (fun k => f k + g k) = sumTo n f + sumTo n g
  | 0 => rfl
  | n + 1 => by simp only [sumTo]; rw [sumTo_add f g n]; omega
theorem sumTo_one (f : Nat → Nat) (h : ∀ k, f k ≤ 1) : ∀ n, sumTo n f ≤ n
  | 0 => Nat.le_refl _
  | n + 1 => by simp only [sumTo]; have := sumTo_one f h n; have := h n; omega
theorem sumTo_zero : ∀ n, sumTo n (fun _ => 0) = 0
  | 0 => rfl
  | n + 1 => by simp only [sumTo]; rw [sumTo_zero n]
theorem sumTo_ind (a s : Nat) : ∀ n, sumTo n (fun k => if a ≤ k ∧ k < a + s then 1 else 0) = min n (a + s) - min n a
  | 0 => by simp [sumTo]
  | n + 1 => by
    simp only [sumTo]
    rw [sumTo_ind a s n]
    split <;> omega
def hit (y : Xt) (k : Nat) : Nat := if y.1.toNat ≤ k ∧ k < y.1.toNat + y.2.toNat then 1 else 0
def hits : List Xt → Nat → Nat
  | [], _ => 0
  | y :: u, k => hit y k + hits u k
theorem hits_zero (k : Nat) : ∀ u : List Xt, (∀ y ∈ u, hit y k = 0) → hits u k = 0
  | [], _ => rfl
  | y :: u, h => by
    rw [hits, h y (by simp), hits_zero k u (fun z hz => h z (by simp [hz]))]
theorem hits_one (k : Nat) : ∀ u : List Xt, (∀ y ∈ u, wideP y) → noMeet u → hits u k ≤ 1
  | [], _, _ => by simp [hits]
  | y :: u, hw, hn => by
    rw [hits]
    obtain ⟨h1, h2⟩ := List.pairwise_cons.mp hn
    have ih := hits_one k u (fun z hz => hw z (by simp [hz])) h2
    by_cases hy : y.1.toNat ≤ k ∧ k < y.1.toNat + y.2.toNat
    · rw [hits_zero k u, hit, if_pos hy]
      · omega
      intro z hz
      unfold hit
      rw [if_neg]
      intro hzk
      have wy := hw y (by simp)
      have wz := hw z (by simp [hz])
      refine h1 z hz ⟨((wideP_iff y).mp wy).1, ((wideP_iff z).mp wz).1, ?_⟩
      unfold com
      unfold wideP at wy wz
      omega
    · rw [hit, if_neg hy]
      omega
theorem tot_hits (N : Nat) : ∀ u : List Xt, (∀ y ∈ u, wideP y ∧ y.1 + y.2 ≤ (N : Int)) → (sumTo N (hits u) : Int) = tot u
  | [], _ => by
    have : hits [] = fun _ => 0 := by funext k; rfl
    rw [this, sumTo_zero]; simp [tot]
  | y :: u, h => by
    have e : hits (y :: u) = fun k => hit y k + hits u k := by funext k; rfl
    have e2 : hit y = fun k => if y.1.toNat ≤ k ∧ k < y.1.toNat + y.2.toNat then 1 else 0 := by funext k; rfl
    rw [e, sumTo_add, tot_cons, Int.natCast_add, tot_hits N u (fun z hz => h z (by simp [hz])), e2, sumTo_ind]
    obtain ⟨h1, h2⟩ := h y (by simp)
    unfold wideP at h1
    omega
theorem tot_le {N : Nat} {u : List Xt} (hn : noMeet u) (h : ∀ y ∈ u, wideP y ∧ y.1 + y.2 ≤ (N : Int)) : tot u ≤ (N : Int) := by
  rw [← tot_hits N u h]
  have := sumTo_one (hits u) (fun k => hits_one k u (fun y hy => (h y hy).1) hn) N
  omega
theorem noMeet_pre {a b : List Xt} (h : noMeet (a ++ b)) : noMeet a := (List.pairwise_append.mp h).1
/-- What Load has in memory at a round's head. -/
structure LdS (w wr : World) (Vu Va : Value) (u : List Xt) (al : List Nat) (g8 n4 n8 : Nat) : Prop where
  be : Below w.heap.size w wr
  c4 : Bx wr (w.heap.size + 1) 22 #[.slice none 0 0]
  c5 : Bx wr (w.heap.size + 1 + 1) 34 #[Vu]
  c6 : Bx wr (w.heap.size + 1 + 1 + 1) 25 #[.int .i64 0]
  ru : wr.ownsRow (w.heap.size + 4) 49 2 Vu u.length (cl u)
  ra : RowB wr (w.heap.size + 4) Va al
  x8 : Bx wr g8 49 #[.int .i64 (n4 : Int), .int .i64 (n8 : Int)]
  h8 : w.heap.size + 4 ≤ g8
  d8u : Vu.ownBlock ≠ some g8
  d8a : Va.ownBlock ≠ some g8
  dua : ∀ k, Va.ownBlock = some k → Vu.ownBlock ≠ some k
theorem ownBlock_or {V : Value} {r : Option Nat} (h : ∀ k, V.ownBlock = some k → r ≠ some k) : V.ownBlock = none ∨ V.ownBlock ≠ r := by
  rcases hv : V.ownBlock with _ | k
  · exact .inl rfl
  · exact .inr (fun e => h k hv e.symm)
theorem own_below {w wr : World} {base n : Nat} {e : TypeId} {V : Value} {xs : List Value} (h : w.ownsRow base e 2 V n xs) (hb : Below w.heap.size w wr) : wr.ownsRow base e 2 V n xs :=
  h.kept ⟨hb.os, hb.tape, hb.output, hb.size, fun k hk _ => hb.block k hk⟩ (by
    rcases hv : V.ownBlock with _ | k
    · exact .inl rfl
    · exact .inr (fun e => by have e := Option.some.inj e; have := (h.lt k hv).2; have := hb.size; omega : (some k : Option Nat) ≠ some wr.heap.size))
theorem bx_grown {w w' : World} {g : Nat} {t : TypeId} {cs : Array Value} {r : Option Nat} (h : Bx w g t cs) (hg : w.grownBy w' r) (hr : r ≠ some g) : Bx w' g t cs := (hg.block g h.lt (fun e => hr e.symm)).trans h
section
variable {w wr w2 : World} {Vu Va : Value} {u : List Xt} {al : List Nat} {g8 n4 n8 : Nat}
theorem LdS.below (h : LdS w wr Vu Va u al g8 n4 n8) (hb : Below wr.heap.size wr w2) : LdS w w2 Vu Va u al g8 n4 n8 :=
  ⟨below_more h.be hb, h.c4.later hb h.c4.lt, h.c5.later hb h.c5.lt, h.c6.later hb h.c6.lt, own_below h.ru hb, h.ra.below hb, h.x8.later hb h.x8.lt, h.h8, h.d8u, h.d8a, h.dua⟩
theorem lt_grown {r : Option Nat} {k : Nat} (hlt : w.heap.size + 4 ≤ k) (hk : r = some k) (j : Nat) (hj : j < 4) : r ≠ some (w.heap.size + j) := by
  intro e; rw [hk] at e; have := Option.some.inj e; omega
/-- The used extents have grown, and their variable holds them. -/
theorem LdS.pushU (h : LdS w wr Vu Va u al g8 n4 n8) {Vu' : Value} {u' : List Xt} (hg : wr.grownBy w2 Vu.ownBlock) (ho : w2.ownsRow (w.heap.size + 4) 49 2 Vu' u'.length (cl u')) (hw : Vu'.ownBlock = Vu.ownBlock ∨ Vu'.ownBlock = some wr.heap.size) :
    LdS w (w2.setCell ⟨w.heap.size + 1 + 1, 0, none⟩ Vu') Vu' Va u' al g8 n4 n8 := by
  have hu : ∀ j, j < 4 → Vu.ownBlock ≠ some (w.heap.size + j) := fun j hj e => by have := (h.ru.lt _ e).1; omega
  have hn : ∀ k, k < wr.heap.size → Vu.ownBlock ≠ some k → Vu'.ownBlock ≠ some k := by
    intro k hk hne
    rcases hw with e | e
    · rw [e]; exact hne
    · rw [e]; intro e2; have := Option.some.inj e2; omega
  have hb : ∀ {V : Value} {base n : Nat} {e : TypeId} {size : Nat} {xs : List Value}, w2.ownsRow base e size V n xs → V.ownBlock ≠ some (w.heap.size + 1 + 1) → (w2.setCell ⟨w.heap.size + 1 + 1, 0, none⟩ Vu').ownsRow base e size V n xs := by
    intro V base n e size xs hr hne
    refine hr.kept (row := some (w.heap.size + 1 + 1)) ⟨rfl, rfl, rfl, by simp [World.setCell], fun k hk hk2 => Below.heap_setCell _ _ _ _ (fun e => hk2 (by rw [e]))⟩ (.inr hne)
  refine ⟨?_, bx_set (bx_grown h.c4 hg (hu 1 (by omega))) (by omega), ?_, bx_set (bx_grown h.c6 hg (hu 3 (by omega))) (by omega), hb ho ?_, ⟨hb (h.ra.own.kept hg (ownBlock_or h.dua)) ?_, h.ra.lt⟩, bx_set (bx_grown h.x8 hg h.d8u) (by have := h.h8; omega), h.h8, hn g8 h.x8.lt h.d8u, h.d8a, fun k hk => hn k (h.ra.own.lt k hk).2 (h.dua k hk)⟩
  · exact (h.be.grown hg h.be.size (fun k hk => by have := (h.ru.lt k hk).1; omega)).setCell (p := ⟨w.heap.size + 1 + 1, 0, none⟩) (by show w.heap.size ≤ w.heap.size + 1 + 1; omega) _
  · exact (bx_grown h.c5 hg (hu 2 (by omega))).set_ 0 Vu'
  · intro e; have := (ho.lt _ e).1; omega
  · intro e; have := (h.ra.own.lt _ e).1; omega
/-- The stream has grown. -/
theorem LdS.pushA (h : LdS w wr Vu Va u al g8 n4 n8) {Va' : Value} {al' : List Nat} (hr : Rl (w.heap.size + 4) Va wr Va' al' w2) : LdS w w2 Vu Va' u al' g8 n4 n8 := by
  have hg := hr.gr
  have ha : ∀ j, j < 4 → Va.ownBlock ≠ some (w.heap.size + j) := fun j hj e => by have := (h.ra.own.lt _ e).1; omega
  have hn : ∀ k, k < wr.heap.size → Va.ownBlock ≠ some k → Va'.ownBlock ≠ some k := by
    intro k hk hne
    rcases hr.ow with e | ⟨j, e, hj⟩
    · rw [e]; exact hne
    · rw [e]; intro e2; have := Option.some.inj e2; omega
  refine ⟨h.be.grown hg h.be.size (fun k hk => by have := (h.ra.own.lt k hk).1; omega), bx_grown h.c4 hg (ha 1 (by omega)), bx_grown h.c5 hg (ha 2 (by omega)), bx_grown h.c6 hg (ha 3 (by omega)), h.ru.kept hg (ownBlock_or fun k hk e => h.dua k e hk), ⟨hr.own, hr.lt⟩, bx_grown h.x8 hg h.d8a, h.h8, h.d8u, hn g8 h.x8.lt h.d8a, fun k hk e => ?_⟩
  exact hn k (h.ru.lt k e).2 (fun e2 => h.dua k e2 e) hk
/-- The extent that is next. -/
theorem LdS.setX (h : LdS w wr Vu Va u al g8 n4 n8) (m4 m8 : Nat) : LdS w ((wr.setCell ⟨g8, 0, none⟩ (.int .i64 (m4 : Int))).setCell ⟨g8, 1, none⟩ (.int .i64 (m8 : Int))) Vu Va u al g8 m4 m8 := by
  have h8 := h.h8
  have hb : ∀ {V : Value} {base n : Nat} {e : TypeId} {size : Nat} {xs : List Value}, wr.ownsRow base e size V n xs → V.ownBlock ≠ some g8 → ((wr.setCell ⟨g8, 0, none⟩ (.int .i64 (m4 : Int))).setCell ⟨g8, 1, none⟩ (.int .i64 (m8 : Int))).ownsRow base e size V n xs := by
    intro V base n e size xs hr hne
    refine hr.kept (row := some g8) ⟨rfl, rfl, rfl, by simp [World.setCell], fun k hk hk2 => ?_⟩ (.inr hne)
    exact (Below.heap_setCell _ _ _ _ (fun e => hk2 (by rw [e]))).trans (Below.heap_setCell _ _ _ _ (fun e => hk2 (by rw [e])))
  refine ⟨(h.be.setCell (p := ⟨g8, 0, none⟩) (by show w.heap.size ≤ g8; omega) _).setCell (p := ⟨g8, 1, none⟩) (by show w.heap.size ≤ g8; omega) _, bx_set (bx_set h.c4 (by omega)) (by omega), bx_set (bx_set h.c5 (by omega)) (by omega), bx_set (bx_set h.c6 (by omega)) (by omega), hb h.ru h.d8u, ⟨hb h.ra.own h.d8a, h.ra.lt⟩, (h.x8.set_ 0 (.int .i64 (m4 : Int))).set_ 1 (.int .i64 (m8 : Int)), h.h8, h.d8u, h.d8a, h.dua⟩
/-- A variable of the next round. -/
theorem LdS.next (h : LdS w wr Vu Va u al g8 n4 n8) (k4 k8 : Nat) : LdS w (wr.alloc (.cells #[.int .i64 (k4 : Int), .int .i64 (k8 : Int)] 49)) Vu Va u al wr.heap.size k4 k8 := by
  have h2 := h.below (below_new wr (.cells #[.int .i64 (k4 : Int), .int .i64 (k8 : Int)] 49))
  refine ⟨h2.be, h2.c4, h2.c5, h2.c6, h2.ru, h2.ra, Bx.new wr _ _, by have := h.c6.lt; omega, fun e => ?_, fun e => ?_, h2.dua⟩
  · have := (h.ru.lt _ e).2; omega
  · have := (h.ra.own.lt _ e).2; omega
end
/-- One extent more to a row of the call's own. -/
theorem wp_pushX {t e : TypeId} (ht : Tryd.prog.underlying t = some (.slice e)) (hinf : (Tryd.prog.info? e).map (fun i => (i.zero, i.size, i.bytes)) = some (some (.agg #[.int .i64 0, .int .i64 0]), 2, 16))
    {ops : Array Oper} {rest : List Oper} {o : Oper} {a : Act} {w : World} {Q : Exit → Act → World → Prop} (hgd : o.guard = none) (s x : Operand)
    (ho : o.op = .call { callee := .builtin .append, args := #[s, x], argTypes := #[t, t] })
    (base : Nat) (V : Value) (out : List Xt) (y : Xt) (g : Nat) (hs : a.eval s = V) (hx : a.eval x = .slice (some ⟨g, 0, none⟩) 1 1) (h : w.ownsRow base e 2 V out.length (cl out)) (hb : Bx w g e #[.int .i64 y.1, .int .i64 y.2]) (hbase : base ≤ w.heap.size) (hl : (out.length + 1) * 16 ≤ 140737488355328)
    (hK : ∀ V' w', w'.ownsRow base e 2 V' (out ++ [y]).length (cl (out ++ [y])) → w.grownBy w' V.ownBlock → (V'.ownBlock = V.ownBlock ∨ V'.ownBlock = some w.heap.size) → wpList Tryd.prog ops Q rest (a.put o.dst V') w') :
    wpList Tryd.prog ops Q (o :: rest) a w := by
  obtain ⟨i0, hi0, hz, hs0, hbt⟩ := info_parts hinf
  obtain ⟨V', w', hr, h2, h3, h4, h5⟩ := run_append_own_at (P := Tryd.prog) w base t o.type e i0 _ 2 16 ht hi0 hz hs0 hbt (by rfl) (by decide) V out.length (cl out) h ⟨g, 0, none⟩ 1 1 [.int .i64 y.1, .int .i64 y.2] (by rfl) (World.news_of_block hb) (by simp [Value.oneCell']) (by unfold maxLen; omega) hl hbase
  refine Lib.wpList_append_run w hgd s x t t ho _ _ hs hx V' w' hr (hK V' w' ?_ h3 h5)
  rw [List.length_append, cl_app]
  exact h2
end Go.Proofs.YtcgapkepbnbabaaDoor.X5
