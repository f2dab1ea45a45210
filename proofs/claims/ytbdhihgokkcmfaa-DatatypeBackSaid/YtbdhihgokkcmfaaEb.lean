/- Rows and types of a call's own: copies, what a loop has that appends, own's start. -/
import Derived.Test.YtbdhihgokkcmfaaTv
import Derived.Deep.AppendLies
import Derived.Deep.RegionHeld3
import Derived.Deep.RegionLawGrows
import Derived.Deep.DeepCutAuto
import Derived.Test.YtbdhihgokkcmfaaPj
import Derived.Test.YtbdhihgokkcmfaaAr
namespace Go.Proofs.Ytbdhihgokkcmfaa.Ty9
set_option linter.unusedVariables false
set_option linter.unusedSimpArgs false
open Go.RowKit Wd

/-- What the copy leaves: a row of its own with these cells, and nothing else touched. -/
structure Copied (w w' : World) (A' : Option Addr) (C' m : Nat) (news : List Value) : Prop where
  be : Below w.heap.size w w'
  cap : m ≤ C'
  fz : ∀ g', 0 < m → A' = some ⟨g', 0, none⟩ → ∀ j, w'.frozen? ⟨g', j, none⟩ = false
  row : 0 < m → ∃ g', A' = some ⟨g', 0, none⟩ ∧ w.heap.size ≤ g' ∧ g' < w'.heap.size ∧ ∀ (j : Nat) (u : Value), news[j]? = some u → w'.cell? ⟨g', j, none⟩ = some u

theorem run_copy {P : Program} (w : World) (t ty e : TypeId) (i : TypeInfo) (z : Value) (size bytes : Nat) (h1 : P.underlying t = some (.slice e)) (h2 : P.info? e = some i) (h3 : i.zero = some z) (h4 : i.size = size) (h5 : i.bytes = bytes) (h6 : z.cells.size = size) (h7 : 0 < size)
    (g : Nat) (A : Option Addr) (m c : Nat) (news : List Value) (hn : news.length = m * size) (hA : 0 < m → ∃ ad, A = some ad ∧ ∀ j u, news[j]? = some u → w.cell? (ad.add j) = some u) (h1c : ∀ u ∈ news, u.oneCell' = true) (b1 : m ≤ maxLen) (b2 : m * bytes ≤ 140737488355328) :
    ∃ A' C' w', (Builtin.append_ #[t, t] ty #[.slice (some ⟨g, 0, none⟩) 0 0, .slice A m c]).run P w = .ok (.slice A' m C') w' ∧ Copied w w' A' C' m news := by
  rcases Nat.eq_zero_or_pos m with rfl | hm
  · refine ⟨some ⟨g, 0, none⟩, 0, w, ?_, Below.refl _ _, Nat.le_refl _, fun _ h => absurd h (Nat.lt_irrefl _), fun h => absurd h (Nat.lt_irrefl _)⟩
    rcases A with _ | ad
    · simp [Builtin.append_, run_underlying h1, sizeOf, typeInfo, h2, Builtin.lenOf, Builtin.firstCells, storeCells]
    · obtain rfl : news = [] := List.eq_nil_of_length_eq_zero (by simpa using hn)
      have h := run_append_room_cells (P := P) w t ty e i h1 h2 g 0 0 0 ad 0 c [] (by simp) (fun j u h => by simp at h) (by simp) (Nat.le_refl _) (fun j hj => by simp at hj) (fun j hj => by simp at hj)
      exact h
  · obtain ⟨ad, rfl, hc⟩ := hA hm
    obtain ⟨v', w', hrun, r1, r2⟩ := run_append_arg_grows (P := P) w t ty e i z size bytes h1 h2 h3 h4 h5 h6 h7 ⟨g, 0, none⟩ 0 0 [] (by simp) (fun j u h => by simp at h) ad m c news hn hc (by omega) (by omega) (by simpa using b2)
    rw [Nat.zero_add, List.nil_append] at r1
    obtain ⟨g', cap, rfl, hg1, hg2⟩ := r1.form hm
    have hcap : m ≤ cap := by
      rcases r1.2 with ⟨h, _⟩ | ⟨g2, cap2, cur, h, _, _, hnc, _⟩
      · cases h
      · cases h; exact hnc
    refine ⟨_, cap, w', hrun, (Below.refl _ _).grown r2 (Nat.le_refl _) (fun k h => by cases h), hcap, fun g2 _ e j => ?_, fun _ => ⟨g', rfl, hg1, hg2, fun j u hu => ?_⟩⟩
    · rcases r1.2 with ⟨h, _⟩ | ⟨g3, cap3, cur, h, _, hb3, _⟩
      · cases h
      · cases h
        cases e
        simp [World.frozen?, hb3]
    have := r1.cells (g := g') rfl j u hu
    have hadd : (⟨g', 0, none⟩ : Addr).add j = ⟨g', j, none⟩ := by unfold Addr.add; split <;> simp_all
    rwa [hadd] at this

/-- As a step of a region that draws. -/
theorem step_copy {P : Program} {ops : Array Oper} {o : Oper} {a : Act} {w : World} {K : Act → World → Prop} {Q : Exit → Act → World → Prop} {E : Prop}
    (hg : o.guard = none) (s x : Operand) (t : TypeId) (hop : o.op = Op.call { callee := Callee.builtin Builtin.append, args := #[s, x], argTypes := #[t, t] })
    (e : TypeId) (i : TypeInfo) (z : Value) (size bytes : Nat) (h1 : P.underlying t = some (.slice e)) (h2 : P.info? e = some i) (h3 : i.zero = some z) (h4 : i.size = size) (h5 : i.bytes = bytes) (h6 : z.cells.size = size) (h7 : 0 < size)
    (A : Option Addr) (m c : Nat) (hs : ∃ g : Nat, a.eval s = .slice (some ⟨g, 0, none⟩) 0 0) (hx : a.eval x = .slice A m c) (news : List Value) (hn : news.length = m * size) (w0 : World) (hb : Below w0.heap.size w0 w)
    (hA : 0 < m → ∃ ad, A = some ad ∧ ad.block < w0.heap.size ∧ ∀ j u, news[j]? = some u → w0.cell? (ad.add j) = some u) (h1c : ∀ u ∈ news, u.oneCell' = true) (b1 : m ≤ maxLen) (b2 : m * bytes ≤ 140737488355328)
    (hK : ∀ A' C' w', Copied w w' A' C' m news → Below w0.heap.size w0 w' → K (a.put o.dst (.slice A' m C')) w') :
    if Region.wanted o (yielded ops a.tmps) = true then Oper.wp P o a w K Q else E := by
  have hw : Region.wanted o (yielded ops a.tmps) = true := by simp [Region.wanted, hg]
  rw [if_pos hw]
  obtain ⟨g, hs⟩ := hs
  obtain ⟨A', C', w', hrun, hcp⟩ := run_copy (P := P) w t o.type e i z size bytes h1 h2 h3 h4 h5 h6 h7 g A m c news hn (fun hm => by
    obtain ⟨ad, h1, h2, h3⟩ := hA hm
    refine ⟨ad, h1, fun j u hu => ?_⟩
    have hbl : (ad.add j).block = ad.block := by unfold Addr.add; split <;> rfl
    exact (hb.cell (p := ad.add j) (by rw [hbl]; exact h2)).trans (h3 j u hu)) h1c b1 b2
  unfold Oper.wp
  simp [execOp, hop, resolve, invoke, builtin, hs, hx, hrun, Result.andThen]
  exact hK A' C' w' hcp (below_more hb hcp.be)
theorem Copied.below {w w' w0 : World} {A' : Option Addr} {C' m : Nat} {news : List Value} (h : Copied w w' A' C' m news) (hb : Below w0.heap.size w0 w) : Below w0.heap.size w0 w' := below_more hb h.be
theorem member_info : (Try.prog.info? 68).map (fun i => (i.zero, i.size, i.bytes)) = some (some (.agg #[.string ⟨#[]⟩, .int .i64 0]), 2, 24) := by kernel_rfl
theorem int_info : (Try.prog.info? 3).map (fun i => (i.zero, i.size, i.bytes)) = some (some (.int .i64 0), 1, 8) := by kernel_rfl
def nums (ds : List Int) : List Value := ds.map (Value.int .i64)
def mem2 (ns : List (ByteArray × Int)) : List Value := ns.flatMap fun x => [.string x.1, .int .i64 x.2]
theorem nums_len (ds : List Int) : (nums ds).length = ds.length * 1 := by simp [nums]
theorem mem2_len (ns : List (ByteArray × Int)) : (mem2 ns).length = ns.length * 2 := by
  induction ns with
  | nil => rfl
  | cons x ns ih => rw [mem2, List.flatMap_cons, List.length_append]; rw [mem2] at ih; rw [ih]; simp; omega
theorem nums_one (ds : List Int) : ∀ u ∈ nums ds, u.oneCell' = true := by
  intro u hu; simp [nums] at hu; obtain ⟨x, _, rfl⟩ := hu; rfl
theorem mem2_one (ns : List (ByteArray × Int)) : ∀ u ∈ mem2 ns, u.oneCell' = true := by
  intro u hu; simp [mem2] at hu; obtain ⟨x, y, _, h⟩ := hu; rcases h with rfl | rfl <;> rfl
theorem nums_at {ds : List Int} {j : Nat} {u : Value} (h : (nums ds)[j]? = some u) : ∃ hj : j < ds.length, u = .int .i64 ds[j] := by
  have hj : j < ds.length := by have := (List.getElem?_eq_some_iff.mp h).1; rw [nums_len] at this; omega
  refine ⟨hj, ?_⟩
  simp [nums, hj] at h
  exact h.symm
theorem mem2_get : ∀ (ns : List (ByteArray × Int)) (i : Nat) (h : i < ns.length), (mem2 ns)[i * 2]? = some (.string ns[i].1) ∧ (mem2 ns)[i * 2 + 1]? = some (.int .i64 ns[i].2)
  | [], i, h => absurd h (Nat.not_lt_zero _)
  | x :: ns, 0, _ => ⟨rfl, rfl⟩
  | x :: ns, i + 1, h => by
    have ih := mem2_get ns i (Nat.lt_of_succ_lt_succ h)
    have e : mem2 (x :: ns) = .string x.1 :: .int .i64 x.2 :: mem2 ns := rfl
    rw [e, show (i + 1) * 2 = i * 2 + 1 + 1 by omega]
    exact ih
theorem mem2_at {ns : List (ByteArray × Int)} {j : Nat} {u : Value} (h : (mem2 ns)[j]? = some u) : ∃ (i : Nat) (hi : i < ns.length), (j = i * 2 ∧ u = .string ns[i].1) ∨ (j = i * 2 + 1 ∧ u = .int .i64 ns[i].2) := by
  have hj : j < ns.length * 2 := by have := (List.getElem?_eq_some_iff.mp h).1; rwa [mem2_len] at this
  have hi : j / 2 < ns.length := by omega
  have hg := mem2_get ns (j / 2) hi
  refine ⟨j / 2, hi, ?_⟩
  rcases Nat.mod_two_eq_zero_or_one j with h0 | h0
  · have e : j = j / 2 * 2 := by omega
    left
    refine ⟨e, ?_⟩
    have h1 := hg.1
    rw [← e, h] at h1
    exact Option.some.inj h1
  · have e : j = j / 2 * 2 + 1 := by omega
    right
    refine ⟨e, ?_⟩
    have h1 := hg.2
    rw [← e, h] at h1
    exact Option.some.inj h1

theorem addr_add9 (b o j : Nat) : (⟨b, o, none⟩ : Addr).add j = ⟨b, o + j, none⟩ := by unfold Addr.add; split <;> simp_all

/-- The value u is the type t in every memory that has w's blocks S. -/
def Lies (S : Nat → Prop) (w : World) (t : Ty) (u : Value) : Prop := (∀ g, S g → g < w.heap.size) ∧ ∀ w2 : World, (∀ g, S g → w2.heap[g]? = w.heap[g]?) → ∀ B, (∀ g, S g → g < B) → TyAt w2 B t u
theorem Lies.here {S : Nat → Prop} {w : World} {t : Ty} {u : Value} (h : Lies S w t u) : TyAt w w.heap.size t u := h.2 w (fun _ _ => rfl) _ h.1
theorem Lies.keep {S : Nat → Prop} {w w2 : World} {t : Ty} {u : Value} (h : Lies S w t u) (hk : ∀ g, S g → w2.heap[g]? = w.heap[g]?) (hs : w.heap.size ≤ w2.heap.size) : Lies S w2 t u :=
  ⟨fun g hg => Nat.lt_of_lt_of_le (h.1 g hg) hs, fun w3 h3 B hB => h.2 w3 (fun g hg => (h3 g hg).trans (hk g hg)) B hB⟩
theorem Lies.more {S S' : Nat → Prop} {w : World} {t : Ty} {u : Value} (h : Lies S w t u) (hS : ∀ g, S g → S' g) (hS' : ∀ g, S' g → g < w.heap.size) : Lies S' w t u :=
  ⟨hS', fun w3 h3 B hB => h.2 w3 (fun g hg => h3 g (hS g hg)) B (fun g hg => hB g (hS g hg))⟩

/-- What a loop has that appends rows with types: V owns the rows rs; they, and what is done before, lie in the blocks S. -/
structure Lp (B : Nat) (w wr : World) (X Y : Array Value) (S : Nat → Prop) (E : World → Prop) (e : TypeId) (size : Nat) (V : Value) (hd : Nat → List Value) (ts : List Ty) (rs : List (List Value)) : Prop where
  hB : B ≤ w.heap.size
  be : Below w.heap.size w wr
  b1 : Bx wr w.heap.size 28 X
  b2 : Bx wr (w.heap.size + 1) 28 #[.int .i64 0, .int .i64 0, .bool false, .slice none 0 0, .slice none 0 0, .slice none 0 0, .slice none 0 0]
  b3 : Bx wr (w.heap.size + 1 + 1) 28 Y
  sb : ∀ g, S g → (w.heap.size + 1 + 1 < g ∨ g < B) ∧ g < wr.heap.size
  ex : ∀ w', (∀ g, S g → w'.heap[g]? = wr.heap[g]?) → E w'
  row : wr.ownsRow (w.heap.size + 1 + 1 + 1) e size V rs.length rs.flatten
  ne : ∀ g, S g → V.ownBlock ≠ some g
  ty : ∀ i (h : i < ts.length) (h' : i < rs.length), ∃ u0 u1 u2 u3 u4 u5 u6, rs[i] = hd i ++ [u0, u1, u2, u3, u4, u5, u6] ∧ Lies S wr ts[i] (.agg #[u0, u1, u2, u3, u4, u5, u6])

theorem Lp.step {B : Nat} {w wr w2 wt : World} {X Y : Array Value} {S S' : Nat → Prop} {E : World → Prop} {e : TypeId} {size : Nat} {V V' : Value} {hd : Nat → List Value} {ts : List Ty} {rs : List (List Value)} (h : Lp B w wr X Y S E e size V hd ts rs)
    {k : Nat} (hk0 : rs.length = k) (hk : k < ts.length) {u0 u1 u2 u3 u4 u5 u6 : Value} (hG : Gr wr.heap.size V.ownBlock wr wt) (hT : ∀ g, S' g → g < w2.heap.size → wt.heap[g]? = w2.heap[g]?) (h2 : w2.heap.size ≤ wt.heap.size) (h1 : wr.heap.size ≤ w2.heap.size)
    (hL : Lies S' w2 ts[k] (.agg #[u0, u1, u2, u3, u4, u5, u6])) (hS : ∀ g, S' g → wr.heap.size ≤ g ∨ g < B) (j : Nat)
    (hown : wt.ownsRow (w.heap.size + 1 + 1 + 1) e size V' (k + 1) (rs.flatten ++ (hd k ++ [u0, u1, u2, u3, u4, u5, u6]))) (hat : V'.ownBlock = V.ownBlock ∨ ∃ m, V'.ownBlock = some m ∧ w2.heap.size ≤ m) :
    Lp B w (wt.setCell ⟨w.heap.size + 1 + 1, j, none⟩ V') X (Y.setIfInBounds j V') (fun g => S g ∨ S' g) E e size V' hd ts (rs ++ [hd k ++ [u0, u1, u2, u3, u4, u5, u6]]) := by
  subst hk0
  have l3 := h.b3.lt
  have hB := h.hB
  have hset : (wt.setCell ⟨w.heap.size + 1 + 1, j, none⟩ V').heap.size = wt.heap.size := by simp [World.setCell]
  have hk1 : ∀ g, g < wr.heap.size → g ≠ w.heap.size + 1 + 1 → V.ownBlock ≠ some g → (wt.setCell ⟨w.heap.size + 1 + 1, j, none⟩ V').heap[g]? = wr.heap[g]? := fun g hg hne hv =>
    (Below.heap_setCell _ _ _ _ hne).trans (hG.block g hg (by omega) (fun e => hv e.symm))
  have hkS : ∀ g, S g → (wt.setCell ⟨w.heap.size + 1 + 1, j, none⟩ V').heap[g]? = wr.heap[g]? := fun g hg => hk1 g (h.sb g hg).2 (by have := (h.sb g hg).1; omega) (h.ne g hg)
  have hkS' : ∀ g, S' g → (wt.setCell ⟨w.heap.size + 1 + 1, j, none⟩ V').heap[g]? = w2.heap[g]? := fun g hg =>
    (Below.heap_setCell _ _ _ _ (by have := hS g hg; show g ≠ w.heap.size + 1 + 1; omega)).trans (hT g hg (hL.1 g hg))
  have hgs := hG.size
  have hV : ∀ g, g < w.heap.size + 1 + 1 + 1 → V.ownBlock ≠ some g := fun g hg e => by have := (h.row.lt g e).1; omega
  refine ⟨hB, (h.be.trans (hG.below (Nat.le_of_lt (by omega)) (by omega) (fun k e => by have := (h.row.lt k e).1; omega))).setCell (by show w.heap.size ≤ w.heap.size + 1 + 1; omega) _,
    (hk1 _ (by omega) (by omega) (hV _ (by omega))).trans h.b1, (hk1 _ (by omega) (by omega) (hV _ (by omega))).trans h.b2, (hG.bx h.b3 (by omega) (fun e => hV _ (by omega) e.symm)).set_ j V', fun g hg => ?_, fun w' hw => h.ex w' (fun g hg => (hw g (.inl hg)).trans (hkS g hg)),
    ?_, fun g hg => ?_, fun i hi hi' => ?_⟩
  · rw [hset]
    rcases hg with hg | hg
    · have := h.sb g hg; omega
    · have := hS g hg; have := hL.1 g hg; omega
  · have hr := ownsRow_setCell_other (a := ⟨w.heap.size + 1 + 1, j, none⟩) hown (fun e => by have h5 : w.heap.size + 1 + 1 + 1 ≤ w.heap.size + 1 + 1 := (hown.lt (w.heap.size + 1 + 1) e).1; omega) V'
    rw [List.length_append, List.flatten_append]
    simpa using hr
  · rcases hg with hg | hg <;> rcases hat with hv | ⟨m, hv, hm⟩ <;> rw [hv]
    · exact h.ne g hg
    · intro e; injection e with e; have := (h.sb g hg).2; omega
    · intro e; have h8 := h.row.lt g e; have := hS g hg; omega
    · intro e; injection e with e; have := hL.1 g hg; omega
  · have hm : ∀ g, (S g ∨ S' g) → g < (wt.setCell ⟨w.heap.size + 1 + 1, j, none⟩ V').heap.size := by
      rw [hset]
      rintro g (hg | hg)
      · have := h.sb g hg; omega
      · have := hL.1 g hg; omega
    rcases Nat.lt_or_ge i rs.length with hl | hl
    · obtain ⟨v0, v1, v2, v3, v4, v5, v6, e1, e2⟩ := h.ty i hi hl
      exact ⟨v0, v1, v2, v3, v4, v5, v6, by rw [List.getElem_append_left hl]; exact e1, (e2.keep hkS (by rw [hset]; exact hgs)).more (fun g hg => .inl hg) hm⟩
    · have : i = rs.length := by rw [List.length_append, List.length_singleton] at hi'; omega
      subst this
      exact ⟨u0, u1, u2, u3, u4, u5, u6, by simp, (hL.keep hkS' (by rw [hset]; exact h2)).more (fun g hg => .inr hg) hm⟩

/-- The rows rs of the slice V, with their types. -/
def RowsAt (S : Nat → Prop) (V : Value) (hd : Nat → List Value) (ts : List Ty) (rs : List (List Value)) (w' : World) : Prop :=
  (∃ A C, V = .slice A rs.length C ∧ rs.length ≤ C ∧ (0 < rs.length → ∃ g, A = some ⟨g, 0, none⟩ ∧ S g ∧ ∀ (j : Nat) (u : Value), rs.flatten[j]? = some u → w'.cell? ⟨g, j, none⟩ = some u)) ∧
  ∀ i (h : i < ts.length) (h' : i < rs.length), ∃ u0 u1 u2 u3 u4 u5 u6, rs[i] = hd i ++ [u0, u1, u2, u3, u4, u5, u6] ∧ ∀ B, (∀ g, S g → g < B) → TyAt w' B ts[i] (.agg #[u0, u1, u2, u3, u4, u5, u6])

theorem Lp.rows {B : Nat} {w wr : World} {X Y : Array Value} {S : Nat → Prop} {E : World → Prop} {e : TypeId} {size : Nat} {V : Value} {hd : Nat → List Value} {ts : List Ty} {rs : List (List Value)} (h : Lp B w wr X Y S E e size V hd ts rs) (w' : World) (hw : ∀ g, (S g ∨ V.ownBlock = some g) → w'.heap[g]? = wr.heap[g]?) :
    RowsAt (fun g => S g ∨ V.ownBlock = some g) V hd ts rs w' := by
  refine ⟨?_, fun i hi hi' => ?_⟩
  · have hr := h.row
    rcases hr.2 with ⟨rfl, h0⟩ | ⟨g, cap, cur, rfl, hb, hg, hc, _⟩
    · exact ⟨none, 0, by rw [h0], by omega, fun h => by omega⟩
    · refine ⟨_, cap, rfl, hc, fun _ => ⟨g, rfl, .inr rfl, fun j u hu => ?_⟩⟩
      have := hr.cells (g := g) rfl j u hu
      rw [addr_add9, Nat.zero_add] at this
      exact (World.cell?_of_block (w := wr) (a := ⟨g, j, none⟩) (hw g (.inr rfl))).trans this
  · obtain ⟨v0, v1, v2, v3, v4, v5, v6, e1, e2⟩ := h.ty i hi hi'
    exact ⟨v0, v1, v2, v3, v4, v5, v6, e1, fun B hB => e2.2 w' (fun g hg => hw g (.inl hg)) B (fun g hg => hB g (.inl hg))⟩

/-- The next loop begins. -/
theorem Lp.next {B : Nat} {w wr : World} {X Y : Array Value} {S : Nat → Prop} {E : World → Prop} {e e2 : TypeId} {size size2 : Nat} {V : Value} {hd : Nat → List Value} {ts : List Ty} {rs : List (List Value)} (h : Lp B w wr X Y S E e size V hd ts rs) (hd2 : Nat → List Value) (ts2 : List Ty) :
    Lp B w wr X Y (fun g => S g ∨ V.ownBlock = some g) (fun w' => E w' ∧ RowsAt (fun g => S g ∨ V.ownBlock = some g) V hd ts rs w') e2 size2 (.slice none 0 0) hd2 ts2 [] := by
  refine ⟨h.hB, h.be, h.b1, h.b2, h.b3, fun g hg => ?_, fun w' hw => ⟨h.ex w' fun g hg => hw g (.inl hg), h.rows w' hw⟩, by simpa using World.ownsRow_nil wr (w.heap.size + 1 + 1 + 1) e2 size2, fun g _ e => by simp [Value.ownBlock] at e, fun i _ hi' => absurd hi' (Nat.not_lt_zero _)⟩
  rcases hg with hg | hg
  · exact h.sb g hg
  · have := h.row.lt g hg; omega
theorem RowsAt.more {S S2 : Nat → Prop} {V : Value} {hd : Nat → List Value} {ts : List Ty} {rs : List (List Value)} {w' : World} (h : RowsAt S V hd ts rs w') (hS : ∀ g, S g → S2 g) : RowsAt S2 V hd ts rs w' := by
  obtain ⟨⟨A, C, e1, e2, e3⟩, h2⟩ := h
  refine ⟨⟨A, C, e1, e2, fun h0 => ?_⟩, fun i hi hi' => ?_⟩
  · obtain ⟨g, q1, q2, q3⟩ := e3 h0
    exact ⟨g, q1, hS g q2, q3⟩
  · obtain ⟨v0, v1, v2, v3, v4, v5, v6, q1, q2⟩ := h2 i hi hi'
    exact ⟨v0, v1, v2, v3, v4, v5, v6, q1, fun B hB => q2 B fun g hg => hB g (hS g hg)⟩

/-- The cells xs lie at A, within the blocks S. -/
def RowAt (S : Nat → Prop) (A : Option Addr) (xs : List Value) (w' : World) : Prop := 0 < xs.length → ∃ g o, A = some ⟨g, o, none⟩ ∧ S g ∧ ∀ (j : Nat) (u : Value), xs[j]? = some u → w'.cell? ⟨g, o + j, none⟩ = some u
theorem RowAt.more {S S2 : Nat → Prop} {A : Option Addr} {xs : List Value} {w' : World} (h : RowAt S A xs w') (hS : ∀ g, S g → S2 g) : RowAt S2 A xs w' := fun h0 => by
  obtain ⟨g, o, q1, q2, q3⟩ := h h0
  exact ⟨g, o, q1, hS g q2, q3⟩

theorem flat_get (size : Nat) : ∀ (rs : List (List Value)), (∀ r ∈ rs, r.length = size) → ∀ i (h : i < rs.length) l, l < size → rs.flatten[i * size + l]? = rs[i][l]?
  | [], _, i, h, _, _ => absurd h (Nat.not_lt_zero _)
  | r :: rs, hr, 0, _, l, hl => by
    have h1 := hr r List.mem_cons_self
    rw [List.flatten_cons, Nat.zero_mul, Nat.zero_add, List.getElem?_append_left (by omega)]
    rfl
  | r :: rs, hr, i + 1, h, l, hl => by
    have h1 := hr r List.mem_cons_self
    have ih := flat_get size rs (fun x hx => hr x (List.mem_cons_of_mem _ hx)) i (Nat.lt_of_succ_lt_succ h) l hl
    rw [List.flatten_cons, List.getElem?_append_right (by rw [h1, Nat.succ_mul]; omega), h1, show (i + 1) * size + l - size = i * size + l by rw [Nat.succ_mul]; omega, ih]
    rfl

/-- What stands ahead of a field's type. -/
noncomputable def hdF (fs : List Fd) (i : Nat) : List Value := match fs[i]? with | some f => [.string f.name, .int .i64 f.pos] | none => []

/-- A type out of its rows. -/
theorem own_mk {S : Nat → Prop} {w' : World} {c wd : Int} {b : Bool} {fs : List Fd} {ds : List Int} {bs : List Ty} {ns : List (ByteArray × Int)} {FV BV : Value} {dA2 nA2 : Option Addr} {dC2 nC2 : Nat} {rf rb : List (List Value)}
    (hf : fs.length ≤ 140737488355328) (hd : ds.length ≤ 140737488355328) (hb : bs.length ≤ 140737488355328) (hn : ns.length ≤ 140737488355328)
    (hfz : ∀ f ∈ fs, f.name.size ≤ 140737488355328) (hnz : ∀ x ∈ ns, x.1.size ≤ 140737488355328) (hnr : ∀ x ∈ ns, -9223372036854775808 ≤ x.2 ∧ x.2 ≤ 9223372036854775807)
    (hdr : RowAt S dA2 (nums ds) w') (hnw : RowAt S nA2 (mem2 ns) w') (hF : RowsAt S FV (hdF fs) (fs.map Fd.ty) rf w') (hrf : rf.length = fs.length) (hB : RowsAt S BV (fun _ => []) bs rb w') (hrb : rb.length = bs.length)
    (hdc : ds.length ≤ dC2) (hnc : ns.length ≤ nC2) (B : Nat) (hSB : ∀ g, S g → g < B) :
    TyAt w' B (.mk c wd b fs ds bs ns) (.agg #[.int .i64 c, .int .i64 wd, .bool b, FV, .slice dA2 ds.length dC2, BV, .slice nA2 ns.length nC2]) := by
  obtain ⟨⟨fA, fC, rfl, hfc, hfa⟩, hft⟩ := hF
  obtain ⟨⟨bA, bC, rfl, hbc, hba⟩, hbt⟩ := hB
  rw [hrf, hrb]
  have hF9 : ∀ i (h : i < fs.length), ∃ u0 u1 u2 u3 u4 u5 u6, rf[i]'(by omega) = [.string fs[i].name, .int .i64 fs[i].pos, u0, u1, u2, u3, u4, u5, u6] ∧ TyAt w' B fs[i].ty (.agg #[u0, u1, u2, u3, u4, u5, u6]) := by
    intro i h
    obtain ⟨v0, v1, v2, v3, v4, v5, v6, q1, q2⟩ := hft i (by simpa using h) (by omega)
    refine ⟨v0, v1, v2, v3, v4, v5, v6, ?_, by simpa using q2 B hSB⟩
    rw [q1, hdF, List.getElem?_eq_getElem h]
    rfl
  have hB7 : ∀ i (h : i < bs.length), ∃ u0 u1 u2 u3 u4 u5 u6, rb[i]'(by omega) = [u0, u1, u2, u3, u4, u5, u6] ∧ TyAt w' B bs[i] (.agg #[u0, u1, u2, u3, u4, u5, u6]) := by
    intro i h
    obtain ⟨v0, v1, v2, v3, v4, v5, v6, q1, q2⟩ := hbt i h (by omega)
    exact ⟨v0, v1, v2, v3, v4, v5, v6, q1, q2 B hSB⟩
  have z9 : ∀ r ∈ rf, r.length = 9 := by
    intro r hr
    obtain ⟨i, hi, rfl⟩ := List.mem_iff_getElem.mp hr
    obtain ⟨v0, v1, v2, v3, v4, v5, v6, q1, _⟩ := hF9 i (by omega)
    rw [q1]; rfl
  have z7 : ∀ r ∈ rb, r.length = 7 := by
    intro r hr
    obtain ⟨i, hi, rfl⟩ := List.mem_iff_getElem.mp hr
    obtain ⟨v0, v1, v2, v3, v4, v5, v6, q1, _⟩ := hB7 i (by omega)
    rw [q1]; rfl
  have HF : ∃ fb, (0 < fs.length → fA = some ⟨fb, 0, none⟩ ∧ fb < B) ∧ ∀ i (h : i < fs.length) l u, l < 9 → (rf[i]'(by omega))[l]? = some u → w'.cell? ⟨fb, 0 + i * 9 + l, none⟩ = some u := by
    rcases Nat.eq_zero_or_pos fs.length with h0 | h0
    · exact ⟨0, fun h => by omega, fun i h => by omega⟩
    · obtain ⟨g, q1, q2, q3⟩ := hfa (by omega)
      refine ⟨g, fun _ => ⟨q1, hSB g q2⟩, fun i h l u hl hu => ?_⟩
      rw [Nat.zero_add]
      exact q3 _ _ ((flat_get 9 rf z9 i (by omega) l hl).trans hu)
  have HB : ∃ fb, (0 < bs.length → bA = some ⟨fb, 0, none⟩ ∧ fb < B) ∧ ∀ i (h : i < bs.length) l u, l < 7 → (rb[i]'(by omega))[l]? = some u → w'.cell? ⟨fb, 0 + i * 7 + l, none⟩ = some u := by
    rcases Nat.eq_zero_or_pos bs.length with h0 | h0
    · exact ⟨0, fun h => by omega, fun i h => by omega⟩
    · obtain ⟨g, q1, q2, q3⟩ := hba (by omega)
      refine ⟨g, fun _ => ⟨q1, hSB g q2⟩, fun i h l u hl hu => ?_⟩
      rw [Nat.zero_add]
      exact q3 _ _ ((flat_get 7 rb z7 i (by omega) l hl).trans hu)
  have HD : ∃ db dO, (0 < ds.length → dA2 = some ⟨db, dO, none⟩ ∧ db < B) ∧ ∀ i (h : i < ds.length), w'.cell? ⟨db, dO + i, none⟩ = some (.int .i64 ds[i]) := by
    rcases Nat.eq_zero_or_pos ds.length with h0 | h0
    · exact ⟨0, 0, fun h => by omega, fun i h => by omega⟩
    · obtain ⟨g, o, q1, q2, q3⟩ := hdr (by rw [nums_len]; omega)
      exact ⟨g, o, fun _ => ⟨q1, hSB g q2⟩, fun i h => q3 _ _ (by simp [nums, h])⟩
  have HN : ∃ nb nO, (0 < ns.length → nA2 = some ⟨nb, nO, none⟩ ∧ nb < B) ∧ ∀ i (h : i < ns.length), w'.cell? ⟨nb, nO + i * 2, none⟩ = some (.string ns[i].1) ∧ w'.cell? ⟨nb, nO + i * 2 + 1, none⟩ = some (.int .i64 ns[i].2) := by
    rcases Nat.eq_zero_or_pos ns.length with h0 | h0
    · exact ⟨0, 0, fun h => by omega, fun i h => by omega⟩
    · obtain ⟨g, o, q1, q2, q3⟩ := hnw (by rw [mem2_len]; omega)
      refine ⟨g, o, fun _ => ⟨q1, hSB g q2⟩, fun i h => ?_⟩
      have := mem2_get ns i h
      exact ⟨q3 _ _ this.1, q3 _ _ this.2⟩
  obtain ⟨fb, hfA, hfr⟩ := HF
  obtain ⟨bb, hbA, hbr⟩ := HB
  obtain ⟨db, dO, hdA, hd0⟩ := HD
  obtain ⟨nb, nO, hnA, hn0⟩ := HN
  refine .mk c wd b fs ds bs ns fA dA2 bA nA2 fC dC2 bC nC2 fb 0 db dO bb 0 nb nO (fun i l => (rf.getD i []).getD (2 + l) (.int .i64 0)) (fun i l => (rb.getD i []).getD l (.int .i64 0)) hf hd hb hn hfz hnz hnr ⟨by omega, hdc, by omega, hnc⟩ hfA hdA hbA hnA ?_ ?_ ?_ ?_ hd0 ?_ ?_ (fun i h => (hn0 i h).1) (fun i h => (hn0 i h).2)
  · intro i h
    obtain ⟨v0, v1, v2, v3, v4, v5, v6, q1, _⟩ := hF9 i h
    exact hfr i h 0 _ (by omega) (by rw [q1]; rfl)
  · intro i h
    obtain ⟨v0, v1, v2, v3, v4, v5, v6, q1, _⟩ := hF9 i h
    exact hfr i h 1 _ (by omega) (by rw [q1]; rfl)
  · intro i h l hl
    have hi : i < rf.length := by omega
    have := hfr i h (2 + l) (rf[i][2 + l]'(by rw [z9 _ (List.getElem_mem hi)]; omega)) (by omega) (List.getElem?_eq_getElem _)
    rw [Nat.add_assoc (0 + i * 9), this]
    have h9 : 2 + l < rf[i].length := by rw [z9 _ (List.getElem_mem hi)]; omega
    simp [List.getD_eq_getElem?_getD, hi, h9]
  · intro i h
    obtain ⟨v0, v1, v2, v3, v4, v5, v6, q1, q2⟩ := hF9 i h
    have hi : i < rf.length := by omega
    have e : rf.getD i [] = [.string fs[i].name, .int .i64 fs[i].pos, v0, v1, v2, v3, v4, v5, v6] := by rw [← q1]; simp [List.getD_eq_getElem?_getD, hi]
    simp only [e]
    exact q2
  · intro i h l hl
    have hi : i < rb.length := by omega
    have h7 : l < rb[i].length := by rw [z7 _ (List.getElem_mem hi)]; omega
    have := hbr i h l (rb[i][l]'h7) (by omega) (List.getElem?_eq_getElem _)
    rw [this]
    simp [List.getD_eq_getElem?_getD, hi, h7]
  · intro i h
    obtain ⟨v0, v1, v2, v3, v4, v5, v6, q1, q2⟩ := hB7 i h
    have hi : i < rb.length := by omega
    have e : rb.getD i [] = [v0, v1, v2, v3, v4, v5, v6] := by rw [← q1]; simp [List.getD_eq_getElem?_getD, hi]
    simp only [e]
    exact q2
theorem cell_old (w : World) (o : Obj) {b : Nat} (h : b < w.heap.size) (j : Nat) : (w.alloc o).cell? ⟨b, j, none⟩ = w.cell? ⟨b, j, none⟩ := (below_new w o).cell (p := ⟨b, j, none⟩) h
theorem Gr.weak {go : Nat} {r : Option Nat} {w w' : World} (h : Gr go none w w') : Gr go r w w' := ⟨h.os, h.tape, h.output, h.size, fun k hk hg _ => h.block k hk hg (by simp)⟩
theorem Gr.own {go base : Nat} {w w' : World} {e : TypeId} {size n : Nat} {v : Value} {xs : List Value} (h : Gr go none w w') (hr : w.ownsRow base e size v n xs) (hgo : v.ownBlock ≠ some go) : w'.ownsRow base e size v n xs :=
  hr.kept (row := some go) ⟨h.os, h.tape, h.output, h.size, fun k hk hne => h.block k hk (fun e => hne (by rw [e])) (by simp)⟩ (.inr hgo)
theorem hdF_at {fs : List Fd} {k : Nat} {f : Fd} (h : fs[k]? = some f) : hdF fs k = [.string f.name, .int .i64 f.pos] := by rw [hdF, h]

theorem bytes24 : Try.prog.bytesOf 68 = 24 := by kernel_rfl
theorem sc_far (w W : World) (j k : Nat) (v : Value) : (W.setCell ⟨w.heap.size + 1 + 1, j, none⟩ v).cell? ⟨w.heap.size, k, none⟩ = W.cell? ⟨w.heap.size, k, none⟩ :=
  World.cell?_setCell_far _ _ _ _ (by show w.heap.size + 1 + 1 ≠ w.heap.size; omega)
/-- What own's boxes and copies are, behind region 2 and in its loops. -/
structure OwnSt (w wr : World) (X Y : Array Value) (dA2 nA2 : Option Addr) (dC2 nC2 : Nat) (ds : List Int) (ns : List (ByteArray × Int)) : Prop where
  be : Below w.heap.size w wr
  b1 : Bx wr w.heap.size 28 X
  b2 : Bx wr (w.heap.size + 1) 28 #[.int .i64 0, .int .i64 0, .bool false, .slice none 0 0, .slice none 0 0, .slice none 0 0, .slice none 0 0]
  b3 : Bx wr (w.heap.size + 1 + 1) 28 Y
  dc : ds.length ≤ dC2
  nc : ns.length ≤ nC2
  rd : 0 < ds.length → ∃ g, dA2 = some ⟨g, 0, none⟩ ∧ w.heap.size + 1 + 1 < g ∧ g < wr.heap.size ∧ ∀ (j : Nat) (u : Value), (nums ds)[j]? = some u → wr.cell? ⟨g, j, none⟩ = some u
  rn : 0 < ns.length → ∃ g, nA2 = some ⟨g, 0, none⟩ ∧ w.heap.size + 1 + 1 < g ∧ g < wr.heap.size ∧ ∀ (j : Nat) (u : Value), (mem2 ns)[j]? = some u → wr.cell? ⟨g, j, none⟩ = some u

theorem own_start {w W3 cur cur2 wD wN : World} {X : Array Value} {x0 x1 x2 x3 x4 x5 x6 : Value} {dA2 nA2 : Option Addr} {dC2 nC2 : Nat} {ds : List Int} {ns : List (ByteArray × Int)} (hsz : W3.heap.size = w.heap.size + 1 + 1 + 1) (hN : Below w.heap.size w W3)
    (h1 : Bx W3 w.heap.size 28 X) (h2 : Bx W3 (w.heap.size + 1) 28 #[.int .i64 0, .int .i64 0, .bool false, .slice none 0 0, .slice none 0 0, .slice none 0 0, .slice none 0 0]) (h3 : Bx W3 (w.heap.size + 1 + 1) 28 #[x0, x1, x2, x3, x4, x5, x6]) (hcd : Copied cur wD dA2 dC2 ds.length (nums ds)) (hc1 : W3.heap.size ≤ cur.heap.size)
    (hcn : Copied cur2 wN nA2 nC2 ns.length (mem2 ns)) (hc2 : W3.heap.size ≤ cur2.heap.size) (hdn : Below wD.heap.size wD wN) (hbn : Below W3.heap.size W3 wN) :
    OwnSt w ((((wN.setCell ⟨w.heap.size + 1 + 1, 3, none⟩ (.slice none 0 0)).setCell ⟨w.heap.size + 1 + 1, 4, none⟩ (.slice dA2 ds.length dC2)).setCell ⟨w.heap.size + 1 + 1, 5, none⟩ (.slice none 0 0)).setCell ⟨w.heap.size + 1 + 1, 6, none⟩ (.slice nA2 ns.length nC2))
      X #[x0, x1, x2, .slice none 0 0, .slice dA2 ds.length dC2, .slice none 0 0, .slice nA2 ns.length nC2] dA2 nA2 dC2 nC2 ds ns := by
  have hF : Below (w.heap.size + 1 + 1) wN ((((wN.setCell ⟨w.heap.size + 1 + 1, 3, none⟩ (.slice none 0 0)).setCell ⟨w.heap.size + 1 + 1, 4, none⟩ (.slice dA2 ds.length dC2)).setCell ⟨w.heap.size + 1 + 1, 5, none⟩ (.slice none 0 0)).setCell ⟨w.heap.size + 1 + 1, 6, none⟩ (.slice nA2 ns.length nC2)) :=
    by refine Below.setCell (Below.setCell (Below.setCell (Below.setCell (Below.refl _ _) ?_ _) ?_ _) ?_ _) ?_ _ <;> exact Nat.le_refl (w.heap.size + 1 + 1)
  have hfar : ∀ (g j : Nat), w.heap.size + 1 + 1 < g → ((((wN.setCell ⟨w.heap.size + 1 + 1, 3, none⟩ (.slice none 0 0)).setCell ⟨w.heap.size + 1 + 1, 4, none⟩ (.slice dA2 ds.length dC2)).setCell ⟨w.heap.size + 1 + 1, 5, none⟩ (.slice none 0 0)).setCell ⟨w.heap.size + 1 + 1, 6, none⟩ (.slice nA2 ns.length nC2)).cell? ⟨g, j, none⟩ = wN.cell? ⟨g, j, none⟩ := by
    intro g j hg
    rw [World.cell?_setCell_far _ _ _ _ (by show w.heap.size + 1 + 1 ≠ g; omega), World.cell?_setCell_far _ _ _ _ (by show w.heap.size + 1 + 1 ≠ g; omega), World.cell?_setCell_far _ _ _ _ (by show w.heap.size + 1 + 1 ≠ g; omega), World.cell?_setCell_far _ _ _ _ (by show w.heap.size + 1 + 1 ≠ g; omega)]
  have hs := hF.size
  have hb3 := h3.later hbn (by omega)
  have hY := (((hb3.set_ 3 (.slice none 0 0)).set_ 4 (.slice dA2 ds.length dC2)).set_ 5 (.slice none 0 0)).set_ 6 (.slice nA2 ns.length nC2)
  refine ⟨(hN.trans (hbn.mono (by omega))).trans (hF.mono (by omega)), (h1.later hbn (by omega)).later hF (by omega), (h2.later hbn (by omega)).later hF (by omega), hY, hcd.cap, hcn.cap, fun hm => ?_, fun hm => ?_⟩
  · obtain ⟨g, rfl, hg1, hg2, hc⟩ := hcd.row hm
    have := hdn.size
    exact ⟨g, rfl, by omega, by omega, fun j u hu => (hfar g j (by omega)).trans ((hdn.cell (p := ⟨g, j, none⟩) hg2).trans (hc j u hu))⟩
  · obtain ⟨g, rfl, hg1, hg2, hc⟩ := hcn.row hm
    exact ⟨g, rfl, by omega, by omega, fun j u hu => (hfar g j (by omega)).trans (hc j u hu)⟩

/-- The blocks of the two copied rows. -/
def S0 (dA2 nA2 : Option Addr) (ds : List Int) (ns : List (ByteArray × Int)) (g : Nat) : Prop := (0 < ds.length ∧ dA2 = some ⟨g, 0, none⟩) ∨ (0 < ns.length ∧ nA2 = some ⟨g, 0, none⟩)
def E0 (dA2 nA2 : Option Addr) (ds : List Int) (ns : List (ByteArray × Int)) (w' : World) : Prop := RowAt (S0 dA2 nA2 ds ns) dA2 (nums ds) w' ∧ RowAt (S0 dA2 nA2 ds ns) nA2 (mem2 ns) w'
theorem OwnSt.lp {w wr : World} {X Y : Array Value} {dA2 nA2 : Option Addr} {dC2 nC2 : Nat} {ds : List Int} {ns : List (ByteArray × Int)} (h : OwnSt w wr X Y dA2 nA2 dC2 nC2 ds ns) (e : TypeId) (size : Nat) (hd : Nat → List Value) (ts : List Ty) :
    Lp 0 w wr X Y (S0 dA2 nA2 ds ns) (E0 dA2 nA2 ds ns) e size (.slice none 0 0) hd ts [] := by
  refine ⟨Nat.zero_le _, h.be, h.b1, h.b2, h.b3, fun g hg => ?_, fun w' hw => ⟨fun h0 => ?_, fun h0 => ?_⟩, by simpa using World.ownsRow_nil wr (w.heap.size + 1 + 1 + 1) e size, fun g _ e => by simp [Value.ownBlock] at e, fun i _ hi' => absurd hi' (Nat.not_lt_zero _)⟩
  · rcases hg with ⟨h0, e⟩ | ⟨h0, e⟩
    · obtain ⟨g', e', q1, q2, _⟩ := h.rd h0
      rw [e'] at e
      have : g' = g := by injection Option.some.inj e
      omega
    · obtain ⟨g', e', q1, q2, _⟩ := h.rn h0
      rw [e'] at e
      have : g' = g := by injection Option.some.inj e
      omega
  · obtain ⟨g, e, q1, q2, q3⟩ := h.rd (by rw [nums_len] at h0; omega)
    have hs : S0 dA2 nA2 ds ns g := .inl ⟨by rw [nums_len] at h0; omega, e⟩
    exact ⟨g, 0, e, hs, fun j u hu => by rw [Nat.zero_add]; exact (World.cell?_of_block (w := wr) (a := ⟨g, j, none⟩) (hw g hs)).trans (q3 j u hu)⟩
  · obtain ⟨g, e, q1, q2, q3⟩ := h.rn (by rw [mem2_len] at h0; omega)
    have hs : S0 dA2 nA2 ds ns g := .inr ⟨by rw [mem2_len] at h0; omega, e⟩
    exact ⟨g, 0, e, hs, fun j u hu => by rw [Nat.zero_add]; exact (World.cell?_of_block (w := wr) (a := ⟨g, j, none⟩) (hw g hs)).trans (q3 j u hu)⟩

theorem bytesF9 : Try.prog.bytesOf 66 = 144 := by kernel_rfl
theorem bytesT7 : Try.prog.bytesOf 28 = 120 := by kernel_rfl
theorem set7 {r : Option Nat} {w w2 : World} {g : Nat} {t : TypeId} {n p x0 x1 x2 x3 x4 x5 x6 : Value} (h : Bx w2 g t #[n, p, x0, x1, x2, x3, x4, x5, x6]) (hG : Gr g r w w2) (u0 u1 u2 u3 u4 u5 u6 : Value) :
    ∃ wq, (((((((w2.setCell ⟨g, 2, none⟩ u0).setCell ⟨g, 3, none⟩ u1).setCell ⟨g, 4, none⟩ u2).setCell ⟨g, 5, none⟩ u3).setCell ⟨g, 6, none⟩ u4).setCell ⟨g, 7, none⟩ u5).setCell ⟨g, 8, none⟩ u6) = wq ∧
      Bx wq g t #[n, p, u0, u1, u2, u3, u4, u5, u6] ∧ Gr g r w wq ∧ wq.heap.size = w2.heap.size ∧ ∀ k, k ≠ g → wq.heap[k]? = w2.heap[k]? := by
  refine ⟨_, rfl, ?_, ?_, ?_, fun k hk => ?_⟩
  · have h9 := ((((((h.set_ 2 u0).set_ 3 u1).set_ 4 u2).set_ 5 u3).set_ 6 u4).set_ 7 u5).set_ 8 u6
    simpa using h9
  · exact ((((((hG.set 2 u0).set 3 u1).set 4 u2).set 5 u3).set 6 u4).set 7 u5).set 8 u6
  · simp [World.setCell]
  · rw [Below.heap_setCell _ _ _ _ hk, Below.heap_setCell _ _ _ _ hk, Below.heap_setCell _ _ _ _ hk, Below.heap_setCell _ _ _ _ hk, Below.heap_setCell _ _ _ _ hk, Below.heap_setCell _ _ _ _ hk, Below.heap_setCell _ _ _ _ hk]
theorem field_info : (Try.prog.info? 66).map (fun i => (i.zero, i.size, i.bytes)) = some (some (.agg #[.string ⟨#[]⟩, .int .i64 0, .int .i64 0, .int .i64 0, .bool false, .slice none 0 0, .slice none 0 0, .slice none 0 0, .slice none 0 0]), 9, 144) := by kernel_rfl
theorem type_info : (Try.prog.info? 28).map (fun i => (i.zero, i.size, i.bytes)) = some (some (.agg #[.int .i64 0, .int .i64 0, .bool false, .slice none 0 0, .slice none 0 0, .slice none 0 0, .slice none 0 0]), 7, 120) := by kernel_rfl

end Go.Proofs.Ytbdhihgokkcmfaa.Ty9

