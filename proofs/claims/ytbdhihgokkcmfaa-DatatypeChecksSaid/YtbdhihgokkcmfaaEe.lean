/- Rows and types of a call's own, told by the blocks in which they lie. -/
import Derived.Test.YtbdhihgokkcmfaaEb
import Derived.Test.YtbdhihgokkcmfaaPj
namespace Go.Proofs.Ytbdhihgokkcmfaa.Ty9
set_option linter.unusedVariables false
set_option linter.unusedSimpArgs false
open Go.RowKit Wd

theorem addr_add9 (b o j : Nat) : (⟨b, o, none⟩ : Addr).add j = ⟨b, o + j, none⟩ := by unfold Addr.add; split <;> simp_all

/-- The value u is the type t in every memory that has w's blocks S. -/
def Lies (S : Nat → Prop) (w : World) (t : Ty) (u : Value) : Prop := (∀ g, S g → g < w.heap.size) ∧ ∀ w2 : World, (∀ g, S g → w2.heap[g]? = w.heap[g]?) → ∀ B, (∀ g, S g → g < B) → TyAt w2 B t u
theorem Lies.here {S : Nat → Prop} {w : World} {t : Ty} {u : Value} (h : Lies S w t u) : TyAt w w.heap.size t u := h.2 w (fun _ _ => rfl) _ h.1
theorem Lies.keep {S : Nat → Prop} {w w2 : World} {t : Ty} {u : Value} (h : Lies S w t u) (hk : ∀ g, S g → w2.heap[g]? = w.heap[g]?) (hs : w.heap.size ≤ w2.heap.size) : Lies S w2 t u :=
  ⟨fun g hg => Nat.lt_of_lt_of_le (h.1 g hg) hs, fun w3 h3 B hB => h.2 w3 (fun g hg => (h3 g hg).trans (hk g hg)) B hB⟩
theorem Lies.more {S S' : Nat → Prop} {w : World} {t : Ty} {u : Value} (h : Lies S w t u) (hS : ∀ g, S g → S' g) (hS' : ∀ g, S' g → g < w.heap.size) : Lies S' w t u :=
  ⟨hS', fun w3 h3 B hB => h.2 w3 (fun g hg => h3 g (hS g hg)) B (fun g hg => hB g (hS g hg))⟩

/-- What a loop has that appends rows with types: V owns the rows rs; they, and what is done before, lie in the blocks S. -/
structure Lp (w wr : World) (X Y : Array Value) (S : Nat → Prop) (E : World → Prop) (e : TypeId) (size : Nat) (V : Value) (hd : Nat → List Value) (ts : List Ty) (rs : List (List Value)) : Prop where
  be : Below w.heap.size w wr
  b1 : Bx wr w.heap.size 28 X
  b2 : Bx wr (w.heap.size + 1) 28 #[.int .i64 0, .int .i64 0, .bool false, .slice none 0 0, .slice none 0 0, .slice none 0 0, .slice none 0 0]
  b3 : Bx wr (w.heap.size + 1 + 1) 28 Y
  sb : ∀ g, S g → w.heap.size + 1 + 1 < g ∧ g < wr.heap.size
  ex : ∀ w', (∀ g, S g → w'.heap[g]? = wr.heap[g]?) → E w'
  row : wr.ownsRow (w.heap.size + 1 + 1 + 1) e size V rs.length rs.flatten
  ne : ∀ g, S g → V.ownBlock ≠ some g
  ty : ∀ i (h : i < ts.length) (h' : i < rs.length), ∃ u0 u1 u2 u3 u4 u5 u6, rs[i] = hd i ++ [u0, u1, u2, u3, u4, u5, u6] ∧ Lies S wr ts[i] (.agg #[u0, u1, u2, u3, u4, u5, u6])

theorem Lp.step {w wr w2 wt : World} {X Y : Array Value} {S S' : Nat → Prop} {E : World → Prop} {e : TypeId} {size : Nat} {V V' : Value} {hd : Nat → List Value} {ts : List Ty} {rs : List (List Value)} (h : Lp w wr X Y S E e size V hd ts rs)
    {k : Nat} (hk0 : rs.length = k) (hk : k < ts.length) {u0 u1 u2 u3 u4 u5 u6 : Value} (hG : Gr wr.heap.size V.ownBlock wr wt) (hT : ∀ g, S' g → g < w2.heap.size → wt.heap[g]? = w2.heap[g]?) (h2 : w2.heap.size ≤ wt.heap.size) (h1 : wr.heap.size ≤ w2.heap.size)
    (hL : Lies S' w2 ts[k] (.agg #[u0, u1, u2, u3, u4, u5, u6])) (hS : ∀ g, S' g → wr.heap.size ≤ g) (j : Nat)
    (hown : wt.ownsRow (w.heap.size + 1 + 1 + 1) e size V' (k + 1) (rs.flatten ++ (hd k ++ [u0, u1, u2, u3, u4, u5, u6]))) (hat : V'.ownBlock = V.ownBlock ∨ ∃ m, V'.ownBlock = some m ∧ w2.heap.size ≤ m) :
    Lp w (wt.setCell ⟨w.heap.size + 1 + 1, j, none⟩ V') X (Y.setIfInBounds j V') (fun g => S g ∨ S' g) E e size V' hd ts (rs ++ [hd k ++ [u0, u1, u2, u3, u4, u5, u6]]) := by
  subst hk0
  have l3 := h.b3.lt
  have hset : (wt.setCell ⟨w.heap.size + 1 + 1, j, none⟩ V').heap.size = wt.heap.size := by simp [World.setCell]
  have hk1 : ∀ g, g < wr.heap.size → g ≠ w.heap.size + 1 + 1 → V.ownBlock ≠ some g → (wt.setCell ⟨w.heap.size + 1 + 1, j, none⟩ V').heap[g]? = wr.heap[g]? := fun g hg hne hv =>
    (Below.heap_setCell _ _ _ _ hne).trans (hG.block g hg (by omega) (fun e => hv e.symm))
  have hkS : ∀ g, S g → (wt.setCell ⟨w.heap.size + 1 + 1, j, none⟩ V').heap[g]? = wr.heap[g]? := fun g hg => hk1 g (h.sb g hg).2 (by have := (h.sb g hg).1; omega) (h.ne g hg)
  have hkS' : ∀ g, S' g → (wt.setCell ⟨w.heap.size + 1 + 1, j, none⟩ V').heap[g]? = w2.heap[g]? := fun g hg =>
    (Below.heap_setCell _ _ _ _ (by have := hS g hg; show g ≠ w.heap.size + 1 + 1; omega)).trans (hT g hg (hL.1 g hg))
  have hgs := hG.size
  have hV : ∀ g, g < w.heap.size + 1 + 1 + 1 → V.ownBlock ≠ some g := fun g hg e => by have := (h.row.lt g e).1; omega
  refine ⟨(h.be.trans (hG.below (Nat.le_of_lt (by omega)) (by omega) (fun k e => by have := (h.row.lt k e).1; omega))).setCell (by show w.heap.size ≤ w.heap.size + 1 + 1; omega) _,
    (hk1 _ (by omega) (by omega) (hV _ (by omega))).trans h.b1, (hk1 _ (by omega) (by omega) (hV _ (by omega))).trans h.b2, (hG.bx h.b3 (by omega) (fun e => hV _ (by omega) e.symm)).set_ j V', fun g hg => ?_, fun w' hw => h.ex w' (fun g hg => (hw g (.inl hg)).trans (hkS g hg)),
    ?_, fun g hg => ?_, fun i hi hi' => ?_⟩
  · rw [hset]
    rcases hg with hg | hg
    · have := h.sb g hg; omega
    · have := hS g hg; have := hL.1 g hg; omega
  · have hr := ownsRow_setCell_other (a := ⟨w.heap.size + 1 + 1, j, none⟩) hown (fun e => by have h5 : w.heap.size + 1 + 1 + 1 ≤ w.heap.size + 1 + 1 := (hown.lt (w.heap.size + 1 + 1) e).1; omega) V'
    rw [List.length_append, List.flatten_append]
    simpa using hr
  · rcases hg with hg | hg <;> rcases hat with hv | ⟨m, hv, hm⟩ <;> rw [hv]
    · exact h.ne g hg
    · intro e; injection e with e; have := (h.sb g hg).2; omega
    · intro e; have := (h.row.lt g e).2; have := hS g hg; omega
    · intro e; injection e with e; have := hL.1 g hg; omega
  · have hm : ∀ g, (S g ∨ S' g) → g < (wt.setCell ⟨w.heap.size + 1 + 1, j, none⟩ V').heap.size := by
      rw [hset]
      rintro g (hg | hg)
      · have := h.sb g hg; omega
      · have := hL.1 g hg; omega
    rcases Nat.lt_or_ge i rs.length with hl | hl
    · obtain ⟨v0, v1, v2, v3, v4, v5, v6, e1, e2⟩ := h.ty i hi hl
      exact ⟨v0, v1, v2, v3, v4, v5, v6, by rw [List.getElem_append_left hl]; exact e1, (e2.keep hkS (by rw [hset]; exact hgs)).more (fun g hg => .inl hg) hm⟩
    · have : i = rs.length := by rw [List.length_append, List.length_singleton] at hi'; omega
      subst this
      exact ⟨u0, u1, u2, u3, u4, u5, u6, by simp, (hL.keep hkS' (by rw [hset]; exact h2)).more (fun g hg => .inr hg) hm⟩

/-- The rows rs of the slice V, with their types. -/
def RowsAt (S : Nat → Prop) (V : Value) (hd : Nat → List Value) (ts : List Ty) (rs : List (List Value)) (w' : World) : Prop :=
  (∃ A C, V = .slice A rs.length C ∧ rs.length ≤ C ∧ (0 < rs.length → ∃ g, A = some ⟨g, 0, none⟩ ∧ S g ∧ ∀ (j : Nat) (u : Value), rs.flatten[j]? = some u → w'.cell? ⟨g, j, none⟩ = some u)) ∧
  ∀ i (h : i < ts.length) (h' : i < rs.length), ∃ u0 u1 u2 u3 u4 u5 u6, rs[i] = hd i ++ [u0, u1, u2, u3, u4, u5, u6] ∧ ∀ B, (∀ g, S g → g < B) → TyAt w' B ts[i] (.agg #[u0, u1, u2, u3, u4, u5, u6])

theorem Lp.rows {w wr : World} {X Y : Array Value} {S : Nat → Prop} {E : World → Prop} {e : TypeId} {size : Nat} {V : Value} {hd : Nat → List Value} {ts : List Ty} {rs : List (List Value)} (h : Lp w wr X Y S E e size V hd ts rs) (w' : World) (hw : ∀ g, (S g ∨ V.ownBlock = some g) → w'.heap[g]? = wr.heap[g]?) :
    RowsAt (fun g => S g ∨ V.ownBlock = some g) V hd ts rs w' := by
  refine ⟨?_, fun i hi hi' => ?_⟩
  · have hr := h.row
    rcases hr.2 with ⟨rfl, h0⟩ | ⟨g, cap, cur, rfl, hb, hg, hc, _⟩
    · exact ⟨none, 0, by rw [h0], by omega, fun h => by omega⟩
    · refine ⟨_, cap, rfl, hc, fun _ => ⟨g, rfl, .inr rfl, fun j u hu => ?_⟩⟩
      have := hr.cells (g := g) rfl j u hu
      rw [addr_add9, Nat.zero_add] at this
      exact (World.cell?_of_block (w := wr) (a := ⟨g, j, none⟩) (hw g (.inr rfl))).trans this
  · obtain ⟨v0, v1, v2, v3, v4, v5, v6, e1, e2⟩ := h.ty i hi hi'
    exact ⟨v0, v1, v2, v3, v4, v5, v6, e1, fun B hB => e2.2 w' (fun g hg => hw g (.inl hg)) B (fun g hg => hB g (.inl hg))⟩

/-- The next loop begins. -/
theorem Lp.next {w wr : World} {X Y : Array Value} {S : Nat → Prop} {E : World → Prop} {e e2 : TypeId} {size size2 : Nat} {V : Value} {hd : Nat → List Value} {ts : List Ty} {rs : List (List Value)} (h : Lp w wr X Y S E e size V hd ts rs) (hd2 : Nat → List Value) (ts2 : List Ty) :
    Lp w wr X Y (fun g => S g ∨ V.ownBlock = some g) (fun w' => E w' ∧ RowsAt (fun g => S g ∨ V.ownBlock = some g) V hd ts rs w') e2 size2 (.slice none 0 0) hd2 ts2 [] := by
  refine ⟨h.be, h.b1, h.b2, h.b3, fun g hg => ?_, fun w' hw => ⟨h.ex w' fun g hg => hw g (.inl hg), h.rows w' hw⟩, by simpa using World.ownsRow_nil wr (w.heap.size + 1 + 1 + 1) e2 size2, fun g _ e => by simp [Value.ownBlock] at e, fun i _ hi' => absurd hi' (Nat.not_lt_zero _)⟩
  rcases hg with hg | hg
  · exact h.sb g hg
  · have := h.row.lt g hg; omega
theorem RowsAt.more {S S2 : Nat → Prop} {V : Value} {hd : Nat → List Value} {ts : List Ty} {rs : List (List Value)} {w' : World} (h : RowsAt S V hd ts rs w') (hS : ∀ g, S g → S2 g) : RowsAt S2 V hd ts rs w' := by
  obtain ⟨⟨A, C, e1, e2, e3⟩, h2⟩ := h
  refine ⟨⟨A, C, e1, e2, fun h0 => ?_⟩, fun i hi hi' => ?_⟩
  · obtain ⟨g, q1, q2, q3⟩ := e3 h0
    exact ⟨g, q1, hS g q2, q3⟩
  · obtain ⟨v0, v1, v2, v3, v4, v5, v6, q1, q2⟩ := h2 i hi hi'
    exact ⟨v0, v1, v2, v3, v4, v5, v6, q1, fun B hB => q2 B fun g hg => hB g (hS g hg)⟩

/-- The cells xs lie at A, within the blocks S. -/
def RowAt (S : Nat → Prop) (A : Option Addr) (xs : List Value) (w' : World) : Prop := 0 < xs.length → ∃ g, A = some ⟨g, 0, none⟩ ∧ S g ∧ ∀ (j : Nat) (u : Value), xs[j]? = some u → w'.cell? ⟨g, j, none⟩ = some u
theorem RowAt.more {S S2 : Nat → Prop} {A : Option Addr} {xs : List Value} {w' : World} (h : RowAt S A xs w') (hS : ∀ g, S g → S2 g) : RowAt S2 A xs w' := fun h0 => by
  obtain ⟨g, q1, q2, q3⟩ := h h0
  exact ⟨g, q1, hS g q2, q3⟩

theorem flat_get (size : Nat) : ∀ (rs : List (List Value)), (∀ r ∈ rs, r.length = size) → ∀ i (h : i < rs.length) l, l < size → rs.flatten[i * size + l]? = rs[i][l]?
  | [], _, i, h, _, _ => absurd h (Nat.not_lt_zero _)
  | r :: rs, hr, 0, _, l, hl => by
    have h1 := hr r List.mem_cons_self
    rw [List.flatten_cons, Nat.zero_mul, Nat.zero_add, List.getElem?_append_left (by omega)]
    rfl
  | r :: rs, hr, i + 1, h, l, hl => by
    have h1 := hr r List.mem_cons_self
    have ih := flat_get size rs (fun x hx => hr x (List.mem_cons_of_mem _ hx)) i (Nat.lt_of_succ_lt_succ h) l hl
    rw [List.flatten_cons, List.getElem?_append_right (by rw [h1, Nat.succ_mul]; omega), h1, show (i + 1) * size + l - size = i * size + l by rw [Nat.succ_mul]; omega, ih]
    rfl

/-- What stands ahead of a field's type. -/
noncomputable def hdF (fs : List Fd) (i : Nat) : List Value := match fs[i]? with | some f => [.string f.name, .int .i64 f.pos] | none => []

/-- A type out of its rows. -/
theorem own_mk {S : Nat → Prop} {w' : World} {c wd : Int} {b : Bool} {fs : List Fd} {ds : List Int} {bs : List Ty} {ns : List (ByteArray × Int)} {FV BV : Value} {dA2 nA2 : Option Addr} {dC2 nC2 : Nat} {rf rb : List (List Value)}
    (hf : fs.length ≤ 140737488355328) (hd : ds.length ≤ 140737488355328) (hb : bs.length ≤ 140737488355328) (hn : ns.length ≤ 140737488355328)
    (hfz : ∀ f ∈ fs, f.name.size ≤ 140737488355328) (hnz : ∀ x ∈ ns, x.1.size ≤ 140737488355328) (hnr : ∀ x ∈ ns, -9223372036854775808 ≤ x.2 ∧ x.2 ≤ 9223372036854775807)
    (hdr : RowAt S dA2 (nums ds) w') (hnw : RowAt S nA2 (mem2 ns) w') (hF : RowsAt S FV (hdF fs) (fs.map Fd.ty) rf w') (hrf : rf.length = fs.length) (hB : RowsAt S BV (fun _ => []) bs rb w') (hrb : rb.length = bs.length)
    (hdc : ds.length ≤ dC2) (hnc : ns.length ≤ nC2) (B : Nat) (hSB : ∀ g, S g → g < B) :
    TyAt w' B (.mk c wd b fs ds bs ns) (.agg #[.int .i64 c, .int .i64 wd, .bool b, FV, .slice dA2 ds.length dC2, BV, .slice nA2 ns.length nC2]) := by
  obtain ⟨⟨fA, fC, rfl, hfc, hfa⟩, hft⟩ := hF
  obtain ⟨⟨bA, bC, rfl, hbc, hba⟩, hbt⟩ := hB
  rw [hrf, hrb]
  have hF9 : ∀ i (h : i < fs.length), ∃ u0 u1 u2 u3 u4 u5 u6, rf[i]'(by omega) = [.string fs[i].name, .int .i64 fs[i].pos, u0, u1, u2, u3, u4, u5, u6] ∧ TyAt w' B fs[i].ty (.agg #[u0, u1, u2, u3, u4, u5, u6]) := by
    intro i h
    obtain ⟨v0, v1, v2, v3, v4, v5, v6, q1, q2⟩ := hft i (by simpa using h) (by omega)
    refine ⟨v0, v1, v2, v3, v4, v5, v6, ?_, by simpa using q2 B hSB⟩
    rw [q1, hdF, List.getElem?_eq_getElem h]
    rfl
  have hB7 : ∀ i (h : i < bs.length), ∃ u0 u1 u2 u3 u4 u5 u6, rb[i]'(by omega) = [u0, u1, u2, u3, u4, u5, u6] ∧ TyAt w' B bs[i] (.agg #[u0, u1, u2, u3, u4, u5, u6]) := by
    intro i h
    obtain ⟨v0, v1, v2, v3, v4, v5, v6, q1, q2⟩ := hbt i h (by omega)
    exact ⟨v0, v1, v2, v3, v4, v5, v6, q1, q2 B hSB⟩
  have z9 : ∀ r ∈ rf, r.length = 9 := by
    intro r hr
    obtain ⟨i, hi, rfl⟩ := List.mem_iff_getElem.mp hr
    obtain ⟨v0, v1, v2, v3, v4, v5, v6, q1, _⟩ := hF9 i (by omega)
    rw [q1]; rfl
  have z7 : ∀ r ∈ rb, r.length = 7 := by
    intro r hr
    obtain ⟨i, hi, rfl⟩ := List.mem_iff_getElem.mp hr
    obtain ⟨v0, v1, v2, v3, v4, v5, v6, q1, _⟩ := hB7 i (by omega)
    rw [q1]; rfl
  have HF : ∃ fb, (0 < fs.length → fA = some ⟨fb, 0, none⟩ ∧ fb < B) ∧ ∀ i (h : i < fs.length) l u, l < 9 → (rf[i]'(by omega))[l]? = some u → w'.cell? ⟨fb, 0 + i * 9 + l, none⟩ = some u := by
    rcases Nat.eq_zero_or_pos fs.length with h0 | h0
    · exact ⟨0, fun h => by omega, fun i h => by omega⟩
    · obtain ⟨g, q1, q2, q3⟩ := hfa (by omega)
      refine ⟨g, fun _ => ⟨q1, hSB g q2⟩, fun i h l u hl hu => ?_⟩
      rw [Nat.zero_add]
      exact q3 _ _ ((flat_get 9 rf z9 i (by omega) l hl).trans hu)
  have HB : ∃ fb, (0 < bs.length → bA = some ⟨fb, 0, none⟩ ∧ fb < B) ∧ ∀ i (h : i < bs.length) l u, l < 7 → (rb[i]'(by omega))[l]? = some u → w'.cell? ⟨fb, 0 + i * 7 + l, none⟩ = some u := by
    rcases Nat.eq_zero_or_pos bs.length with h0 | h0
    · exact ⟨0, fun h => by omega, fun i h => by omega⟩
    · obtain ⟨g, q1, q2, q3⟩ := hba (by omega)
      refine ⟨g, fun _ => ⟨q1, hSB g q2⟩, fun i h l u hl hu => ?_⟩
      rw [Nat.zero_add]
      exact q3 _ _ ((flat_get 7 rb z7 i (by omega) l hl).trans hu)
  have HD : ∃ db, (0 < ds.length → dA2 = some ⟨db, 0, none⟩ ∧ db < B) ∧ ∀ i (h : i < ds.length), w'.cell? ⟨db, 0 + i, none⟩ = some (.int .i64 ds[i]) := by
    rcases Nat.eq_zero_or_pos ds.length with h0 | h0
    · exact ⟨0, fun h => by omega, fun i h => by omega⟩
    · obtain ⟨g, q1, q2, q3⟩ := hdr (by rw [nums_len]; omega)
      refine ⟨g, fun _ => ⟨q1, hSB g q2⟩, fun i h => ?_⟩
      rw [Nat.zero_add]
      exact q3 _ _ (by simp [nums, h])
  have HN : ∃ nb, (0 < ns.length → nA2 = some ⟨nb, 0, none⟩ ∧ nb < B) ∧ ∀ i (h : i < ns.length), w'.cell? ⟨nb, 0 + i * 2, none⟩ = some (.string ns[i].1) ∧ w'.cell? ⟨nb, 0 + i * 2 + 1, none⟩ = some (.int .i64 ns[i].2) := by
    rcases Nat.eq_zero_or_pos ns.length with h0 | h0
    · exact ⟨0, fun h => by omega, fun i h => by omega⟩
    · obtain ⟨g, q1, q2, q3⟩ := hnw (by rw [mem2_len]; omega)
      refine ⟨g, fun _ => ⟨q1, hSB g q2⟩, fun i h => ?_⟩
      rw [Nat.zero_add]
      have := mem2_get ns i h
      exact ⟨q3 _ _ this.1, q3 _ _ this.2⟩
  obtain ⟨fb, hfA, hfr⟩ := HF
  obtain ⟨bb, hbA, hbr⟩ := HB
  obtain ⟨db, hdA, hd0⟩ := HD
  obtain ⟨nb, hnA, hn0⟩ := HN
  refine .mk c wd b fs ds bs ns fA dA2 bA nA2 fC dC2 bC nC2 fb 0 db 0 bb 0 nb 0 (fun i l => (rf.getD i []).getD (2 + l) (.int .i64 0)) (fun i l => (rb.getD i []).getD l (.int .i64 0)) hf hd hb hn hfz hnz hnr ⟨by omega, hdc, by omega, hnc⟩ hfA hdA hbA hnA ?_ ?_ ?_ ?_ hd0 ?_ ?_ (fun i h => (hn0 i h).1) (fun i h => (hn0 i h).2)
  · intro i h
    obtain ⟨v0, v1, v2, v3, v4, v5, v6, q1, _⟩ := hF9 i h
    exact hfr i h 0 _ (by omega) (by rw [q1]; rfl)
  · intro i h
    obtain ⟨v0, v1, v2, v3, v4, v5, v6, q1, _⟩ := hF9 i h
    exact hfr i h 1 _ (by omega) (by rw [q1]; rfl)
  · intro i h l hl
    have hi : i < rf.length := by omega
    have := hfr i h (2 + l) (rf[i][2 + l]'(by rw [z9 _ (List.getElem_mem hi)]; omega)) (by omega) (List.getElem?_eq_getElem _)
    rw [Nat.add_assoc (0 + i * 9), this]
    have h9 : 2 + l < rf[i].length := by rw [z9 _ (List.getElem_mem hi)]; omega
    simp [List.getD_eq_getElem?_getD, hi, h9]
  · intro i h
    obtain ⟨v0, v1, v2, v3, v4, v5, v6, q1, q2⟩ := hF9 i h
    have hi : i < rf.length := by omega
    have e : rf.getD i [] = [.string fs[i].name, .int .i64 fs[i].pos, v0, v1, v2, v3, v4, v5, v6] := by rw [← q1]; simp [List.getD_eq_getElem?_getD, hi]
    simp only [e]
    exact q2
  · intro i h l hl
    have hi : i < rb.length := by omega
    have h7 : l < rb[i].length := by rw [z7 _ (List.getElem_mem hi)]; omega
    have := hbr i h l (rb[i][l]'h7) (by omega) (List.getElem?_eq_getElem _)
    rw [this]
    simp [List.getD_eq_getElem?_getD, hi, h7]
  · intro i h
    obtain ⟨v0, v1, v2, v3, v4, v5, v6, q1, q2⟩ := hB7 i h
    have hi : i < rb.length := by omega
    have e : rb.getD i [] = [v0, v1, v2, v3, v4, v5, v6] := by rw [← q1]; simp [List.getD_eq_getElem?_getD, hi]
    simp only [e]
    exact q2
theorem cell_old (w : World) (o : Obj) {b : Nat} (h : b < w.heap.size) (j : Nat) : (w.alloc o).cell? ⟨b, j, none⟩ = w.cell? ⟨b, j, none⟩ := (below_new w o).cell (p := ⟨b, j, none⟩) h
theorem Gr.weak {go : Nat} {r : Option Nat} {w w' : World} (h : Gr go none w w') : Gr go r w w' := ⟨h.os, h.tape, h.output, h.size, fun k hk hg _ => h.block k hk hg (by simp)⟩
theorem Gr.own {go base : Nat} {w w' : World} {e : TypeId} {size n : Nat} {v : Value} {xs : List Value} (h : Gr go none w w') (hr : w.ownsRow base e size v n xs) (hgo : v.ownBlock ≠ some go) : w'.ownsRow base e size v n xs :=
  hr.kept (row := some go) ⟨h.os, h.tape, h.output, h.size, fun k hk hne => h.block k hk (fun e => hne (by rw [e])) (by simp)⟩ (.inr hgo)
theorem hdF_at {fs : List Fd} {k : Nat} {f : Fd} (h : fs[k]? = some f) : hdF fs k = [.string f.name, .int .i64 f.pos] := by rw [hdF, h]
end Go.Proofs.Ytbdhihgokkcmfaa.Ty9
