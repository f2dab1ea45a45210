/- The reference's Drop, Add, Bytes. -/
import Derived.Test.YtpajimkebnfneaaDoorNq
import Derived.Lib.AppendZeros
namespace Go.Proofs.YtpajimkebnfneaaDoor.X5
set_option linter.unusedVariables false
set_option linter.unusedSimpArgs false
open Go.RowKit Go.Maps Wd Ty9

theorem scl_set : ∀ (vs : List (Bool × Value)) (i : Nat) (b : Bool) (U : Value), scl (vs.set i (b, U)) = ((scl vs).set (i * 2) (.bool b)).set (i * 2 + 1) U
  | [], i, b, U => by simp [scl]
  | x :: vs, 0, b, U => rfl
  | x :: vs, i + 1, b, U => by
    have e : ∀ (y : Bool × Value) (l : List (Bool × Value)), scl (y :: l) = .bool y.1 :: y.2 :: scl l := fun _ _ => rfl
    rw [List.set_cons_succ, e, e, show (i + 1) * 2 = i * 2 + 1 + 1 by omega, List.set_cons_succ, List.set_cons_succ, List.set_cons_succ, List.set_cons_succ, scl_set vs i b U]
theorem lastN_lt {M : List (Option (List Nat))} {i : Nat} {x : List Nat} (h : M[i]? = some (some x)) : i < lastN M := by
  have hm : (i : Int) ∈ idsL M := (idsL_mem M _).mpr ⟨by omega, x, by rw [Int.toNat_natCast]; exact h⟩
  have hr : (idsL M).Pairwise (fun a b => a < b) := idsA_rise M 0
  obtain ⟨z, hz⟩ : ∃ z, (idsL M).getLast? = some z := by
    cases e : (idsL M).getLast? with
    | none => rw [List.getLast?_eq_none_iff] at e; rw [e] at hm; cases hm
    | some z => exact ⟨z, rfl⟩
  have hN : lastN M = z.toNat + 1 := by unfold lastN; rw [hz]
  have hz0 := ((idsL_mem M z).mp (List.mem_of_getLast? hz)).1
  have hiz : (i : Int) ≤ z := by
    obtain ⟨ys, hys⟩ := List.getLast?_eq_some_iff.mp hz
    rw [hys] at hm hr
    rcases List.mem_append.mp hm with hm | hm
    · have := (List.pairwise_append.mp hr).2.2 _ hm z (by simp)
      omega
    · rw [List.mem_singleton.mp hm]; exact Int.le_refl _
  omega
theorem lastN_at {M : List (Option (List Nat))} {n : Nat} (h : lastN M = n + 1) : ∃ x, M[n]? = some (some x) := by
  unfold lastN at h
  split at h
  · rename_i z hz
    obtain ⟨h0, v, hv⟩ := (idsL_mem M z).mp (List.mem_of_getLast? hz)
    have e : z.toNat = n := by omega
    exact ⟨v, by rw [← e]; exact hv⟩
  · omega
theorem lastN_step {M : List (Option (List Nat))} {n : Nat} (h : lastN M ≤ n + 1) (hn : M[n]? = some none) : lastN M ≤ n := by
  rcases Nat.lt_or_ge n (lastN M) with hlt | hle
  · obtain ⟨x, hx⟩ := lastN_at (M := M) (n := n) (by omega)
    rw [hn] at hx; cases hx
  · exact hle
/-- A heap of which the last number is in use. -/
def Tr (M : List (Option (List Nat))) : Prop := lastN M = M.length
theorem Tr.take {M : List (Option (List Nat))} (h : Tr M) : M.take (lastN M) = M := List.take_of_length_le (by rw [h]; exact Nat.le_refl _)
theorem tr_trim (M : List (Option (List Nat))) : Tr (M.take (lastN M)) := by
  have hs := (sim_take M).lastN
  unfold Tr
  rw [← hs, List.length_take]
  have := lastN_le M
  omega
theorem Sim.trans {A B C : List (Option (List Nat))} (h : Sim A B) (k : Sim B C) : Sim A C := by
  obtain ⟨n, rfl⟩ := h
  obtain ⟨m, rfl⟩ := k
  exact ⟨m + n, by rw [List.append_assoc, List.replicate_append_replicate]⟩
theorem Sim.len {A B : List (Option (List Nat))} (h : Sim A B) : B.length ≤ A.length := by obtain ⟨n, rfl⟩ := h; simp
theorem Sim.refl (A : List (Option (List Nat))) : Sim A A := ⟨0, by simp⟩
theorem Sim.trim {L M : List (Option (List Nat))} (h : Sim L M) (ht : Tr M) : L.take (X5.lastN L) = M := by
  rw [h.lastN]
  obtain ⟨n, rfl⟩ := h
  rw [ht]
  exact List.take_left' rfl
theorem Sim.set {L M : List (Option (List Nat))} (h : Sim L M) {i : Nat} (hi : i < M.length) (o : Option (List Nat)) : Sim (L.set i o) (M.set i o) := by
  obtain ⟨n, rfl⟩ := h
  exact ⟨n, List.set_append_left _ _ hi⟩
theorem tr_put {M : List (Option (List Nat))} (h : Tr M) (x : List Nat) : Tr (putL M (hole M) (some x)) := by
  unfold Tr at h ⊢
  have hle := hole_le M
  unfold putL
  by_cases hl : hole M < M.length
  · rw [if_pos hl, List.length_set]
    refine Nat.le_antisymm (by have := lastN_le (M.set (hole M) (some x)); rwa [List.length_set] at this) ?_
    obtain ⟨y, hy⟩ := lastN_at (M := M) (n := M.length - 1) (by omega)
    have hne : M.length - 1 ≠ hole M := fun e => hole_at M y (by rw [← e]; exact hy)
    have := lastN_lt (M := M.set (hole M) (some x)) (i := M.length - 1) (x := y) (by rw [List.getElem?_set, if_neg (fun e => hne e.symm)]; exact hy)
    omega
  · rw [if_neg hl]
    have h1 := lastN_le (M ++ [some x])
    have h2 := lastN_lt (M := M ++ [some x]) (i := M.length) (x := x) (by simp)
    simp only [List.length_append, List.length_singleton] at h1 ⊢
    omega

section
variable {w w' : World} {S S' : Nat → Prop} {rb : Nat} {V V' : Value} {vs vs' : List (Bool × Value)} {M M' : List (Option (List Nat))}
/-- The row has turned. -/
theorem RhR.turn (h : RhR w S rb V vs M) (hc : Ch (fun k => k = rb ∨ V.ownBlock = some k) w w') (hbox : Bx w' rb 50 #[V']) (ho : w'.ownsRow 0 76 2 V' M'.length (scl vs')) (hl : vs'.length = M'.length)
    (hS : ∀ k, S k → S' k) (hSb : ∀ k, S' k → k < w'.heap.size) (hV : ∀ g, V'.ownBlock = some g → S' g ∧ g ≠ rb) (hVV : ∀ g, V'.ownBlock = some g → V.ownBlock = some g ∨ w.heap.size ≤ g)
    (hr : ∀ (i : Nat) (x : List Nat), M'[i]? = some (some x) → (∃ j : Nat, M[j]? = some (some x) ∧ vs'[i]? = vs[j]?) ∨ ∃ A c, vs'[i]? = some (true, Value.slice A x.length c) ∧ x.length ≤ c ∧ x.length ≤ 65536 ∧ Byt w' w'.heap.size A x.length x ∧ ∀ b o, 0 < x.length → A = some ⟨b, o, none⟩ → S' b ∧ b ≠ rb ∧ V'.ownBlock ≠ some b)
    (hn : ∀ (i : Nat), M'[i]? = some none → vs'[i]? = some (false, .slice none 0 0)) : RhR w' S' rb V' vs' M' := by
  refine ⟨hbox, ho, hl, hS _ h.sh, hV, hSb, fun i x hx => ?_, hn⟩
  rcases hr i x hx with ⟨j, hj, e⟩ | h2
  · obtain ⟨A, c, h1, h2, h3, h4, h5⟩ := h.row j x hj
    refine ⟨A, c, e.trans h1, h2, h3, ⟨h4.len, h4.lt, fun hm => ?_⟩, fun b o hm e2 => ?_⟩
    · obtain ⟨b, o, e2, hlt, hc2⟩ := h4.at_ hm
      obtain ⟨k1, k2, k3⟩ := h5 b o hm e2
      exact ⟨b, o, e2, Nat.lt_of_lt_of_le hlt hc.size, fun q hq => (World.cell?_of_block (w := w) (a := ⟨b, o + q, none⟩) (hc.block b hlt (fun hh => hh.elim k2 k3))).trans (hc2 q hq)⟩
    · obtain ⟨k1, k2, k3⟩ := h5 b o hm e2
      refine ⟨hS _ k1, k2, fun e3 => ?_⟩
      rcases hVV b e3 with h6 | h6
      · exact k3 h6
      · have := h.sb b k1; omega
  · exact h2
theorem ch_grown {w w' : World} {g : Nat} (h : w.grownBy w' (some g)) : Ch (fun k => k = g) w w' := ⟨h.os, h.tape, h.output, h.size, fun k hk hn => h.block k hk (fun e => hn (by injection e))⟩
/-- A slot is written over. -/
theorem RhR.set {i g c : Nat} (h : RhR w S rb (.slice (some ⟨g, 0, none⟩) M.length c) vs M) (hi : i < M.length) (b : Bool) (U : Value) (o : Option (List Nat)) (hS : ∀ k, S k → S' k) (hSb : ∀ k, S' k → k < w.heap.size)
    (ho : (o = none ∧ b = false ∧ U = .slice none 0 0) ∨ ∃ (x : List Nat) (A : Option Addr) (c' : Nat), o = some x ∧ b = true ∧ U = .slice A x.length c' ∧ x.length ≤ c' ∧ x.length ≤ 65536 ∧ Byt w w.heap.size A x.length x ∧ ∀ bb oo, 0 < x.length → A = some ⟨bb, oo, none⟩ → S' bb ∧ bb ≠ rb ∧ bb ≠ g) :
    RhR ((w.setCell ⟨g, i * 2, none⟩ (.bool b)).setCell ⟨g, i * 2 + 1, none⟩ U) S' rb (.slice (some ⟨g, 0, none⟩) M.length c) (vs.set i (b, U)) (M.set i o) ∧ Ch (fun k => k = g) w ((w.setCell ⟨g, i * 2, none⟩ (.bool b)).setCell ⟨g, i * 2 + 1, none⟩ U) := by
  obtain ⟨o1, g1⟩ := h.own.stored (i * 2) (.bool b)
  obtain ⟨o2, g2⟩ := o1.stored (i * 2 + 1) U
  have hc := (ch_grown g1).trans (R := fun k => k = g) (ch_grown g2) (fun _ h => h) (fun _ h => h)
  rw [← scl_set] at o2
  obtain ⟨sg, hgr⟩ := h.sv g rfl
  have hi2 : i < vs.length := by rw [h.len]; exact hi
  refine ⟨h.turn (hc.trans (R := fun k => k = rb ∨ (Value.slice (some ⟨g, 0, none⟩) M.length c).ownBlock = some k) (Ch.refl (fun _ => False) _) (fun j e => .inr (by rw [e]; rfl)) (fun _ h => h.elim)) (hc.bx h.box (fun e => hgr e.symm)) (by rw [List.length_set]; exact o2) (by rw [List.length_set, List.length_set]; exact h.len) hS (fun k hk => Nat.lt_of_lt_of_le (hSb k hk) hc.size) (fun k hk => ⟨hS _ (h.sv k hk).1, (h.sv k hk).2⟩) (fun k hk => .inl hk) (fun j x hx => ?_) (fun j hj => ?_), hc⟩
  · rw [List.getElem?_set] at hx
    by_cases e : i = j
    · subst e
      rw [if_pos rfl, if_pos hi] at hx
      injection hx with hx
      rcases ho with ⟨e1, _⟩ | ⟨x', A, c', e1, e2, e3, k1, k2, k3, k4⟩
      · rw [e1] at hx; cases hx
      rw [e1] at hx
      injection hx with hx
      subst hx
      right
      refine ⟨A, c', by rw [List.getElem?_set, if_pos rfl, if_pos hi2, e2, e3], k1, k2, ⟨k3.len, k3.lt, fun hm => ?_⟩, fun bb oo hm e4 => ?_⟩
      · obtain ⟨bb, oo, e4, hlt, hcl⟩ := k3.at_ hm
        exact ⟨bb, oo, e4, Nat.lt_of_lt_of_le hlt hc.size, fun q hq => (World.cell?_of_block (w := w) (a := ⟨bb, oo + q, none⟩) (hc.block bb hlt (k4 bb oo hm e4).2.2)).trans (hcl q hq)⟩
      · obtain ⟨q1, q2, q3⟩ := k4 bb oo hm e4
        exact ⟨q1, q2, fun e5 => q3 (by injection e5 with e5; exact e5.symm)⟩
    · rw [if_neg e] at hx
      exact .inl ⟨j, hx, by rw [List.getElem?_set, if_neg e]⟩
  · rw [List.getElem?_set] at hj
    by_cases e : i = j
    · subst e
      rw [if_pos rfl, if_pos hi] at hj
      injection hj with hj
      rcases ho with ⟨e1, e2, e3⟩ | ⟨x', A, c', e1, _⟩
      · rw [List.getElem?_set, if_pos rfl, if_pos hi2, e2, e3]
      · rw [e1] at hj; cases hj
    · rw [if_neg e] at hj
      rw [List.getElem?_set, if_neg e]
      exact h.no j hj
/-- The last slot is left out. -/
theorem RhR.pop {g n c : Nat} (h : RhR w S rb (.slice (some ⟨g, 0, none⟩) (n + 1) c) (vs.take (n + 1)) (M.take (n + 1))) (hn : n + 1 ≤ M.length) (hv : vs.length = M.length) :
    RhR (w.setCell ⟨rb, 0, none⟩ (.slice (some ⟨g, 0, none⟩) n c)) S rb (.slice (some ⟨g, 0, none⟩) n c) (vs.take n) (M.take n) ∧ Ch (fun k => k = rb) w (w.setCell ⟨rb, 0, none⟩ (.slice (some ⟨g, 0, none⟩) n c)) := by
  have hb := h.box.set_ 0 (.slice (some ⟨g, 0, none⟩) n c)
  have hc : Ch (fun k => k = rb) w (w.setCell ⟨rb, 0, none⟩ (.slice (some ⟨g, 0, none⟩) n c)) := ⟨rfl, rfl, rfl, by simp, fun k _ hk => heap_setCell_other w ⟨rb, 0, none⟩ k _ hk⟩
  have hgr := (h.sv g rfl).2
  have ho := h.own
  have hl1 : (M.take (n + 1)).length = n + 1 := by rw [List.length_take]; omega
  have hl2 : (M.take n).length = n := by rw [List.length_take]; omega
  have hvs : vs.take (n + 1) = vs.take n ++ [vs[n]'(by omega)] := by rw [List.take_add_one, List.getElem?_eq_getElem (by omega)]; rfl
  rw [hl1, hvs, scl_app] at ho
  have ho2 := ownsRow_pop (by rw [scl_len, List.length_take]; congr 1; omega) ho
  have ho3 := ownsRow_block (w' := w.setCell ⟨rb, 0, none⟩ (.slice (some ⟨g, 0, none⟩) n c)) ho2 (fun k hk => hc.block k (h.sb k (h.sv k hk).1) (h.sv k hk).2)
  refine ⟨h.turn (hc.trans (R := fun k => k = rb ∨ (Value.slice (some ⟨g, 0, none⟩) (n + 1) c).ownBlock = some k) (Ch.refl (fun _ => False) _) (fun j e => .inl e) (fun _ h => h.elim)) hb (by rw [hl2]; exact ho3) (by rw [hl2, List.length_take]; omega) (fun _ h => h) (fun k hk => Nat.lt_of_lt_of_le (h.sb k hk) hc.size) (fun k hk => h.sv k hk) (fun k hk => .inl hk) (fun j x hx => .inl ⟨j, ?_, ?_⟩) (fun j hj => ?_), hc⟩
  · rw [List.getElem?_take] at hx ⊢
    split at hx
    · rw [if_pos (by omega)]; exact hx
    · cases hx
  · rw [List.getElem?_take] at hx ⊢
    split at hx
    · rw [if_pos (by omega), List.getElem?_take, if_pos (by omega)]
    · cases hx
  · have h1 := h.no j
    rw [List.getElem?_take] at hj h1 ⊢
    split at hj
    · rw [if_pos (by omega)] at h1
      rw [if_pos (by omega)]
      have h2 := h1 hj
      rw [List.getElem?_take, if_pos (by omega)] at h2
      exact h2
    · cases hj
/-- One slot more. -/
theorem wp_pushS {ops : Array Oper} {rest : List Oper} {o : Oper} {a : Act} {w : World} {Q : Exit → Act → World → Prop} (hgd : o.guard = none) (s x : Operand)
    (ho : o.op = .call { callee := .builtin .append, args := #[s, x], argTypes := #[48, 48] })
    (V : Value) (n : Nat) (vs : List (Bool × Value)) (U : Value) (g : Nat) (hs : a.eval s = V) (hx : a.eval x = .slice (some ⟨g, 0, none⟩) 1 1) (h : w.ownsRow 0 76 2 V n (scl vs)) (hb : Bx w g 76 #[.bool true, U])
    (hone : U.oneCell' = true) (hl : (n + 1) * 32 ≤ 140737488355328)
    (hK : ∀ V' w', w'.ownsRow 0 76 2 V' (n + 1) (scl (vs ++ [(true, U)])) → w.grownBy w' V.ownBlock → (∀ k, V'.ownBlock = some k → V.ownBlock = some k ∨ w.heap.size ≤ k) → wpList Tryd.prog ops Q rest (a.put o.dst V') w') :
    wpList Tryd.prog ops Q (o :: rest) a w := by
  obtain ⟨i0, hi0, hz, hs0, hbt⟩ := info_parts6 slot_info
  obtain ⟨V', w', hr, h2, h3, h4, h5⟩ := run_append_own_at (P := Tryd.prog) w 0 48 o.type 76 i0 _ 2 32 Tryd.underlying48 hi0 hz hs0 hbt (by rfl) (by decide) V n (scl vs) h ⟨g, 0, none⟩ 1 1 [.bool true, U] (by rfl) (World.news_of_block hb) (by
    intro u hu
    simp only [List.mem_cons, List.not_mem_nil, or_false] at hu
    rcases hu with rfl | rfl
    · rfl
    · exact hone) (by unfold maxLen; omega) hl (Nat.zero_le _)
  refine Lib.wpList_append_run w hgd s x _ _ ho _ _ hs hx V' w' hr (hK V' w' ?_ h3 (fun k hk => ?_))
  · rw [scl_app]; exact h2
  · rcases h5 with h5 | h5
    · rw [h5] at hk; exact .inl hk
    · rw [h5] at hk; injection hk with hk; exact .inr (by omega)
/-- The same as a step of a region that draws. -/
theorem step_pushS {ops : Array Oper} {o : Oper} {a : Act} {w : World} {K : Act → World → Prop} {Q : Exit → Act → World → Prop} {E : Prop} (hgd : o.guard = none) (s x : Operand)
    (ho : o.op = .call { callee := .builtin .append, args := #[s, x], argTypes := #[48, 48] })
    (V : Value) (n : Nat) (vs : List (Bool × Value)) (U : Value) (g : Nat) (hs : a.eval s = V) (hx : a.eval x = .slice (some ⟨g, 0, none⟩) 1 1) (h : w.ownsRow 0 76 2 V n (scl vs)) (hb : Bx w g 76 #[.bool true, U])
    (hone : U.oneCell' = true) (hl : (n + 1) * 32 ≤ 140737488355328)
    (hK : ∀ V' w', w'.ownsRow 0 76 2 V' (n + 1) (scl (vs ++ [(true, U)])) → w.grownBy w' V.ownBlock → (∀ k, V'.ownBlock = some k → V.ownBlock = some k ∨ w.heap.size ≤ k) → K (a.put o.dst V') w') :
    if Region.wanted o (yielded ops a.tmps) = true then Oper.wp Tryd.prog o a w K Q else E := by
  have hw : Region.wanted o (yielded ops a.tmps) = true := by simp [Region.wanted, hgd]
  rw [if_pos hw]
  obtain ⟨i0, hi0, hz, hs0, hbt⟩ := info_parts6 slot_info
  obtain ⟨V', w', hr, h2, h3, h4, h5⟩ := run_append_own_at (P := Tryd.prog) w 0 48 o.type 76 i0 _ 2 32 Tryd.underlying48 hi0 hz hs0 hbt (by rfl) (by decide) V n (scl vs) h ⟨g, 0, none⟩ 1 1 [.bool true, U] (by rfl) (World.news_of_block hb) (by
    intro u hu
    simp only [List.mem_cons, List.not_mem_nil, or_false] at hu
    rcases hu with rfl | rfl
    · rfl
    · exact hone) (by unfold maxLen; omega) hl (Nat.zero_le _)
  unfold Oper.wp execOp
  simp only [ho, resolve, invoke, builtin, Sem.run_bind, Sem.run_pure, Result.andThen_ok, List.map_toArray, List.map_cons, List.map_nil, hs, hx, hr]
  refine hK V' w' ?_ h3 (fun k hk => ?_)
  · rw [scl_app]; exact h2
  · rcases h5 with h5 | h5
    · rw [h5] at hk; exact .inl hk
    · rw [h5] at hk; injection hk with hk; exact .inr (by omega)
theorem RhR.pushed (h : RhR w S rb V vs M) {wa w4 : World} {B c3 : Nat} {A3 : Option Addr} {xs : List Nat} (hwa : Below w.heap.size w wa) (hg : wa.grownBy w4 V.ownBlock) (how : w4.ownsRow 0 76 2 V' (M.length + 1) (scl (vs ++ [(true, .slice A3 xs.length c3)])))
    (hvv : ∀ k, V'.ownBlock = some k → V.ownBlock = some k ∨ wa.heap.size ≤ k) (hcp : xs.length ≤ c3) (hk : xs.length ≤ 65536) (hby : Byt wa wa.heap.size A3 xs.length xs) (hfr : ∀ bb oo, 0 < xs.length → A3 = some ⟨bb, oo, none⟩ → (Value.slice A3 xs.length c3).ownBlock = some bb ∧ B ≤ bb) (hB : ∀ k, S k → k < B)
    (hol : ∀ j, (Value.slice A3 xs.length c3).ownBlock = some j → j < wa.heap.size) :
    Bx w4 rb 50 #[V] ∧ RhR (w4.setCell ⟨rb, 0, none⟩ V') (fun j => S j ∨ (Value.slice A3 xs.length c3).ownBlock = some j ∨ V'.ownBlock = some j) rb V' (vs ++ [(true, .slice A3 xs.length c3)]) (M ++ [some xs]) ∧ Ch (fun k => k = rb ∨ V.ownBlock = some k) w (w4.setCell ⟨rb, 0, none⟩ V') := by
  have hrb : rb < w.heap.size := h.sb rb h.sh
  have hwas := hwa.size
  have hgs := hg.size
  have hbox4 : Bx w4 rb 50 #[V] := (hg.block rb (by omega) (fun e => (h.sv rb e.symm).2 rfl)).trans ((hwa.block rb hrb).trans h.box)
  have hset : ∀ k, k ≠ rb → (w4.setCell ⟨rb, 0, none⟩ V').heap[k]? = w4.heap[k]? := fun k hk => heap_setCell_other w4 ⟨rb, 0, none⟩ k _ hk
  have hsz : (w4.setCell ⟨rb, 0, none⟩ V').heap.size = w4.heap.size := by simp
  have hV' : ∀ k, V'.ownBlock = some k → k ≠ rb := fun k hk e => by
    subst e
    rcases hvv k hk with h1 | h1
    · exact (h.sv k h1).2 rfl
    · omega
  have hc : Ch (fun k => k = rb ∨ V.ownBlock = some k) w (w4.setCell ⟨rb, 0, none⟩ V') := ⟨hg.os.trans hwa.os, hg.tape.trans hwa.tape, hg.output.trans hwa.output, by rw [hsz]; omega, fun k hk hn =>
    (hset k (fun e => hn (.inl e))).trans ((hg.block k (by omega) (fun e => hn (.inr e.symm))).trans (hwa.block k hk))⟩
  have hone : ∀ bb, B ≤ bb → ¬ S bb := fun bb h1 h2 => by have := hB bb h2; omega
  refine ⟨hbox4, h.turn hc (hbox4.set_ 0 V') (by rw [List.length_append]; exact ownsRow_block how (fun k hk => hset k (hV' k hk))) (by simp [h.len]) (fun _ h => .inl h) (fun k hk => ?_) (fun k hk => ⟨.inr (.inr hk), hV' k hk⟩) (fun k hk => (hvv k hk).imp id (fun h => by omega)) (fun i x hx => ?_) (fun i hi => ?_), hc⟩
  · rw [hsz]
    rcases hk with hk | hk | hk
    · have := h.sb k hk; omega
    · have := hol k hk; omega
    · exact (how.lt k hk).2
  · rcases Nat.lt_or_ge i M.length with hi | hi
    · rw [List.getElem?_append_left hi] at hx
      exact .inl ⟨i, hx, by rw [List.getElem?_append_left (by rw [h.len]; exact hi)]⟩
    · have hie : i = M.length := by
        have := (List.getElem?_eq_some_iff.mp hx).1
        simp at this
        omega
      subst hie
      simp at hx
      subst hx
      refine .inr ⟨A3, c3, by rw [← h.len]; simp, hcp, hk, ⟨hby.len, hby.lt, fun hm => ?_⟩, fun bb oo hm e => ?_⟩
      · obtain ⟨bb, oo, e, hlt, hcl⟩ := hby.at_ hm
        obtain ⟨q1, q2⟩ := hfr bb oo hm e
        refine ⟨bb, oo, e, by rw [hsz]; omega, fun q hq => (World.cell?_of_block (w := wa) (a := ⟨bb, oo + q, none⟩) ?_).trans (hcl q hq)⟩
        exact (hset bb (fun e2 => hone bb q2 (by rw [e2]; exact h.sh))).trans (hg.block bb hlt (fun e2 => hone bb q2 (h.sv bb e2.symm).1))
      · obtain ⟨q1, q2⟩ := hfr bb oo hm e
        refine ⟨.inr (.inl q1), fun e2 => hone bb q2 (by rw [e2]; exact h.sh), fun e2 => ?_⟩
        rcases hvv bb e2 with h1 | h1
        · exact hone bb q2 (h.sv bb h1).1
        · have := hol bb q1; omega
  · rcases Nat.lt_or_ge i M.length with h1 | h1
    · rw [List.getElem?_append_left h1] at hi
      rw [List.getElem?_append_left (by rw [h.len]; exact h1)]
      exact h.no i hi
    · rw [List.getElem?_append_right h1] at hi
      rcases hj : i - M.length with _ | j
      · rw [hj] at hi; simp at hi
      · rw [hj] at hi; simp at hi
end
end Go.Proofs.YtpajimkebnfneaaDoor.X5
