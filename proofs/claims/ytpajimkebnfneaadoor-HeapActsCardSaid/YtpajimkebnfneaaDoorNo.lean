/- Two heaps side by side; heaps that are alike but for what was dropped at the end. -/
import Derived.Test.YtpajimkebnfneaaDoorNl
namespace Go.Proofs.YtpajimkebnfneaaDoor.X5
set_option linter.unusedVariables false
set_option linter.unusedSimpArgs false
open Go.RowKit Go.Maps Wd Ty9

/-- L is M with nothing behind it. -/
def Sim (L M : List (Option (List Nat))) : Prop := ∃ n, L = M ++ List.replicate n none
theorem idsA_rep {α : Type} : ∀ (M : List (Option α)) (n k : Nat), idsA k (M ++ List.replicate n none) = idsA k M
  | [], 0, k => rfl
  | [], n + 1, k => by
    have h := idsA_rep ([] : List (Option α)) n (k + 1)
    simpa [List.replicate_succ, idsA] using h
  | none :: M, n, k => by rw [List.cons_append, idsA, idsA, idsA_rep M n (k + 1)]
  | some _ :: M, n, k => by rw [List.cons_append, idsA, idsA, idsA_rep M n (k + 1)]
theorem Sim.ids {L M : List (Option (List Nat))} (h : Sim L M) : idsL L = idsL M := by
  obtain ⟨n, rfl⟩ := h
  exact idsA_rep M n 0
theorem Sim.cnt {L M : List (Option (List Nat))} (h : Sim L M) : cntL L = cntL M := by rw [← idsL_len, ← idsL_len, h.ids]
theorem Sim.lastN {L M : List (Option (List Nat))} (h : Sim L M) : lastN L = X5.lastN M := by unfold X5.lastN; rw [h.ids]
theorem Sim.heapB {L M : List (Option (List Nat))} (h : Sim L M) : heapB L = X5.heapB M := by
  unfold X5.heapB
  rw [h.lastN]
  obtain ⟨n, rfl⟩ := h
  rw [List.take_append_of_le_length (lastN_le M)]
theorem hole_rep {α : Type} : ∀ (M : List (Option α)) (n : Nat), hole (M ++ List.replicate n none) = hole M
  | [], 0 => rfl
  | [], n + 1 => rfl
  | none :: M, n => rfl
  | some _ :: M, n => by rw [List.cons_append, hole, hole, hole_rep M n]
theorem Sim.hole {L M : List (Option (List Nat))} (h : Sim L M) : hole L = X5.hole M := by obtain ⟨n, rfl⟩ := h; exact hole_rep M n
theorem Sim.put {L M : List (Option (List Nat))} (h : Sim L M) (x : Option (List Nat)) : Sim (putL L (X5.hole L) x) (putL M (X5.hole M) x) := by
  have hh := h.hole
  rw [hh]
  have hle := hole_le M
  obtain ⟨n, rfl⟩ := h
  by_cases hl : X5.hole M < M.length
  · refine ⟨n, ?_⟩
    unfold putL
    rw [if_pos hl, if_pos (by simp; omega), List.set_append_left _ _ hl]
  · have e : X5.hole M = M.length := by omega
    rw [e]
    cases n with
    | zero =>
      refine ⟨0, ?_⟩
      unfold putL
      simp
    | succ n =>
      refine ⟨n, ?_⟩
      unfold putL
      rw [if_pos (by simp), if_neg (Nat.lt_irrefl _), List.set_append_right _ _ (Nat.le_refl _), Nat.sub_self]
      simp [List.replicate_succ]
theorem Sim.get {L M : List (Option (List Nat))} (h : Sim L M) (i : Nat) (x : List Nat) : L[i]? = some (some x) ↔ M[i]? = some (some x) := by
  obtain ⟨n, rfl⟩ := h
  rcases Nat.lt_or_ge i M.length with hl | hl
  · rw [List.getElem?_append_left hl]
  · rw [List.getElem?_append_right hl, List.getElem?_eq_none hl]
    constructor
    · intro e
      rw [List.getElem?_replicate] at e
      split at e <;> simp at e
    · intro e; cases e
/-- What Load gives of a heap's bytes. -/
theorem sim_take (L : List (Option (List Nat))) : Sim L (L.take (lastN L)) := by
  refine ⟨L.length - lastN L, ?_⟩
  apply List.ext_getElem?
  intro i
  have hle := lastN_le L
  rcases Nat.lt_or_ge i (lastN L) with hl | hl
  · rw [List.getElem?_append_left (by rw [List.length_take]; omega), List.getElem?_take, if_pos hl]
  · have ht : (L.take (lastN L)).length = lastN L := by rw [List.length_take]; omega
    rw [List.getElem?_append_right (by omega), ht, List.getElem?_replicate]
    rcases Nat.lt_or_ge i L.length with h2 | h2
    · rw [if_pos (by omega), List.getElem?_eq_getElem h2]
      rcases hx : L[i] with _ | x
      · rfl
      · exfalso
        have hm : (i : Int) ∈ idsL L := (idsL_mem L _).mpr ⟨by omega, x, by rw [Int.toNat_natCast, List.getElem?_eq_getElem h2, hx]⟩
        have hr : (idsL L).Pairwise (fun a b => a < b) := idsA_rise L 0
        obtain ⟨z, hz⟩ : ∃ z, (idsL L).getLast? = some z := by
          cases e : (idsL L).getLast? with
          | none => rw [List.getLast?_eq_none_iff] at e; rw [e] at hm; cases hm
          | some z => exact ⟨z, rfl⟩
        have hN : lastN L = z.toNat + 1 := by unfold lastN; rw [hz]
        have hz0 := ((idsL_mem L z).mp (List.mem_of_getLast? hz)).1
        have hiz : (i : Int) ≤ z := by
          obtain ⟨ys, hys⟩ := List.getLast?_eq_some_iff.mp hz
          rw [hys] at hm hr
          rcases List.mem_append.mp hm with hm | hm
          · have := (List.pairwise_append.mp hr).2.2 _ hm z (by simp)
            omega
          · rw [List.mem_singleton.mp hm]; exact Int.le_refl _
        omega
    · rw [if_neg (by omega), List.getElem?_eq_none h2]

/-- What Get answers. -/
def getE (L : List (Option (List Nat))) (i : Nat) : Int := match L[i]? with | some (some _) => 0 | _ => 10
def getX (L : List (Option (List Nat))) (i : Nat) : List Nat := match L[i]? with | some (some x) => x | _ => []
theorem get_cases (L : List (Option (List Nat))) (i : Nat) : (∃ x, L[i]? = some (some x) ∧ getE L i = 0 ∧ getX L i = x) ∨ ((∀ x, L[i]? ≠ some (some x)) ∧ getE L i = 10 ∧ getX L i = []) := by
  unfold getE getX
  rcases h : L[i]? with _ | _ | x
  · exact .inr ⟨fun x e => by simp at e, rfl, rfl⟩
  · exact .inr ⟨fun x e => by simp at e, rfl, rfl⟩
  · exact .inl ⟨x, rfl, rfl, rfl⟩
theorem Sim.getEX {L M : List (Option (List Nat))} (h : Sim L M) (i : Nat) : getE L i = getE M i ∧ getX L i = getX M i := by
  rcases get_cases L i with ⟨x, a, b, c⟩ | ⟨a, b, c⟩
  · rcases get_cases M i with ⟨y, a', b', c'⟩ | ⟨a', b', c'⟩
    · have := (h.get i x).mp a
      rw [this] at a'
      injection a' with a'; injection a' with a'
      exact ⟨by rw [b, b'], by rw [c, c', a']⟩
    · exact absurd ((h.get i x).mp a) (a' x)
  · rcases get_cases M i with ⟨y, a', b', c'⟩ | ⟨a', b', c'⟩
    · exact absurd ((h.get i y).mpr a') (a y)
    · exact ⟨by rw [b, b'], by rw [c, c']⟩

/-- Two heaps, apart. -/
def Hps (w wr : World) (h1 h2 : Nat) (L1 L2 : List (Option (List Nat))) : Prop :=
  ∃ S1 S2 mb1 D1 Lv1 mb2 D2 Lv2, HpR wr S1 h1 mb1 D1 Lv1 L1 ∧ HpR wr S2 h2 mb2 D2 Lv2 L2 ∧ (∀ j, S1 j → ¬ S2 j) ∧ (∀ j, S1 j ∨ S2 j → w.heap.size ≤ j) ∧ Below w.heap.size w wr
def addL (L : List (Option (List Nat))) (xs : List Nat) : List (Option (List Nat)) := if xs.length ≤ 65536 then putL L (hole L) (some xs) else L
def addI (L : List (Option (List Nat))) (xs : List Nat) : Int := if xs.length ≤ 65536 then (hole L : Int) else 0
def addE (xs : List Nat) : Int := if xs.length ≤ 65536 then 0 else 3
theorem addL_len (L : List (Option (List Nat))) (xs : List Nat) : (addL L xs).length ≤ L.length + 1 := by
  unfold addL
  split
  · rw [putL_len]; split <;> omega
  · omega
theorem Sim.add {L M : List (Option (List Nat))} (h : Sim L M) (xs : List Nat) : Sim (addL L xs) (addL M xs) := by
  unfold addL
  split
  · exact h.put _
  · exact h
section
variable {w wr w2 : World} {h1 h2 : Nat} {L1 L2 : List (Option (List Nat))}
theorem Hps.swap (h : Hps w wr h1 h2 L1 L2) : Hps w wr h2 h1 L2 L1 := by
  obtain ⟨S1, S2, mb1, D1, Lv1, mb2, D2, Lv2, a, b, c, d, e⟩ := h
  exact ⟨S2, S1, mb2, D2, Lv2, mb1, D1, Lv1, b, a, fun j hj hk => c j hk hj, fun j hj => d j hj.symm, e⟩
theorem Hps.later (h : Hps w wr h1 h2 L1 L2) (hb : Below wr.heap.size wr w2) : Hps w w2 h1 h2 L1 L2 := by
  obtain ⟨S1, S2, mb1, D1, Lv1, mb2, D2, Lv2, a, b, c, d, e⟩ := h
  exact ⟨S1, S2, mb1, D1, Lv1, mb2, D2, Lv2, a.later hb, b.later hb, c, d, below_more e hb⟩
theorem Hps.be (h : Hps w wr h1 h2 L1 L2) : Below w.heap.size w wr := by
  obtain ⟨_, _, _, _, _, _, _, _, _, _, _, _, e⟩ := h
  exact e
theorem Hps.add1 (h : Hps w wr h1 h2 L1 L2) (hl : L1.length ≤ 60000) {X : Option Addr} {d : Nat} {xs : List Nat} (hx : Byt wr wr.heap.size X xs.length xs) :
    Calls Tryd.prog 8 #[.pointer (some ⟨h1, 0, none⟩), .slice X xs.length d] wr fun e w' => e = .returned (.tuple #[.int .i64 (addI L1 xs), .int .i64 (addE xs)]) ∧ Hps w w' h1 h2 (addL L1 xs) L2 := by
  obtain ⟨S1, S2, mb1, D1, Lv1, mb2, D2, Lv2, a, b, c, hd, e⟩ := h
  by_cases hk : xs.length ≤ 65536
  · refine (add_any a hl hx hk (d := d)).mono fun e' w' ⟨he, ⟨S', D', Lv', hp, hS'⟩, hg⟩ => ⟨by rw [he, addI, addE, if_pos hk, if_pos hk], ?_⟩
    have hne : ∀ k, S2 k → k ≠ mb1 := fun k hk e => c mb1 a.sm (e ▸ hk)
    refine ⟨S', S2, mb1, D', Lv', mb2, D2, Lv2, by rw [addL, if_pos hk]; exact hp, b.keep (fun k hk => grown_keep hg (b.sb k hk) (hne k hk)) hg.size, fun j hj hk => ?_, fun j hj => ?_, below_turn e e.size hg (hd _ (.inl a.sm))⟩
    · rcases hS' j hj with h | h
      · exact c j h hk
      · have := b.sb j hk; omega
    · rcases hj with hj | hj
      · rcases hS' j hj with h | h
        · exact hd j (.inl h)
        · exact Nat.le_trans e.size h
      · exact hd j (.inr hj)
  · refine (add_big a (by omega) (X := X) (d := d)).mono fun e' w' ⟨he, hw⟩ => ⟨by rw [he, addI, addE, if_neg hk, if_neg hk], ?_⟩
    subst hw
    rw [addL, if_neg hk]
    exact ⟨S1, S2, mb1, D1, Lv1, mb2, D2, Lv2, a, b, c, hd, e⟩
/-- What Get gives, whatever the number. -/
theorem Hps.get1 (h : Hps w wr h1 h2 L1 L2) (i : Nat) (hi : i ≤ 60000) :
    Calls Tryd.prog 9 #[.pointer (some ⟨h1, 0, none⟩), .int .i64 (i : Int)] wr fun e w' => ∃ A m C, e = .returned (.tuple #[.slice A m C, .int .i64 (getE L1 i)]) ∧ Byt w' w'.heap.size A m (getX L1 i) ∧ Below wr.heap.size wr w' := by
  obtain ⟨S1, S2, mb1, D1, Lv1, mb2, D2, Lv2, a, b, c, hd, e⟩ := h
  by_cases hx : ∃ x, L1[i]? = some (some x)
  · obtain ⟨x, hx⟩ := hx
    refine (get_yes a hx hi).mono fun e' w' ⟨V, he, hr, hb⟩ => ?_
    obtain ⟨A, C, rfl, hy⟩ := hr.byt
    exact ⟨A, x.length, C, by rw [he, getE, hx], by rw [getX, hx]; exact hy, hb⟩
  · have hz : (i : Int) ∉ idsL L1 := fun hm => by
      obtain ⟨_, v, hv⟩ := (idsL_mem _ _).mp hm
      exact hx ⟨v, by simpa using hv⟩
    refine (get_no a hz (by omega) (by omega)).mono fun e' w' ⟨he, hw⟩ => ?_
    subst hw
    have hE : getE L1 i = 10 := by
      unfold getE
      split
      · rename_i x hx2; exact absurd ⟨x, hx2⟩ hx
      · rfl
    have hX : getX L1 i = [] := by
      unfold getX
      split
      · rename_i x hx2; exact absurd ⟨x, hx2⟩ hx
      · rfl
    exact ⟨none, 0, 0, by rw [he, hE], by rw [hX]; exact Byt.nil, Below.refl _ _⟩
end
end Go.Proofs.YtpajimkebnfneaaDoor.X5
