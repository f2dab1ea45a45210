/- A heap and the reference's one, side by side: every act on both. -/
import Derived.Test.YtpajimkebnfneaaDoorNy
namespace Go.Proofs.YtpajimkebnfneaaDoor.X5
set_option linter.unusedVariables false
set_option linter.unusedSimpArgs false
open Go.RowKit Go.Maps Wd Ty9

/-- A heap and the reference's one, apart, none of their blocks in Z. -/
def Hq (w wr : World) (hb rb : Nat) (L M : List (Option (List Nat))) (Z : Nat → Prop) : Prop :=
  ∃ S mb D Lv T V vs, HpR wr S hb mb D Lv L ∧ RhR wr T rb V vs M ∧ (∀ k, S k → ¬ T k) ∧ (∀ k, S k ∨ T k → w.heap.size ≤ k ∧ ¬ Z k) ∧ Below w.heap.size w wr
/-- The blocks of Z are as they were. -/
def Kp (Z : Nat → Prop) (w w' : World) : Prop := w.heap.size ≤ w'.heap.size ∧ ∀ j, j < w.heap.size → Z j → w'.heap[j]? = w.heap[j]?
open Classical in
noncomputable def dropE (M : List (Option (List Nat))) (z : Int) : Int := if z ∈ idsL M then 0 else 10
open Classical in
noncomputable def dropM (M : List (Option (List Nat))) (z : Int) : List (Option (List Nat)) := if z ∈ idsL M then (M.set z.toNat none).take (lastN (M.set z.toNat none)) else M
open Classical in
noncomputable def getZ (M : List (Option (List Nat))) (z : Int) : List Nat := if z ∈ idsL M then getX M z.toNat else []
theorem Sim.drop {L M : List (Option (List Nat))} (h : Sim L M) (z : Int) : Sim (dropL L z) (dropM M z) := by
  unfold dropL dropM
  rw [h.ids]
  split
  · rename_i hz
    obtain ⟨hz0, x, hx⟩ := (idsL_mem M z).mp hz
    exact (h.set (List.getElem?_eq_some_iff.mp hx).1 none).trans (sim_take _)
  · exact h
theorem tr_drop {M : List (Option (List Nat))} (h : Tr M) (z : Int) : Tr (dropM M z) := by
  unfold dropM
  split
  · exact tr_trim _
  · exact h
theorem tr_add {M : List (Option (List Nat))} (h : Tr M) (xs : List Nat) : Tr (addL M xs) := by
  unfold addL
  split
  · exact tr_put h xs
  · exact h
section
variable {w wr w2 : World} {hb rb : Nat} {L M : List (Option (List Nat))} {Z Z' : Nat → Prop}
theorem Hq.weak (h : Hq w wr hb rb L M Z) (hz : ∀ k, k < wr.heap.size → Z' k → Z k) : Hq w wr hb rb L M Z' := by
  obtain ⟨S, mb, D, Lv, T, V, vs, a, b, c, d, e⟩ := h
  exact ⟨S, mb, D, Lv, T, V, vs, a, b, c, fun k hk => ⟨(d k hk).1, fun hz2 => (d k hk).2 (hz k (hk.elim (a.sb k) (b.sb k)) hz2)⟩, e⟩
theorem Hq.be (h : Hq w wr hb rb L M Z) : Below w.heap.size w wr := by
  obtain ⟨_, _, _, _, _, _, _, _, _, _, _, e⟩ := h
  exact e
theorem Hq.turn (h : Hq w wr hb rb L M Z) (hc : Ch Z wr w2) (hz : ∀ k, Z k → w.heap.size ≤ k) : Hq w w2 hb rb L M Z := by
  obtain ⟨S, mb, D, Lv, T, V, vs, a, b, c, d, e⟩ := h
  exact ⟨S, mb, D, Lv, T, V, vs, a.keep (fun k hk => hc.block k (a.sb k hk) (d k (.inl hk)).2) hc.size, b.keep (fun k hk => hc.block k (b.sb k hk) (d k (.inr hk)).2) hc.size, c, d, e.trans (hc.below e.size hz)⟩
theorem Hq.later (h : Hq w wr hb rb L M Z) (hbe : Below wr.heap.size wr w2) : Hq w w2 hb rb L M Z := by
  obtain ⟨S, mb, D, Lv, T, V, vs, a, b, c, d, e⟩ := h
  exact ⟨S, mb, D, Lv, T, V, vs, a.later hbe, b.later hbe, c, d, below_more e hbe⟩
/-- What comes later is none of theirs. -/
theorem Hq.fresh (h : Hq w wr hb rb L M Z) : Hq w wr hb rb L M (fun k => wr.heap.size ≤ k) := h.weak fun k hk hz => absurd hz (Nat.not_le.mpr hk)
theorem Hq.padd (h : Hq w wr hb rb L M Z) (hzb : ∀ k, Z k → k < wr.heap.size) (hl : L.length ≤ 60000) {X : Option Addr} {d : Nat} {xs : List Nat} (hx : Byt wr wr.heap.size X xs.length xs) :
    Calls Tryd.prog 8 #[.pointer (some ⟨hb, 0, none⟩), .slice X xs.length d] wr fun e w' => e = .returned (.tuple #[.int .i64 (addI L xs), .int .i64 (addE xs)]) ∧ Hq w w' hb rb (addL L xs) M Z ∧ Kp Z wr w' := by
  obtain ⟨S, mb, D, Lv, T, V, vs, a, b, c, hd, e⟩ := h
  by_cases hk : xs.length ≤ 65536
  · refine (add_any a hl hx hk (d := d)).mono fun e' w' ⟨he, ⟨S', D', Lv', hp, hS'⟩, hg⟩ => ⟨by rw [he, addI, addE, if_pos hk, if_pos hk], ?_, hg.size, fun j hj hz => hg.block j hj (fun e => (hd mb (.inl a.sm)).2 (by injection e with e; exact e ▸ hz))⟩
    refine ⟨S', mb, D', Lv', T, V, vs, by rw [addL, if_pos hk]; exact hp, b.keep (fun k hk => grown_keep hg (b.sb k hk) (fun e => c mb a.sm (e ▸ hk))) hg.size, fun j hj hk => ?_, fun j hj => ?_, below_turn e e.size hg (hd _ (.inl a.sm)).1⟩
    · rcases hS' j hj with h | h
      · exact c j h hk
      · have := b.sb j hk; omega
    · rcases hj with hj | hj
      · rcases hS' j hj with h | h
        · exact hd j (.inl h)
        · exact ⟨Nat.le_trans e.size h, fun hz => absurd (hzb j hz) (by omega)⟩
      · exact hd j (.inr hj)
  · refine (add_big a (by omega) (X := X) (d := d)).mono fun e' w' ⟨he, hw⟩ => ⟨by rw [he, addI, addE, if_neg hk, if_neg hk], ?_, by subst hw; exact ⟨Nat.le_refl _, fun _ _ _ => rfl⟩⟩
    subst hw
    rw [addL, if_neg hk]
    exact ⟨S, mb, D, Lv, T, V, vs, a, b, c, hd, e⟩
theorem Hq.radd (h : Hq w wr hb rb L M Z) (hzb : ∀ k, Z k → k < wr.heap.size) (hl : M.length ≤ 60000) {X : Option Addr} {d : Nat} {xs : List Nat} (hx : Byt wr wr.heap.size X xs.length xs) :
    Calls Tryd.prog 18 #[.pointer (some ⟨rb, 0, none⟩), .slice X xs.length d] wr fun e w' => e = .returned (.tuple #[.int .i64 (addI M xs), .int .i64 (addE xs)]) ∧ Hq w w' hb rb L (addL M xs) Z ∧ Kp Z wr w' := by
  obtain ⟨S, mb, D, Lv, T, V, vs, a, b, c, hd, e⟩ := h
  by_cases hk : xs.length ≤ 65536
  · refine (radd_any b hl hx hk (d := d)).mono fun e' w' ⟨he, ⟨T', V', vs', hp, hT'⟩, hg⟩ => ⟨by rw [he, addI, addE, if_pos hk, if_pos hk], ?_, ?_⟩
    rotate_left
    · exact ⟨hg.size, fun j hj hz => hg.block j hj (fun e => (hd j (.inr (e.elim (fun e => e ▸ b.sh) (fun e => (b.sv j e).1)))).2 hz)⟩
    have hT : ∀ k, (k = rb ∨ V.ownBlock = some k) → T k := fun k hk => hk.elim (fun e => e ▸ b.sh) (fun e => (b.sv k e).1)
    refine ⟨S, mb, D, Lv, T', V', vs', a.keep (fun k hk => hg.block k (a.sb k hk) (fun e => c k hk (hT k e))) hg.size, by rw [addL, if_pos hk]; exact hp, fun j hj hk => ?_, fun j hj => ?_, e.trans (hg.below e.size fun k hk => (hd k (.inr (hT k hk))).1)⟩
    · rcases hT' j hk with h | h
      · exact c j hj h
      · have := a.sb j hj; omega
    · rcases hj with hj | hj
      · exact hd j (.inl hj)
      · rcases hT' j hj with h | h
        · exact hd j (.inr h)
        · exact ⟨Nat.le_trans e.size h, fun hz => absurd (hzb j hz) (by omega)⟩
  · refine (radd_big (by omega) (X := X) (d := d)).mono fun e' w' ⟨he, hw⟩ => ⟨by rw [he, addI, addE, if_neg hk, if_neg hk], ?_, by subst hw; exact ⟨Nat.le_refl _, fun _ _ _ => rfl⟩⟩
    subst hw
    rw [addL, if_neg hk]
    exact ⟨S, mb, D, Lv, T, V, vs, a, b, c, hd, e⟩
theorem Hq.pdrop (h : Hq w wr hb rb L M Z) (hl : L.length ≤ 60000) {z : Int} (h0 : -9223372036854775808 ≤ z) (h1 : z ≤ 9223372036854775807) :
    Calls Tryd.prog 10 #[.pointer (some ⟨hb, 0, none⟩), .int .i64 z] wr fun e w' => e = .returned (.int .i64 (dropE L z)) ∧ Hq w w' hb rb (dropL L z) M Z ∧ Kp Z wr w' := by
  obtain ⟨S, mb, D, Lv, T, V, vs, a, b, c, hd, e⟩ := h
  by_cases hz : z ∈ idsL L
  · obtain ⟨hz0, x, hx⟩ := (idsL_mem L z).mp hz
    have hi := (List.getElem?_eq_some_iff.mp hx).1
    have e1 : dropL L z = L.set z.toNat none := by unfold dropL; rw [if_pos hz]
    have e2 : dropE L z = 0 := by unfold dropE; rw [if_pos hz]
    rw [e1, e2]
    obtain ⟨i, rfl⟩ : ∃ i : Nat, z = i := ⟨z.toNat, by omega⟩
    refine (drop_yes a hx (by simpa using (by omega : i ≤ 60000))).mono fun e' w' ⟨he, ⟨D', Lv', hp⟩, hg⟩ => ⟨he, ?_, hg.size, fun j hj hz => hg.block j hj (fun e => (hd mb (.inl a.sm)).2 (by injection e with e; exact e ▸ hz))⟩
    exact ⟨S, mb, D', Lv', T, V, vs, hp, b.keep (fun k hk => grown_keep hg (b.sb k hk) (fun e => c mb a.sm (e ▸ hk))) hg.size, c, hd, below_turn e e.size hg (hd _ (.inl a.sm)).1⟩
  · have e1 : dropL L z = L := by unfold dropL; rw [if_neg hz]
    have e2 : dropE L z = 10 := by unfold dropE; rw [if_neg hz]
    rw [e1, e2]
    refine (drop_no a hz h0 h1).mono fun e' w' ⟨he, hw⟩ => ⟨he, ?_, by subst hw; exact ⟨Nat.le_refl _, fun _ _ _ => rfl⟩⟩
    subst hw
    exact ⟨S, mb, D, Lv, T, V, vs, a, b, c, hd, e⟩
theorem Hq.rdrop (h : Hq w wr hb rb L M Z) (hl : M.length ≤ 60000) {z : Int} (h0 : -9223372036854775808 ≤ z) (h1 : z ≤ 9223372036854775807) :
    Calls Tryd.prog 20 #[.pointer (some ⟨rb, 0, none⟩), .int .i64 z] wr fun e w' => e = .returned (.int .i64 (dropE M z)) ∧ Hq w w' hb rb L (dropM M z) Z ∧ Kp Z wr w' := by
  obtain ⟨S, mb, D, Lv, T, V, vs, a, b, c, hd, e⟩ := h
  by_cases hz : z ∈ idsL M
  · obtain ⟨hz0, x, hx⟩ := (idsL_mem M z).mp hz
    have e1 : dropM M z = (M.set z.toNat none).take (lastN (M.set z.toNat none)) := by unfold dropM; rw [if_pos hz]
    have e2 : dropE M z = 0 := by unfold dropE; rw [if_pos hz]
    rw [e1, e2]
    obtain ⟨i, rfl⟩ : ∃ i : Nat, z = i := ⟨z.toNat, by omega⟩
    have hT : ∀ k, (k = rb ∨ V.ownBlock = some k) → T k := fun k hk => hk.elim (fun e => e ▸ b.sh) (fun e => (b.sv k e).1)
    refine (rdrop_yes b hl hx).mono fun e' w' ⟨he, ⟨V', vs', hp⟩, hg⟩ => ⟨he, ?_, hg.size, fun j hj hz => hg.block j hj (fun e => (hd j (.inr (hT j e))).2 hz)⟩
    exact ⟨S, mb, D, Lv, T, V', vs', a.keep (fun k hk => hg.block k (a.sb k hk) (fun e => c k hk (hT k e))) hg.size, hp, c, hd, e.trans (hg.below e.size fun k hk => (hd k (.inr (hT k hk))).1)⟩
  · have e1 : dropM M z = M := by unfold dropM; rw [if_neg hz]
    have e2 : dropE M z = 10 := by unfold dropE; rw [if_neg hz]
    rw [e1, e2]
    refine (rdrop_no b hl hz ⟨h0, h1⟩).mono fun e' w' ⟨he, hw⟩ => ⟨he, ?_, by subst hw; exact ⟨Nat.le_refl _, fun _ _ _ => rfl⟩⟩
    subst hw
    exact ⟨S, mb, D, Lv, T, V, vs, a, b, c, hd, e⟩
theorem Hq.pget (h : Hq w wr hb rb L M Z) (hl : L.length ≤ 60000) {z : Int} (h0 : -9223372036854775808 ≤ z) (h1 : z ≤ 9223372036854775807) :
    Calls Tryd.prog 9 #[.pointer (some ⟨hb, 0, none⟩), .int .i64 z] wr fun e w' => ∃ A m C, e = .returned (.tuple #[.slice A m C, .int .i64 (dropE L z)]) ∧ Byt w' w'.heap.size A m (getZ L z) ∧ Below wr.heap.size wr w' := by
  obtain ⟨S, mb, D, Lv, T, V, vs, a, b, c, hd, e⟩ := h
  by_cases hz : z ∈ idsL L
  · obtain ⟨hz0, x, hx⟩ := (idsL_mem L z).mp hz
    have hi := (List.getElem?_eq_some_iff.mp hx).1
    have e1 : getZ L z = x := by unfold getZ getX; rw [if_pos hz, hx]
    have e2 : dropE L z = 0 := by unfold dropE; rw [if_pos hz]
    rw [e1, e2]
    obtain ⟨i, rfl⟩ : ∃ i : Nat, z = i := ⟨z.toNat, by omega⟩
    refine (get_yes a hx (by simpa using (by omega : i ≤ 60000))).mono fun e' w' ⟨V, he, hr, hb⟩ => ?_
    obtain ⟨A, C, rfl, hy⟩ := hr.byt
    exact ⟨A, x.length, C, he, hy, hb⟩
  · have e1 : getZ L z = [] := by unfold getZ; rw [if_neg hz]
    have e2 : dropE L z = 10 := by unfold dropE; rw [if_neg hz]
    rw [e1, e2]
    refine (get_no a hz h0 h1).mono fun e' w' ⟨he, hw⟩ => ?_
    subst hw
    exact ⟨none, 0, 0, he, Byt.nil, Below.refl _ _⟩
theorem Hq.rget (h : Hq w wr hb rb L M Z) (hl : M.length ≤ 60000) {z : Int} (h0 : -9223372036854775808 ≤ z) (h1 : z ≤ 9223372036854775807) :
    Calls Tryd.prog 19 #[.pointer (some ⟨rb, 0, none⟩), .int .i64 z] wr fun e w' => ∃ A m C, e = .returned (.tuple #[.slice A m C, .int .i64 (dropE M z)]) ∧ Byt w' w'.heap.size A m (getZ M z) ∧ Below wr.heap.size wr w' := by
  obtain ⟨S, mb, D, Lv, T, V, vs, a, b, c, hd, e⟩ := h
  by_cases hz : z ∈ idsL M
  · obtain ⟨hz0, x, hx⟩ := (idsL_mem M z).mp hz
    have e1 : getZ M z = x := by unfold getZ getX; rw [if_pos hz, hx]
    have e2 : dropE M z = 0 := by unfold dropE; rw [if_pos hz]
    rw [e1, e2]
    obtain ⟨i, rfl⟩ : ∃ i : Nat, z = i := ⟨z.toNat, by omega⟩
    refine (rget_yes b hl hx).mono fun e' w' ⟨V, he, hr, hb⟩ => ?_
    obtain ⟨A, C, rfl, hy⟩ := hr.byt
    exact ⟨A, x.length, C, he, hy, hb⟩
  · have e1 : getZ M z = [] := by unfold getZ; rw [if_neg hz]
    have e2 : dropE M z = 10 := by unfold dropE; rw [if_neg hz]
    rw [e1, e2]
    refine (rget_no b hl hz ⟨h0, h1⟩).mono fun e' w' ⟨he, hw⟩ => ?_
    subst hw
    exact ⟨none, 0, 0, he, Byt.nil, Below.refl _ _⟩
theorem Sim.drops {L M : List (Option (List Nat))} (h : Sim L M) (z : Int) : dropE L z = dropE M z ∧ getZ L z = getZ M z := by
  unfold dropE getZ
  rw [h.ids, (h.getEX _).2]
  exact ⟨rfl, rfl⟩
theorem Hq.alike (h : Hq w wr hb rb L M Z) (hs : Sim L M) (ht : Tr M) (hl : L.length ≤ 1000) (hG : Gs wr) :
    Calls Tryd.prog 21 #[.pointer (some ⟨hb, 0, none⟩), .pointer (some ⟨rb, 0, none⟩)] wr fun e w' => e = .returned (.bool true) ∧ Hq w w' hb rb L M Z := by
  obtain ⟨S, mb, D, Lv, T, V, vs, a, b, c, hd, e⟩ := h
  exact (alike_any a b hs ht hl hG).mono fun e' w' ⟨he, hbe⟩ => ⟨he, S, mb, D, Lv, T, V, vs, a.later hbe, b.later hbe, c, hd, below_more e hbe⟩
theorem Hq.pbytes (h : Hq w wr hb rb L M Z) (hl : L.length ≤ 60000) (hG : Gs wr) :
    Calls Tryd.prog 13 #[.pointer (some ⟨hb, 0, none⟩)] wr fun e w' => ∃ V, e = .returned V ∧ RowB w' wr.heap.size V (sealL (heapB L)) ∧ Below wr.heap.size wr w' := by
  obtain ⟨S, mb, D, Lv, T, V, vs, a, b, c, hd, e⟩ := h
  exact bytes_any a hl hG
theorem Hq.small (h : Hq w wr hb rb L M Z) : smallL L := by
  obtain ⟨S, mb, D, Lv, T, V, vs, a, b, c, hd, e⟩ := h
  exact a.small
/-- Another heap in the first one's place. -/
theorem Hq.other (h : Hq w wr hb rb L M Z) {hb' : Nat} {S' : Nat → Prop} {L' : List (Option (List Nat))} (hbe : Below wr.heap.size wr w2) (hp : Hp w2 S' hb' L') (hS : ∀ k, S' k → wr.heap.size ≤ k) : Hq w w2 hb' rb L' M (fun _ => False) := by
  obtain ⟨S, mb, D, Lv, T, V, vs, a, b, c, hd, e⟩ := h
  obtain ⟨mb', D', Lv', a'⟩ := hp
  exact ⟨S', mb', D', Lv', T, V, vs, a', b.later hbe, fun k h1 h2 => by have e1 := hS k h1; have e2 := b.sb k h2; omega, fun k hk => ⟨hk.elim (fun h => Nat.le_trans e.size (hS k h)) (fun h => (hd k (.inr h)).1), fun h => h⟩, below_more e hbe⟩
theorem Hq.start {S : Nat → Prop} (hbe : Below w.heap.size w wr) (hp : Hp wr S hb []) (hS : ∀ k, S k → w.heap.size ≤ k) : Hq w (wr.alloc (.cells #[.slice none 0 0] 50)) hb wr.heap.size [] [] (fun _ => False) := by
  obtain ⟨mb, D, Lv, a⟩ := hp
  have hn := below_new wr (.cells #[.slice none 0 0] 50)
  refine ⟨S, mb, D, Lv, fun k => k = wr.heap.size, .slice none 0 0, [], a.later hn, ⟨Bx.new wr 50 #[.slice none 0 0], World.ownsRow_nil _ _ _ _, rfl, rfl, fun g hg => (nomatch hg), fun k hk => (by subst hk; exact (Bx.new wr 50 #[.slice none 0 0]).lt), fun i x hx => (by simp at hx), fun i hx => (by simp at hx)⟩, fun k h1 h2 => by have := a.sb k h1; omega, fun k hk => ⟨hk.elim (hS k) (fun h => by subst h; exact hbe.size), fun h => h⟩, below_more hbe hn⟩
end
end Go.Proofs.YtpajimkebnfneaaDoor.X5
