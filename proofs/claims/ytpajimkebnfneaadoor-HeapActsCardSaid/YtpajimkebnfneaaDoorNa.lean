/- A heap's things by numbers, plainly (no program in sight); and as a map's datum. -/
import Derived.Lib.SlKeysI
import Derived.Maps.OwnSet
import Derived.Test.YtpajimkebnfneaaDoorMw
namespace Go.Proofs.YtpajimkebnfneaaDoor.X5
set_option linter.unusedVariables false
set_option linter.unusedSimpArgs false
open Go.RowKit Go.Maps

/-- The least number that no thing has. -/
def hole {α : Type} : List (Option α) → Nat
  | [] => 0
  | none :: _ => 0
  | some _ :: l => hole l + 1
theorem hole_le {α : Type} : ∀ l : List (Option α), hole l ≤ l.length
  | [] => Nat.le_refl _
  | none :: _ => Nat.zero_le _
  | some _ :: l => Nat.succ_le_succ (hole_le l)
theorem hole_lt {α : Type} : ∀ (l : List (Option α)) (i : Nat), i < hole l → ∃ v, l[i]? = some (some v)
  | [], i, h => absurd h (Nat.not_lt_zero _)
  | none :: _, i, h => absurd h (Nat.not_lt_zero _)
  | some v :: l, 0, _ => ⟨v, rfl⟩
  | some v :: l, i + 1, h => by
    have := hole_lt l i (Nat.lt_of_succ_lt_succ h)
    simpa using this
theorem hole_at {α : Type} : ∀ (l : List (Option α)) (v : α), l[hole l]? ≠ some (some v)
  | [], v => by simp
  | none :: l, v => by simp [hole]
  | some x :: l, v => by
    have := hole_at l v
    simpa [hole] using this
theorem hole_map {α β : Type} (f : α → β) : ∀ (l : List (Option α)), hole (l.map (Option.map f)) = hole l
  | [] => rfl
  | none :: _ => rfl
  | some _ :: l => by simp [hole, hole_map f l]
/-- A thing is put at number i (at most the length). -/
def putL {α : Type} (l : List (Option α)) (i : Nat) (x : Option α) : List (Option α) := if i < l.length then l.set i x else l ++ [x]
theorem putL_len {α : Type} (l : List (Option α)) (i : Nat) (x : Option α) : (putL l i x).length = if i < l.length then l.length else l.length + 1 := by
  unfold putL; split <;> simp
theorem putL_get {α : Type} {l : List (Option α)} {i : Nat} (hi : i ≤ l.length) (x : Option α) (j : Nat) : (putL l i x)[j]? = if j = i then some x else l[j]? := by
  unfold putL
  split
  · rename_i h
    rw [List.getElem?_set]
    by_cases hj : j = i
    · subst hj; simp [h]
    · rw [if_neg (fun e => hj e.symm), if_neg hj]
  · rename_i h
    have : i = l.length := by omega
    subst this
    by_cases hj : j = l.length
    · subst hj; simp
    · rw [if_neg hj]
      rcases Nat.lt_or_ge j l.length with h1 | h1
      · rw [List.getElem?_append_left h1]
      · rw [List.getElem?_eq_none (by simp; omega), List.getElem?_eq_none h1]
/-- How many things there are. -/
def cntL {α : Type} : List (Option α) → Nat
  | [] => 0
  | none :: l => cntL l
  | some _ :: l => cntL l + 1
theorem cntL_le {α : Type} : ∀ l : List (Option α), cntL l ≤ l.length
  | [] => Nat.le_refl _
  | none :: l => Nat.le_succ_of_le (cntL_le l)
  | some _ :: l => Nat.succ_le_succ (cntL_le l)
/-- The numbers of the things, rising. -/
def idsA {α : Type} : Nat → List (Option α) → List Int
  | _, [] => []
  | k, none :: l => idsA (k + 1) l
  | k, some _ :: l => (k : Int) :: idsA (k + 1) l
def idsL {α : Type} (l : List (Option α)) : List Int := idsA 0 l
theorem idsA_mem {α : Type} : ∀ (l : List (Option α)) (k : Nat) (z : Int), z ∈ idsA k l ↔ ∃ i v, z = ((k + i : Nat) : Int) ∧ l[i]? = some (some v)
  | [], k, z => by simp [idsA]
  | none :: l, k, z => by
    rw [idsA, idsA_mem l (k + 1) z]
    constructor
    · rintro ⟨i, v, rfl, h⟩
      exact ⟨i + 1, v, by omega, by simpa using h⟩
    · rintro ⟨i, v, rfl, h⟩
      cases i with
      | zero => simp at h
      | succ i => exact ⟨i, v, by omega, by simpa using h⟩
  | some x :: l, k, z => by
    rw [idsA, List.mem_cons, idsA_mem l (k + 1) z]
    constructor
    · rintro (rfl | ⟨i, v, rfl, h⟩)
      · exact ⟨0, x, by simp, rfl⟩
      · exact ⟨i + 1, v, by omega, by simpa using h⟩
    · rintro ⟨i, v, rfl, h⟩
      cases i with
      | zero => left; simp
      | succ i => right; exact ⟨i, v, by omega, by simpa using h⟩
theorem idsL_mem {α : Type} (l : List (Option α)) (z : Int) : z ∈ idsL l ↔ 0 ≤ z ∧ ∃ v, l[z.toNat]? = some (some v) := by
  rw [idsL, idsA_mem]
  constructor
  · rintro ⟨i, v, rfl, h⟩
    exact ⟨by omega, v, by simpa using h⟩
  · rintro ⟨h0, v, h⟩
    exact ⟨z.toNat, v, by omega, h⟩
theorem idsA_rise {α : Type} : ∀ (l : List (Option α)) (k : Nat), (idsA k l).Pairwise (fun a b => a < b)
  | [], _ => List.Pairwise.nil
  | none :: l, k => idsA_rise l (k + 1)
  | some _ :: l, k => List.pairwise_cons.2 ⟨fun z hz => by
      obtain ⟨i, v, rfl, _⟩ := (idsA_mem l (k + 1) z).mp hz
      omega, idsA_rise l (k + 1)⟩
theorem idsA_len {α : Type} : ∀ (l : List (Option α)) (k : Nat), (idsA k l).length = cntL l
  | [], _ => rfl
  | none :: l, k => idsA_len l (k + 1)
  | some _ :: l, k => by rw [idsA, List.length_cons, idsA_len l (k + 1)]; rfl
theorem idsL_len {α : Type} (l : List (Option α)) : (idsL l).length = cntL l := idsA_len l 0

/-- A map's datum that has the values l by their numbers. -/
structure MapIs (D : DataW Value) (l : List (Option Value)) : Prop where
  tidy : Tidy D
  ints : ∃ es, D = .map es ∧ ∀ p ∈ es, ∃ x, p.1 = .int .i64 x
  has : ∀ z : Int, has D (.int .i64 z) = true ↔ z ∈ idsL l
  at_ : ∀ (i : Nat) (v : Value), l[i]? = some (some v) → ∀ d, D.atKey (.int .i64 (i : Int)) d = .held v
  size : Maps.size D = cntL l
theorem MapIs.empty : MapIs (.map []) ([] : List (Option Value)) :=
  ⟨tidy_empty, ⟨[], rfl, fun p h => absurd h List.not_mem_nil⟩, fun z => by simp [Maps.has, idsL, idsA], fun i v h => by simp at h, rfl⟩
theorem lit_ne {a b : Int} (h : a ≠ b) : (Lit.int .i64 a) ≠ Lit.int .i64 b := fun e => h (by injection e)
theorem cntL_put {α : Type} : ∀ (l : List (Option α)) (i : Nat) (x : α), i ≤ l.length → (∀ v, l[i]? ≠ some (some v)) → cntL (putL l i (some x)) = cntL l + 1
  | [], i, x, hi, h => by
    obtain rfl : i = 0 := by simpa using hi
    simp [putL, cntL]
  | none :: l, 0, x, hi, h => by simp [putL, cntL]
  | some y :: l, 0, x, hi, h => absurd rfl (h y)
  | none :: l, i + 1, x, hi, h => by
    have ih := cntL_put l i x (Nat.le_of_succ_le_succ hi) (fun v => by simpa using h v)
    unfold putL at ih ⊢
    by_cases hl : i < l.length
    · rw [if_pos hl] at ih; rw [if_pos (by simpa using hl)]; simpa [cntL] using ih
    · rw [if_neg hl] at ih; rw [if_neg (by simpa using hl)]; simpa [cntL] using ih
  | some y :: l, i + 1, x, hi, h => by
    have ih := cntL_put l i x (Nat.le_of_succ_le_succ hi) (fun v => by simpa using h v)
    unfold putL at ih ⊢
    by_cases hl : i < l.length
    · rw [if_pos hl] at ih; rw [if_pos (by simpa using hl)]; simpa [cntL] using ih
    · rw [if_neg hl] at ih; rw [if_neg (by simpa using hl)]; simpa [cntL] using ih
theorem cntL_drop {α : Type} : ∀ (l : List (Option α)) (i : Nat) (v : α), l[i]? = some (some v) → cntL (l.set i none) + 1 = cntL l
  | [], i, v, h => by simp at h
  | none :: l, 0, v, h => by simp at h
  | some y :: l, 0, v, h => by simp [cntL]
  | none :: l, i + 1, v, h => by simpa [cntL] using cntL_drop l i v (by simpa using h)
  | some y :: l, i + 1, v, h => by simpa [cntL] using cntL_drop l i v (by simpa using h)
theorem putL_some {l : List (Option Value)} {i : Nat} (hi : i ≤ l.length) (x : Value) (z : Int) : z ∈ idsL (putL l i (some x)) ↔ z = (i : Int) ∨ z ∈ idsL l := by
  rw [idsL_mem, idsL_mem]
  constructor
  · rintro ⟨h0, v, h⟩
    rw [putL_get hi] at h
    by_cases e : z.toNat = i
    · left; omega
    · rw [if_neg e] at h; exact .inr ⟨h0, v, h⟩
  · rintro (rfl | ⟨h0, v, h⟩)
    · exact ⟨by omega, x, by rw [putL_get hi]; simp⟩
    · refine ⟨h0, ?_⟩
      rw [putL_get hi]
      by_cases e : z.toNat = i
      · exact ⟨x, by rw [if_pos e]⟩
      · exact ⟨v, by rw [if_neg e]; exact h⟩
theorem insert_mem {x p : Lit × DataW Value} : ∀ {l : List (Lit × DataW Value)}, p ∈ DataW.insert x l → p = x ∨ p ∈ l
  | [], h => by simp [DataW.insert] at h; exact .inl h
  | y :: r, h => by
    unfold DataW.insert at h
    split at h
    · rcases List.mem_cons.mp h with h | h
      · exact .inl h
      · exact .inr h
    · rcases List.mem_cons.mp h with h | h
      · exact .inr (h ▸ List.mem_cons_self)
      · rcases insert_mem h with h | h
        · exact .inl h
        · exact .inr (List.mem_cons_of_mem _ h)
theorem MapIs.put {D : DataW Value} {l : List (Option Value)} (h : MapIs D l) {i : Nat} (hi : i ≤ l.length) (hn : ∀ v, l[i]? ≠ some (some v)) (x : Value) : MapIs (D.put (.int .i64 (i : Int)) (.held x)) (putL l i (some x)) := by
  have hk : WideAt.IsKeyLit (.int .i64 (i : Int)) := trivial
  refine ⟨h.tidy.put hk _, ?_, fun z => ?_, fun j v hj d => ?_, ?_⟩
  · obtain ⟨es, rfl, he⟩ := h.ints
    refine ⟨_, rfl, fun p hp => ?_⟩
    rcases insert_mem hp with rfl | hp
    · exact ⟨_, rfl⟩
    · exact he p (List.mem_filter.mp hp).1
  · rw [putL_some hi]
    by_cases e : z = (i : Int)
    · subst e
      rw [has_put_same h.tidy.isMap hk]
      simp
    · rw [has_put_other (lit_ne e), h.has]
      simp [e]
  · rw [putL_get hi] at hj
    by_cases e : j = i
    · subst e
      rw [if_pos rfl] at hj
      simp at hj
      subst hj
      exact atKey_put_same h.tidy.isMap hk _ _
    · rw [if_neg e] at hj
      rw [atKey_put_other (lit_ne (by omega))]
      exact h.at_ j v hj d
  · rw [size_put h.tidy, cntL_put l i x hi hn, h.size]
    have : ¬ Maps.has D (.int .i64 (i : Int)) = true := fun e => by
      obtain ⟨_, v, hv⟩ := (idsL_mem l _).mp ((h.has _).mp e)
      exact hn v (by simpa using hv)
    rw [if_neg this]
theorem MapIs.del {D : DataW Value} {l : List (Option Value)} (h : MapIs D l) {i : Nat} {v : Value} (hv : l[i]? = some (some v)) : MapIs (D.del (.int .i64 (i : Int))) (l.set i none) := by
  have hi : i < l.length := (List.getElem?_eq_some_iff.mp hv).1
  refine ⟨h.tidy.del _, ?_, fun z => ?_, fun j u hj d => ?_, ?_⟩
  · obtain ⟨es, rfl, he⟩ := h.ints
    exact ⟨_, rfl, fun p hp => he p (List.mem_filter.mp hp).1⟩
  · rw [idsL_mem]
    by_cases e : z = (i : Int)
    · subst e
      rw [has_del_same]
      simp [hi]
    · rw [has_del_other (lit_ne e), h.has, idsL_mem]
      constructor
      · rintro ⟨h0, u, hu⟩
        exact ⟨h0, u, by rw [List.getElem?_set, if_neg (by omega)]; exact hu⟩
      · rintro ⟨h0, u, hu⟩
        rw [List.getElem?_set, if_neg (by omega)] at hu
        exact ⟨h0, u, hu⟩
  · have e : j ≠ i := by
      rintro rfl
      simp [hi] at hj
    rw [List.getElem?_set, if_neg (fun e2 => e e2.symm)] at hj
    rw [atKey_del_other (lit_ne (by omega))]
    exact h.at_ j u hj d
  · have h1 := size_del (k := .int .i64 (i : Int)) h.tidy
    have h2 : Maps.has D (.int .i64 (i : Int)) = true := (h.has _).mpr ((idsL_mem l _).mpr ⟨by omega, v, by simpa using hv⟩)
    rw [if_pos h2, h.size] at h1
    have h3 := cntL_drop l i v hv
    omega
/-- What the keys are, sorted. -/
theorem MapIs.keys {D : DataW Value} {l : List (Option Value)} (h : MapIs D l) {ss : List Int} (hp : ss.Perm (intKeys D)) : ss.mergeSort leI = idsL l := by
  obtain ⟨es, hD, he⟩ := h.ints
  obtain ⟨es', hD', hpw⟩ := h.tidy
  rw [hD] at hD'
  injection hD' with e
  subst e
  have hr := idsA_rise l 0
  have hnd : (idsL l).Nodup := hr.imp fun h e => by omega
  have h1 : (idsL l).Perm (intKeys (.map es)) := perm_intKeys hpw he hnd fun x => by rw [← hD, h.has]
  rw [hD] at hp
  rw [mergeSort_of_perm_i (hp.trans h1.symm)]
  exact List.mergeSort_of_pairwise (hr.imp fun h => by simp [leI]; omega)
end Go.Proofs.YtpajimkebnfneaaDoor.X5
