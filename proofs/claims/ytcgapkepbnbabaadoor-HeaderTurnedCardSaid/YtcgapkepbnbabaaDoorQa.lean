/- What a chain of blocks holds (no program in sight). -/
import Derived.Test.YtcgapkepbnbabaaDoorLa
import Derived.Test.YtcgapkepbnbabaaDoorKce
namespace Go.Proofs.YtcgapkepbnbabaaDoor.X5
set_option linter.unusedVariables false
set_option linter.unusedSimpArgs false
open Go.RowKit Wd Ty9

/-- The number in four bytes at p. -/
def getN (s : List Nat) (p : Nat) : Nat := lval (lows true ((s.drop p).take 4))
theorem getN_lt {s : List Nat} (h : ∀ x ∈ s, x < 256) (p : Nat) : getN s p < 4294967296 := by
  unfold getN
  have h1 := lval_lt (lows true ((s.drop p).take 4)) (fun x hx => h x (List.mem_of_mem_drop (List.mem_of_mem_take (lows_mem hx))))
  have h2 : (lows true ((s.drop p).take 4)).length ≤ 4 := by rw [lows_len, List.length_take]; omega
  exact Nat.lt_of_lt_of_le h1 (Nat.le_trans (Nat.pow_le_pow_right (by omega) h2) (by decide))
/-- A message at p, and where the next one lies. -/
def getMsg (s : List Nat) (p : Nat) : Option (Mg × Nat) :=
  if p + 8 ≤ s.length ∧ getN s (p + 4) ≤ 65536 ∧ p + 8 + getN s (p + 4) ≤ s.length then
    some (((getN s p : Int), (s.drop (p + 8)).take (getN s (p + 4))), p + 8 + getN s (p + 4)) else none
def parseF (s : List Nat) : Nat → Nat → Option (List Mg × Nat)
  | 0, p => some ([], p)
  | n + 1, p => match getMsg s p with
    | none => none
    | some (m, q) => (parseF s n q).map fun r => (m :: r.1, r.2)
open Classical in
/-- The messages of a stream. -/
noncomputable def parseS (s : List Nat) : Option (List Mg) :=
  if 4 ≤ s.length ∧ getN s 0 ≤ 65536 then
    match parseF s (getN s 0) 4 with
    | none => none
    | some (l, q) => if q = s.length ∧ IsMay l 0 then some l else none
  else none
theorem parseF_no {s : List Nat} {n p : Nat} (h : getMsg s p = none) : parseF s (n + 1) p = none := by
  unfold parseF; rw [h]
theorem parseF_yes {s : List Nat} {n p q : Nat} {m : Mg} (h : getMsg s p = some (m, q)) : parseF s (n + 1) p = (parseF s n q).map fun r => (m :: r.1, r.2) := by
  rw [parseF, h]
theorem getMsg_le {s : List Nat} {p q : Nat} {m : Mg} (h : getMsg s p = some (m, q)) : p + 8 ≤ q ∧ q ≤ s.length ∧ m.2.length ≤ 65536 ∧ q = p + 8 + m.2.length := by
  unfold getMsg at h
  split at h
  · rename_i h1
    have h := Option.some.inj h
    injection h with h2 h3
    subst h2 h3
    have hl : ((s.drop (p + 8)).take (getN s (p + 4))).length = getN s (p + 4) := by rw [List.length_take, List.length_drop]; omega
    obtain ⟨q1, q2, q3⟩ := h1
    exact ⟨by omega, q3, by show List.length _ ≤ _; rw [hl]; exact q2, by show _ = p + 8 + List.length _; rw [hl]⟩
  · cases h
theorem parseF_len {s : List Nat} : ∀ (n p : Nat) (r : List Mg × Nat), parseF s n p = some r → r.1.length = n
  | 0, p, r, h => by unfold parseF at h; obtain rfl := Option.some.inj h; rfl
  | n + 1, p, r, h => by
    rcases hg : getMsg s p with _ | ⟨m, q⟩
    · rw [parseF_no hg] at h; cases h
    · rw [parseF_yes hg] at h
      rcases hf : parseF s n q with _ | r2
      · rw [hf] at h; cases h
      · rw [hf] at h
        obtain rfl := Option.some.inj h
        have := parseF_len n q r2 hf
        simp [this]

/-- What a block holds: its part of the stream, and the next extent. -/
noncomputable def blockOf (b : List Nat) (x : Xt) : Option (List Nat × Xt) :=
  let s := (b.drop x.1.toNat).take x.2.toNat
  let c := s.take (s.length - 4)
  open Classical in
  if s = sealL c ∧ 1 ≤ getN c 0 ∧ getN c 0 ≤ capN x ∧ (∀ y ∈ c.drop (12 + getN c 0), y = 0) then
    some ((c.drop 12).take (getN c 0), ((getN c 4 : Int), (getN c 8 : Int))) else none
/-- What a chain holds. -/
inductive Chain (b : List Nat) : List Xt → List Nat → Xt → Int × List Nat × List Xt → Prop
  | short {u a x} : (b.length : Int) < x.1 + x.2 → Chain b u a x (4, [], [])
  | bad {u a x} : x.1 + x.2 ≤ (b.length : Int) → blockOf b x = none → Chain b u a x (5, [], [])
  | last {u a x p} : x.1 + x.2 ≤ (b.length : Int) → blockOf b x = some (p, (0, 0)) → Chain b u a x (0, a ++ p, u ++ [x])
  | stop {u a x p y} : x.1 + x.2 ≤ (b.length : Int) → blockOf b x = some (p, y) → y ≠ (0, 0) → ¬ (p.length = capN x ∧ wideP y ∧ noMeet (u ++ [x] ++ [y])) → Chain b u a x (5, [], [])
  | more {u a x p y r} : x.1 + x.2 ≤ (b.length : Int) → blockOf b x = some (p, y) → y ≠ (0, 0) → (p.length = capN x ∧ wideP y ∧ noMeet (u ++ [x] ++ [y])) → Chain b (u ++ [x]) (a ++ p) y r → Chain b u a x r
theorem Chain.uniq {b : List Nat} {u : List Xt} {a : List Nat} {x : Xt} {r1 r2 : Int × List Nat × List Xt} (h1 : Chain b u a x r1) (h2 : Chain b u a x r2) : r1 = r2 := by
  induction h1 generalizing r2 with
  | short h => cases h2 <;> first | rfl | omega
  | bad h k => cases h2 <;> first | rfl | omega | simp_all
  | last h k => cases h2 <;> first | rfl | omega | simp_all
  | stop h k n e => cases h2 <;> first | rfl | omega | simp_all
  | more h k n e _ ih =>
    cases h2 with
    | short h' => omega
    | bad h' k' => rw [k] at k'; cases k'
    | last h' k' => rw [k] at k'; have := Option.some.inj k'; injection this with q1 q2; exact absurd q2 n
    | stop h' k' n' e' => rw [k] at k'; have := Option.some.inj k'; injection this with q1 q2; subst q1 q2; exact absurd e e'
    | more h' k' n' e' c' => rw [k] at k'; have := Option.some.inj k'; injection this with q1 q2; subst q1 q2; exact ih c'
/-- What Load tells. -/
def IsLoad8 (b : List Nat) (x : Xt) (z : Int) (l : List Mg) (used : List Xt) : Prop :=
  (¬ wideP x ∧ z = 2 ∧ l = [] ∧ used = []) ∨ (wideP x ∧ ∃ r, Chain b [] [] x r ∧ ((r.1 ≠ 0 ∧ z = r.1 ∧ l = [] ∧ used = []) ∨ (r.1 = 0 ∧ ((parseS r.2.1 = none ∧ z = 5 ∧ l = [] ∧ used = []) ∨ (parseS r.2.1 = some l ∧ z = 0 ∧ used = r.2.2)))))
theorem IsLoad8.uniq {b : List Nat} {x : Xt} {z z2 : Int} {l l2 : List Mg} {u u2 : List Xt} (h1 : IsLoad8 b x z l u) (h2 : IsLoad8 b x z2 l2 u2) : z = z2 ∧ l = l2 ∧ u = u2 := by
  rcases h1 with ⟨a, p, q, s⟩ | ⟨a, r, c, h1⟩ <;> rcases h2 with ⟨a', p', q', s'⟩ | ⟨a', r', c', h2⟩
  · exact ⟨p.trans p'.symm, q.trans q'.symm, s.trans s'.symm⟩
  · exact absurd a' a
  · exact absurd a a'
  · obtain rfl := c.uniq c'
    rcases h1 with ⟨k, p, q, s⟩ | ⟨k, h1⟩ <;> rcases h2 with ⟨k', p', q', s'⟩ | ⟨k', h2⟩
    · exact ⟨p.trans p'.symm, q.trans q'.symm, s.trans s'.symm⟩
    · exact absurd k' k
    · exact absurd k k'
    · rcases h1 with ⟨m, p, q, s⟩ | ⟨m, p, s⟩ <;> rcases h2 with ⟨m', p', q', s'⟩ | ⟨m', p', s'⟩
      · exact ⟨p.trans p'.symm, q.trans q'.symm, s.trans s'.symm⟩
      · rw [m] at m'; cases m'
      · rw [m] at m'; cases m'
      · exact ⟨p.trans p'.symm, Option.some.inj (m.symm.trans m'), s.trans s'.symm⟩
end Go.Proofs.YtcgapkepbnbabaaDoor.X5
