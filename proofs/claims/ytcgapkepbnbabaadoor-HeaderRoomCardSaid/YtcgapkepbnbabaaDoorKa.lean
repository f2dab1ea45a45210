/- Extents as plain data: good lists, joining, what is left, what is taken and given. No program in sight. -/
import Derived.RowKit
namespace Go.Proofs.YtcgapkepbnbabaaDoor.X5
set_option linter.unusedVariables false
set_option linter.unusedSimpArgs false

abbrev Xt := Int × Int
/-- May an extent be? -/
def mayP (x : Xt) : Prop := 0 ≤ x.1 ∧ x.1 ≤ 4194304 ∧ 0 ≤ x.2 ∧ x.2 ≤ 4194304 - x.1
instance (x : Xt) : Decidable (mayP x) := by unfold mayP; exact inferInstance
def stepP (size b : Int) (x : Xt) : Prop := mayP x ∧ x.2 ≠ 0 ∧ b < x.1 ∧ x.1 + x.2 ≤ size
instance (size b : Int) (x : Xt) : Decidable (stepP size b x) := by unfold stepP; exact inferInstance
def goodFrom (size : Int) : Int → List Xt → Prop
  | _, [] => True
  | b, x :: l => stepP size b x ∧ goodFrom size (x.1 + x.2) l
instance goodFrom.dec (size : Int) : ∀ b l, Decidable (goodFrom size b l)
  | _, [] => isTrue trivial
  | b, x :: l => by
    have := goodFrom.dec size (x.1 + x.2) l
    unfold goodFrom; exact inferInstance
def goodP (l : List Xt) (size : Int) : Prop := 0 ≤ size ∧ size ≤ 4194304 ∧ l.length ≤ 65536 ∧ goodFrom size (-1) l
instance (l : List Xt) (size : Int) : Decidable (goodP l size) := by unfold goodP; exact inferInstance

/-- The byte p is in some extent. -/
def cov (l : List Xt) (p : Int) : Prop := ∃ x ∈ l, x.1 ≤ p ∧ p < x.1 + x.2
theorem cov_nil (p : Int) : cov [] p ↔ False := by simp [cov]
theorem cov_cons (x : Xt) (l : List Xt) (p : Int) : cov (x :: l) p ↔ (x.1 ≤ p ∧ p < x.1 + x.2) ∨ cov l p := by simp [cov]
theorem cov_append (a b : List Xt) (p : Int) : cov (a ++ b) p ↔ cov a p ∨ cov b p := by
  simp only [cov, List.mem_append]
  constructor
  · rintro ⟨x, h | h, h2⟩
    · exact .inl ⟨x, h, h2⟩
    · exact .inr ⟨x, h, h2⟩
  · rintro (⟨x, h, h2⟩ | ⟨x, h, h2⟩)
    · exact ⟨x, .inl h, h2⟩
    · exact ⟨x, .inr h, h2⟩

/-- In order, each with bytes, with room between. -/
def Sep (l : List Xt) : Prop := l.Pairwise (fun a b => a.1 + a.2 < b.1) ∧ ∀ x ∈ l, 0 < x.2
theorem sep_nil : Sep [] := ⟨List.Pairwise.nil, by simp⟩
theorem sep_cons {x : Xt} {l : List Xt} : Sep (x :: l) ↔ (∀ y ∈ l, x.1 + x.2 < y.1) ∧ 0 < x.2 ∧ Sep l := by
  unfold Sep
  rw [List.pairwise_cons]
  constructor
  · rintro ⟨⟨h1, h2⟩, h3⟩
    exact ⟨h1, h3 x List.mem_cons_self, h2, fun y hy => h3 y (List.mem_cons_of_mem _ hy)⟩
  · rintro ⟨h1, h2, h3, h4⟩
    refine ⟨⟨h1, h3⟩, fun y hy => ?_⟩
    rcases List.mem_cons.mp hy with rfl | hy
    · exact h2
    · exact h4 y hy
theorem sep_snoc {l : List Xt} {x : Xt} : Sep (l ++ [x]) ↔ Sep l ∧ 0 < x.2 ∧ ∀ y ∈ l, y.1 + y.2 < x.1 := by
  unfold Sep
  rw [List.pairwise_append]
  constructor
  · rintro ⟨⟨h1, _, h2⟩, h3⟩
    exact ⟨⟨h1, fun y hy => h3 y (by simp [hy])⟩, h3 x (by simp), fun y hy => h2 y hy x (by simp)⟩
  · rintro ⟨⟨h1, h2⟩, h3, h4⟩
    refine ⟨⟨h1, List.pairwise_singleton _ _, fun y hy z hz => ?_⟩, fun y hy => ?_⟩
    · simp at hz; subst hz; exact h4 y hy
    · rcases List.mem_append.mp hy with hy | hy
      · exact h2 y hy
      · simp at hy; subst hy; exact h3

/-- Two such lists with the same bytes are one. -/
theorem sep_uniq : ∀ (a b : List Xt), Sep a → Sep b → (∀ p, cov a p ↔ cov b p) → a = b
  | [], [], _, _, _ => rfl
  | [], y :: b, _, hb, h => by
    have hy := (sep_cons.mp hb).2.1
    exact absurd ((h y.1).mpr ((cov_cons _ _ _).mpr (.inl ⟨by omega, by omega⟩))) (by simp [cov])
  | x :: a, [], ha, _, h => by
    have hx := (sep_cons.mp ha).2.1
    exact absurd ((h x.1).mp ((cov_cons _ _ _).mpr (.inl ⟨by omega, by omega⟩))) (by simp [cov])
  | x :: a, y :: b, ha, hb, h => by
    obtain ⟨a1, a2, a3⟩ := sep_cons.mp ha
    obtain ⟨b1, b2, b3⟩ := sep_cons.mp hb
    have ta : ∀ p, cov a p → x.1 + x.2 < p := by
      rintro p ⟨z, hz, h1, h2⟩
      have := a1 z hz; omega
    have tb : ∀ p, cov b p → y.1 + y.2 < p := by
      rintro p ⟨z, hz, h1, h2⟩
      have := b1 z hz; omega
    have e1 : x.1 = y.1 := by
      have h1 := (h x.1).mp ((cov_cons _ _ _).mpr (.inl ⟨by omega, by omega⟩))
      have h2 := (h y.1).mpr ((cov_cons _ _ _).mpr (.inl ⟨by omega, by omega⟩))
      rcases (cov_cons _ _ _).mp h1 with h1 | h1 <;> rcases (cov_cons _ _ _).mp h2 with h2 | h2
      · omega
      · have := ta _ h2; omega
      · have := tb _ h1; omega
      · have := ta _ h2; have := tb _ h1; omega
    have e2 : x.2 = y.2 := by
      rcases Int.lt_trichotomy x.2 y.2 with hl | he | hg
      · have h1 := (h (x.1 + x.2)).mpr ((cov_cons _ _ _).mpr (.inl ⟨by omega, by omega⟩))
        rcases (cov_cons _ _ _).mp h1 with h1 | h1
        · omega
        · have := ta _ h1; omega
      · exact he
      · have h1 := (h (y.1 + y.2)).mp ((cov_cons _ _ _).mpr (.inl ⟨by omega, by omega⟩))
        rcases (cov_cons _ _ _).mp h1 with h1 | h1
        · omega
        · have := tb _ h1; omega
    have e3 : x = y := Prod.ext e1 e2
    subst e3
    refine congrArg _ (sep_uniq a b a3 b3 fun p => ?_)
    constructor
    · intro hp
      have h1 := (h p).mp ((cov_cons _ _ _).mpr (.inr hp))
      rcases (cov_cons _ _ _).mp h1 with h1 | h1
      · have := ta _ hp; omega
      · exact h1
    · intro hp
      have h1 := (h p).mpr ((cov_cons _ _ _).mpr (.inr hp))
      rcases (cov_cons _ _ _).mp h1 with h1 | h1
      · have := tb _ hp; omega
      · exact h1

/-- One more extent is joined to a list. -/
def jstep (out : List Xt) (x : Xt) : List Xt :=
  match out.getLast? with
  | none => [x]
  | some c => if x.1 ≤ c.1 + c.2 then out.dropLast ++ [(c.1, max (x.1 + x.2) (c.1 + c.2) - c.1)] else out ++ [x]
def joinL (d : List Xt) : List Xt := d.foldl jstep []
theorem jstep_nil (x : Xt) : jstep [] x = [x] := rfl
theorem jstep_snoc (pre : List Xt) (c x : Xt) : jstep (pre ++ [c]) x = if x.1 ≤ c.1 + c.2 then pre ++ [(c.1, max (x.1 + x.2) (c.1 + c.2) - c.1)] else pre ++ [c] ++ [x] := by
  simp [jstep]
theorem jstep_len (out : List Xt) (x : Xt) : (jstep out x).length ≤ out.length + 1 := by
  rcases List.eq_nil_or_concat out with rfl | ⟨pre, c, rfl⟩
  · simp [jstep_nil]
  · rw [List.concat_eq_append, jstep_snoc]; split <;> simp
theorem joinL_snoc (d : List Xt) (x : Xt) : joinL (d ++ [x]) = jstep (joinL d) x := by simp [joinL, List.foldl_append]

/-- In the order of their first bytes. -/
def Asc (d : List Xt) : Prop := d.Pairwise fun a b => a.1 ≤ b.1
/-- What joining has done. -/
structure Joined (d out : List Xt) : Prop where
  sep : Sep out
  same : ∀ p, cov out p ↔ cov d p
  starts : ∀ c ∈ out, ∃ x ∈ d, c.1 = x.1
  len : out.length ≤ d.length
theorem Joined.step {d out : List Xt} (h : Joined d out) {x : Xt} (hx : 0 < x.2) (hs : ∀ y ∈ d, y.1 ≤ x.1) : Joined (d ++ [x]) (jstep out x) := by
  rcases List.eq_nil_or_concat out with rfl | ⟨pre, c, rfl⟩
  · rw [jstep_nil]
    refine ⟨sep_snoc.mpr ⟨sep_nil, hx, by simp⟩, fun p => ?_, fun c hc => ⟨x, by simp, by simp at hc; rw [hc]⟩, by simp⟩
    rw [cov_append]
    have := (h.same p)
    rw [cov_nil] at this
    constructor
    · exact .inr
    · rintro (h1 | h1)
      · exact (this.mpr h1).elim
      · exact h1
  · rw [List.concat_eq_append] at h ⊢
    obtain ⟨q1, q2, q3⟩ := sep_snoc.mp h.sep
    obtain ⟨y, hy, hcy⟩ := h.starts c (by simp)
    have hcx := hs y hy
    have hlen := h.len
    rw [List.length_append] at hlen
    simp at hlen
    rw [jstep_snoc]
    split
    · rename_i hle
      refine ⟨sep_snoc.mpr ⟨q1, by simp only []; omega, q3⟩, fun p => ?_, fun z hz => ?_, by simp; omega⟩
      · rw [cov_append d, ← h.same, cov_append, cov_append, cov_cons, cov_cons, cov_cons, cov_nil]
        simp only []
        have hmx : c.1 + (max (x.1 + x.2) (c.1 + c.2) - c.1) = max (x.1 + x.2) (c.1 + c.2) := by omega
        rw [hmx]
        have key : (c.1 ≤ p ∧ p < max (x.1 + x.2) (c.1 + c.2)) ↔ (c.1 ≤ p ∧ p < c.1 + c.2) ∨ (x.1 ≤ p ∧ p < x.1 + x.2) := by omega
        rw [key]
        simp only [or_false, or_assoc]
      · rcases List.mem_append.mp hz with hz | hz
        · obtain ⟨y2, hy2, he⟩ := h.starts z (by simp [hz])
          exact ⟨y2, by simp [hy2], he⟩
        · simp at hz; subst hz; exact ⟨y, by simp [hy], hcy⟩
    · rename_i hgt
      refine ⟨sep_snoc.mpr ⟨h.sep, hx, fun z hz => ?_⟩, fun p => ?_, fun z hz => ?_, by simp; omega⟩
      · rcases List.mem_append.mp hz with hz | hz
        · have := q3 z hz; omega
        · simp at hz; subst hz; omega
      · rw [cov_append, cov_append d, h.same]
      · rcases List.mem_append.mp hz with hz | hz
        · obtain ⟨y2, hy2, he⟩ := h.starts z hz
          exact ⟨y2, by simp [hy2], he⟩
        · simp at hz; subst hz; exact ⟨z, by simp, rfl⟩
theorem joinL_joined (d : List Xt) : ∀ (n : Nat), n ≤ d.length → Asc d → (∀ x ∈ d, 0 < x.2) → Joined (d.take n) (joinL (d.take n)) := by
  intro n
  induction n with
  | zero => intro _ _ _; exact ⟨sep_nil, fun p => Iff.rfl, by simp [joinL], by simp [joinL]⟩
  | succ n ih =>
    intro hn ha hp
    have hlt : n < d.length := hn
    rw [List.take_add_one, List.getElem?_eq_getElem hlt, Option.toList_some, joinL_snoc]
    refine (ih (by omega) ha hp).step (hp _ (List.getElem_mem _)) fun y hy => ?_
    obtain ⟨i, hi, rfl⟩ := List.mem_iff_getElem.mp hy
    rw [List.length_take] at hi
    rw [List.getElem_take]
    exact List.pairwise_iff_getElem.mp ha i n _ _ (by omega)
theorem joinL_ok (d : List Xt) (ha : Asc d) (hp : ∀ x ∈ d, 0 < x.2) : Joined d (joinL d) := by
  have := joinL_joined d d.length (Nat.le_refl _) ha hp
  rwa [List.take_length] at this

/-- Those that have bytes. -/
def posP (x : Xt) : Bool := !decide (x.2 = 0)
/-- THE good list of all bytes: out of whatever order. -/
def IsJoin (l out : List Xt) : Prop := Sep out ∧ ∀ p, cov out p ↔ cov l p
theorem IsJoin.uniq {l a b : List Xt} (ha : IsJoin l a) (hb : IsJoin l b) : a = b := sep_uniq a b ha.1 hb.1 fun p => (ha.2 p).trans (hb.2 p).symm
theorem cov_pos (l : List Xt) (p : Int) : cov (l.filter posP) p ↔ cov l p := by
  unfold cov
  constructor
  · rintro ⟨x, hx, h⟩
    exact ⟨x, (List.mem_filter.mp hx).1, h⟩
  · rintro ⟨x, hx, h⟩
    exact ⟨x, List.mem_filter.mpr ⟨hx, by simp [posP]; omega⟩, h⟩
theorem cov_perm {a b : List Xt} (h : a.Perm b) (p : Int) : cov a p ↔ cov b p := by
  unfold cov
  constructor
  · rintro ⟨x, hx, h2⟩; exact ⟨x, h.mem_iff.mp hx, h2⟩
  · rintro ⟨x, hx, h2⟩; exact ⟨x, h.mem_iff.mpr hx, h2⟩
theorem isJoin_of_sorted {l d : List Xt} (hl : ∀ x ∈ l, 0 ≤ x.2) (hperm : d.Perm (l.filter posP)) (ha : Asc d) : IsJoin l (joinL d) ∧ (joinL d).length ≤ l.length := by
  have hp : ∀ x ∈ d, 0 < x.2 := fun x hx => by
    obtain ⟨h1, h2⟩ := List.mem_filter.mp (hperm.mem_iff.mp hx)
    have := hl x h1
    simp [posP] at h2
    omega
  have h := joinL_ok d ha hp
  refine ⟨⟨h.sep, fun p => ?_⟩, Nat.le_trans h.len (by rw [hperm.length_eq]; exact List.length_filter_le _ _)⟩
  rw [h.same, cov_perm hperm, cov_pos l]
end Go.Proofs.YtcgapkepbnbabaaDoor.X5
