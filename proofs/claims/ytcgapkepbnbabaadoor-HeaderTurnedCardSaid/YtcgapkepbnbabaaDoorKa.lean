/- Extents in plain Lean. -/
import Derived.RowKit
namespace Go.Proofs.YtcgapkepbnbabaaDoor.X5
set_option linter.unusedVariables false
set_option linter.unusedSimpArgs false

abbrev Xt := Int × Int
/-- May an extent be? -/
def mayP (x : Xt) : Prop := 0 ≤ x.1 ∧ x.1 ≤ 4194304 ∧ 0 ≤ x.2 ∧ x.2 ≤ 4194304 - x.1
instance (x : Xt) : Decidable (mayP x) := by unfold mayP; exact inferInstance
def stepP (size b : Int) (x : Xt) : Prop := mayP x ∧ x.2 ≠ 0 ∧ b < x.1 ∧ x.1 + x.2 ≤ size
instance (size b : Int) (x : Xt) : Decidable (stepP size b x) := by unfold stepP; exact inferInstance
def goodFrom (size : Int) : Int → List Xt → Prop
  | _, [] => True
  | b, x :: l => stepP size b x ∧ goodFrom size (x.1 + x.2) l
instance goodFrom.dec (size : Int) : ∀ b l, Decidable (goodFrom size b l)
  | _, [] => isTrue trivial
  | b, x :: l => by
    have := goodFrom.dec size (x.1 + x.2) l
    unfold goodFrom; exact inferInstance
def goodP (l : List Xt) (size : Int) : Prop := 0 ≤ size ∧ size ≤ 4194304 ∧ l.length ≤ 65536 ∧ goodFrom size (-1) l
instance (l : List Xt) (size : Int) : Decidable (goodP l size) := by unfold goodP; exact inferInstance

/-- The byte p is in some extent. -/
def cov (l : List Xt) (p : Int) : Prop := ∃ x ∈ l, x.1 ≤ p ∧ p < x.1 + x.2
theorem cov_nil (p : Int) : cov [] p ↔ False := by simp [cov]
theorem cov_cons (x : Xt) (l : List Xt) (p : Int) : cov (x :: l) p ↔ (x.1 ≤ p ∧ p < x.1 + x.2) ∨ cov l p := by simp [cov]
theorem cov_append (a b : List Xt) (p : Int) : cov (a ++ b) p ↔ cov a p ∨ cov b p := by
  simp only [cov, List.mem_append]
  constructor
  · rintro ⟨x, h | h, h2⟩
    · exact .inl ⟨x, h, h2⟩
    · exact .inr ⟨x, h, h2⟩
  · rintro (⟨x, h, h2⟩ | ⟨x, h, h2⟩)
    · exact ⟨x, .inl h, h2⟩
    · exact ⟨x, .inr h, h2⟩

/-- In order, each with bytes, with room between. -/
def Sep (l : List Xt) : Prop := l.Pairwise (fun a b => a.1 + a.2 < b.1) ∧ ∀ x ∈ l, 0 < x.2
theorem sep_nil : Sep [] := ⟨List.Pairwise.nil, by simp⟩
theorem sep_cons {x : Xt} {l : List Xt} : Sep (x :: l) ↔ (∀ y ∈ l, x.1 + x.2 < y.1) ∧ 0 < x.2 ∧ Sep l := by
  unfold Sep
  rw [List.pairwise_cons]
  constructor
  · rintro ⟨⟨h1, h2⟩, h3⟩
    exact ⟨h1, h3 x List.mem_cons_self, h2, fun y hy => h3 y (List.mem_cons_of_mem _ hy)⟩
  · rintro ⟨h1, h2, h3, h4⟩
    refine ⟨⟨h1, h3⟩, fun y hy => ?_⟩
    rcases List.mem_cons.mp hy with rfl | hy
    · exact h2
    · exact h4 y hy
theorem sep_snoc {l : List Xt} {x : Xt} : Sep (l ++ [x]) ↔ Sep l ∧ 0 < x.2 ∧ ∀ y ∈ l, y.1 + y.2 < x.1 := by
  unfold Sep
  rw [List.pairwise_append]
  constructor
  · rintro ⟨⟨h1, _, h2⟩, h3⟩
    exact ⟨⟨h1, fun y hy => h3 y (by simp [hy])⟩, h3 x (by simp), fun y hy => h2 y hy x (by simp)⟩
  · rintro ⟨⟨h1, h2⟩, h3, h4⟩
    refine ⟨⟨h1, List.pairwise_singleton _ _, fun y hy z hz => ?_⟩, fun y hy => ?_⟩
    · simp at hz; subst hz; exact h4 y hy
    · rcases List.mem_append.mp hy with hy | hy
      · exact h2 y hy
      · simp at hy; subst hy; exact h3

/-- Two such lists with the same bytes are one. -/
theorem sep_uniq : ∀ (a b : List Xt), Sep a → Sep b → (∀ p, cov a p ↔ cov b p) → a = b
  | [], [], _, _, _ => rfl
  | [], y :: b, _, hb, h => by
    have hy := (sep_cons.mp hb).2.1
    exact absurd ((h y.1).mpr ((cov_cons _ _ _).mpr (.inl ⟨by omega, by omega⟩))) (by simp [cov])
  | x :: a, [], ha, _, h => by
    have hx := (sep_cons.mp ha).2.1
    exact absurd ((h x.1).mp ((cov_cons _ _ _).mpr (.inl ⟨by omega, by omega⟩))) (by simp [cov])
  | x :: a, y :: b, ha, hb, h => by
    obtain ⟨a1, a2, a3⟩ := sep_cons.mp ha
    obtain ⟨b1, b2, b3⟩ := sep_cons.mp hb
    have ta : ∀ p, cov a p → x.1 + x.2 < p := by
      rintro p ⟨z, hz, h1, h2⟩
      have := a1 z hz; omega
    have tb : ∀ p, cov b p → y.1 + y.2 < p := by
      rintro p ⟨z, hz, h1, h2⟩
      have := b1 z hz; omega
    have e1 : x.1 = y.1 := by
      have h1 := (h x.1).mp ((cov_cons _ _ _).mpr (.inl ⟨by omega, by omega⟩))
      have h2 := (h y.1).mpr ((cov_cons _ _ _).mpr (.inl ⟨by omega, by omega⟩))
      rcases (cov_cons _ _ _).mp h1 with h1 | h1 <;> rcases (cov_cons _ _ _).mp h2 with h2 | h2
      · omega
      · have := ta _ h2; omega
      · have := tb _ h1; omega
      · have := ta _ h2; have := tb _ h1; omega
    have e2 : x.2 = y.2 := by
      rcases Int.lt_trichotomy x.2 y.2 with hl | he | hg
      · have h1 := (h (x.1 + x.2)).mpr ((cov_cons _ _ _).mpr (.inl ⟨by omega, by omega⟩))
        rcases (cov_cons _ _ _).mp h1 with h1 | h1
        · omega
        · have := ta _ h1; omega
      · exact he
      · have h1 := (h (y.1 + y.2)).mp ((cov_cons _ _ _).mpr (.inl ⟨by omega, by omega⟩))
        rcases (cov_cons _ _ _).mp h1 with h1 | h1
        · omega
        · have := tb _ h1; omega
    have e3 : x = y := Prod.ext e1 e2
    subst e3
    refine congrArg _ (sep_uniq a b a3 b3 fun p => ?_)
    constructor
    · intro hp
      have h1 := (h p).mp ((cov_cons _ _ _).mpr (.inr hp))
      rcases (cov_cons _ _ _).mp h1 with h1 | h1
      · have := ta _ hp; omega
      · exact h1
    · intro hp
      have h1 := (h p).mpr ((cov_cons _ _ _).mpr (.inr hp))
      rcases (cov_cons _ _ _).mp h1 with h1 | h1
      · have := tb _ hp; omega
      · exact h1

/-- One more extent is joined to a list. -/
def jstep (out : List Xt) (x : Xt) : List Xt :=
  match out.getLast? with
  | none => [x]
  | some c => if x.1 ≤ c.1 + c.2 then out.dropLast ++ [(c.1, max (x.1 + x.2) (c.1 + c.2) - c.1)] else out ++ [x]
def joinL (d : List Xt) : List Xt := d.foldl jstep []
theorem jstep_nil (x : Xt) : jstep [] x = [x] := rfl
theorem jstep_snoc (pre : List Xt) (c x : Xt) : jstep (pre ++ [c]) x = if x.1 ≤ c.1 + c.2 then pre ++ [(c.1, max (x.1 + x.2) (c.1 + c.2) - c.1)] else pre ++ [c] ++ [x] := by
  simp [jstep]
theorem jstep_len (out : List Xt) (x : Xt) : (jstep out x).length ≤ out.length + 1 := by
  rcases List.eq_nil_or_concat out with rfl | ⟨pre, c, rfl⟩
  · simp [jstep_nil]
  · rw [List.concat_eq_append, jstep_snoc]; split <;> simp
theorem joinL_snoc (d : List Xt) (x : Xt) : joinL (d ++ [x]) = jstep (joinL d) x := by simp [joinL, List.foldl_append]

/-- In the order of their first bytes. -/
def Asc (d : List Xt) : Prop := d.Pairwise fun a b => a.1 ≤ b.1
/-- What joining has done. -/
structure Joined (d out : List Xt) : Prop where
  sep : Sep out
  same : ∀ p, cov out p ↔ cov d p
  starts : ∀ c ∈ out, ∃ x ∈ d, c.1 = x.1
  len : out.length ≤ d.length
theorem Joined.step {d out : List Xt} (h : Joined d out) {x : Xt} (hx : 0 < x.2) (hs : ∀ y ∈ d, y.1 ≤ x.1) : Joined (d ++ [x]) (jstep out x) := by
  rcases List.eq_nil_or_concat out with rfl | ⟨pre, c, rfl⟩
  · rw [jstep_nil]
    refine ⟨sep_snoc.mpr ⟨sep_nil, hx, by simp⟩, fun p => ?_, fun c hc => ⟨x, by simp, by simp at hc; rw [hc]⟩, by simp⟩
    rw [cov_append]
    have := (h.same p)
    rw [cov_nil] at this
    constructor
    · exact .inr
    · rintro (h1 | h1)
      · exact (this.mpr h1).elim
      · exact h1
  · rw [List.concat_eq_append] at h ⊢
    obtain ⟨q1, q2, q3⟩ := sep_snoc.mp h.sep
    obtain ⟨y, hy, hcy⟩ := h.starts c (by simp)
    have hcx := hs y hy
    have hlen := h.len
    rw [List.length_append] at hlen
    simp at hlen
    rw [jstep_snoc]
    split
    · rename_i hle
      refine ⟨sep_snoc.mpr ⟨q1, by simp only []; omega, q3⟩, fun p => ?_, fun z hz => ?_, by simp; omega⟩
      · rw [cov_append d, ← h.same, cov_append, cov_append, cov_cons, cov_cons, cov_cons, cov_nil]
        simp only []
        have hmx : c.1 + (max (x.1 + x.2) (c.1 + c.2) - c.1) = max (x.1 + x.2) (c.1 + c.2) := by omega
        rw [hmx]
        have key : (c.1 ≤ p ∧ p < max (x.1 + x.2) (c.1 + c.2)) ↔ (c.1 ≤ p ∧ p < c.1 + c.2) ∨ (x.1 ≤ p ∧ p < x.1 + x.2) := by omega
        rw [key]
        simp only [or_false, or_assoc]
      · rcases List.mem_append.mp hz with hz | hz
        · obtain ⟨y2, hy2, he⟩ := h.starts z (by simp [hz])
          exact ⟨y2, by simp [hy2], he⟩
        · simp at hz; subst hz; exact ⟨y, by simp [hy], hcy⟩
    · rename_i hgt
      refine ⟨sep_snoc.mpr ⟨h.sep, hx, fun z hz => ?_⟩, fun p => ?_, fun z hz => ?_, by simp; omega⟩
      · rcases List.mem_append.mp hz with hz | hz
        · have := q3 z hz; omega
        · simp at hz; subst hz; omega
      · rw [cov_append, cov_append d, h.same]
      · rcases List.mem_append.mp hz with hz | hz
        · obtain ⟨y2, hy2, he⟩ := h.starts z hz
          exact ⟨y2, by simp [hy2], he⟩
        · simp at hz; subst hz; exact ⟨z, by simp, rfl⟩
theorem joinL_joined (d : List Xt) : ∀ (n : Nat), n ≤ d.length → Asc d → (∀ x ∈ d, 0 < x.2) → Joined (d.take n) (joinL (d.take n)) := by
  intro n
  induction n with
  | zero => intro _ _ _; exact ⟨sep_nil, fun p => Iff.rfl, by simp [joinL], by simp [joinL]⟩
  | succ n ih =>
    intro hn ha hp
    have hlt : n < d.length := hn
    rw [List.take_add_one, List.getElem?_eq_getElem hlt, Option.toList_some, joinL_snoc]
    refine (ih (by omega) ha hp).step (hp _ (List.getElem_mem _)) fun y hy => ?_
    obtain ⟨i, hi, rfl⟩ := List.mem_iff_getElem.mp hy
    rw [List.length_take] at hi
    rw [List.getElem_take]
    exact List.pairwise_iff_getElem.mp ha i n _ _ (by omega)
theorem joinL_ok (d : List Xt) (ha : Asc d) (hp : ∀ x ∈ d, 0 < x.2) : Joined d (joinL d) := by
  have := joinL_joined d d.length (Nat.le_refl _) ha hp
  rwa [List.take_length] at this

/-- Those that have bytes. -/
def posP (x : Xt) : Bool := !decide (x.2 = 0)
/-- THE good list of all bytes: out of whatever order. -/
def IsJoin (l out : List Xt) : Prop := Sep out ∧ ∀ p, cov out p ↔ cov l p
theorem IsJoin.uniq {l a b : List Xt} (ha : IsJoin l a) (hb : IsJoin l b) : a = b := sep_uniq a b ha.1 hb.1 fun p => (ha.2 p).trans (hb.2 p).symm
theorem cov_pos (l : List Xt) (p : Int) : cov (l.filter posP) p ↔ cov l p := by
  unfold cov
  constructor
  · rintro ⟨x, hx, h⟩
    exact ⟨x, (List.mem_filter.mp hx).1, h⟩
  · rintro ⟨x, hx, h⟩
    exact ⟨x, List.mem_filter.mpr ⟨hx, by simp [posP]; omega⟩, h⟩
theorem cov_perm {a b : List Xt} (h : a.Perm b) (p : Int) : cov a p ↔ cov b p := by
  unfold cov
  constructor
  · rintro ⟨x, hx, h2⟩; exact ⟨x, h.mem_iff.mp hx, h2⟩
  · rintro ⟨x, hx, h2⟩; exact ⟨x, h.mem_iff.mpr hx, h2⟩
theorem isJoin_of_sorted {l d : List Xt} (hl : ∀ x ∈ l, 0 ≤ x.2) (hperm : d.Perm (l.filter posP)) (ha : Asc d) : IsJoin l (joinL d) ∧ (joinL d).length ≤ l.length := by
  have hp : ∀ x ∈ d, 0 < x.2 := fun x hx => by
    obtain ⟨h1, h2⟩ := List.mem_filter.mp (hperm.mem_iff.mp hx)
    have := hl x h1
    simp [posP] at h2
    omega
  have h := joinL_ok d ha hp
  refine ⟨⟨h.sep, fun p => ?_⟩, Nat.le_trans h.len (by rw [hperm.length_eq]; exact List.length_filter_le _ _)⟩
  rw [h.same, cov_perm hperm, cov_pos l]

/-- The reference joins and passes over those without bytes. -/
def rstep (out : List Xt) (x : Xt) : List Xt := if x.2 = 0 then out else jstep out x
def rjoin (d : List Xt) : List Xt := d.foldl rstep []
theorem rjoin_snoc (d : List Xt) (x : Xt) : rjoin (d ++ [x]) = rstep (rjoin d) x := by simp [rjoin, List.foldl_append]
theorem rfold_eq : ∀ (d out : List Xt), d.foldl rstep out = (d.filter posP).foldl jstep out
  | [], _ => rfl
  | x :: d, out => by
    rw [List.foldl_cons, rfold_eq d]
    by_cases h : x.2 = 0
    · simp [rstep, posP, h]
    · simp [rstep, posP, h]
theorem rjoin_eq (d : List Xt) : rjoin d = joinL (d.filter posP) := rfold_eq d []
theorem asc_filter {d : List Xt} (p : Xt → Bool) (h : Asc d) : Asc (d.filter p) := List.Pairwise.filter p h
theorem isJoin_of_rjoin {l d : List Xt} (hl : ∀ x ∈ l, 0 ≤ x.2) (hperm : d.Perm l) (ha : Asc d) : IsJoin l (rjoin d) ∧ (rjoin d).length ≤ l.length := by
  rw [rjoin_eq]
  exact isJoin_of_sorted hl (hperm.filter posP) (asc_filter posP ha)

/-- One more extent takes its place behind those that do not begin behind it. -/
def insK (out : List Xt) (x : Xt) (k : Nat) : List Xt := out.take k ++ [x] ++ out.drop k
theorem insK_perm (out : List Xt) (x : Xt) (k : Nat) : (insK out x k).Perm (out ++ [x]) := by
  unfold insK
  have h : (out.take k ++ [x] ++ out.drop k).Perm (out.take k ++ out.drop k ++ [x]) := by
    rw [List.append_assoc, List.append_assoc]
    exact List.Perm.append_left _ List.perm_append_comm
  rwa [List.take_append_drop] at h
theorem insK_asc {out : List Xt} {x : Xt} {k : Nat} (ha : Asc out) (h1 : ∀ y ∈ out.drop k, x.1 < y.1) (h2 : k = 0 ∨ ∃ y, out[k - 1]? = some y ∧ y.1 ≤ x.1) (hk : k ≤ out.length) : Asc (insK out x k) := by
  unfold insK Asc
  have hsub1 : Asc (out.take k) := ha.sublist (List.take_sublist _ _)
  have hsub2 : Asc (out.drop k) := ha.sublist (List.drop_sublist _ _)
  have hle : ∀ y ∈ out.take k, y.1 ≤ x.1 := by
    intro y hy
    rcases h2 with rfl | ⟨z, hz, hzx⟩
    · simp at hy
    · obtain ⟨i, hi, rfl⟩ := List.mem_iff_getElem.mp hy
      rw [List.length_take] at hi
      rw [List.getElem_take]
      obtain ⟨hk1, hz1⟩ := List.getElem?_eq_some_iff.mp hz
      rcases Nat.lt_or_ge i (k - 1) with hl | hg
      · have := List.pairwise_iff_getElem.mp ha i (k - 1) (by omega) hk1 hl
        rw [hz1] at this
        omega
      · have : i = k - 1 := by omega
        subst this
        rw [hz1]; exact hzx
  have hcross : ∀ y ∈ out.take k, ∀ z ∈ out.drop k, y.1 ≤ z.1 := fun y hy z hz => by
    have := hle y hy; have := h1 z hz; omega
  refine List.pairwise_append.mpr ⟨List.pairwise_append.mpr ⟨hsub1, List.pairwise_singleton _ _, fun y hy z hz => ?_⟩, hsub2, fun y hy z hz => ?_⟩
  · simp at hz; subst hz; exact hle y hy
  · rcases List.mem_append.mp hy with hy | hy
    · exact hcross y hy z hz
    · simp at hy; subst hy; have := h1 z hz; omega

/-- Have two extents a byte in common? -/
def com (x y : Xt) : Prop := max x.1 y.1 < min (x.1 + x.2) (y.1 + y.2)
instance (x y : Xt) : Decidable (com x y) := by unfold com; exact inferInstance
theorem com_symm {x y : Xt} (h : com x y) : com y x := by unfold com at *; omega
def noMeet (l : List Xt) : Prop := l.Pairwise fun a b => ¬ (mayP a ∧ mayP b ∧ com a b)
def okP (x : Xt) : Bool := decide (mayP x) && !decide (x.2 = 0)
theorem okP_iff (x : Xt) : okP x = true ↔ mayP x ∧ x.2 ≠ 0 := by simp [okP]
theorem noMeet_filter (l : List Xt) : noMeet l ↔ (l.filter okP).Pairwise fun a b => ¬ com a b := by
  rw [List.pairwise_filter]
  unfold noMeet
  constructor
  · intro h
    exact h.imp fun {a b} h1 ha hb hc => h1 ⟨((okP_iff a).mp ha).1, ((okP_iff b).mp hb).1, hc⟩
  · intro h
    refine h.imp fun {a b} h1 h2 => ?_
    obtain ⟨ha, hb, hc⟩ := h2
    refine h1 ((okP_iff a).mpr ⟨ha, ?_⟩) ((okP_iff b).mpr ⟨hb, ?_⟩) hc
    · unfold com at hc; unfold mayP at ha hb; omega
    · unfold com at hc; unfold mayP at ha hb; omega
theorem chain_pair : ∀ (d : List Xt), (∀ x ∈ d, 0 < x.2) → (∀ i (h : i + 1 < d.length), d[i].1 + d[i].2 ≤ d[i + 1].1) → d.Pairwise fun a b => a.1 + a.2 ≤ b.1
  | [], _, _ => List.Pairwise.nil
  | [x], _, _ => List.pairwise_singleton _ _
  | x :: y :: d, hp, h => by
    have ih := chain_pair (y :: d) (fun z hz => hp z (List.mem_cons_of_mem _ hz)) (fun i hi => by have := h (i + 1) (by simp at hi ⊢; omega); simpa using this)
    refine List.pairwise_cons.mpr ⟨fun z hz => ?_, ih⟩
    have h0 := h 0 (by simp)
    simp at h0
    rcases List.mem_cons.mp hz with rfl | hz
    · exact h0
    · have := (List.pairwise_cons.mp ih).1 z hz
      have := hp y (by simp)
      omega
theorem adj_iff {l d : List Xt} (hperm : d.Perm (l.filter okP)) (ha : Asc d) : (∀ i (h : i + 1 < d.length), d[i].1 + d[i].2 ≤ d[i + 1].1) ↔ noMeet l := by
  have hp : ∀ x ∈ d, 0 < x.2 := fun x hx => by
    obtain ⟨_, h2⟩ := List.mem_filter.mp (hperm.mem_iff.mp hx)
    have := (okP_iff x).mp h2
    unfold mayP at this
    omega
  rw [noMeet_filter, ← hperm.pairwise_iff (fun {a b} h hc => h (com_symm hc))]
  constructor
  · intro h
    exact (chain_pair d hp h).imp fun {a b} h1 hc => by unfold com at hc; omega
  · intro h i hi
    have h1 := List.pairwise_iff_getElem.mp h i (i + 1) (by omega) hi (by omega)
    have h2 := List.pairwise_iff_getElem.mp ha i (i + 1) (by omega) hi (by omega)
    have h3 := hp _ (List.getElem_mem (show i < d.length by omega))
    have h4 := hp _ (List.getElem_mem hi)
    unfold com at h1
    omega

/-! ### a good list -/
theorem good_sep (size : Int) : ∀ (l : List Xt) (b : Int), goodFrom size b l → Sep l ∧ (∀ x ∈ l, mayP x ∧ x.1 + x.2 ≤ size ∧ b < x.1)
  | [], _, _ => ⟨sep_nil, by simp⟩
  | x :: l, b, h => by
    obtain ⟨⟨h1, h2, h3, h4⟩, h5⟩ := h
    obtain ⟨i1, i2⟩ := good_sep size l _ h5
    have hx : 0 < x.2 := by unfold mayP at h1; omega
    refine ⟨sep_cons.mpr ⟨fun y hy => (i2 y hy).2.2, hx, i1⟩, fun y hy => ?_⟩
    rcases List.mem_cons.mp hy with rfl | hy
    · exact ⟨h1, h4, h3⟩
    · have := i2 y hy
      exact ⟨this.1, this.2.1, by omega⟩
theorem sep_good (size : Int) : ∀ (l : List Xt) (b : Int), Sep l → (∀ x ∈ l, mayP x ∧ x.1 + x.2 ≤ size) → (∀ x ∈ l, b < x.1) → goodFrom size b l
  | [], _, _, _, _ => trivial
  | x :: l, b, hs, hm, hb => by
    obtain ⟨h1, h2, h3⟩ := sep_cons.mp hs
    exact ⟨⟨(hm x (by simp)).1, by omega, hb x (by simp), (hm x (by simp)).2⟩, sep_good size l _ h3 (fun y hy => hm y (by simp [hy])) h1⟩
theorem goodP_iff (l : List Xt) (size : Int) : goodP l size ↔ 0 ≤ size ∧ size ≤ 4194304 ∧ l.length ≤ 65536 ∧ Sep l ∧ ∀ x ∈ l, mayP x ∧ x.1 + x.2 ≤ size := by
  unfold goodP
  constructor
  · rintro ⟨h1, h2, h3, h4⟩
    obtain ⟨i1, i2⟩ := good_sep size l _ h4
    exact ⟨h1, h2, h3, i1, fun x hx => ⟨(i2 x hx).1, (i2 x hx).2.1⟩⟩
  · rintro ⟨h1, h2, h3, h4, h5⟩
    exact ⟨h1, h2, h3, sep_good size l _ h4 h5 fun x hx => by have := (h5 x hx).1; unfold mayP at this; omega⟩
/-- What is joined lies within what bounds all. -/
theorem joined_within {l out : List Xt} {lo hi : Int} (h : IsJoin l out) (hl : ∀ x ∈ l, 0 < x.2 → lo ≤ x.1 ∧ x.1 + x.2 ≤ hi) : ∀ c ∈ out, lo ≤ c.1 ∧ c.1 + c.2 ≤ hi := by
  intro c hc
  have hp := h.1.2 c hc
  obtain ⟨x, hx, h1, h2⟩ := (h.2 c.1).mp ⟨c, hc, by omega, by omega⟩
  obtain ⟨y, hy, h3, h4⟩ := (h.2 (c.1 + c.2 - 1)).mp ⟨c, hc, by omega, by omega⟩
  have := hl x hx (by omega)
  have := hl y hy (by omega)
  omega
theorem joined_may {l out : List Xt} (h : IsJoin l out) (hl : ∀ x ∈ l, mayP x) : ∀ c ∈ out, mayP c ∧ 0 < c.2 := by
  intro c hc
  have h1 := joined_within h (lo := 0) (hi := 4194304) (fun x hx _ => by have := hl x hx; unfold mayP at this; omega) c hc
  have h2 := h.1.2 c hc
  unfold mayP
  omega
theorem isJoin_self {l : List Xt} (h : Sep l) : IsJoin l l := ⟨h, fun _ => Iff.rfl⟩

/-! ### what is left -/
def gstep (s : List Xt × Int) (x : Xt) : List Xt × Int := (if s.2 < x.1 then s.1 ++ [(s.2, x.1 - s.2)] else s.1, x.1 + x.2)
def gapsL (l : List Xt) : List Xt × Int := l.foldl gstep ([], 0)
def restL (l : List Xt) (size : Int) : List Xt := (gapsL (l ++ [(size, 0)])).1
theorem gapsL_snoc (l : List Xt) (x : Xt) : gapsL (l ++ [x]) = gstep (gapsL l) x := by simp [gapsL, List.foldl_append]
theorem restL_eq (l : List Xt) (size : Int) : restL l size = if (gapsL l).2 < size then (gapsL l).1 ++ [((gapsL l).2, size - (gapsL l).2)] else (gapsL l).1 := by
  rw [restL, gapsL_snoc, gstep]
def tot (l : List Xt) : Int := (l.map (·.2)).sum
theorem tot_snoc (l : List Xt) (x : Xt) : tot (l ++ [x]) = tot l + x.2 := by simp [tot]
theorem tot_cons (l : List Xt) (x : Xt) : tot (x :: l) = x.2 + tot l := by simp [tot]
theorem tot_app (a b : List Xt) : tot (a ++ b) = tot a + tot b := by simp [tot]

structure GapInv (pre out : List Xt) (at_ : Int) : Prop where
  nn : 0 ≤ at_
  sep : Sep out
  ends : ∀ x ∈ out, 0 ≤ x.1 ∧ x.1 + x.2 < at_
  cv : ∀ p, cov out p ↔ 0 ≤ p ∧ p < at_ ∧ ¬ cov pre p
  below : ∀ p, cov pre p → p < at_
  total : tot pre + tot out = at_
  len : out.length ≤ pre.length
theorem GapInv.step {pre out : List Xt} {a : Int} (h : GapInv pre out a) {x : Xt} (hx : 0 < x.2) (hax : a ≤ x.1) : GapInv (pre ++ [x]) (gstep (out, a) x).1 (x.1 + x.2) := by
  have hnn := h.nn
  have key : ∀ p, (cov out p ∨ (a ≤ p ∧ p < x.1)) ↔ 0 ≤ p ∧ p < x.1 + x.2 ∧ ¬ cov (pre ++ [x]) p := by
    intro p
    rw [cov_append, cov_cons, cov_nil, h.cv]
    constructor
    · rintro (⟨h1, h2, h3⟩ | ⟨h1, h2⟩)
      · exact ⟨h1, by omega, fun hc => by rcases hc with hc | hc | hc; (exact h3 hc); (omega); (exact hc)⟩
      · exact ⟨by omega, by omega, fun hc => by rcases hc with hc | hc | hc; (have := h.below _ hc; omega); (omega); (exact hc)⟩
    · rintro ⟨h1, h2, h3⟩
      have h4 : ¬ (x.1 ≤ p ∧ p < x.1 + x.2) := fun hc => h3 (.inr (.inl hc))
      rcases Int.lt_or_le p a with hl | hg
      · exact .inl ⟨h1, hl, fun hc => h3 (.inl hc)⟩
      · exact .inr ⟨hg, by omega⟩
  have hb : ∀ p, cov (pre ++ [x]) p → p < x.1 + x.2 := by
    intro p hp
    rw [cov_append, cov_cons, cov_nil] at hp
    rcases hp with hp | hp | hp
    · have := h.below _ hp; omega
    · omega
    · exact hp.elim
  by_cases hlt : a < x.1
  · rw [show (gstep (out, a) x).1 = out ++ [(a, x.1 - a)] by simp [gstep, hlt]]
    refine ⟨by omega, sep_snoc.mpr ⟨h.sep, by simp only []; omega, fun y hy => by have := h.ends y hy; omega⟩, fun y hy => ?_, fun p => ?_, hb, ?_, by have := h.len; simp; omega⟩
    · rcases List.mem_append.mp hy with hy | hy
      · have := h.ends y hy; omega
      · simp at hy; subst hy; simp only []; omega
    · rw [← key, cov_append, cov_cons, cov_nil]
      simp only [or_false]
      have : a + (x.1 - a) = x.1 := by omega
      rw [this]
    · rw [tot_snoc, tot_snoc]; have := h.total; simp only []; omega
  · rw [show (gstep (out, a) x).1 = out by simp [gstep, hlt]]
    refine ⟨by omega, h.sep, fun y hy => by have := h.ends y hy; omega, fun p => ?_, hb, ?_, by have := h.len; simp; omega⟩
    · rw [← key]
      constructor
      · exact .inl
      · rintro (h1 | h1)
        · exact h1
        · omega
    · rw [tot_snoc]; have := h.total; omega
theorem gap_inv (l : List Xt) (hs : Sep l) (h0 : ∀ x ∈ l, 0 ≤ x.1) : ∀ n, n ≤ l.length → GapInv (l.take n) (gapsL (l.take n)).1 (gapsL (l.take n)).2 ∧ (∀ x ∈ l.drop n, (gapsL (l.take n)).2 ≤ x.1) := by
  intro n
  induction n with
  | zero =>
    intro _
    refine ⟨⟨Int.le_refl _, sep_nil, by simp [gapsL], fun p => ?_, fun p hp => by simp [cov] at hp, by simp [gapsL, tot], by simp [gapsL]⟩, fun x hx => ?_⟩
    · simp only [gapsL, cov, List.take_zero, List.foldl_nil]; simp
    · simp [gapsL]; exact h0 x (by simpa using hx)
  | succ n ih =>
    intro hn
    obtain ⟨i1, i2⟩ := ih (by omega)
    have hlt : n < l.length := hn
    have hdrop : l.drop n = l[n] :: l.drop (n + 1) := List.drop_eq_getElem_cons hlt
    have hx := hs.2 _ (List.getElem_mem hlt)
    rw [List.take_add_one, List.getElem?_eq_getElem hlt, Option.toList_some, gapsL_snoc]
    refine ⟨i1.step hx (i2 _ (by rw [hdrop]; exact List.mem_cons_self)), fun y hy => ?_⟩
    have : Sep (l.drop n) := ⟨hs.1.sublist (List.drop_sublist _ _), fun z hz => hs.2 z (List.mem_of_mem_drop hz)⟩
    rw [hdrop] at this
    have := (sep_cons.mp this).1 y hy
    show l[n].1 + l[n].2 ≤ y.1
    omega
theorem gaps_all {l : List Xt} (hs : Sep l) (h0 : ∀ x ∈ l, 0 ≤ x.1) : GapInv l (gapsL l).1 (gapsL l).2 := by
  have := (gap_inv l hs h0 l.length (Nat.le_refl _)).1
  rwa [List.take_length] at this
theorem gaps_at {l : List Xt} (hs : Sep l) (size : Int) (hsz : 0 ≤ size) (h1 : ∀ x ∈ l, x.1 + x.2 ≤ size) : (gapsL l).2 ≤ size := by
  rcases List.eq_nil_or_concat l with rfl | ⟨pre, c, rfl⟩
  · exact hsz
  · rw [List.concat_eq_append] at h1 ⊢
    rw [gapsL_snoc]
    exact h1 c (by simp)
/-- What a good list leaves of a size. -/
theorem rest_ok {l : List Xt} (hs : Sep l) (h0 : ∀ x ∈ l, 0 ≤ x.1) {size : Int} (hsz : 0 ≤ size) (h1 : ∀ x ∈ l, x.1 + x.2 ≤ size) :
    Sep (restL l size) ∧ (∀ p, cov (restL l size) p ↔ 0 ≤ p ∧ p < size ∧ ¬ cov l p) ∧ (∀ x ∈ restL l size, 0 ≤ x.1 ∧ x.1 + x.2 ≤ size) ∧ tot l + tot (restL l size) = size ∧ (restL l size).length ≤ l.length + 1 := by
  have h := gaps_all hs h0
  have ha := gaps_at hs size hsz h1
  have hnn := h.nn
  have hin : ∀ p, cov l p → p < size := fun p ⟨x, hx, h2, h3⟩ => by have := h1 x hx; omega
  rw [restL_eq]
  split
  · rename_i hlt
    refine ⟨sep_snoc.mpr ⟨h.sep, by simp only []; omega, fun y hy => by have := h.ends y hy; omega⟩, fun p => ?_, fun y hy => ?_, by rw [tot_snoc]; have := h.total; simp only []; omega, by have := h.len; simp; omega⟩
    · rw [cov_append, cov_cons, cov_nil, h.cv]
      simp only [or_false]
      constructor
      · rintro (⟨q1, q2, q3⟩ | ⟨q1, q2⟩)
        · exact ⟨q1, by omega, q3⟩
        · exact ⟨by omega, by omega, fun hc => by have := h.below _ hc; omega⟩
      · rintro ⟨q1, q2, q3⟩
        rcases Int.lt_or_le p (gapsL l).2 with hl | hg
        · exact .inl ⟨q1, hl, q3⟩
        · exact .inr ⟨hg, by omega⟩
    · rcases List.mem_append.mp hy with hy | hy
      · have := h.ends y hy; omega
      · simp at hy; subst hy; simp only []; omega
  · rename_i hge
    have he : (gapsL l).2 = size := by omega
    refine ⟨h.sep, fun p => ?_, fun y hy => by have := h.ends y hy; omega, by have := h.total; omega, by have := h.len; omega⟩
    rw [h.cv, he]

/-! ### taking -/
def takeK (l : List Xt) (n : Int) (i : Nat) : List Xt := l.take i ++ (if n < (l.getD i (0, 0)).2 then [((l.getD i (0, 0)).1 + n, (l.getD i (0, 0)).2 - n)] else []) ++ l.drop (i + 1)
theorem split_at {l : List Xt} {i : Nat} (hi : i < l.length) : l = l.take i ++ [l[i]] ++ l.drop (i + 1) := by
  rw [List.append_assoc]
  simp
theorem sep_mid {a b : List Xt} {x : Xt} (h : Sep (a ++ [x] ++ b)) {ys : List Xt} (hy : Sep ys) (hin : ∀ y ∈ ys, x.1 ≤ y.1 ∧ y.1 + y.2 ≤ x.1 + x.2) : Sep (a ++ ys ++ b) := by
  obtain ⟨h1, h2⟩ := h
  rw [List.append_assoc, List.pairwise_append, List.pairwise_append] at h1
  obtain ⟨p1, ⟨p2, p3, p4⟩, p5⟩ := h1
  refine ⟨?_, fun y hy2 => ?_⟩
  · rw [List.append_assoc, List.pairwise_append, List.pairwise_append]
    refine ⟨p1, ⟨hy.1, p3, fun y hy2 z hz => ?_⟩, fun y hy2 z hz => ?_⟩
    · have := p4 x (by simp) z hz; have := hin y hy2; omega
    · rcases List.mem_append.mp hz with hz | hz
      · have := p5 y hy2 x (by simp); have := hin z hz; omega
      · exact p5 y hy2 z (by simp [hz])
  · simp only [List.mem_append] at hy2
    rcases hy2 with (hy2 | hy2) | hy2
    · exact h2 y (by simp [hy2])
    · exact hy.2 y hy2
    · exact h2 y (by simp [hy2])
theorem take_ok {l : List Xt} (hs : Sep l) {n : Int} (hn : 1 ≤ n) {i : Nat} (hi : i < l.length) (hb : n ≤ l[i].2) :
    Sep (takeK l n i) ∧ (∀ p, cov l p ↔ cov (takeK l n i) p ∨ (l[i].1 ≤ p ∧ p < l[i].1 + n)) ∧ (∀ p, cov (takeK l n i) p → ¬ (l[i].1 ≤ p ∧ p < l[i].1 + n)) ∧
      (∀ x ∈ takeK l n i, ∃ y ∈ l, y.1 ≤ x.1 ∧ x.1 + x.2 ≤ y.1 + y.2) ∧ tot (takeK l n i) + n = tot l ∧ (takeK l n i).length ≤ l.length := by
  have hg : l.getD i (0, 0) = l[i] := by simp [List.getD, List.getElem?_eq_getElem hi]
  unfold takeK
  rw [hg]
  have hsp := split_at hi
  have hs' := hs
  generalize hx : l[i] = x at *
  generalize hys : (if n < x.2 then [((x.1 + n, x.2 - n) : Xt)] else []) = ys
  have hl : ∀ y ∈ ys, x.1 + n ≤ y.1 ∧ y.1 + y.2 ≤ x.1 + x.2 ∧ 0 < y.2 := by
    intro y hy
    rw [← hys] at hy
    split at hy
    · simp at hy; subst hy; simp only []; omega
    · simp at hy
  have hyS : Sep ys := by
    rw [← hys]; split
    · exact ⟨List.pairwise_singleton _ _, fun y hy => by simp at hy; subst hy; simp only []; omega⟩
    · exact sep_nil
  have hyc : ∀ p, cov ys p ↔ x.1 + n ≤ p ∧ p < x.1 + x.2 := by
    intro p
    rw [← hys]; split
    · rw [cov_cons, cov_nil]; simp only [or_false]
      have : x.1 + n + (x.2 - n) = x.1 + x.2 := by omega
      rw [this]
    · rw [cov_nil]; simp; omega
  have hyt : tot ys + n = x.2 := by
    rw [← hys]; split
    · simp [tot]
    · simp [tot]; omega
  have hyl : ys.length ≤ 1 := by rw [← hys]; split <;> simp
  generalize l.take i = a at *
  generalize l.drop (i + 1) = b at *
  subst hsp
  obtain ⟨h1, h2⟩ := hs
  rw [List.append_assoc, List.pairwise_append, List.pairwise_append] at h1
  obtain ⟨p1, ⟨p2, p3, p4⟩, p5⟩ := h1
  refine ⟨sep_mid hs' hyS fun y hy => by have := hl y hy; omega, fun p => ?_, fun p hp => ?_, fun y hy => ?_, ?_, by simp; omega⟩
  · rw [cov_append, cov_append, cov_append, cov_append, hyc, cov_cons, cov_nil]
    constructor
    · rintro ((h | h | h) | h)
      · exact .inl (.inl (.inl h))
      · rcases Int.lt_or_le p (x.1 + n) with hq | hq
        · exact .inr ⟨h.1, hq⟩
        · exact .inl (.inl (.inr ⟨hq, h.2⟩))
      · exact h.elim
      · exact .inl (.inr h)
    · rintro (((h | h) | h) | h)
      · exact .inl (.inl h)
      · exact .inl (.inr (.inl (by omega)))
      · exact .inr h
      · exact .inl (.inr (.inl (by omega)))
  · rw [cov_append, cov_append, hyc] at hp
    rcases hp with (⟨y, hy, h3, h4⟩ | h) | ⟨y, hy, h3, h4⟩
    · have := p5 y hy x (by simp); omega
    · omega
    · have := p4 x (by simp) y hy; omega
  · simp only [List.mem_append] at hy
    rcases hy with (hy | hy) | hy
    · exact ⟨y, by simp [hy], Int.le_refl _, Int.le_refl _⟩
    · exact ⟨x, by simp, by have := hl y hy; omega⟩
    · exact ⟨y, by simp [hy], Int.le_refl _, Int.le_refl _⟩
  · rw [tot_app, tot_app, tot_app, tot_app]
    have : tot [x] = x.2 := by simp [tot]
    omega

/-! ### how much there is -/
def sumStep (n : Int) (x : Xt) : Int := if mayP x then min (n + x.2) 4611686018427387904 else n
def sumL (l : List Xt) : Int := l.foldl sumStep 0
theorem sumL_snoc (l : List Xt) (x : Xt) : sumL (l ++ [x]) = sumStep (sumL l) x := by simp [sumL, List.foldl_append]
theorem sumL_bound : ∀ l : List Xt, 0 ≤ sumL l ∧ sumL l ≤ 4611686018427387904 := by
  intro l
  suffices h : ∀ (l : List Xt) (n : Int), 0 ≤ n → n ≤ 4611686018427387904 → 0 ≤ l.foldl sumStep n ∧ l.foldl sumStep n ≤ 4611686018427387904 from h l 0 (by omega) (by omega)
  intro l
  induction l with
  | nil => intro n h1 h2; exact ⟨h1, h2⟩
  | cons x l ih =>
    intro n h1 h2
    rw [List.foldl_cons]
    unfold sumStep
    split
    · rename_i hm
      unfold mayP at hm
      exact ih _ (by omega) (by omega)
    · exact ih _ h1 h2
theorem sumL_tot (l : List Xt) (hl : ∀ x ∈ l, mayP x) (hn : l.length ≤ 1048576) : sumL l = tot l := by
  suffices h : ∀ (k : Nat), k ≤ l.length → sumL (l.take k) = tot (l.take k) ∧ 0 ≤ tot (l.take k) ∧ tot (l.take k) ≤ (k : Int) * 4194304 by
    have := (h l.length (Nat.le_refl _)).1
    rwa [List.take_length] at this
  intro k
  induction k with
  | zero => intro _; simp [sumL, tot]
  | succ k ih =>
    intro hk
    obtain ⟨i1, i2, i3⟩ := ih (by omega)
    have hlt : k < l.length := hk
    have hm := hl _ (List.getElem_mem hlt)
    rw [List.take_add_one, List.getElem?_eq_getElem hlt, Option.toList_some, sumL_snoc, tot_snoc, i1, sumStep, if_pos hm]
    unfold mayP at hm
    have : (k : Int) ≤ 1048576 := by omega
    refine ⟨?_, by omega, ?_⟩
    · have : tot (l.take k) + l[k].2 ≤ 4611686018427387904 := by omega
      omega
    · have : ((k + 1 : Nat) : Int) * 4194304 = (k : Int) * 4194304 + 4194304 := by omega
      omega
end Go.Proofs.YtcgapkepbnbabaaDoor.X5
