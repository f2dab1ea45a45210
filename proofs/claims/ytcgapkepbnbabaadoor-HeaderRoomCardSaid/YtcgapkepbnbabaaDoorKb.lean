/- Extents as plain data, on: the reference's order and joining, whether two meet. -/
import Derived.Test.YtcgapkepbnbabaaDoorKa
namespace Go.Proofs.YtcgapkepbnbabaaDoor.X5
set_option linter.unusedVariables false
set_option linter.unusedSimpArgs false

/-- The reference joins and passes over those without bytes. -/
def rstep (out : List Xt) (x : Xt) : List Xt := if x.2 = 0 then out else jstep out x
def rjoin (d : List Xt) : List Xt := d.foldl rstep []
theorem rjoin_snoc (d : List Xt) (x : Xt) : rjoin (d ++ [x]) = rstep (rjoin d) x := by simp [rjoin, List.foldl_append]
theorem rfold_eq : ∀ (d out : List Xt), d.foldl rstep out = (d.filter posP).foldl jstep out
  | [], _ => rfl
  | x :: d, out => by
    rw [List.foldl_cons, rfold_eq d]
    by_cases h : x.2 = 0
    · simp [rstep, posP, h]
    · simp [rstep, posP, h]
theorem rjoin_eq (d : List Xt) : rjoin d = joinL (d.filter posP) := rfold_eq d []
theorem asc_filter {d : List Xt} (p : Xt → Bool) (h : Asc d) : Asc (d.filter p) := List.Pairwise.filter p h
theorem isJoin_of_rjoin {l d : List Xt} (hl : ∀ x ∈ l, 0 ≤ x.2) (hperm : d.Perm l) (ha : Asc d) : IsJoin l (rjoin d) ∧ (rjoin d).length ≤ l.length := by
  rw [rjoin_eq]
  exact isJoin_of_sorted hl (hperm.filter posP) (asc_filter posP ha)

/-- One more extent takes its place behind those that do not begin behind it. -/
def insK (out : List Xt) (x : Xt) (k : Nat) : List Xt := out.take k ++ [x] ++ out.drop k
theorem insK_perm (out : List Xt) (x : Xt) (k : Nat) : (insK out x k).Perm (out ++ [x]) := by
  unfold insK
  have h : (out.take k ++ [x] ++ out.drop k).Perm (out.take k ++ out.drop k ++ [x]) := by
    rw [List.append_assoc, List.append_assoc]
    exact List.Perm.append_left _ List.perm_append_comm
  rwa [List.take_append_drop] at h
theorem insK_asc {out : List Xt} {x : Xt} {k : Nat} (ha : Asc out) (h1 : ∀ y ∈ out.drop k, x.1 < y.1) (h2 : k = 0 ∨ ∃ y, out[k - 1]? = some y ∧ y.1 ≤ x.1) (hk : k ≤ out.length) : Asc (insK out x k) := by
  unfold insK Asc
  have hsub1 : Asc (out.take k) := ha.sublist (List.take_sublist _ _)
  have hsub2 : Asc (out.drop k) := ha.sublist (List.drop_sublist _ _)
  have hle : ∀ y ∈ out.take k, y.1 ≤ x.1 := by
    intro y hy
    rcases h2 with rfl | ⟨z, hz, hzx⟩
    · simp at hy
    · obtain ⟨i, hi, rfl⟩ := List.mem_iff_getElem.mp hy
      rw [List.length_take] at hi
      rw [List.getElem_take]
      obtain ⟨hk1, hz1⟩ := List.getElem?_eq_some_iff.mp hz
      rcases Nat.lt_or_ge i (k - 1) with hl | hg
      · have := List.pairwise_iff_getElem.mp ha i (k - 1) (by omega) hk1 hl
        rw [hz1] at this
        omega
      · have : i = k - 1 := by omega
        subst this
        rw [hz1]; exact hzx
  have hcross : ∀ y ∈ out.take k, ∀ z ∈ out.drop k, y.1 ≤ z.1 := fun y hy z hz => by
    have := hle y hy; have := h1 z hz; omega
  refine List.pairwise_append.mpr ⟨List.pairwise_append.mpr ⟨hsub1, List.pairwise_singleton _ _, fun y hy z hz => ?_⟩, hsub2, fun y hy z hz => ?_⟩
  · simp at hz; subst hz; exact hle y hy
  · rcases List.mem_append.mp hy with hy | hy
    · exact hcross y hy z hz
    · simp at hy; subst hy; have := h1 z hz; omega

/-- Have two extents a byte in common? -/
def com (x y : Xt) : Prop := max x.1 y.1 < min (x.1 + x.2) (y.1 + y.2)
instance (x y : Xt) : Decidable (com x y) := by unfold com; exact inferInstance
theorem com_symm {x y : Xt} (h : com x y) : com y x := by unfold com at *; omega
def noMeet (l : List Xt) : Prop := l.Pairwise fun a b => ¬ (mayP a ∧ mayP b ∧ com a b)
def okP (x : Xt) : Bool := decide (mayP x) && !decide (x.2 = 0)
theorem okP_iff (x : Xt) : okP x = true ↔ mayP x ∧ x.2 ≠ 0 := by simp [okP]
theorem noMeet_filter (l : List Xt) : noMeet l ↔ (l.filter okP).Pairwise fun a b => ¬ com a b := by
  rw [List.pairwise_filter]
  unfold noMeet
  constructor
  · intro h
    exact h.imp fun {a b} h1 ha hb hc => h1 ⟨((okP_iff a).mp ha).1, ((okP_iff b).mp hb).1, hc⟩
  · intro h
    refine h.imp fun {a b} h1 h2 => ?_
    obtain ⟨ha, hb, hc⟩ := h2
    refine h1 ((okP_iff a).mpr ⟨ha, ?_⟩) ((okP_iff b).mpr ⟨hb, ?_⟩) hc
    · unfold com at hc; unfold mayP at ha hb; omega
    · unfold com at hc; unfold mayP at ha hb; omega
theorem chain_pair : ∀ (d : List Xt), (∀ x ∈ d, 0 < x.2) → (∀ i (h : i + 1 < d.length), d[i].1 + d[i].2 ≤ d[i + 1].1) → d.Pairwise fun a b => a.1 + a.2 ≤ b.1
  | [], _, _ => List.Pairwise.nil
  | [x], _, _ => List.pairwise_singleton _ _
  | x :: y :: d, hp, h => by
    have ih := chain_pair (y :: d) (fun z hz => hp z (List.mem_cons_of_mem _ hz)) (fun i hi => by have := h (i + 1) (by simp at hi ⊢; omega); simpa using this)
    refine List.pairwise_cons.mpr ⟨fun z hz => ?_, ih⟩
    have h0 := h 0 (by simp)
    simp at h0
    rcases List.mem_cons.mp hz with rfl | hz
    · exact h0
    · have := (List.pairwise_cons.mp ih).1 z hz
      have := hp y (by simp)
      omega
theorem adj_iff {l d : List Xt} (hperm : d.Perm (l.filter okP)) (ha : Asc d) : (∀ i (h : i + 1 < d.length), d[i].1 + d[i].2 ≤ d[i + 1].1) ↔ noMeet l := by
  have hp : ∀ x ∈ d, 0 < x.2 := fun x hx => by
    obtain ⟨_, h2⟩ := List.mem_filter.mp (hperm.mem_iff.mp hx)
    have := (okP_iff x).mp h2
    unfold mayP at this
    omega
  rw [noMeet_filter, ← hperm.pairwise_iff (fun {a b} h hc => h (com_symm hc))]
  constructor
  · intro h
    exact (chain_pair d hp h).imp fun {a b} h1 hc => by unfold com at hc; omega
  · intro h i hi
    have h1 := List.pairwise_iff_getElem.mp h i (i + 1) (by omega) hi (by omega)
    have h2 := List.pairwise_iff_getElem.mp ha i (i + 1) (by omega) hi (by omega)
    have h3 := hp _ (List.getElem_mem (show i < d.length by omega))
    have h4 := hp _ (List.getElem_mem hi)
    unfold com at h1
    omega

/-! ### a good list -/
theorem good_sep (size : Int) : ∀ (l : List Xt) (b : Int), goodFrom size b l → Sep l ∧ (∀ x ∈ l, mayP x ∧ x.1 + x.2 ≤ size ∧ b < x.1)
  | [], _, _ => ⟨sep_nil, by simp⟩
  | x :: l, b, h => by
    obtain ⟨⟨h1, h2, h3, h4⟩, h5⟩ := h
    obtain ⟨i1, i2⟩ := good_sep size l _ h5
    have hx : 0 < x.2 := by unfold mayP at h1; omega
    refine ⟨sep_cons.mpr ⟨fun y hy => (i2 y hy).2.2, hx, i1⟩, fun y hy => ?_⟩
    rcases List.mem_cons.mp hy with rfl | hy
    · exact ⟨h1, h4, h3⟩
    · have := i2 y hy
      exact ⟨this.1, this.2.1, by omega⟩
theorem sep_good (size : Int) : ∀ (l : List Xt) (b : Int), Sep l → (∀ x ∈ l, mayP x ∧ x.1 + x.2 ≤ size) → (∀ x ∈ l, b < x.1) → goodFrom size b l
  | [], _, _, _, _ => trivial
  | x :: l, b, hs, hm, hb => by
    obtain ⟨h1, h2, h3⟩ := sep_cons.mp hs
    exact ⟨⟨(hm x (by simp)).1, by omega, hb x (by simp), (hm x (by simp)).2⟩, sep_good size l _ h3 (fun y hy => hm y (by simp [hy])) h1⟩
theorem goodP_iff (l : List Xt) (size : Int) : goodP l size ↔ 0 ≤ size ∧ size ≤ 4194304 ∧ l.length ≤ 65536 ∧ Sep l ∧ ∀ x ∈ l, mayP x ∧ x.1 + x.2 ≤ size := by
  unfold goodP
  constructor
  · rintro ⟨h1, h2, h3, h4⟩
    obtain ⟨i1, i2⟩ := good_sep size l _ h4
    exact ⟨h1, h2, h3, i1, fun x hx => ⟨(i2 x hx).1, (i2 x hx).2.1⟩⟩
  · rintro ⟨h1, h2, h3, h4, h5⟩
    exact ⟨h1, h2, h3, sep_good size l _ h4 h5 fun x hx => by have := (h5 x hx).1; unfold mayP at this; omega⟩
/-- What is joined lies within what bounds all. -/
theorem joined_within {l out : List Xt} {lo hi : Int} (h : IsJoin l out) (hl : ∀ x ∈ l, 0 < x.2 → lo ≤ x.1 ∧ x.1 + x.2 ≤ hi) : ∀ c ∈ out, lo ≤ c.1 ∧ c.1 + c.2 ≤ hi := by
  intro c hc
  have hp := h.1.2 c hc
  obtain ⟨x, hx, h1, h2⟩ := (h.2 c.1).mp ⟨c, hc, by omega, by omega⟩
  obtain ⟨y, hy, h3, h4⟩ := (h.2 (c.1 + c.2 - 1)).mp ⟨c, hc, by omega, by omega⟩
  have := hl x hx (by omega)
  have := hl y hy (by omega)
  omega
theorem joined_may {l out : List Xt} (h : IsJoin l out) (hl : ∀ x ∈ l, mayP x) : ∀ c ∈ out, mayP c ∧ 0 < c.2 := by
  intro c hc
  have h1 := joined_within h (lo := 0) (hi := 4194304) (fun x hx _ => by have := hl x hx; unfold mayP at this; omega) c hc
  have h2 := h.1.2 c hc
  unfold mayP
  omega
theorem isJoin_self {l : List Xt} (h : Sep l) : IsJoin l l := ⟨h, fun _ => Iff.rfl⟩
end Go.Proofs.YtcgapkepbnbabaaDoor.X5
