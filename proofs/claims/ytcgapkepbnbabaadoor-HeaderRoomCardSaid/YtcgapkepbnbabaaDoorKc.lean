/- Extents as plain data, on: what is left of a size, what is taken, what is given, how much there is. -/
import Derived.Test.YtcgapkepbnbabaaDoorKb
namespace Go.Proofs.YtcgapkepbnbabaaDoor.X5
set_option linter.unusedVariables false
set_option linter.unusedSimpArgs false

/-! ### what is left -/
def gstep (s : List Xt × Int) (x : Xt) : List Xt × Int := (if s.2 < x.1 then s.1 ++ [(s.2, x.1 - s.2)] else s.1, x.1 + x.2)
def gapsL (l : List Xt) : List Xt × Int := l.foldl gstep ([], 0)
def restL (l : List Xt) (size : Int) : List Xt := (gapsL (l ++ [(size, 0)])).1
theorem gapsL_snoc (l : List Xt) (x : Xt) : gapsL (l ++ [x]) = gstep (gapsL l) x := by simp [gapsL, List.foldl_append]
theorem restL_eq (l : List Xt) (size : Int) : restL l size = if (gapsL l).2 < size then (gapsL l).1 ++ [((gapsL l).2, size - (gapsL l).2)] else (gapsL l).1 := by
  rw [restL, gapsL_snoc, gstep]
def tot (l : List Xt) : Int := (l.map (·.2)).sum
theorem tot_snoc (l : List Xt) (x : Xt) : tot (l ++ [x]) = tot l + x.2 := by simp [tot]
theorem tot_cons (l : List Xt) (x : Xt) : tot (x :: l) = x.2 + tot l := by simp [tot]
theorem tot_app (a b : List Xt) : tot (a ++ b) = tot a + tot b := by simp [tot]

structure GapInv (pre out : List Xt) (at_ : Int) : Prop where
  nn : 0 ≤ at_
  sep : Sep out
  ends : ∀ x ∈ out, 0 ≤ x.1 ∧ x.1 + x.2 < at_
  cv : ∀ p, cov out p ↔ 0 ≤ p ∧ p < at_ ∧ ¬ cov pre p
  below : ∀ p, cov pre p → p < at_
  total : tot pre + tot out = at_
  len : out.length ≤ pre.length
theorem GapInv.step {pre out : List Xt} {a : Int} (h : GapInv pre out a) {x : Xt} (hx : 0 < x.2) (hax : a ≤ x.1) : GapInv (pre ++ [x]) (gstep (out, a) x).1 (x.1 + x.2) := by
  have hnn := h.nn
  have key : ∀ p, (cov out p ∨ (a ≤ p ∧ p < x.1)) ↔ 0 ≤ p ∧ p < x.1 + x.2 ∧ ¬ cov (pre ++ [x]) p := by
    intro p
    rw [cov_append, cov_cons, cov_nil, h.cv]
    constructor
    · rintro (⟨h1, h2, h3⟩ | ⟨h1, h2⟩)
      · exact ⟨h1, by omega, fun hc => by rcases hc with hc | hc | hc; (exact h3 hc); (omega); (exact hc)⟩
      · exact ⟨by omega, by omega, fun hc => by rcases hc with hc | hc | hc; (have := h.below _ hc; omega); (omega); (exact hc)⟩
    · rintro ⟨h1, h2, h3⟩
      have h4 : ¬ (x.1 ≤ p ∧ p < x.1 + x.2) := fun hc => h3 (.inr (.inl hc))
      rcases Int.lt_or_le p a with hl | hg
      · exact .inl ⟨h1, hl, fun hc => h3 (.inl hc)⟩
      · exact .inr ⟨hg, by omega⟩
  have hb : ∀ p, cov (pre ++ [x]) p → p < x.1 + x.2 := by
    intro p hp
    rw [cov_append, cov_cons, cov_nil] at hp
    rcases hp with hp | hp | hp
    · have := h.below _ hp; omega
    · omega
    · exact hp.elim
  by_cases hlt : a < x.1
  · rw [show (gstep (out, a) x).1 = out ++ [(a, x.1 - a)] by simp [gstep, hlt]]
    refine ⟨by omega, sep_snoc.mpr ⟨h.sep, by simp only []; omega, fun y hy => by have := h.ends y hy; omega⟩, fun y hy => ?_, fun p => ?_, hb, ?_, by have := h.len; simp; omega⟩
    · rcases List.mem_append.mp hy with hy | hy
      · have := h.ends y hy; omega
      · simp at hy; subst hy; simp only []; omega
    · rw [← key, cov_append, cov_cons, cov_nil]
      simp only [or_false]
      have : a + (x.1 - a) = x.1 := by omega
      rw [this]
    · rw [tot_snoc, tot_snoc]; have := h.total; simp only []; omega
  · rw [show (gstep (out, a) x).1 = out by simp [gstep, hlt]]
    refine ⟨by omega, h.sep, fun y hy => by have := h.ends y hy; omega, fun p => ?_, hb, ?_, by have := h.len; simp; omega⟩
    · rw [← key]
      constructor
      · exact .inl
      · rintro (h1 | h1)
        · exact h1
        · omega
    · rw [tot_snoc]; have := h.total; omega
theorem gap_inv (l : List Xt) (hs : Sep l) (h0 : ∀ x ∈ l, 0 ≤ x.1) : ∀ n, n ≤ l.length → GapInv (l.take n) (gapsL (l.take n)).1 (gapsL (l.take n)).2 ∧ (∀ x ∈ l.drop n, (gapsL (l.take n)).2 ≤ x.1) := by
  intro n
  induction n with
  | zero =>
    intro _
    refine ⟨⟨Int.le_refl _, sep_nil, by simp [gapsL], fun p => ?_, fun p hp => by simp [cov] at hp, by simp [gapsL, tot], by simp [gapsL]⟩, fun x hx => ?_⟩
    · simp only [gapsL, cov, List.take_zero, List.foldl_nil]; simp
    · simp [gapsL]; exact h0 x (by simpa using hx)
  | succ n ih =>
    intro hn
    obtain ⟨i1, i2⟩ := ih (by omega)
    have hlt : n < l.length := hn
    have hdrop : l.drop n = l[n] :: l.drop (n + 1) := List.drop_eq_getElem_cons hlt
    have hx := hs.2 _ (List.getElem_mem hlt)
    rw [List.take_add_one, List.getElem?_eq_getElem hlt, Option.toList_some, gapsL_snoc]
    refine ⟨i1.step hx (i2 _ (by rw [hdrop]; exact List.mem_cons_self)), fun y hy => ?_⟩
    have : Sep (l.drop n) := ⟨hs.1.sublist (List.drop_sublist _ _), fun z hz => hs.2 z (List.mem_of_mem_drop hz)⟩
    rw [hdrop] at this
    have := (sep_cons.mp this).1 y hy
    show l[n].1 + l[n].2 ≤ y.1
    omega
theorem gaps_all {l : List Xt} (hs : Sep l) (h0 : ∀ x ∈ l, 0 ≤ x.1) : GapInv l (gapsL l).1 (gapsL l).2 := by
  have := (gap_inv l hs h0 l.length (Nat.le_refl _)).1
  rwa [List.take_length] at this
theorem gaps_at {l : List Xt} (hs : Sep l) (size : Int) (hsz : 0 ≤ size) (h1 : ∀ x ∈ l, x.1 + x.2 ≤ size) : (gapsL l).2 ≤ size := by
  rcases List.eq_nil_or_concat l with rfl | ⟨pre, c, rfl⟩
  · exact hsz
  · rw [List.concat_eq_append] at h1 ⊢
    rw [gapsL_snoc]
    exact h1 c (by simp)
/-- What a good list leaves of a size. -/
theorem rest_ok {l : List Xt} (hs : Sep l) (h0 : ∀ x ∈ l, 0 ≤ x.1) {size : Int} (hsz : 0 ≤ size) (h1 : ∀ x ∈ l, x.1 + x.2 ≤ size) :
    Sep (restL l size) ∧ (∀ p, cov (restL l size) p ↔ 0 ≤ p ∧ p < size ∧ ¬ cov l p) ∧ (∀ x ∈ restL l size, 0 ≤ x.1 ∧ x.1 + x.2 ≤ size) ∧ tot l + tot (restL l size) = size ∧ (restL l size).length ≤ l.length + 1 := by
  have h := gaps_all hs h0
  have ha := gaps_at hs size hsz h1
  have hnn := h.nn
  have hin : ∀ p, cov l p → p < size := fun p ⟨x, hx, h2, h3⟩ => by have := h1 x hx; omega
  rw [restL_eq]
  split
  · rename_i hlt
    refine ⟨sep_snoc.mpr ⟨h.sep, by simp only []; omega, fun y hy => by have := h.ends y hy; omega⟩, fun p => ?_, fun y hy => ?_, by rw [tot_snoc]; have := h.total; simp only []; omega, by have := h.len; simp; omega⟩
    · rw [cov_append, cov_cons, cov_nil, h.cv]
      simp only [or_false]
      constructor
      · rintro (⟨q1, q2, q3⟩ | ⟨q1, q2⟩)
        · exact ⟨q1, by omega, q3⟩
        · exact ⟨by omega, by omega, fun hc => by have := h.below _ hc; omega⟩
      · rintro ⟨q1, q2, q3⟩
        rcases Int.lt_or_le p (gapsL l).2 with hl | hg
        · exact .inl ⟨q1, hl, q3⟩
        · exact .inr ⟨hg, by omega⟩
    · rcases List.mem_append.mp hy with hy | hy
      · have := h.ends y hy; omega
      · simp at hy; subst hy; simp only []; omega
  · rename_i hge
    have he : (gapsL l).2 = size := by omega
    refine ⟨h.sep, fun p => ?_, fun y hy => by have := h.ends y hy; omega, by have := h.total; omega, by have := h.len; omega⟩
    rw [h.cv, he]

/-! ### taking -/
def takeK (l : List Xt) (n : Int) (i : Nat) : List Xt := l.take i ++ (if n < (l.getD i (0, 0)).2 then [((l.getD i (0, 0)).1 + n, (l.getD i (0, 0)).2 - n)] else []) ++ l.drop (i + 1)
theorem split_at {l : List Xt} {i : Nat} (hi : i < l.length) : l = l.take i ++ [l[i]] ++ l.drop (i + 1) := by
  rw [List.append_assoc]
  simp
theorem sep_mid {a b : List Xt} {x : Xt} (h : Sep (a ++ [x] ++ b)) {ys : List Xt} (hy : Sep ys) (hin : ∀ y ∈ ys, x.1 ≤ y.1 ∧ y.1 + y.2 ≤ x.1 + x.2) : Sep (a ++ ys ++ b) := by
  obtain ⟨h1, h2⟩ := h
  rw [List.append_assoc, List.pairwise_append, List.pairwise_append] at h1
  obtain ⟨p1, ⟨p2, p3, p4⟩, p5⟩ := h1
  refine ⟨?_, fun y hy2 => ?_⟩
  · rw [List.append_assoc, List.pairwise_append, List.pairwise_append]
    refine ⟨p1, ⟨hy.1, p3, fun y hy2 z hz => ?_⟩, fun y hy2 z hz => ?_⟩
    · have := p4 x (by simp) z hz; have := hin y hy2; omega
    · rcases List.mem_append.mp hz with hz | hz
      · have := p5 y hy2 x (by simp); have := hin z hz; omega
      · exact p5 y hy2 z (by simp [hz])
  · simp only [List.mem_append] at hy2
    rcases hy2 with (hy2 | hy2) | hy2
    · exact h2 y (by simp [hy2])
    · exact hy.2 y hy2
    · exact h2 y (by simp [hy2])
theorem take_ok {l : List Xt} (hs : Sep l) {n : Int} (hn : 1 ≤ n) {i : Nat} (hi : i < l.length) (hb : n ≤ l[i].2) :
    Sep (takeK l n i) ∧ (∀ p, cov l p ↔ cov (takeK l n i) p ∨ (l[i].1 ≤ p ∧ p < l[i].1 + n)) ∧ (∀ p, cov (takeK l n i) p → ¬ (l[i].1 ≤ p ∧ p < l[i].1 + n)) ∧
      (∀ x ∈ takeK l n i, ∃ y ∈ l, y.1 ≤ x.1 ∧ x.1 + x.2 ≤ y.1 + y.2) ∧ tot (takeK l n i) + n = tot l ∧ (takeK l n i).length ≤ l.length := by
  have hg : l.getD i (0, 0) = l[i] := by simp [List.getD, List.getElem?_eq_getElem hi]
  unfold takeK
  rw [hg]
  have hsp := split_at hi
  have hs' := hs
  generalize hx : l[i] = x at *
  generalize hys : (if n < x.2 then [((x.1 + n, x.2 - n) : Xt)] else []) = ys
  have hl : ∀ y ∈ ys, x.1 + n ≤ y.1 ∧ y.1 + y.2 ≤ x.1 + x.2 ∧ 0 < y.2 := by
    intro y hy
    rw [← hys] at hy
    split at hy
    · simp at hy; subst hy; simp only []; omega
    · simp at hy
  have hyS : Sep ys := by
    rw [← hys]; split
    · exact ⟨List.pairwise_singleton _ _, fun y hy => by simp at hy; subst hy; simp only []; omega⟩
    · exact sep_nil
  have hyc : ∀ p, cov ys p ↔ x.1 + n ≤ p ∧ p < x.1 + x.2 := by
    intro p
    rw [← hys]; split
    · rw [cov_cons, cov_nil]; simp only [or_false]
      have : x.1 + n + (x.2 - n) = x.1 + x.2 := by omega
      rw [this]
    · rw [cov_nil]; simp; omega
  have hyt : tot ys + n = x.2 := by
    rw [← hys]; split
    · simp [tot]
    · simp [tot]; omega
  have hyl : ys.length ≤ 1 := by rw [← hys]; split <;> simp
  generalize l.take i = a at *
  generalize l.drop (i + 1) = b at *
  subst hsp
  obtain ⟨h1, h2⟩ := hs
  rw [List.append_assoc, List.pairwise_append, List.pairwise_append] at h1
  obtain ⟨p1, ⟨p2, p3, p4⟩, p5⟩ := h1
  refine ⟨sep_mid hs' hyS fun y hy => by have := hl y hy; omega, fun p => ?_, fun p hp => ?_, fun y hy => ?_, ?_, by simp; omega⟩
  · rw [cov_append, cov_append, cov_append, cov_append, hyc, cov_cons, cov_nil]
    constructor
    · rintro ((h | h | h) | h)
      · exact .inl (.inl (.inl h))
      · rcases Int.lt_or_le p (x.1 + n) with hq | hq
        · exact .inr ⟨h.1, hq⟩
        · exact .inl (.inl (.inr ⟨hq, h.2⟩))
      · exact h.elim
      · exact .inl (.inr h)
    · rintro (((h | h) | h) | h)
      · exact .inl (.inl h)
      · exact .inl (.inr (.inl (by omega)))
      · exact .inr h
      · exact .inl (.inr (.inl (by omega)))
  · rw [cov_append, cov_append, hyc] at hp
    rcases hp with (⟨y, hy, h3, h4⟩ | h) | ⟨y, hy, h3, h4⟩
    · have := p5 y hy x (by simp); omega
    · omega
    · have := p4 x (by simp) y hy; omega
  · simp only [List.mem_append] at hy
    rcases hy with (hy | hy) | hy
    · exact ⟨y, by simp [hy], Int.le_refl _, Int.le_refl _⟩
    · exact ⟨x, by simp, by have := hl y hy; omega⟩
    · exact ⟨y, by simp [hy], Int.le_refl _, Int.le_refl _⟩
  · rw [tot_app, tot_app, tot_app, tot_app]
    have : tot [x] = x.2 := by simp [tot]
    omega

/-! ### how much there is -/
def sumStep (n : Int) (x : Xt) : Int := if mayP x then min (n + x.2) 4611686018427387904 else n
def sumL (l : List Xt) : Int := l.foldl sumStep 0
theorem sumL_snoc (l : List Xt) (x : Xt) : sumL (l ++ [x]) = sumStep (sumL l) x := by simp [sumL, List.foldl_append]
theorem sumL_bound : ∀ l : List Xt, 0 ≤ sumL l ∧ sumL l ≤ 4611686018427387904 := by
  intro l
  suffices h : ∀ (l : List Xt) (n : Int), 0 ≤ n → n ≤ 4611686018427387904 → 0 ≤ l.foldl sumStep n ∧ l.foldl sumStep n ≤ 4611686018427387904 from h l 0 (by omega) (by omega)
  intro l
  induction l with
  | nil => intro n h1 h2; exact ⟨h1, h2⟩
  | cons x l ih =>
    intro n h1 h2
    rw [List.foldl_cons]
    unfold sumStep
    split
    · rename_i hm
      unfold mayP at hm
      exact ih _ (by omega) (by omega)
    · exact ih _ h1 h2
theorem sumL_tot (l : List Xt) (hl : ∀ x ∈ l, mayP x) (hn : l.length ≤ 1048576) : sumL l = tot l := by
  suffices h : ∀ (k : Nat), k ≤ l.length → sumL (l.take k) = tot (l.take k) ∧ 0 ≤ tot (l.take k) ∧ tot (l.take k) ≤ (k : Int) * 4194304 by
    have := (h l.length (Nat.le_refl _)).1
    rwa [List.take_length] at this
  intro k
  induction k with
  | zero => intro _; simp [sumL, tot]
  | succ k ih =>
    intro hk
    obtain ⟨i1, i2, i3⟩ := ih (by omega)
    have hlt : k < l.length := hk
    have hm := hl _ (List.getElem_mem hlt)
    rw [List.take_add_one, List.getElem?_eq_getElem hlt, Option.toList_some, sumL_snoc, tot_snoc, i1, sumStep, if_pos hm]
    unfold mayP at hm
    have : (k : Int) ≤ 1048576 := by omega
    refine ⟨?_, by omega, ?_⟩
    · have : tot (l.take k) + l[k].2 ≤ 4611686018427387904 := by omega
      omega
    · have : ((k + 1 : Nat) : Int) * 4194304 = (k : Int) * 4194304 + 4194304 := by omega
      omega
end Go.Proofs.YtcgapkepbnbabaaDoor.X5
