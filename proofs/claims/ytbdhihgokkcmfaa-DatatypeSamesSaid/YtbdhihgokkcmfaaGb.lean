/- slices.Clone: a row of the call's own. -/
import Derived.Test.YtbdhihgokkcmfaaEb
import Derived.Lib.SliceRun
namespace Go.Proofs.Ytbdhihgokkcmfaa.Ty9
set_option linter.unusedVariables false
set_option linter.unusedSimpArgs false
open Go.RowKit Wd

theorem wpList_copy {P : Program} {ops : Array Oper} {rest : List Oper} {o : Oper} {a : Act} {w : World} {Q : Exit → Act → World → Prop}
    (hg : o.guard = none) (s x : Operand) (t : TypeId) (hop : o.op = Op.call { callee := Callee.builtin Builtin.append, args := #[s, x], argTypes := #[t, t] })
    (e : TypeId) (i : TypeInfo) (z : Value) (size bytes : Nat) (h1 : P.underlying t = some (.slice e)) (h2 : P.info? e = some i) (h3 : i.zero = some z) (h4 : i.size = size) (h5 : i.bytes = bytes) (h6 : z.cells.size = size) (h7 : 0 < size)
    (A : Option Addr) (g m c : Nat) (hs : a.eval s = .slice (some ⟨g, 0, none⟩) 0 0) (hx : a.eval x = .slice A m c) (news : List Value) (hn : news.length = m * size)
    (hA : 0 < m → ∃ ad, A = some ad ∧ ∀ j u, news[j]? = some u → w.cell? (ad.add j) = some u) (h1c : ∀ u ∈ news, u.oneCell' = true) (b1 : m ≤ maxLen) (b2 : m * bytes ≤ 140737488355328)
    (hK : ∀ A' C' w', Copied w w' A' C' m news → wpList P ops Q rest (a.put o.dst (.slice A' m C')) w') : wpList P ops Q (o :: rest) a w := by
  refine wpList_plain hg fun K hKK => ?_
  obtain ⟨A', C', w', hrun, hcp⟩ := run_copy (P := P) w t o.type e i z size bytes h1 h2 h3 h4 h5 h6 h7 g A m c news hn hA h1c b1 b2
  unfold Oper.wp
  simp [execOp, hop, resolve, invoke, builtin, hs, hx, hrun, Result.andThen]
  exact hKK _ _ (hK A' C' w' hcp)
theorem Copied.back {w w' : World} {o : Obj} {A' : Option Addr} {C' m : Nat} {news : List Value} (h : Copied (w.alloc o) w' A' C' m news) : Copied w w' A' C' m news := by
  refine ⟨below_more (below_new w o) h.be, h.cap, h.fz, fun hm => ?_⟩
  obtain ⟨g, q1, q2, q3, q4⟩ := h.row hm
  exact ⟨g, q1, by rw [size_alloc] at q2; omega, q3, q4⟩
theorem cell_none (w : World) (p : Addr) (h : w.heap.size ≤ p.block) : w.cell? p = none := by
  unfold World.cell?
  rw [Array.getElem?_eq_none h]
set_option maxRecDepth 100000 in
theorem clone_F (w : World) (A : Option Addr) (n c : Nat) (news : List Value) (hn : news.length = n * 9) (hA : 0 < n → ∃ ad, A = some ad ∧ ∀ j u, news[j]? = some u → w.cell? (ad.add j) = some u) (h1c : ∀ u ∈ news, u.oneCell' = true) (b1 : n ≤ maxLen) (b2 : n * 144 ≤ 140737488355328) :
    Calls Try.prog 60 #[.slice A n c] w fun e w' => ∃ A' C', e = .returned (.slice A' n C') ∧ Copied w w' A' C' n news := by
  obtain ⟨i0, hi0, hz0, hz1, hz2⟩ := info_parts field_info
  have qn : ∀ (w : World) (a : Option Addr) (n c n' c' : Nat), (binOp .eql 23 (.slice a n c) (.slice none n' c')).run Try.prog w = .ok (.bool a.isNone) w := fun w a n c n' c' => Lib.run_eql_slice_nil w _ _ a n c n' c' Try.underlying23
  rcases A with _ | ad
  · have hn0 : n = 0 := by
      rcases Nat.eq_zero_or_pos n with h | h
      · exact h
      · obtain ⟨ad, h1, _⟩ := hA h; cases h1
    subst hn0
    obtain rfl : news = [] := List.eq_nil_of_length_eq_zero (by simpa using hn)
    clear hA
    go_enter Try.func60, Try.ntmps60
    go_wp2
    go_ret
    exact ⟨_, _, rfl, Below.refl _ _, Nat.le_refl _, fun _ h => absurd h (Nat.lt_irrefl _), fun h => absurd h (Nat.lt_irrefl _)⟩
  · have HA := Lib.hid (show 0 < n → ∃ ad', some ad = some ad' ∧ ∀ j u, news[j]? = some u → (w.alloc (.cells #[] 66)).cell? (ad'.add j) = some u from fun h => by
      obtain ⟨ad', h1, h2⟩ := hA h
      refine ⟨ad', h1, fun j u hu => ?_⟩
      have h3 := h2 j u hu
      have hb : (ad'.add j).block < w.heap.size := by
        rcases Nat.lt_or_ge (ad'.add j).block w.heap.size with h4 | h4
        · exact h4
        · exact absurd h3 (by rw [cell_none w (ad'.add j) h4]; simp)
      exact ((below_new w _).cell hb).trans h3)
    clear hA
    go_enter Try.func60, Try.ntmps60
    go_wp2_with (at_builtin; refine wpList_copy rfl (.tmp 5) (.tmp 6) 23 rfl 66 i0 (.agg #[.string ⟨#[]⟩, .int .i64 0, .int .i64 0, .int .i64 0, .bool false, .slice none 0 0, .slice none 0 0, .slice none 0 0, .slice none 0 0]) 9 144 Try.underlying23 hi0 hz0 hz1 hz2 rfl (by decide) (some ad) _ n c rfl rfl news hn HA.out h1c b1 b2 ?_; intro A2 C2 w2 hcp)
    go_ret
    exact ⟨_, _, rfl, hcp.back⟩

set_option maxRecDepth 100000 in
theorem clone_D (w : World) (A : Option Addr) (n c : Nat) (news : List Value) (hn : news.length = n * 1) (hA : 0 < n → ∃ ad, A = some ad ∧ ∀ j u, news[j]? = some u → w.cell? (ad.add j) = some u) (h1c : ∀ u ∈ news, u.oneCell' = true) (b1 : n ≤ maxLen) (b2 : n * 8 ≤ 140737488355328) :
    Calls Try.prog 61 #[.slice A n c] w fun e w' => ∃ A' C', e = .returned (.slice A' n C') ∧ Copied w w' A' C' n news := by
  obtain ⟨i0, hi0, hz0, hz1, hz2⟩ := info_parts int_info
  have qn : ∀ (w : World) (a : Option Addr) (n c n' c' : Nat), (binOp .eql 24 (.slice a n c) (.slice none n' c')).run Try.prog w = .ok (.bool a.isNone) w := fun w a n c n' c' => Lib.run_eql_slice_nil w _ _ a n c n' c' Try.underlying24
  rcases A with _ | ad
  · have hn0 : n = 0 := by
      rcases Nat.eq_zero_or_pos n with h | h
      · exact h
      · obtain ⟨ad, h1, _⟩ := hA h; cases h1
    subst hn0
    obtain rfl : news = [] := List.eq_nil_of_length_eq_zero (by simpa using hn)
    clear hA
    go_enter Try.func61, Try.ntmps61
    go_wp2
    go_ret
    exact ⟨_, _, rfl, Below.refl _ _, Nat.le_refl _, fun _ h => absurd h (Nat.lt_irrefl _), fun h => absurd h (Nat.lt_irrefl _)⟩
  · have HA := Lib.hid (show 0 < n → ∃ ad', some ad = some ad' ∧ ∀ j u, news[j]? = some u → (w.alloc (.cells #[] 3)).cell? (ad'.add j) = some u from fun h => by
      obtain ⟨ad', h1, h2⟩ := hA h
      refine ⟨ad', h1, fun j u hu => ?_⟩
      have h3 := h2 j u hu
      have hb : (ad'.add j).block < w.heap.size := by
        rcases Nat.lt_or_ge (ad'.add j).block w.heap.size with h4 | h4
        · exact h4
        · exact absurd h3 (by rw [cell_none w (ad'.add j) h4]; simp)
      exact ((below_new w _).cell hb).trans h3)
    clear hA
    go_enter Try.func61, Try.ntmps61
    go_wp2_with (at_builtin; refine wpList_copy rfl (.tmp 5) (.tmp 6) 24 rfl 3 i0 (.int .i64 0) 1 8 Try.underlying24 hi0 hz0 hz1 hz2 rfl (by decide) (some ad) _ n c rfl rfl news hn HA.out h1c b1 b2 ?_; intro A2 C2 w2 hcp)
    go_ret
    exact ⟨_, _, rfl, hcp.back⟩

set_option maxRecDepth 100000 in
theorem clone_B (w : World) (A : Option Addr) (n c : Nat) (news : List Value) (hn : news.length = n * 7) (hA : 0 < n → ∃ ad, A = some ad ∧ ∀ j u, news[j]? = some u → w.cell? (ad.add j) = some u) (h1c : ∀ u ∈ news, u.oneCell' = true) (b1 : n ≤ maxLen) (b2 : n * 120 ≤ 140737488355328) :
    Calls Try.prog 62 #[.slice A n c] w fun e w' => ∃ A' C', e = .returned (.slice A' n C') ∧ Copied w w' A' C' n news := by
  obtain ⟨i0, hi0, hz0, hz1, hz2⟩ := info_parts type_info
  have qn : ∀ (w : World) (a : Option Addr) (n c n' c' : Nat), (binOp .eql 25 (.slice a n c) (.slice none n' c')).run Try.prog w = .ok (.bool a.isNone) w := fun w a n c n' c' => Lib.run_eql_slice_nil w _ _ a n c n' c' Try.underlying25
  rcases A with _ | ad
  · have hn0 : n = 0 := by
      rcases Nat.eq_zero_or_pos n with h | h
      · exact h
      · obtain ⟨ad, h1, _⟩ := hA h; cases h1
    subst hn0
    obtain rfl : news = [] := List.eq_nil_of_length_eq_zero (by simpa using hn)
    clear hA
    go_enter Try.func62, Try.ntmps62
    go_wp2
    go_ret
    exact ⟨_, _, rfl, Below.refl _ _, Nat.le_refl _, fun _ h => absurd h (Nat.lt_irrefl _), fun h => absurd h (Nat.lt_irrefl _)⟩
  · have HA := Lib.hid (show 0 < n → ∃ ad', some ad = some ad' ∧ ∀ j u, news[j]? = some u → (w.alloc (.cells #[] 28)).cell? (ad'.add j) = some u from fun h => by
      obtain ⟨ad', h1, h2⟩ := hA h
      refine ⟨ad', h1, fun j u hu => ?_⟩
      have h3 := h2 j u hu
      have hb : (ad'.add j).block < w.heap.size := by
        rcases Nat.lt_or_ge (ad'.add j).block w.heap.size with h4 | h4
        · exact h4
        · exact absurd h3 (by rw [cell_none w (ad'.add j) h4]; simp)
      exact ((below_new w _).cell hb).trans h3)
    clear hA
    go_enter Try.func62, Try.ntmps62
    go_wp2_with (at_builtin; refine wpList_copy rfl (.tmp 5) (.tmp 6) 25 rfl 28 i0 (.agg #[.int .i64 0, .int .i64 0, .bool false, .slice none 0 0, .slice none 0 0, .slice none 0 0, .slice none 0 0]) 7 120 Try.underlying25 hi0 hz0 hz1 hz2 rfl (by decide) (some ad) _ n c rfl rfl news hn HA.out h1c b1 b2 ?_; intro A2 C2 w2 hcp)
    go_ret
    exact ⟨_, _, rfl, hcp.back⟩

set_option maxRecDepth 100000 in
theorem clone_N (w : World) (A : Option Addr) (n c : Nat) (news : List Value) (hn : news.length = n * 2) (hA : 0 < n → ∃ ad, A = some ad ∧ ∀ j u, news[j]? = some u → w.cell? (ad.add j) = some u) (h1c : ∀ u ∈ news, u.oneCell' = true) (b1 : n ≤ maxLen) (b2 : n * 24 ≤ 140737488355328) :
    Calls Try.prog 63 #[.slice A n c] w fun e w' => ∃ A' C', e = .returned (.slice A' n C') ∧ Copied w w' A' C' n news := by
  obtain ⟨i0, hi0, hz0, hz1, hz2⟩ := info_parts member_info
  have qn : ∀ (w : World) (a : Option Addr) (n c n' c' : Nat), (binOp .eql 26 (.slice a n c) (.slice none n' c')).run Try.prog w = .ok (.bool a.isNone) w := fun w a n c n' c' => Lib.run_eql_slice_nil w _ _ a n c n' c' Try.underlying26
  rcases A with _ | ad
  · have hn0 : n = 0 := by
      rcases Nat.eq_zero_or_pos n with h | h
      · exact h
      · obtain ⟨ad, h1, _⟩ := hA h; cases h1
    subst hn0
    obtain rfl : news = [] := List.eq_nil_of_length_eq_zero (by simpa using hn)
    clear hA
    go_enter Try.func63, Try.ntmps63
    go_wp2
    go_ret
    exact ⟨_, _, rfl, Below.refl _ _, Nat.le_refl _, fun _ h => absurd h (Nat.lt_irrefl _), fun h => absurd h (Nat.lt_irrefl _)⟩
  · have HA := Lib.hid (show 0 < n → ∃ ad', some ad = some ad' ∧ ∀ j u, news[j]? = some u → (w.alloc (.cells #[] 68)).cell? (ad'.add j) = some u from fun h => by
      obtain ⟨ad', h1, h2⟩ := hA h
      refine ⟨ad', h1, fun j u hu => ?_⟩
      have h3 := h2 j u hu
      have hb : (ad'.add j).block < w.heap.size := by
        rcases Nat.lt_or_ge (ad'.add j).block w.heap.size with h4 | h4
        · exact h4
        · exact absurd h3 (by rw [cell_none w (ad'.add j) h4]; simp)
      exact ((below_new w _).cell hb).trans h3)
    clear hA
    go_enter Try.func63, Try.ntmps63
    go_wp2_with (at_builtin; refine wpList_copy rfl (.tmp 5) (.tmp 6) 26 rfl 68 i0 (.agg #[.string ⟨#[]⟩, .int .i64 0]) 2 24 Try.underlying26 hi0 hz0 hz1 hz2 rfl (by decide) (some ad) _ n c rfl rfl news hn HA.out h1c b1 b2 ?_; intro A2 C2 w2 hcp)
    go_ret
    exact ⟨_, _, rfl, hcp.back⟩

end Go.Proofs.Ytbdhihgokkcmfaa.Ty9
