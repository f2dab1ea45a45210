/- The rows of a type, each in a block of its own; slices.Clone; the two loops of datatype.turn, plainly. -/
import Derived.Test.YtbdhihgokkcmfaaEb
import Derived.Lib.SliceRun
import Derived.Test.YtbdhihgokkcmfaaGa
import Derived.Test.YtbdhihgokkcmfaaTv
namespace Go.Proofs.Ytbdhihgokkcmfaa.Ty9
set_option linter.unusedVariables false
set_option linter.unusedSimpArgs false
open Go.RowKit Wd

theorem wpList_copy {P : Program} {ops : Array Oper} {rest : List Oper} {o : Oper} {a : Act} {w : World} {Q : Exit → Act → World → Prop}
    (hg : o.guard = none) (s x : Operand) (t : TypeId) (hop : o.op = Op.call { callee := Callee.builtin Builtin.append, args := #[s, x], argTypes := #[t, t] })
    (e : TypeId) (i : TypeInfo) (z : Value) (size bytes : Nat) (h1 : P.underlying t = some (.slice e)) (h2 : P.info? e = some i) (h3 : i.zero = some z) (h4 : i.size = size) (h5 : i.bytes = bytes) (h6 : z.cells.size = size) (h7 : 0 < size)
    (A : Option Addr) (g m c : Nat) (hs : a.eval s = .slice (some ⟨g, 0, none⟩) 0 0) (hx : a.eval x = .slice A m c) (news : List Value) (hn : news.length = m * size)
    (hA : 0 < m → ∃ ad, A = some ad ∧ ∀ j u, news[j]? = some u → w.cell? (ad.add j) = some u) (h1c : ∀ u ∈ news, u.oneCell' = true) (b1 : m ≤ maxLen) (b2 : m * bytes ≤ 140737488355328)
    (hK : ∀ A' C' w', Copied w w' A' C' m news → wpList P ops Q rest (a.put o.dst (.slice A' m C')) w') : wpList P ops Q (o :: rest) a w := by
  refine wpList_plain hg fun K hKK => ?_
  obtain ⟨A', C', w', hrun, hcp⟩ := run_copy (P := P) w t o.type e i z size bytes h1 h2 h3 h4 h5 h6 h7 g A m c news hn hA h1c b1 b2
  unfold Oper.wp
  simp [execOp, hop, resolve, invoke, builtin, hs, hx, hrun, Result.andThen]
  exact hKK _ _ (hK A' C' w' hcp)
theorem Copied.back {w w' : World} {o : Obj} {A' : Option Addr} {C' m : Nat} {news : List Value} (h : Copied (w.alloc o) w' A' C' m news) : Copied w w' A' C' m news := by
  refine ⟨below_more (below_new w o) h.be, h.cap, h.fz, fun hm => ?_⟩
  obtain ⟨g, q1, q2, q3, q4⟩ := h.row hm
  exact ⟨g, q1, by rw [size_alloc] at q2; omega, q3, q4⟩
theorem cell_none (w : World) (p : Addr) (h : w.heap.size ≤ p.block) : w.cell? p = none := by
  unfold World.cell?
  rw [Array.getElem?_eq_none h]
set_option maxRecDepth 100000 in
theorem clone_F (w : World) (A : Option Addr) (n c : Nat) (news : List Value) (hn : news.length = n * 9) (hA : 0 < n → ∃ ad, A = some ad ∧ ∀ j u, news[j]? = some u → w.cell? (ad.add j) = some u) (h1c : ∀ u ∈ news, u.oneCell' = true) (b1 : n ≤ maxLen) (b2 : n * 144 ≤ 140737488355328) :
    Calls Try.prog 60 #[.slice A n c] w fun e w' => ∃ A' C', e = .returned (.slice A' n C') ∧ Copied w w' A' C' n news := by
  obtain ⟨i0, hi0, hz0, hz1, hz2⟩ := info_parts field_info
  have qn : ∀ (w : World) (a : Option Addr) (n c n' c' : Nat), (binOp .eql 23 (.slice a n c) (.slice none n' c')).run Try.prog w = .ok (.bool a.isNone) w := fun w a n c n' c' => Lib.run_eql_slice_nil w _ _ a n c n' c' Try.underlying23
  rcases A with _ | ad
  · have hn0 : n = 0 := by
      rcases Nat.eq_zero_or_pos n with h | h
      · exact h
      · obtain ⟨ad, h1, _⟩ := hA h; cases h1
    subst hn0
    obtain rfl : news = [] := List.eq_nil_of_length_eq_zero (by simpa using hn)
    clear hA
    go_enter Try.func60, Try.ntmps60
    go_wp2
    go_ret
    exact ⟨_, _, rfl, Below.refl _ _, Nat.le_refl _, fun _ h => absurd h (Nat.lt_irrefl _), fun h => absurd h (Nat.lt_irrefl _)⟩
  · have HA := Lib.hid (show 0 < n → ∃ ad', some ad = some ad' ∧ ∀ j u, news[j]? = some u → (w.alloc (.cells #[] 66)).cell? (ad'.add j) = some u from fun h => by
      obtain ⟨ad', h1, h2⟩ := hA h
      refine ⟨ad', h1, fun j u hu => ?_⟩
      have h3 := h2 j u hu
      have hb : (ad'.add j).block < w.heap.size := by
        rcases Nat.lt_or_ge (ad'.add j).block w.heap.size with h4 | h4
        · exact h4
        · exact absurd h3 (by rw [cell_none w (ad'.add j) h4]; simp)
      exact ((below_new w _).cell hb).trans h3)
    clear hA
    go_enter Try.func60, Try.ntmps60
    go_wp2_with (at_builtin; refine wpList_copy rfl (.tmp 5) (.tmp 6) 23 rfl 66 i0 (.agg #[.string ⟨#[]⟩, .int .i64 0, .int .i64 0, .int .i64 0, .bool false, .slice none 0 0, .slice none 0 0, .slice none 0 0, .slice none 0 0]) 9 144 Try.underlying23 hi0 hz0 hz1 hz2 rfl (by decide) (some ad) _ n c rfl rfl news hn HA.out h1c b1 b2 ?_; intro A2 C2 w2 hcp)
    go_ret
    exact ⟨_, _, rfl, hcp.back⟩

set_option maxRecDepth 100000 in
theorem clone_D (w : World) (A : Option Addr) (n c : Nat) (news : List Value) (hn : news.length = n * 1) (hA : 0 < n → ∃ ad, A = some ad ∧ ∀ j u, news[j]? = some u → w.cell? (ad.add j) = some u) (h1c : ∀ u ∈ news, u.oneCell' = true) (b1 : n ≤ maxLen) (b2 : n * 8 ≤ 140737488355328) :
    Calls Try.prog 61 #[.slice A n c] w fun e w' => ∃ A' C', e = .returned (.slice A' n C') ∧ Copied w w' A' C' n news := by
  obtain ⟨i0, hi0, hz0, hz1, hz2⟩ := info_parts int_info
  have qn : ∀ (w : World) (a : Option Addr) (n c n' c' : Nat), (binOp .eql 24 (.slice a n c) (.slice none n' c')).run Try.prog w = .ok (.bool a.isNone) w := fun w a n c n' c' => Lib.run_eql_slice_nil w _ _ a n c n' c' Try.underlying24
  rcases A with _ | ad
  · have hn0 : n = 0 := by
      rcases Nat.eq_zero_or_pos n with h | h
      · exact h
      · obtain ⟨ad, h1, _⟩ := hA h; cases h1
    subst hn0
    obtain rfl : news = [] := List.eq_nil_of_length_eq_zero (by simpa using hn)
    clear hA
    go_enter Try.func61, Try.ntmps61
    go_wp2
    go_ret
    exact ⟨_, _, rfl, Below.refl _ _, Nat.le_refl _, fun _ h => absurd h (Nat.lt_irrefl _), fun h => absurd h (Nat.lt_irrefl _)⟩
  · have HA := Lib.hid (show 0 < n → ∃ ad', some ad = some ad' ∧ ∀ j u, news[j]? = some u → (w.alloc (.cells #[] 3)).cell? (ad'.add j) = some u from fun h => by
      obtain ⟨ad', h1, h2⟩ := hA h
      refine ⟨ad', h1, fun j u hu => ?_⟩
      have h3 := h2 j u hu
      have hb : (ad'.add j).block < w.heap.size := by
        rcases Nat.lt_or_ge (ad'.add j).block w.heap.size with h4 | h4
        · exact h4
        · exact absurd h3 (by rw [cell_none w (ad'.add j) h4]; simp)
      exact ((below_new w _).cell hb).trans h3)
    clear hA
    go_enter Try.func61, Try.ntmps61
    go_wp2_with (at_builtin; refine wpList_copy rfl (.tmp 5) (.tmp 6) 24 rfl 3 i0 (.int .i64 0) 1 8 Try.underlying24 hi0 hz0 hz1 hz2 rfl (by decide) (some ad) _ n c rfl rfl news hn HA.out h1c b1 b2 ?_; intro A2 C2 w2 hcp)
    go_ret
    exact ⟨_, _, rfl, hcp.back⟩

set_option maxRecDepth 100000 in
theorem clone_B (w : World) (A : Option Addr) (n c : Nat) (news : List Value) (hn : news.length = n * 7) (hA : 0 < n → ∃ ad, A = some ad ∧ ∀ j u, news[j]? = some u → w.cell? (ad.add j) = some u) (h1c : ∀ u ∈ news, u.oneCell' = true) (b1 : n ≤ maxLen) (b2 : n * 120 ≤ 140737488355328) :
    Calls Try.prog 62 #[.slice A n c] w fun e w' => ∃ A' C', e = .returned (.slice A' n C') ∧ Copied w w' A' C' n news := by
  obtain ⟨i0, hi0, hz0, hz1, hz2⟩ := info_parts type_info
  have qn : ∀ (w : World) (a : Option Addr) (n c n' c' : Nat), (binOp .eql 25 (.slice a n c) (.slice none n' c')).run Try.prog w = .ok (.bool a.isNone) w := fun w a n c n' c' => Lib.run_eql_slice_nil w _ _ a n c n' c' Try.underlying25
  rcases A with _ | ad
  · have hn0 : n = 0 := by
      rcases Nat.eq_zero_or_pos n with h | h
      · exact h
      · obtain ⟨ad, h1, _⟩ := hA h; cases h1
    subst hn0
    obtain rfl : news = [] := List.eq_nil_of_length_eq_zero (by simpa using hn)
    clear hA
    go_enter Try.func62, Try.ntmps62
    go_wp2
    go_ret
    exact ⟨_, _, rfl, Below.refl _ _, Nat.le_refl _, fun _ h => absurd h (Nat.lt_irrefl _), fun h => absurd h (Nat.lt_irrefl _)⟩
  · have HA := Lib.hid (show 0 < n → ∃ ad', some ad = some ad' ∧ ∀ j u, news[j]? = some u → (w.alloc (.cells #[] 28)).cell? (ad'.add j) = some u from fun h => by
      obtain ⟨ad', h1, h2⟩ := hA h
      refine ⟨ad', h1, fun j u hu => ?_⟩
      have h3 := h2 j u hu
      have hb : (ad'.add j).block < w.heap.size := by
        rcases Nat.lt_or_ge (ad'.add j).block w.heap.size with h4 | h4
        · exact h4
        · exact absurd h3 (by rw [cell_none w (ad'.add j) h4]; simp)
      exact ((below_new w _).cell hb).trans h3)
    clear hA
    go_enter Try.func62, Try.ntmps62
    go_wp2_with (at_builtin; refine wpList_copy rfl (.tmp 5) (.tmp 6) 25 rfl 28 i0 (.agg #[.int .i64 0, .int .i64 0, .bool false, .slice none 0 0, .slice none 0 0, .slice none 0 0, .slice none 0 0]) 7 120 Try.underlying25 hi0 hz0 hz1 hz2 rfl (by decide) (some ad) _ n c rfl rfl news hn HA.out h1c b1 b2 ?_; intro A2 C2 w2 hcp)
    go_ret
    exact ⟨_, _, rfl, hcp.back⟩

set_option maxRecDepth 100000 in
theorem clone_N (w : World) (A : Option Addr) (n c : Nat) (news : List Value) (hn : news.length = n * 2) (hA : 0 < n → ∃ ad, A = some ad ∧ ∀ j u, news[j]? = some u → w.cell? (ad.add j) = some u) (h1c : ∀ u ∈ news, u.oneCell' = true) (b1 : n ≤ maxLen) (b2 : n * 24 ≤ 140737488355328) :
    Calls Try.prog 63 #[.slice A n c] w fun e w' => ∃ A' C', e = .returned (.slice A' n C') ∧ Copied w w' A' C' n news := by
  obtain ⟨i0, hi0, hz0, hz1, hz2⟩ := info_parts member_info
  have qn : ∀ (w : World) (a : Option Addr) (n c n' c' : Nat), (binOp .eql 26 (.slice a n c) (.slice none n' c')).run Try.prog w = .ok (.bool a.isNone) w := fun w a n c n' c' => Lib.run_eql_slice_nil w _ _ a n c n' c' Try.underlying26
  rcases A with _ | ad
  · have hn0 : n = 0 := by
      rcases Nat.eq_zero_or_pos n with h | h
      · exact h
      · obtain ⟨ad, h1, _⟩ := hA h; cases h1
    subst hn0
    obtain rfl : news = [] := List.eq_nil_of_length_eq_zero (by simpa using hn)
    clear hA
    go_enter Try.func63, Try.ntmps63
    go_wp2
    go_ret
    exact ⟨_, _, rfl, Below.refl _ _, Nat.le_refl _, fun _ h => absurd h (Nat.lt_irrefl _), fun h => absurd h (Nat.lt_irrefl _)⟩
  · have HA := Lib.hid (show 0 < n → ∃ ad', some ad = some ad' ∧ ∀ j u, news[j]? = some u → (w.alloc (.cells #[] 68)).cell? (ad'.add j) = some u from fun h => by
      obtain ⟨ad', h1, h2⟩ := hA h
      refine ⟨ad', h1, fun j u hu => ?_⟩
      have h3 := h2 j u hu
      have hb : (ad'.add j).block < w.heap.size := by
        rcases Nat.lt_or_ge (ad'.add j).block w.heap.size with h4 | h4
        · exact h4
        · exact absurd h3 (by rw [cell_none w (ad'.add j) h4]; simp)
      exact ((below_new w _).cell hb).trans h3)
    clear hA
    go_enter Try.func63, Try.ntmps63
    go_wp2_with (at_builtin; refine wpList_copy rfl (.tmp 5) (.tmp 6) 26 rfl 68 i0 (.agg #[.string ⟨#[]⟩, .int .i64 0]) 2 24 Try.underlying26 hi0 hz0 hz1 hz2 rfl (by decide) (some ad) _ n c rfl rfl news hn HA.out h1c b1 b2 ?_; intro A2 C2 w2 hcp)
    go_ret
    exact ⟨_, _, rfl, hcp.back⟩


structure RF (w : World) (A : Option Addr) (g lo hi : Nat) (fs : List Fd) (fv : Nat → Nat → Value) : Prop where
  at_ : 0 < fs.length → A = some ⟨g, 0, none⟩ ∧ lo ≤ g ∧ g < hi
  c0 : ∀ i (h : i < fs.length), w.cell? ⟨g, i * 9, none⟩ = some (.string fs[i].name)
  c1 : ∀ i (h : i < fs.length), w.cell? ⟨g, i * 9 + 1, none⟩ = some (.int .i64 fs[i].pos)
  c2 : ∀ i, i < fs.length → ∀ k, k < 7 → w.cell? ⟨g, i * 9 + 2 + k, none⟩ = some (fv i k)
  fz : 0 < fs.length → ∀ j, w.frozen? ⟨g, j, none⟩ = false
theorem RF.keep {w w2 : World} {A : Option Addr} {g lo hi : Nat} {fs : List Fd} {fv : Nat → Nat → Value} (h : RF w A g lo hi fs fv) (hk : 0 < fs.length → w2.heap[g]? = w.heap[g]?) : RF w2 A g lo hi fs fv :=
  ⟨h.at_, fun i hi => (World.cell?_of_block (w := w) (a := ⟨g, _, none⟩) (hk (by omega))).trans (h.c0 i hi), fun i hi => (World.cell?_of_block (w := w) (a := ⟨g, _, none⟩) (hk (by omega))).trans (h.c1 i hi),
   fun i hi k hk' => (World.cell?_of_block (w := w) (a := ⟨g, _, none⟩) (hk (by omega))).trans (h.c2 i hi k hk'), fun h0 j => (World.frozen?_of_block (w := w) (a := ⟨g, j, none⟩) (hk h0)).trans (h.fz h0 j)⟩
structure RD (w : World) (A : Option Addr) (g lo hi : Nat) (ds : List Int) : Prop where
  at_ : 0 < ds.length → A = some ⟨g, 0, none⟩ ∧ lo ≤ g ∧ g < hi
  c0 : ∀ i (h : i < ds.length), w.cell? ⟨g, i, none⟩ = some (.int .i64 ds[i])
  fz : 0 < ds.length → ∀ j, w.frozen? ⟨g, j, none⟩ = false
theorem RD.keep {w w2 : World} {A : Option Addr} {g lo hi : Nat} {ds : List Int} (h : RD w A g lo hi ds) (hk : 0 < ds.length → w2.heap[g]? = w.heap[g]?) : RD w2 A g lo hi ds :=
  ⟨h.at_, fun i hi => (World.cell?_of_block (w := w) (a := ⟨g, _, none⟩) (hk (by omega))).trans (h.c0 i hi), fun h0 j => (World.frozen?_of_block (w := w) (a := ⟨g, j, none⟩) (hk h0)).trans (h.fz h0 j)⟩
structure RB (w : World) (A : Option Addr) (g lo hi : Nat) (n : Nat) (bv : Nat → Nat → Value) : Prop where
  at_ : 0 < n → A = some ⟨g, 0, none⟩ ∧ lo ≤ g ∧ g < hi
  c2 : ∀ i, i < n → ∀ k, k < 7 → w.cell? ⟨g, i * 7 + k, none⟩ = some (bv i k)
  fz : 0 < n → ∀ j, w.frozen? ⟨g, j, none⟩ = false
theorem RB.keep {w w2 : World} {A : Option Addr} {g lo hi n : Nat} {bv : Nat → Nat → Value} (h : RB w A g lo hi n bv) (hk : 0 < n → w2.heap[g]? = w.heap[g]?) : RB w2 A g lo hi n bv :=
  ⟨h.at_, fun i hi k hk' => (World.cell?_of_block (w := w) (a := ⟨g, _, none⟩) (hk (by omega))).trans (h.c2 i hi k hk'), fun h0 j => (World.frozen?_of_block (w := w) (a := ⟨g, j, none⟩) (hk h0)).trans (h.fz h0 j)⟩
structure RN (w : World) (A : Option Addr) (g lo hi : Nat) (ns : List (ByteArray × Int)) : Prop where
  at_ : 0 < ns.length → A = some ⟨g, 0, none⟩ ∧ lo ≤ g ∧ g < hi
  c0 : ∀ i (h : i < ns.length), w.cell? ⟨g, i * 2, none⟩ = some (.string ns[i].1)
  c1 : ∀ i (h : i < ns.length), w.cell? ⟨g, i * 2 + 1, none⟩ = some (.int .i64 ns[i].2)
  fz : 0 < ns.length → ∀ j, w.frozen? ⟨g, j, none⟩ = false
theorem RN.keep {w w2 : World} {A : Option Addr} {g lo hi : Nat} {ns : List (ByteArray × Int)} (h : RN w A g lo hi ns) (hk : 0 < ns.length → w2.heap[g]? = w.heap[g]?) : RN w2 A g lo hi ns :=
  ⟨h.at_, fun i hi => (World.cell?_of_block (w := w) (a := ⟨g, _, none⟩) (hk (by omega))).trans (h.c0 i hi), fun i hi => (World.cell?_of_block (w := w) (a := ⟨g, _, none⟩) (hk (by omega))).trans (h.c1 i hi), fun h0 j => (World.frozen?_of_block (w := w) (a := ⟨g, j, none⟩) (hk h0)).trans (h.fz h0 j)⟩

/-! ### rows as lists of cells -/
def seven (f : Nat → Value) : List Value := [f 0, f 1, f 2, f 3, f 4, f 5, f 6]
theorem seven_get (f : Nat → Value) {k : Nat} (h : k < 7) : (seven f)[k]? = some (f k) := by
  have : k = 0 ∨ k = 1 ∨ k = 2 ∨ k = 3 ∨ k = 4 ∨ k = 5 ∨ k = 6 := by omega
  rcases this with rfl | rfl | rfl | rfl | rfl | rfl | rfl <;> rfl
def rowF (fs : List Fd) (fv : Nat → Nat → Value) (i : Nat) : List Value := .string (fs.getD i (.mk ⟨#[]⟩ 0 (.mk 0 0 false [] [] [] []))).name :: .int .i64 (fs.getD i (.mk ⟨#[]⟩ 0 (.mk 0 0 false [] [] [] []))).pos :: seven (fv i)
def rowsF (fs : List Fd) (fv : Nat → Nat → Value) : List (List Value) := (List.range fs.length).map (rowF fs fv)
def rowsB (n : Nat) (bv : Nat → Nat → Value) : List (List Value) := (List.range n).map fun i => seven (bv i)
theorem rowsF_len (fs : List Fd) (fv : Nat → Nat → Value) : ∀ r ∈ rowsF fs fv, r.length = 9 := by
  intro r hr; simp [rowsF] at hr; obtain ⟨i, _, rfl⟩ := hr; rfl
theorem rowsB_len (n : Nat) (bv : Nat → Nat → Value) : ∀ r ∈ rowsB n bv, r.length = 7 := by
  intro r hr; simp [rowsB] at hr; obtain ⟨i, _, rfl⟩ := hr; rfl
theorem flat_len (size : Nat) : ∀ (rs : List (List Value)), (∀ r ∈ rs, r.length = size) → rs.flatten.length = rs.length * size
  | [], _ => by simp
  | r :: rs, h => by rw [List.flatten_cons, List.length_append, flat_len size rs (fun x hx => h x (List.mem_cons_of_mem _ hx)), h r List.mem_cons_self, List.length_cons, Nat.succ_mul]; omega
theorem flat_at {size : Nat} (hs : 0 < size) {rs : List (List Value)} (h : ∀ r ∈ rs, r.length = size) {j : Nat} {u : Value} (hu : rs.flatten[j]? = some u) :
    ∃ (i l : Nat) (hi : i < rs.length), j = i * size + l ∧ l < size ∧ rs[i][l]? = some u := by
  have hj := (List.getElem?_eq_some_iff.mp hu).1
  rw [flat_len size rs h] at hj
  have hi : j / size < rs.length := Nat.div_lt_of_lt_mul (by rw [Nat.mul_comm]; exact hj)
  have e : j / size * size + j % size = j := by rw [Nat.mul_comm]; exact Nat.div_add_mod j size
  refine ⟨j / size, j % size, hi, e.symm, Nat.mod_lt _ hs, ?_⟩
  rw [← flat_get size rs h (j / size) hi (j % size) (Nat.mod_lt _ hs), e]
  exact hu
theorem rowsF_get {fs : List Fd} {fv : Nat → Nat → Value} {i : Nat} (h : i < fs.length) (h' : i < (rowsF fs fv).length) : (rowsF fs fv)[i] = .string fs[i].name :: .int .i64 fs[i].pos :: seven (fv i) := by
  simp [rowsF, rowF, h]
theorem rowsB_get {n : Nat} {bv : Nat → Nat → Value} {i : Nat} (h' : i < (rowsB n bv).length) : (rowsB n bv)[i] = seven (bv i) := by
  simp [rowsB]
theorem rowsF_size (fs : List Fd) (fv : Nat → Nat → Value) : (rowsF fs fv).length = fs.length := by simp [rowsF]
theorem rowsB_size (n : Nat) (bv : Nat → Nat → Value) : (rowsB n bv).length = n := by simp [rowsB]
theorem agg_one {w : World} {B : Nat} {t : Ty} {f : Nat → Value} (h : TyAt w B t (.agg #[f 0, f 1, f 2, f 3, f 4, f 5, f 6])) : ∀ u ∈ seven f, u.oneCell' = true := by
  obtain ⟨a1, a2, a3, a4, c1, c2, c3, c4, e0, e1, e2, e3, e4, e5, e6⟩ := h.cells
  intro u hu
  simp [seven] at hu
  rcases hu with rfl | rfl | rfl | rfl | rfl | rfl | rfl
  · rw [e0]; rfl
  · rw [e1]; rfl
  · rw [e2]; rfl
  · rw [e3]; rfl
  · rw [e4]; rfl
  · rw [e5]; rfl
  · rw [e6]; rfl
theorem rowsF_one {w : World} {B : Nat} {fs : List Fd} {fv : Nat → Nat → Value} (h : ∀ i (h : i < fs.length), TyAt w B fs[i].ty (.agg #[fv i 0, fv i 1, fv i 2, fv i 3, fv i 4, fv i 5, fv i 6])) : ∀ u ∈ (rowsF fs fv).flatten, u.oneCell' = true := by
  intro u hu
  obtain ⟨r, hr, hur⟩ := List.mem_flatten.mp hu
  simp [rowsF] at hr
  obtain ⟨i, hi, rfl⟩ := hr
  rw [rowF] at hur
  rcases List.mem_cons.mp hur with rfl | hur
  · rfl
  rcases List.mem_cons.mp hur with rfl | hur
  · rfl
  exact agg_one (h i hi) u hur
theorem rowsB_one {w : World} {B : Nat} {bs : List Ty} {bv : Nat → Nat → Value} (h : ∀ i (h : i < bs.length), TyAt w B bs[i] (.agg #[bv i 0, bv i 1, bv i 2, bv i 3, bv i 4, bv i 5, bv i 6])) : ∀ u ∈ (rowsB bs.length bv).flatten, u.oneCell' = true := by
  intro u hu
  obtain ⟨r, hr, hur⟩ := List.mem_flatten.mp hu
  simp [rowsB] at hr
  obtain ⟨i, hi, rfl⟩ := hr
  exact agg_one (h i hi) u hur

/-- A row as it lies, as a list of cells. -/
theorem srcF {w w2 : World} {B : Nat} {fs : List Fd} {fv : Nat → Nat → Value} {A : Option Addr} {g o : Nat} (hA : 0 < fs.length → A = some ⟨g, o, none⟩ ∧ g < B) (h0 : ∀ i (h : i < fs.length), w.cell? ⟨g, o + i * 9, none⟩ = some (.string fs[i].name))
    (h1 : ∀ i (h : i < fs.length), w.cell? ⟨g, o + i * 9 + 1, none⟩ = some (.int .i64 fs[i].pos)) (h2 : ∀ i, i < fs.length → ∀ k, k < 7 → w.cell? ⟨g, o + i * 9 + 2 + k, none⟩ = some (fv i k)) (hb : Below B w w2) :
    0 < fs.length → ∃ ad, A = some ad ∧ ∀ j u, (rowsF fs fv).flatten[j]? = some u → w2.cell? (ad.add j) = some u := by
  intro hn
  obtain ⟨rfl, hg⟩ := hA hn
  refine ⟨_, rfl, fun j u hu => ?_⟩
  rw [addr_add9, hb.cell (p := ⟨g, o + j, none⟩) hg]
  obtain ⟨i, l, hi, rfl, hl, hr⟩ := flat_at (by omega) (rowsF_len fs fv) hu
  have hi2 : i < fs.length := by rwa [rowsF_size] at hi
  rw [rowsF_get hi2] at hr
  rcases l with _ | _ | k
  · obtain rfl := Option.some.inj hr
    exact h0 i hi2
  · obtain rfl := Option.some.inj hr
    exact h1 i hi2
  · have hr' : (seven (fv i))[k]? = some u := hr
    rw [seven_get _ (by omega)] at hr'
    obtain rfl := Option.some.inj hr'
    have := h2 i hi2 k (by omega)
    rwa [show o + i * 9 + 2 + k = o + (i * 9 + (k + 1 + 1)) by omega] at this
theorem srcB {w w2 : World} {B n : Nat} {bv : Nat → Nat → Value} {A : Option Addr} {g o : Nat} (hA : 0 < n → A = some ⟨g, o, none⟩ ∧ g < B) (h2 : ∀ i, i < n → ∀ k, k < 7 → w.cell? ⟨g, o + i * 7 + k, none⟩ = some (bv i k)) (hb : Below B w w2) :
    0 < n → ∃ ad, A = some ad ∧ ∀ j u, (rowsB n bv).flatten[j]? = some u → w2.cell? (ad.add j) = some u := by
  intro hn
  obtain ⟨rfl, hg⟩ := hA hn
  refine ⟨_, rfl, fun j u hu => ?_⟩
  rw [addr_add9, hb.cell (p := ⟨g, o + j, none⟩) hg]
  obtain ⟨i, l, hi, rfl, hl, hr⟩ := flat_at (by omega) (rowsB_len n bv) hu
  have hi2 : i < n := by rwa [rowsB_size] at hi
  rw [rowsB_get, seven_get _ hl] at hr
  obtain rfl := Option.some.inj hr
  have := h2 i hi2 l hl
  rwa [Nat.add_assoc] at this
theorem srcD {w w2 : World} {B : Nat} {ds : List Int} {A : Option Addr} {g o : Nat} (hA : 0 < ds.length → A = some ⟨g, o, none⟩ ∧ g < B) (h0 : ∀ i (h : i < ds.length), w.cell? ⟨g, o + i, none⟩ = some (.int .i64 ds[i])) (hb : Below B w w2) :
    0 < ds.length → ∃ ad, A = some ad ∧ ∀ j u, (nums ds)[j]? = some u → w2.cell? (ad.add j) = some u := by
  intro hn
  obtain ⟨rfl, hg⟩ := hA hn
  refine ⟨_, rfl, fun j u hu => ?_⟩
  rw [addr_add9, hb.cell (p := ⟨g, o + j, none⟩) hg]
  obtain ⟨hj, rfl⟩ := nums_at hu
  exact h0 j hj
theorem srcN {w w2 : World} {B : Nat} {ns : List (ByteArray × Int)} {A : Option Addr} {g o : Nat} (hA : 0 < ns.length → A = some ⟨g, o, none⟩ ∧ g < B) (h0 : ∀ i (h : i < ns.length), w.cell? ⟨g, o + i * 2, none⟩ = some (.string ns[i].1))
    (h1 : ∀ i (h : i < ns.length), w.cell? ⟨g, o + i * 2 + 1, none⟩ = some (.int .i64 ns[i].2)) (hb : Below B w w2) :
    0 < ns.length → ∃ ad, A = some ad ∧ ∀ j u, (mem2 ns)[j]? = some u → w2.cell? (ad.add j) = some u := by
  intro hn
  obtain ⟨rfl, hg⟩ := hA hn
  refine ⟨_, rfl, fun j u hu => ?_⟩
  rw [addr_add9, hb.cell (p := ⟨g, o + j, none⟩) hg]
  obtain ⟨i, hi, ⟨rfl, rfl⟩ | ⟨rfl, rfl⟩⟩ := mem2_at hu
  · exact h0 i hi
  · exact h1 i hi

/-! ### what the copies are -/
theorem Copied.rf {w w' : World} {A' : Option Addr} {C' : Nat} {fs : List Fd} {fv : Nat → Nat → Value} (h : Copied w w' A' C' fs.length (rowsF fs fv).flatten) : ∃ g, RF w' A' g w.heap.size w'.heap.size fs fv := by
  rcases Nat.eq_zero_or_pos fs.length with h0 | h0
  · exact ⟨0, fun h => by omega, fun i h => by omega, fun i h => by omega, fun i h => by omega, fun h => by omega⟩
  · obtain ⟨g, e, q1, q2, q3⟩ := h.row h0
    have key : ∀ i (hi : i < fs.length) l u, l < 9 → (rowF fs fv i)[l]? = some u → w'.cell? ⟨g, i * 9 + l, none⟩ = some u := fun i hi l u hl hu => q3 _ _ ((flat_get 9 _ (rowsF_len fs fv) i (by rwa [rowsF_size]) l hl).trans (by rw [← hu]; simp [rowsF]))
    have hname : ∀ i (hi : i < fs.length), rowF fs fv i = .string fs[i].name :: .int .i64 fs[i].pos :: seven (fv i) := fun i hi => by simp [rowF, hi]
    refine ⟨g, fun _ => ⟨e, q1, q2⟩, fun i hi => key i hi 0 _ (by omega) (by rw [hname i hi]; rfl), fun i hi => key i hi 1 _ (by omega) (by rw [hname i hi]; rfl), fun i hi k hk => ?_, fun _ => h.fz g h0 e⟩
    have := key i hi (2 + k) (fv i k) (by omega) (by rw [hname i hi, show 2 + k = k + 1 + 1 by omega]; exact seven_get (fv i) hk)
    rwa [← Nat.add_assoc] at this
theorem Copied.rb {w w' : World} {A' : Option Addr} {C' n : Nat} {bv : Nat → Nat → Value} (h : Copied w w' A' C' n (rowsB n bv).flatten) : ∃ g, RB w' A' g w.heap.size w'.heap.size n bv := by
  rcases Nat.eq_zero_or_pos n with h0 | h0
  · exact ⟨0, fun h => by omega, fun i h => by omega, fun h => by omega⟩
  · obtain ⟨g, e, q1, q2, q3⟩ := h.row h0
    refine ⟨g, fun _ => ⟨e, q1, q2⟩, fun i hi k hk => q3 _ _ ((flat_get 7 _ (rowsB_len n bv) i (by rwa [rowsB_size]) k hk).trans ?_), fun _ => h.fz g h0 e⟩
    rw [rowsB_get]
    exact seven_get (bv i) hk
theorem Copied.rd {w w' : World} {A' : Option Addr} {C' : Nat} {ds : List Int} (h : Copied w w' A' C' ds.length (nums ds)) : ∃ g, RD w' A' g w.heap.size w'.heap.size ds := by
  rcases Nat.eq_zero_or_pos ds.length with h0 | h0
  · exact ⟨0, fun h => by omega, fun i h => by omega, fun h => by omega⟩
  · obtain ⟨g, e, q1, q2, q3⟩ := h.row h0
    exact ⟨g, fun _ => ⟨e, q1, q2⟩, fun i hi => q3 _ _ (by simp [nums, hi]), fun _ => h.fz g h0 e⟩
theorem Copied.rn {w w' : World} {A' : Option Addr} {C' : Nat} {ns : List (ByteArray × Int)} (h : Copied w w' A' C' ns.length (mem2 ns)) : ∃ g, RN w' A' g w.heap.size w'.heap.size ns := by
  rcases Nat.eq_zero_or_pos ns.length with h0 | h0
  · exact ⟨0, fun h => by omega, fun i h => by omega, fun i h => by omega, fun h => by omega⟩
  · obtain ⟨g, e, q1, q2, q3⟩ := h.row h0
    exact ⟨g, fun _ => ⟨e, q1, q2⟩, fun i hi => q3 _ _ (mem2_get ns i hi).1, fun i hi => q3 _ _ (mem2_get ns i hi).2, fun _ => h.fz g h0 e⟩

/-- Behind the first two copies. -/
theorem turn_rows1 {w wc wF wD : World} {T : TypeId} {X Z : Array Value} {A1 A2 : Option Addr} {C1 C2 : Nat} {fs : List Fd} {fv : Nat → Nat → Value} {ds : List Int} (h1 : Bx wc w.heap.size T X) (h2 : Bx wc (w.heap.size + 1) T Z) (hbe : Below w.heap.size w wc) (hws : wc.heap.size = w.heap.size + 2)
    (hF : Copied wc.drew wF A1 C1 fs.length (rowsF fs fv).flatten) (hD : Copied wF wD A2 C2 ds.length (nums ds)) :
    ∃ W, ((wD.setCell ⟨w.heap.size, 3, none⟩ (.slice A1 fs.length C1)).setCell ⟨w.heap.size, 4, none⟩ (.slice A2 ds.length C2)) = W ∧ ∃ g1 g2 p1, Bx W w.heap.size T ((X.setIfInBounds 3 (.slice A1 fs.length C1)).setIfInBounds 4 (.slice A2 ds.length C2)) ∧ Bx W (w.heap.size + 1) T Z ∧ Below w.heap.size w W ∧ fs.length ≤ C1 ∧ ds.length ≤ C2 ∧
      RF W A1 g1 (w.heap.size + 2) p1 fs fv ∧ RD W A2 g2 p1 W.heap.size ds ∧ w.heap.size + 2 ≤ p1 ∧ p1 ≤ W.heap.size := by
  have sF : w.heap.size + 2 ≤ wF.heap.size := by rw [← hws]; exact hF.be.size
  have sD := hD.be.size
  obtain ⟨g1, hf⟩ := hF.rf
  obtain ⟨g2, hd⟩ := hD.rd
  have e1 : wc.drew.heap.size = w.heap.size + 2 := hws
  rw [e1] at hf
  have b1 := (h1.drew.later hF.be (by rw [e1]; omega)).later hD.be (by omega)
  have b2 := (h2.drew.later hF.be (by rw [e1]; omega)).later hD.be (by omega)
  have hk : ∀ g, g ≠ w.heap.size → ((wD.setCell ⟨w.heap.size, 3, none⟩ (.slice A1 fs.length C1)).setCell ⟨w.heap.size, 4, none⟩ (.slice A2 ds.length C2)).heap[g]? = wD.heap[g]? := fun g hg => by
    rw [Below.heap_setCell _ _ _ _ hg, Below.heap_setCell _ _ _ _ hg]
  have hsz : ((wD.setCell ⟨w.heap.size, 3, none⟩ (.slice A1 fs.length C1)).setCell ⟨w.heap.size, 4, none⟩ (.slice A2 ds.length C2)).heap.size = wD.heap.size := by simp [World.setCell]
  refine ⟨_, rfl, g1, g2, wF.heap.size, (b1.set_ 3 _).set_ 4 _, (hk _ (by omega)).trans b2, Below.setCell (Below.setCell (below_then (below_then hbe.drew (by rw [e1]; omega) hF.be) (by omega) hD.be) (Nat.le_refl _) _) (Nat.le_refl _) _, hF.cap, hD.cap,
    hf.keep fun h => ?_, ?_, sF, by rw [hsz]; exact sD⟩
  · have := hf.at_ h
    exact (hk _ (by omega)).trans (hD.be.block g1 this.2.2)
  · rw [hsz]
    exact hd.keep fun h => hk _ (by have := hd.at_ h; omega)

/-- Behind all four. -/
theorem turn_rows2 {w wc wB wN : World} {T : TypeId} {X Z : Array Value} {A1 A2 A3 A4 : Option Addr} {C3 C4 g1 g2 p1 : Nat} {fs : List Fd} {fv bv : Nat → Nat → Value} {ds : List Int} {m : Nat} {ns : List (ByteArray × Int)} (h1 : Bx wc w.heap.size T X) (h2 : Bx wc (w.heap.size + 1) T Z) (hbe : Below w.heap.size w wc)
    (hf : RF wc A1 g1 (w.heap.size + 2) p1 fs fv) (hd : RD wc A2 g2 p1 wc.heap.size ds) (hp1 : w.heap.size + 2 ≤ p1) (hp2 : p1 ≤ wc.heap.size)
    (hB : Copied wc.drew wB A3 C3 m (rowsB m bv).flatten) (hN : Copied wB wN A4 C4 ns.length (mem2 ns)) :
    ∃ W, ((wN.setCell ⟨w.heap.size, 5, none⟩ (.slice A3 m C3)).setCell ⟨w.heap.size, 6, none⟩ (.slice A4 ns.length C4)) = W ∧ ∃ g3 g4 p2 p3, Bx W w.heap.size T ((X.setIfInBounds 5 (.slice A3 m C3)).setIfInBounds 6 (.slice A4 ns.length C4)) ∧ Bx W (w.heap.size + 1) T Z ∧ Below w.heap.size w W ∧ m ≤ C3 ∧ ns.length ≤ C4 ∧
      RF W A1 g1 (w.heap.size + 2) p1 fs fv ∧ RD W A2 g2 p1 p2 ds ∧ RB W A3 g3 p2 p3 m bv ∧ RN W A4 g4 p3 W.heap.size ns ∧ w.heap.size + 2 ≤ p1 ∧ p1 ≤ p2 ∧ p2 ≤ p3 ∧ p3 ≤ W.heap.size := by
  have e1 : wc.drew.heap.size = wc.heap.size := rfl
  have sB : wc.heap.size ≤ wB.heap.size := hB.be.size
  have sN := hN.be.size
  obtain ⟨g3, hb⟩ := hB.rb
  obtain ⟨g4, hn⟩ := hN.rn
  have hk : ∀ g, g ≠ w.heap.size → ((wN.setCell ⟨w.heap.size, 5, none⟩ (.slice A3 m C3)).setCell ⟨w.heap.size, 6, none⟩ (.slice A4 ns.length C4)).heap[g]? = wN.heap[g]? := fun g hg => by
    rw [Below.heap_setCell _ _ _ _ hg, Below.heap_setCell _ _ _ _ hg]
  have hk2 : ∀ g, g < wc.heap.size → wN.heap[g]? = wc.heap[g]? := fun g hg => (hN.be.block g (by omega)).trans (hB.be.block g hg)
  have hsz : ((wN.setCell ⟨w.heap.size, 5, none⟩ (.slice A3 m C3)).setCell ⟨w.heap.size, 6, none⟩ (.slice A4 ns.length C4)).heap.size = wN.heap.size := by simp [World.setCell]
  have b1 : Bx wN w.heap.size T X := (hk2 _ (by omega)).trans h1
  refine ⟨_, rfl, g3, g4, wc.heap.size, wB.heap.size, (b1.set_ 5 _).set_ 6 _, (hk _ (by omega)).trans ((hk2 _ (by omega)).trans h2), Below.setCell (Below.setCell (below_then (below_then hbe.drew (by rw [e1]; omega) hB.be) (by omega) hN.be) (Nat.le_refl _) _) (Nat.le_refl _) _, hB.cap, hN.cap,
    hf.keep fun h => ?_, hd.keep fun h => ?_, hb.keep fun h => ?_, ?_, hp1, hp2, sB, by rw [hsz]; exact sN⟩
  · have := hf.at_ h
    exact (hk _ (by omega)).trans (hk2 _ (by omega))
  · have := hd.at_ h
    exact (hk _ (by omega)).trans (hk2 _ (by omega))
  · have := hb.at_ h
    rw [e1] at this
    exact (hk _ (by omega)).trans (hN.be.block g3 this.2.2)
  · rw [hsz]
    exact hn.keep fun h => hk _ (by have := hn.at_ h; omega)

/-- Blocks have come, and, if there are elements, block g has turned. -/
structure Gn (n g : Nat) (w w' : World) : Prop where
  os : w'.os = w.os
  tape : w'.tape = w.tape
  output : w'.output = w.output
  size : w.heap.size ≤ w'.heap.size
  block : ∀ k, k < w.heap.size → (0 < n → k ≠ g) → w'.heap[k]? = w.heap[k]?
theorem Gn.refl (n g : Nat) (w : World) : Gn n g w w := ⟨rfl, rfl, rfl, Nat.le_refl _, fun _ _ _ => rfl⟩
theorem Gn.bx {n g : Nat} {w w' : World} (h : Gn n g w w') {k : Nat} {t : TypeId} {cs : Array Value} (hb : Bx w k t cs) (hk : 0 < n → k ≠ g) : Bx w' k t cs := (h.block k hb.lt hk).trans hb
theorem Gn.below {B n g : Nat} {w w' : World} (h : Gn n g w w') (hB : B ≤ w.heap.size) (hg : 0 < n → B ≤ g) : Below B w w' :=
  ⟨h.os, h.tape, h.output, h.size, fun k hk => h.block k (by omega) (fun h0 => by have := hg h0; omega)⟩
theorem if_agg {k i : Nat} (h : i ≠ k) (f g : Nat → Nat → Value) : (fun j l => if j = k then g j l else f j l) i = f i := by funext l; simp [h]

/-- Loop 1 of turn at its k'th round. -/
structure TL1 (W0 wr : World) (g : Nat) (bg : Bool) (fs : List Fd) (fv : Nat → Nat → Value) (A : Option Addr) (lo hi k : Nat) (fk : Nat → Nat → Value) (mf : Nat → Nat) : Prop where
  gr : Gn fs.length g W0 wr
  row : RF wr A g lo hi fs fk
  sg : ∀ i (h : i < fs.length), i < k → Seg wr (mf i) (mf (i + 1)) (tn bg fs[i].ty) (.agg #[fk i 0, fk i 1, fk i 2, fk i 3, fk i 4, fk i 5, fk i 6])
  m0 : mf 0 = W0.heap.size
  mk_ : mf k ≤ wr.heap.size
  mono : ∀ i, i < k → mf i ≤ mf (i + 1)
  old : ∀ i, k ≤ i → ∀ l, fk i l = fv i l
theorem TL1.start {W0 : World} {g : Nat} {bg : Bool} {fs : List Fd} {fv : Nat → Nat → Value} {A : Option Addr} {lo hi : Nat} (h : RF W0 A g lo hi fs fv) : TL1 W0 W0 g bg fs fv A lo hi 0 fv (fun _ => W0.heap.size) :=
  ⟨Gn.refl _ _ _, h, fun i _ h => absurd h (Nat.not_lt_zero _), rfl, Nat.le_refl _, fun i h => absurd h (Nat.not_lt_zero _), fun _ _ _ => rfl⟩
theorem TL1.step {W0 wr w2 : World} {g : Nat} {bg : Bool} {fs : List Fd} {fv : Nat → Nat → Value} {A : Option Addr} {lo hi k : Nat} {fk : Nat → Nat → Value} {mf : Nat → Nat} {u0 u1 u2 u3 u4 u5 u6 : Value} (h : TL1 W0 wr g bg fs fv A lo hi k fk mf) (hhi : hi ≤ W0.heap.size) (hk : k < fs.length)
    (hbe : Below wr.heap.size wr w2) (hs : Seg w2 wr.heap.size w2.heap.size (tn bg fs[k].ty) (.agg #[u0, u1, u2, u3, u4, u5, u6])) :
    ∃ wq, (((((((w2.setCell ⟨g, k * 9 + 2, none⟩ u0).setCell ⟨g, k * 9 + 2 + 1, none⟩ u1).setCell ⟨g, k * 9 + 2 + 2, none⟩ u2).setCell ⟨g, k * 9 + 2 + 3, none⟩ u3).setCell ⟨g, k * 9 + 2 + 4, none⟩ u4).setCell ⟨g, k * 9 + 2 + 5, none⟩ u5).setCell ⟨g, k * 9 + 2 + 6, none⟩ u6) = wq ∧ ∃ fk' mf', TL1 W0 wq g bg fs fv A lo hi (k + 1) fk' mf' := by
  have hg := h.row.at_ (by omega)
  have hsz := h.gr.size
  have hs2 := hbe.size
  have hgw : g < wr.heap.size := by omega
  have cell2 : ∀ j, w2.cell? ⟨g, j, none⟩ = wr.cell? ⟨g, j, none⟩ := fun j => hbe.cell (p := ⟨g, j, none⟩) hgw
  obtain ⟨wq, e, q1, q2, q3, q4, q5, q6, q7, q8⟩ := setr (w2 := w2) (g := g) (o := k * 9 + 2) u0 u1 u2 u3 u4 u5 u6 (fun l hl => by rw [cell2, h.row.c2 k hk l hl]; rfl)
  have hq3 : ∀ j, j ≠ g → j < wr.heap.size → wq.heap[j]? = wr.heap[j]? := fun j h1 h2 => (q3 j h1).trans (hbe.block j h2)
  have hold : ∀ j, (j < k * 9 + 2 ∨ k * 9 + 2 + 7 ≤ j) → wq.cell? ⟨g, j, none⟩ = wr.cell? ⟨g, j, none⟩ := fun j hj => (q2 j hj).trans (cell2 j)
  have hm0 : ∀ i, i ≤ k → W0.heap.size ≤ mf i ∧ mf i ≤ mf k := fun i hi => by
    have := up_to h.mono 0 i (Nat.zero_le _) hi
    rw [h.m0] at this
    exact ⟨this, up_to h.mono i k hi (Nat.le_refl _)⟩
  have hmk := h.mk_
  refine ⟨wq, e, fun i l => if i = k then [u0, u1, u2, u3, u4, u5, u6].getD l u0 else fk i l, fun i => if i ≤ k then mf i else w2.heap.size, ⟨q6.trans (hbe.os.trans h.gr.os), q7.trans (hbe.tape.trans h.gr.tape), q8.trans (hbe.output.trans h.gr.output), by omega, fun j hj hne => (hq3 j (hne (by omega)) (by omega)).trans (h.gr.block j hj hne)⟩,
    ⟨h.row.at_, fun i hi => (hold _ (by omega)).trans (h.row.c0 i hi), fun i hi => (hold _ (by omega)).trans (h.row.c1 i hi), fun i hi l hl => ?_, fun h0 j => (q5 _).trans ((hbe.frozen (p := ⟨g, j, none⟩) hgw).trans (h.row.fz h0 j))⟩, fun i hi hik => ?_, ?_, ?_, fun i hi => ?_, fun i hi l => ?_⟩
  · by_cases hik : i = k
    · subst hik
      have := q1 l hl
      rw [this, if_pos rfl, List.getD_eq_getElem?_getD, List.getElem?_eq_getElem hl]
      rfl
    · rw [if_neg hik, ← h.row.c2 i hi l hl]
      exact hold _ (by omega)
  · by_cases hik2 : i = k
    · subst hik2
      simp only [if_pos, Nat.le_refl, show ¬ (i + 1 ≤ i) by omega, if_false]
      exact (hs.keep fun j h1 h2 => q3 j (by omega)).widen hmk (Nat.le_refl _)
    · have h1 : i ≤ k := by omega
      have h2 : i + 1 ≤ k := by omega
      have := hm0 i h1
      have h3 := hm0 (i + 1) h2
      simp only [if_neg hik2, if_pos h1, if_pos h2]
      exact (h.sg i hi (by omega)).keep fun j h4 h5 => hq3 j (by omega) (by omega)
  · rw [if_pos (Nat.zero_le _)]; exact h.m0
  · rw [if_neg (by omega), q4]; exact Nat.le_refl _
  · have := hm0 i (by omega)
    by_cases h2 : i + 1 ≤ k
    · rw [if_pos (by omega), if_pos h2]; exact h.mono i (by omega)
    · rw [if_pos (by omega), if_neg h2]; omega
  · rw [if_neg (by omega)]; exact h.old i (by omega) l

/-- Loop 2 of turn at its k'th round. -/
structure TL2 (W0 wr : World) (g : Nat) (bg : Bool) (bs : List Ty) (fv : Nat → Nat → Value) (A : Option Addr) (lo hi k : Nat) (fk : Nat → Nat → Value) (mf : Nat → Nat) : Prop where
  gr : Gn bs.length g W0 wr
  row : RB wr A g lo hi bs.length fk
  sg : ∀ i (h : i < bs.length), i < k → Seg wr (mf i) (mf (i + 1)) (tn bg bs[i]) (.agg #[fk i 0, fk i 1, fk i 2, fk i 3, fk i 4, fk i 5, fk i 6])
  m0 : mf 0 = W0.heap.size
  mk_ : mf k ≤ wr.heap.size
  mono : ∀ i, i < k → mf i ≤ mf (i + 1)
  old : ∀ i, k ≤ i → ∀ l, fk i l = fv i l
theorem TL2.start {W0 : World} {g : Nat} {bg : Bool} {bs : List Ty} {fv : Nat → Nat → Value} {A : Option Addr} {lo hi : Nat} (h : RB W0 A g lo hi bs.length fv) : TL2 W0 W0 g bg bs fv A lo hi 0 fv (fun _ => W0.heap.size) :=
  ⟨Gn.refl _ _ _, h, fun i _ h => absurd h (Nat.not_lt_zero _), rfl, Nat.le_refl _, fun i h => absurd h (Nat.not_lt_zero _), fun _ _ _ => rfl⟩
theorem TL2.step {W0 wr w2 : World} {g : Nat} {bg : Bool} {bs : List Ty} {fv : Nat → Nat → Value} {A : Option Addr} {lo hi k : Nat} {fk : Nat → Nat → Value} {mf : Nat → Nat} {u0 u1 u2 u3 u4 u5 u6 : Value} (h : TL2 W0 wr g bg bs fv A lo hi k fk mf) (hhi : hi ≤ W0.heap.size) (hk : k < bs.length)
    (hbe : Below wr.heap.size wr w2) (hs : Seg w2 wr.heap.size w2.heap.size (tn bg bs[k]) (.agg #[u0, u1, u2, u3, u4, u5, u6])) :
    ∃ wq, (((((((w2.setCell ⟨g, k * 7, none⟩ u0).setCell ⟨g, k * 7 + 1, none⟩ u1).setCell ⟨g, k * 7 + 2, none⟩ u2).setCell ⟨g, k * 7 + 3, none⟩ u3).setCell ⟨g, k * 7 + 4, none⟩ u4).setCell ⟨g, k * 7 + 5, none⟩ u5).setCell ⟨g, k * 7 + 6, none⟩ u6) = wq ∧ ∃ fk' mf', TL2 W0 wq g bg bs fv A lo hi (k + 1) fk' mf' := by
  have hg := h.row.at_ (by omega)
  have hsz := h.gr.size
  have hs2 := hbe.size
  have hgw : g < wr.heap.size := by omega
  have cell2 : ∀ j, w2.cell? ⟨g, j, none⟩ = wr.cell? ⟨g, j, none⟩ := fun j => hbe.cell (p := ⟨g, j, none⟩) hgw
  obtain ⟨wq, e, q1, q2, q3, q4, q5, q6, q7, q8⟩ := setr (w2 := w2) (g := g) (o := k * 7) u0 u1 u2 u3 u4 u5 u6 (fun l hl => by rw [cell2, h.row.c2 k hk l hl]; rfl)
  have hq3 : ∀ j, j ≠ g → j < wr.heap.size → wq.heap[j]? = wr.heap[j]? := fun j h1 h2 => (q3 j h1).trans (hbe.block j h2)
  have hold : ∀ j, (j < k * 7 ∨ k * 7 + 7 ≤ j) → wq.cell? ⟨g, j, none⟩ = wr.cell? ⟨g, j, none⟩ := fun j hj => (q2 j hj).trans (cell2 j)
  have hm0 : ∀ i, i ≤ k → W0.heap.size ≤ mf i ∧ mf i ≤ mf k := fun i hi => by
    have := up_to h.mono 0 i (Nat.zero_le _) hi
    rw [h.m0] at this
    exact ⟨this, up_to h.mono i k hi (Nat.le_refl _)⟩
  have hmk := h.mk_
  refine ⟨wq, e, fun i l => if i = k then [u0, u1, u2, u3, u4, u5, u6].getD l u0 else fk i l, fun i => if i ≤ k then mf i else w2.heap.size, ⟨q6.trans (hbe.os.trans h.gr.os), q7.trans (hbe.tape.trans h.gr.tape), q8.trans (hbe.output.trans h.gr.output), by omega, fun j hj hne => (hq3 j (hne (by omega)) (by omega)).trans (h.gr.block j hj hne)⟩,
    ⟨h.row.at_, fun i hi l hl => ?_, fun h0 j => (q5 _).trans ((hbe.frozen (p := ⟨g, j, none⟩) hgw).trans (h.row.fz h0 j))⟩, fun i hi hik => ?_, ?_, ?_, fun i hi => ?_, fun i hi l => ?_⟩
  · by_cases hik : i = k
    · subst hik
      have := q1 l hl
      rw [this, if_pos rfl, List.getD_eq_getElem?_getD, List.getElem?_eq_getElem hl]
      rfl
    · rw [if_neg hik, ← h.row.c2 i hi l hl]
      exact hold _ (by omega)
  · by_cases hik2 : i = k
    · subst hik2
      simp only [if_pos, Nat.le_refl, show ¬ (i + 1 ≤ i) by omega, if_false]
      exact (hs.keep fun j h1 h2 => q3 j (by omega)).widen hmk (Nat.le_refl _)
    · have h1 : i ≤ k := by omega
      have h2 : i + 1 ≤ k := by omega
      have := hm0 i h1
      have h3 := hm0 (i + 1) h2
      simp only [if_neg hik2, if_pos h1, if_pos h2]
      exact (h.sg i hi (by omega)).keep fun j h4 h5 => hq3 j (by omega) (by omega)
  · rw [if_pos (Nat.zero_le _)]; exact h.m0
  · rw [if_neg (by omega), q4]; exact Nat.le_refl _
  · have := hm0 i (by omega)
    by_cases h2 : i + 1 ≤ k
    · rw [if_pos (by omega), if_pos h2]; exact h.mono i (by omega)
    · rw [if_pos (by omega), if_neg h2]; omega
  · rw [if_neg (by omega)]; exact h.old i (by omega) l

theorem turn_seg {wr : World} {lo hi p1 p2 p3 p4 : Nat} {mf mb : Nat → Nat} {bg b' : Bool} {c wd : Int} {fs : List Fd} {ds : List Int} {bs : List Ty} {ns : List (ByteArray × Int)} {A1 A2 A3 A4 : Option Addr} {C1 C2 C3 C4 g1 g2 g3 g4 : Nat} {fk bk : Nat → Nat → Value}
    (hf : fs.length ≤ 140737488355328) (hd : ds.length ≤ 140737488355328) (hb : bs.length ≤ 140737488355328) (hn : ns.length ≤ 140737488355328)
    (hfz : ∀ f ∈ fs, f.name.size ≤ 140737488355328) (hnz : ∀ x ∈ ns, x.1.size ≤ 140737488355328) (hnr : ∀ x ∈ ns, -9223372036854775808 ≤ x.2 ∧ x.2 ≤ 9223372036854775807) (hcap : fs.length ≤ C1 ∧ ds.length ≤ C2 ∧ bs.length ≤ C3 ∧ ns.length ≤ C4)
    (rf : RF wr A1 g1 lo p1 fs fk) (rd : RD wr A2 g2 p1 p2 ds) (rb : RB wr A3 g3 p2 p3 bs.length bk) (rn : RN wr A4 g4 p3 p4 ns)
    (sf : ∀ i (h : i < fs.length), Seg wr (mf i) (mf (i + 1)) (tn bg fs[i].ty) (.agg #[fk i 0, fk i 1, fk i 2, fk i 3, fk i 4, fk i 5, fk i 6])) (sb : ∀ i (h : i < bs.length), Seg wr (mb i) (mb (i + 1)) (tn bg bs[i]) (.agg #[bk i 0, bk i 1, bk i 2, bk i 3, bk i 4, bk i 5, bk i 6]))
    (o1 : lo ≤ p1) (o2 : p1 ≤ p2) (o3 : p2 ≤ p3) (o4 : p3 ≤ p4) (o5 : p4 ≤ mf 0) (of : ∀ i, i < fs.length → mf i ≤ mf (i + 1)) (o6 : mf fs.length ≤ mb 0) (ob : ∀ i, i < bs.length → mb i ≤ mb (i + 1)) (o7 : mb bs.length ≤ hi) :
    Seg wr lo hi (.mk c wd b' (fs.map (tnF bg)) ds (bs.map (tn bg)) ns) (.agg #[.int .i64 c, .int .i64 wd, .bool b', .slice A1 fs.length C1, .slice A2 ds.length C2, .slice A3 bs.length C3, .slice A4 ns.length C4]) := by
  have e1 : fs.length = (fs.map (tnF bg)).length := (List.length_map _).symm
  have e2 : bs.length = (bs.map (tn bg)).length := (List.length_map _).symm
  rw [e1, e2]
  refine .mk lo hi p1 p2 p3 p4 mf mb c wd b' (fs.map (tnF bg)) ds (bs.map (tn bg)) ns A1 A2 A3 A4 C1 C2 C3 C4 g1 g2 g3 g4 fk bk (by rw [← e1]; exact hf) hd (by rw [← e2]; exact hb) hn ?_ hnz hnr ⟨by rw [← e1]; exact hcap.1, hcap.2.1, by rw [← e2]; exact hcap.2.2.1, hcap.2.2.2⟩
    (fun h => rf.at_ (by rw [e1]; exact h)) rd.at_ (fun h => rb.at_ (by rw [e2]; exact h)) rn.at_ (fun i h => ?_) (fun i h => ?_) (fun i h => rf.c2 i (by rw [e1]; exact h)) (fun i h => ?_) rd.c0 (fun i h => rb.c2 i (by rw [e2]; exact h)) (fun i h => ?_) rn.c0 rn.c1
    (fun h => rf.fz (by rw [e1]; exact h)) rd.fz (fun h => rb.fz (by rw [e2]; exact h)) rn.fz o1 o2 o3 o4 o5 (by rw [← e1]; exact of) (by rw [← e1]; exact o6) (by rw [← e2]; exact ob) (by rw [← e2]; exact o7)
  · intro f hf
    obtain ⟨f0, h, rfl⟩ := List.mem_map.mp hf
    exact hfz f0 h
  · rw [List.getElem_map]; exact rf.c0 i (by rw [e1]; exact h)
  · rw [List.getElem_map]; exact rf.c1 i (by rw [e1]; exact h)
  · rw [List.getElem_map]; exact sf i (by rw [e1]; exact h)
  · rw [List.getElem_map]; exact sb i (by rw [e2]; exact h)
end Go.Proofs.Ytbdhihgokkcmfaa.Ty9

