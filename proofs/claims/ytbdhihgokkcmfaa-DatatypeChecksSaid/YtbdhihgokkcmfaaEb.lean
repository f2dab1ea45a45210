/- Appending a row to an empty literal: a copy of the call's own. -/
import Derived.Test.YtbdhihgokkcmfaaTv
import Derived.Deep.AppendLies
import Derived.Deep.RegionHeld3
import Derived.Deep.RegionLawGrows
import Derived.Deep.DeepCutAuto
namespace Go.Proofs.Ytbdhihgokkcmfaa.Ty9
set_option linter.unusedVariables false
set_option linter.unusedSimpArgs false
open Go.RowKit Wd

/-- What the copy leaves: a row of its own with these cells, and nothing else touched. -/
structure Copied (w w' : World) (A' : Option Addr) (C' m : Nat) (news : List Value) : Prop where
  be : Below w.heap.size w w'
  cap : m ≤ C'
  row : 0 < m → ∃ g', A' = some ⟨g', 0, none⟩ ∧ w.heap.size ≤ g' ∧ g' < w'.heap.size ∧ ∀ (j : Nat) (u : Value), news[j]? = some u → w'.cell? ⟨g', j, none⟩ = some u

theorem run_copy {P : Program} (w : World) (t ty e : TypeId) (i : TypeInfo) (z : Value) (size bytes : Nat) (h1 : P.underlying t = some (.slice e)) (h2 : P.info? e = some i) (h3 : i.zero = some z) (h4 : i.size = size) (h5 : i.bytes = bytes) (h6 : z.cells.size = size) (h7 : 0 < size)
    (g : Nat) (A : Option Addr) (m c : Nat) (news : List Value) (hn : news.length = m * size) (hA : 0 < m → ∃ ad, A = some ad ∧ ∀ j u, news[j]? = some u → w.cell? (ad.add j) = some u) (h1c : ∀ u ∈ news, u.oneCell' = true) (b1 : m ≤ maxLen) (b2 : m * bytes ≤ 140737488355328) :
    ∃ A' C' w', (Builtin.append_ #[t, t] ty #[.slice (some ⟨g, 0, none⟩) 0 0, .slice A m c]).run P w = .ok (.slice A' m C') w' ∧ Copied w w' A' C' m news := by
  rcases Nat.eq_zero_or_pos m with rfl | hm
  · refine ⟨some ⟨g, 0, none⟩, 0, w, ?_, Below.refl _ _, Nat.le_refl _, fun h => absurd h (Nat.lt_irrefl _)⟩
    rcases A with _ | ad
    · simp [Builtin.append_, run_underlying h1, sizeOf, typeInfo, h2, Builtin.lenOf, Builtin.firstCells, storeCells]
    · obtain rfl : news = [] := List.eq_nil_of_length_eq_zero (by simpa using hn)
      have h := run_append_room_cells (P := P) w t ty e i h1 h2 g 0 0 0 ad 0 c [] (by simp) (fun j u h => by simp at h) (by simp) (Nat.le_refl _) (fun j hj => by simp at hj) (fun j hj => by simp at hj)
      exact h
  · obtain ⟨ad, rfl, hc⟩ := hA hm
    obtain ⟨v', w', hrun, r1, r2⟩ := run_append_arg_grows (P := P) w t ty e i z size bytes h1 h2 h3 h4 h5 h6 h7 ⟨g, 0, none⟩ 0 0 [] (by simp) (fun j u h => by simp at h) ad m c news hn hc (by omega) (by omega) (by simpa using b2)
    rw [Nat.zero_add, List.nil_append] at r1
    obtain ⟨g', cap, rfl, hg1, hg2⟩ := r1.form hm
    have hcap : m ≤ cap := by
      rcases r1.2 with ⟨h, _⟩ | ⟨g2, cap2, cur, h, _, _, hnc, _⟩
      · cases h
      · cases h; exact hnc
    refine ⟨_, cap, w', hrun, (Below.refl _ _).grown r2 (Nat.le_refl _) (fun k h => by cases h), hcap, fun _ => ⟨g', rfl, hg1, hg2, fun j u hu => ?_⟩⟩
    have := r1.cells (g := g') rfl j u hu
    have hadd : (⟨g', 0, none⟩ : Addr).add j = ⟨g', j, none⟩ := by unfold Addr.add; split <;> simp_all
    rwa [hadd] at this

/-- As a step of a region that draws. -/
theorem step_copy {P : Program} {ops : Array Oper} {o : Oper} {a : Act} {w : World} {K : Act → World → Prop} {Q : Exit → Act → World → Prop} {E : Prop}
    (hg : o.guard = none) (s x : Operand) (t : TypeId) (hop : o.op = Op.call { callee := Callee.builtin Builtin.append, args := #[s, x], argTypes := #[t, t] })
    (e : TypeId) (i : TypeInfo) (z : Value) (size bytes : Nat) (h1 : P.underlying t = some (.slice e)) (h2 : P.info? e = some i) (h3 : i.zero = some z) (h4 : i.size = size) (h5 : i.bytes = bytes) (h6 : z.cells.size = size) (h7 : 0 < size)
    (A : Option Addr) (m c : Nat) (hs : ∃ g : Nat, a.eval s = .slice (some ⟨g, 0, none⟩) 0 0) (hx : a.eval x = .slice A m c) (news : List Value) (hn : news.length = m * size) (w0 : World) (hb : Below w0.heap.size w0 w)
    (hA : 0 < m → ∃ ad, A = some ad ∧ ad.block < w0.heap.size ∧ ∀ j u, news[j]? = some u → w0.cell? (ad.add j) = some u) (h1c : ∀ u ∈ news, u.oneCell' = true) (b1 : m ≤ maxLen) (b2 : m * bytes ≤ 140737488355328)
    (hK : ∀ A' C' w', Copied w w' A' C' m news → Below w0.heap.size w0 w' → K (a.put o.dst (.slice A' m C')) w') :
    if Region.wanted o (yielded ops a.tmps) = true then Oper.wp P o a w K Q else E := by
  have hw : Region.wanted o (yielded ops a.tmps) = true := by simp [Region.wanted, hg]
  rw [if_pos hw]
  obtain ⟨g, hs⟩ := hs
  obtain ⟨A', C', w', hrun, hcp⟩ := run_copy (P := P) w t o.type e i z size bytes h1 h2 h3 h4 h5 h6 h7 g A m c news hn (fun hm => by
    obtain ⟨ad, h1, h2, h3⟩ := hA hm
    refine ⟨ad, h1, fun j u hu => ?_⟩
    have hbl : (ad.add j).block = ad.block := by unfold Addr.add; split <;> rfl
    exact (hb.cell (p := ad.add j) (by rw [hbl]; exact h2)).trans (h3 j u hu)) h1c b1 b2
  unfold Oper.wp
  simp [execOp, hop, resolve, invoke, builtin, hs, hx, hrun, Result.andThen]
  exact hK A' C' w' hcp (below_more hb hcp.be)
theorem Copied.below {w w' w0 : World} {A' : Option Addr} {C' m : Nat} {news : List Value} (h : Copied w w' A' C' m news) (hb : Below w0.heap.size w0 w) : Below w0.heap.size w0 w' := below_more hb h.be
theorem member_info : (Try.prog.info? 68).map (fun i => (i.zero, i.size, i.bytes)) = some (some (.agg #[.string ⟨#[]⟩, .int .i64 0]), 2, 24) := by kernel_rfl
theorem int_info : (Try.prog.info? 3).map (fun i => (i.zero, i.size, i.bytes)) = some (some (.int .i64 0), 1, 8) := by kernel_rfl
def nums (ds : List Int) : List Value := ds.map (Value.int .i64)
def mem2 (ns : List (ByteArray × Int)) : List Value := ns.flatMap fun x => [.string x.1, .int .i64 x.2]
theorem nums_len (ds : List Int) : (nums ds).length = ds.length * 1 := by simp [nums]
theorem mem2_len (ns : List (ByteArray × Int)) : (mem2 ns).length = ns.length * 2 := by
  induction ns with
  | nil => rfl
  | cons x ns ih => rw [mem2, List.flatMap_cons, List.length_append]; rw [mem2] at ih; rw [ih]; simp; omega
theorem nums_one (ds : List Int) : ∀ u ∈ nums ds, u.oneCell' = true := by
  intro u hu; simp [nums] at hu; obtain ⟨x, _, rfl⟩ := hu; rfl
theorem mem2_one (ns : List (ByteArray × Int)) : ∀ u ∈ mem2 ns, u.oneCell' = true := by
  intro u hu; simp [mem2] at hu; obtain ⟨x, y, _, h⟩ := hu; rcases h with rfl | rfl <;> rfl
theorem nums_at {ds : List Int} {j : Nat} {u : Value} (h : (nums ds)[j]? = some u) : ∃ hj : j < ds.length, u = .int .i64 ds[j] := by
  have hj : j < ds.length := by have := (List.getElem?_eq_some_iff.mp h).1; rw [nums_len] at this; omega
  refine ⟨hj, ?_⟩
  simp [nums, hj] at h
  exact h.symm
theorem mem2_get : ∀ (ns : List (ByteArray × Int)) (i : Nat) (h : i < ns.length), (mem2 ns)[i * 2]? = some (.string ns[i].1) ∧ (mem2 ns)[i * 2 + 1]? = some (.int .i64 ns[i].2)
  | [], i, h => absurd h (Nat.not_lt_zero _)
  | x :: ns, 0, _ => ⟨rfl, rfl⟩
  | x :: ns, i + 1, h => by
    have ih := mem2_get ns i (Nat.lt_of_succ_lt_succ h)
    have e : mem2 (x :: ns) = .string x.1 :: .int .i64 x.2 :: mem2 ns := rfl
    rw [e, show (i + 1) * 2 = i * 2 + 1 + 1 by omega]
    exact ih
theorem mem2_at {ns : List (ByteArray × Int)} {j : Nat} {u : Value} (h : (mem2 ns)[j]? = some u) : ∃ (i : Nat) (hi : i < ns.length), (j = i * 2 ∧ u = .string ns[i].1) ∨ (j = i * 2 + 1 ∧ u = .int .i64 ns[i].2) := by
  have hj : j < ns.length * 2 := by have := (List.getElem?_eq_some_iff.mp h).1; rwa [mem2_len] at this
  have hi : j / 2 < ns.length := by omega
  have hg := mem2_get ns (j / 2) hi
  refine ⟨j / 2, hi, ?_⟩
  rcases Nat.mod_two_eq_zero_or_one j with h0 | h0
  · have e : j = j / 2 * 2 := by omega
    left
    refine ⟨e, ?_⟩
    have h1 := hg.1
    rw [← e, h] at h1
    exact Option.some.inj h1
  · have e : j = j / 2 * 2 + 1 := by omega
    right
    refine ⟨e, ?_⟩
    have h1 := hg.2
    rw [← e, h] at h1
    exact Option.some.inj h1
end Go.Proofs.Ytbdhihgokkcmfaa.Ty9
