/- Extents as arguments: what the form reads is a row of extents in memory. -/
import Derived.Test.YtcgapkepbnbabaaDoorKe
import Derived.SizedLaws
import Derived.ChangeArms
import Derived.DataReads
import Derived.Carry
namespace Go.Proofs.YtcgapkepbnbabaaDoor.X5
set_option linter.unusedVariables false
set_option linter.unusedSimpArgs false
open Go.RowKit Wd Ty9

theorem each_of {α : Type} [Inhabited α] {n : Nat} {P : Nat → α → Prop} (h : ∀ i, i < n → ∃ x, P i x) : ∃ F : Nat → α, ∀ i, i < n → P i (F i) := by
  have h2 : ∀ i, ∃ x, i < n → P i x := fun i => by
    by_cases hi : i < n
    · obtain ⟨x, hx⟩ := h i hi
      exact ⟨x, fun _ => hx⟩
    · exact ⟨default, fun h => absurd h hi⟩
  exact ⟨fun i => Classical.choose (h2 i), fun i hi => Classical.choose_spec (h2 i) hi⟩
section
variable {H : Type} {enc : TypeId × Value → H} {W : World}

abbrev Rd (enc : TypeId × Value → H) (W : World) (n : Nat) (t : TypeId) (cs : List Value) (x : DataW H × List MemPlace) : Prop := DataW.trod enc Tryd.prog W 0 (fun _ => true) true n t cs = some x
abbrev Wt (t : TypeId) (d : DataW H) : Prop := (DataW.weights Tryd.prog t d).all (fun z => decide (z ≤ reachBytes)) = true

theorem wt_all {e : TypeId} {l : List (DataW H)} (h : (DataW.weightsAll Tryd.prog e l).all (fun z => decide (z ≤ reachBytes)) = true) : ∀ d ∈ l, Wt e d := by
  induction l with
  | nil => intro d hd; exact absurd hd (List.not_mem_nil)
  | cons x l ih =>
    intro d hd
    rw [DataW.weightsAll, List.all_append, Bool.and_eq_true] at h
    rcases List.mem_cons.mp hd with rfl | hd
    · exact h.1
    · exact ih h.2 d hd
theorem wt_each {ts : List TypeId} {ds : List (DataW H)} (h : (DataW.weightsEach Tryd.prog ts ds).all (fun z => decide (z ≤ reachBytes)) = true) {j : Nat} {t : TypeId} {d : DataW H} (ht : ts[j]? = some t) (hd : ds[j]? = some d) : Wt t d :=
  List.all_eq_true.2 fun n hn => List.all_eq_true.1 h n (DataW.weights_mem_each ht hd n hn)

theorem add_plain (a : Addr) (h : a.spot = none) (i : Nat) : a.add i = ⟨a.block, a.off + i, none⟩ := by
  obtain ⟨ab, ao, sq⟩ := a
  simp only at h
  subst h
  unfold Addr.add
  split <;> simp_all
theorem list2 {l : List Value} (h : l.length = 2) : ∃ x0 x1, l = [x0, x1] := by
  match l, h with
  | [x0, x1], _ => exact ⟨x0, x1, rfl⟩

theorem open_row {t e : TypeId} {S : Nat} (ht : Tryd.prog.underlying t = some (.slice e)) (hS : Tryd.prog.cellsOf e = S) (hpos : 0 < S) {n : Nat} {cs : List Value} {y : DataW H × List MemPlace} (h : Rd enc W n t cs y) (hw : Wt t y.1) :
    ∃ A len cap b o, cs = [.slice A len cap] ∧ (A = none → cap = 0) ∧ len ≤ cap ∧ len * Tryd.prog.bytesOf e ≤ reachBytes ∧ (0 < len → A = some ⟨b, o, none⟩ ∧ b < W.heap.size) ∧
      ∀ i, i < len → ∃ m cs' z, n = m + 1 ∧ cs'.length = S ∧ (∀ j u, cs'[j]? = some u → W.cell? ⟨b, o + i * S + j, none⟩ = some u) ∧ Rd enc W m e cs' z ∧ Wt e z.1 := by
  rcases DataW.trod_slice ht h with ⟨rfl, rfl⟩ | ⟨a, len, cap, elems, rest, m, rfl, rfl, rfl, _, hl, hm, hlen, hel, _, _⟩
  · exact ⟨none, 0, 0, 0, 0, rfl, fun _ => rfl, Nat.le_refl _, by simp, fun h => absurd h (Nat.lt_irrefl _), fun i hi => absurd hi (Nat.not_lt_zero _)⟩
  · have hw' : (DataW.weights Tryd.prog t (.slice (elems.map (·.1)) (rest.map (·.1)))).all (fun z => decide (z ≤ reachBytes)) = true := hw
    rw [DataW.weights, ht] at hw'
    simp only [List.all_cons, List.all_append, Bool.and_eq_true, decide_eq_true_eq, List.length_map] at hw'
    obtain ⟨hw1, hw2, _⟩ := hw'
    have hspot : 0 < len → a.spot = none ∧ a.block < W.heap.size := by
      intro h0
      have h1 := hel 0 h0
      rw [List.getElem?_eq_getElem (by omega)] at h1
      obtain ⟨cs', hcs, _⟩ := Option.bind_eq_some_iff.1 h1
      obtain ⟨_, hcl, hat⟩ := World.cells?_some hcs
      have hc0 := hat 0 (by omega)
      rw [List.getElem?_eq_getElem (by omega)] at hc0
      have hsp : ((a.add (0 * Tryd.prog.cellsOf e)).add 0).spot = none ∧ ((a.add (0 * Tryd.prog.cellsOf e)).add 0).block < W.heap.size := by
        refine ⟨?_, World.block_lt_of_cell? W _ hc0⟩
        unfold World.cell? at hc0
        split at hc0
        · split at hc0
          · cases hc0
          · rename_i hs
            simpa using hs
        · cases hc0
      simpa [Addr.add] using hsp
    refine ⟨some a, len, cap, a.block, a.off, rfl, (fun h => by cases h), hl, ?_, ?_, ?_⟩
    · exact Nat.le_trans (Nat.mul_le_mul_right _ (by omega)) hw1
    · intro h0
      obtain ⟨h1, h2⟩ := hspot h0
      refine ⟨?_, h2⟩
      obtain ⟨ab, ao, sq⟩ := a
      simp only at h1
      rw [h1]
    · intro i hi
      have h1 := hel i hi
      rw [List.getElem?_eq_getElem (by omega)] at h1
      obtain ⟨cs', hcs, htr⟩ := Option.bind_eq_some_iff.1 h1
      obtain ⟨_, hcl, hat⟩ := World.cells?_some hcs
      refine ⟨m, cs', _, rfl, by omega, ?_, htr, ?_⟩
      · intro j u hu
        have hj : j < cs'.length := (List.getElem?_eq_some_iff.mp hu).1
        have h2 := hat j (by omega)
        rw [hu] at h2
        obtain ⟨hs, _⟩ := hspot (by omega)
        have e1 : (a.add (i * Tryd.prog.cellsOf e)).add j = ⟨a.block, a.off + i * S + j, none⟩ := by
          rw [hS, add_plain a hs, add_plain _ rfl]
        rw [e1] at h2
        exact h2
      · have hmem : (elems[i]'(by omega)).1 ∈ elems.map (·.1) := List.mem_map.mpr ⟨_, List.getElem_mem _, rfl⟩
        exact wt_all hw2 _ hmem

theorem trod_agg {t : TypeId} {fs : Array Field} (ht : Tryd.prog.underlying t = some (.struct fs)) {n : Nat} {cs : List Value} {y : DataW H × List MemPlace} (h : Rd enc W n t cs y) (hw : Wt t y.1) :
    ∃ m, n = m + 1 ∧ cs.length = Tryd.prog.cellsOf t ∧ ∀ (j : Nat) (f : Field), fs[j]? = some f → ∃ z, Rd enc W m f.type ((cs.drop f.offset).take (Tryd.prog.cellsOf f.type)) z ∧ Wt f.type z.1 := by
  obtain ⟨xs, m, rfl, hx, hl, hlen, hg⟩ := DataW.trod_struct ht h
  refine ⟨m, rfl, hl, fun j f hj => ?_⟩
  have hjl : j < fs.size := (Array.getElem?_eq_some_iff.1 hj).1
  have hxs : xs[j]? = some (xs[j]'(by omega)) := List.getElem?_eq_getElem (by omega)
  refine ⟨_, (hg j f hj).trans hxs, ?_⟩
  have hw' : Wt t (.agg (xs.map (·.1))) := by rw [← show y.1 = .agg (xs.map (·.1)) by rw [hx]]; exact hw
  unfold Wt at hw'
  rw [DataW.weights, ht] at hw'
  exact wt_each hw' (j := j) (by rw [List.getElem?_map]; simp [hj]) (by rw [List.getElem?_map, hxs]; rfl)
theorem cellsE : Tryd.prog.cellsOf 49 = 2 := by kernel_rfl
theorem cells1 : Tryd.prog.cellsOf 3 = 1 := by kernel_rfl
theorem bytesE : Tryd.prog.bytesOf 49 = 16 := by kernel_rfl

theorem open_ext (n : Nat) (cs : List Value) (y : DataW H × List MemPlace) (h : Rd enc W n 49 cs y) (hw : Wt 49 y.1) :
    ∃ x : Xt, cs = [.int .i64 x.1, .int .i64 x.2] := by
  obtain ⟨m, rfl, hl, hf⟩ := trod_agg Tryd.underlying49 h hw
  rw [cellsE] at hl
  obtain ⟨z0, r0, w0⟩ := hf 0 _ rfl
  obtain ⟨z1, r1, w1⟩ := hf 1 _ rfl
  obtain ⟨x0, x1, rfl⟩ := list2 hl
  have q0 : Rd enc W m 3 (([x0, x1].drop 0).take (Tryd.prog.cellsOf 3)) z0 := r0
  rw [cells1] at q0
  have q0 : Rd enc W m 3 [x0] z0 := q0
  have q1 : Rd enc W m 3 (([x0, x1].drop 1).take (Tryd.prog.cellsOf 3)) z1 := r1
  rw [cells1] at q1
  have q1 : Rd enc W m 3 [x1] z1 := q1
  obtain ⟨a, e0, b0⟩ := DataW.trod_int Tryd.underlying3 q0
  obtain ⟨b, e1, b1⟩ := DataW.trod_int Tryd.underlying3 q1
  simp only [List.cons.injEq, and_true] at e0 e1
  subst e0 e1
  exact ⟨(a, b), rfl⟩

theorem open_exts (n : Nat) (cs : List Value) (y : DataW H × List MemPlace) (h : Rd enc W n 34 cs y) (hw : Wt 34 y.1) :
    ∃ A len cap xs, cs = [.slice A len cap] ∧ (A = none → cap = 0) ∧ (len + 1) * 16 ≤ 140737488355328 ∧ Ex W 0 W.heap.size A len xs := by
  obtain ⟨A, len, cap, b, o, e, hA, hcap, hby, hat, hel⟩ := open_row Tryd.underlying34 cellsE (by decide) h hw
  rw [bytesE] at hby
  have hrb : reachBytes ≤ 140737488351232 := by decide
  obtain ⟨F, hF⟩ := each_of (P := fun i (x : Xt) => ∀ j u, ([.int .i64 x.1, .int .i64 x.2] : List Value)[j]? = some u → W.cell? ⟨b, o + i * 2 + j, none⟩ = some u) (n := len) (fun i hi => by
    obtain ⟨m, cs', z, _, hl, hc, hr, hw'⟩ := hel i hi
    obtain ⟨x, rfl⟩ := open_ext m cs' z hr hw'
    exact ⟨x, hc⟩)
  refine ⟨A, len, cap, (List.range len).map F, e, hA, by omega, ⟨by simp, fun h0 => ?_⟩⟩
  obtain ⟨hAe, hb⟩ := hat h0
  refine ⟨b, o, hAe, Nat.zero_le _, hb, fun j u hu => ?_⟩
  obtain ⟨i, hi, he⟩ := cl_at hu
  simp at hi
  rcases he with ⟨rfl, rfl⟩ | ⟨rfl, rfl⟩
  · have := hF i hi 0 (.int .i64 (F i).1) rfl
    simpa using this
  · have := hF i hi 1 (.int .i64 (F i).2) rfl
    rw [Nat.add_assoc] at this
    simpa using this
end
end Go.Proofs.YtcgapkepbnbabaaDoor.X5
