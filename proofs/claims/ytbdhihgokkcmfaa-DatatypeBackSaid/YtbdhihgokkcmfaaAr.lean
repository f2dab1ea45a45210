/- A type as an argument: what the form reads is a type in memory. -/
import Derived.Test.YtbdhihgokkcmfaaTv
import Derived.SizedLaws
import Derived.ChangeArms
import Derived.DataReads
import Derived.Carry
namespace Go.Proofs.Ytbdhihgokkcmfaa.Ty9
set_option linter.unusedVariables false
set_option linter.unusedSimpArgs false
open Go.RowKit Wd

instance : Inhabited Ty := ⟨.mk 0 0 false [] [] [] []⟩
instance : Inhabited Fd := ⟨.mk default 0 default⟩
theorem each_of {α : Type} [Inhabited α] {n : Nat} {P : Nat → α → Prop} (h : ∀ i, i < n → ∃ x, P i x) : ∃ F : Nat → α, ∀ i, i < n → P i (F i) := by
  have h2 : ∀ i, ∃ x, i < n → P i x := fun i => by
    by_cases hi : i < n
    · obtain ⟨x, hx⟩ := h i hi
      exact ⟨x, fun _ => hx⟩
    · exact ⟨default, fun h => absurd h hi⟩
  exact ⟨fun i => Classical.choose (h2 i), fun i hi => Classical.choose_spec (h2 i) hi⟩
theorem map_get {α : Type} (F : Nat → α) (n i : Nat) (h : i < ((List.range n).map F).length) : ((List.range n).map F)[i] = F i := by simp

section
variable {H : Type} {enc : TypeId × Value → H} {W : World}

abbrev Rd (enc : TypeId × Value → H) (W : World) (n : Nat) (t : TypeId) (cs : List Value) (x : DataW H × List MemPlace) : Prop := DataW.trod enc Try.prog W 0 (fun _ => true) true n t cs = some x
abbrev Wt (t : TypeId) (d : DataW H) : Prop := (DataW.weights Try.prog t d).all (fun z => decide (z ≤ reachBytes)) = true

theorem wt_all {e : TypeId} {l : List (DataW H)} (h : (DataW.weightsAll Try.prog e l).all (fun z => decide (z ≤ reachBytes)) = true) : ∀ d ∈ l, Wt e d := by
  induction l with
  | nil => intro d hd; exact absurd hd (List.not_mem_nil)
  | cons x l ih =>
    intro d hd
    rw [DataW.weightsAll, List.all_append, Bool.and_eq_true] at h
    rcases List.mem_cons.mp hd with rfl | hd
    · exact h.1
    · exact ih h.2 d hd
theorem wt_each {ts : List TypeId} {ds : List (DataW H)} (h : (DataW.weightsEach Try.prog ts ds).all (fun z => decide (z ≤ reachBytes)) = true) {j : Nat} {t : TypeId} {d : DataW H} (ht : ts[j]? = some t) (hd : ds[j]? = some d) : Wt t d :=
  List.all_eq_true.2 fun n hn => List.all_eq_true.1 h n (DataW.weights_mem_each ht hd n hn)

/-- Every row of the type weighs no more than Go's reach. -/
inductive Fit : Ty → Prop where
  | mk (c wd : Int) (b : Bool) (fs : List Fd) (ds : List Int) (bs : List Ty) (ns : List (ByteArray × Int)) (hf : fs.length * Try.prog.bytesOf 66 ≤ reachBytes) (hd : ds.length * Try.prog.bytesOf 3 ≤ reachBytes)
      (hb : bs.length * Try.prog.bytesOf 28 ≤ reachBytes) (hn : ns.length * Try.prog.bytesOf 68 ≤ reachBytes) (h1 : ∀ f ∈ fs, Fit f.ty) (h2 : ∀ x ∈ bs, Fit x) : Fit (.mk c wd b fs ds bs ns)

theorem add_plain (a : Addr) (h : a.spot = none) (i : Nat) : a.add i = ⟨a.block, a.off + i, none⟩ := by
  obtain ⟨ab, ao, sq⟩ := a
  simp only at h
  subst h
  unfold Addr.add
  split <;> simp_all
theorem list7 {l : List Value} (h : l.length = 7) : ∃ x0 x1 x2 x3 x4 x5 x6, l = [x0, x1, x2, x3, x4, x5, x6] := by
  match l, h with
  | [x0, x1, x2, x3, x4, x5, x6], _ => exact ⟨x0, x1, x2, x3, x4, x5, x6, rfl⟩
theorem list9 {l : List Value} (h : l.length = 9) : ∃ x0 x1 x2 x3 x4 x5 x6 x7 x8, l = [x0, x1, x2, x3, x4, x5, x6, x7, x8] := by
  match l, h with
  | [x0, x1, x2, x3, x4, x5, x6, x7, x8], _ => exact ⟨x0, x1, x2, x3, x4, x5, x6, x7, x8, rfl⟩
theorem list2 {l : List Value} (h : l.length = 2) : ∃ x0 x1, l = [x0, x1] := by
  match l, h with
  | [x0, x1], _ => exact ⟨x0, x1, rfl⟩

theorem open_row {t e : TypeId} {S : Nat} (ht : Try.prog.underlying t = some (.slice e)) (hS : Try.prog.cellsOf e = S) (hpos : 0 < S) {n : Nat} {cs : List Value} {y : DataW H × List MemPlace} (h : Rd enc W n t cs y) (hw : Wt t y.1) :
    ∃ A len cap b o, cs = [.slice A len cap] ∧ len ≤ cap ∧ len * Try.prog.bytesOf e ≤ reachBytes ∧ (0 < len → A = some ⟨b, o, none⟩ ∧ b < W.heap.size) ∧
      ∀ i, i < len → ∃ m cs' z, n = m + 1 ∧ cs'.length = S ∧ (∀ j u, cs'[j]? = some u → W.cell? ⟨b, o + i * S + j, none⟩ = some u) ∧ Rd enc W m e cs' z ∧ Wt e z.1 := by
  rcases DataW.trod_slice ht h with ⟨rfl, rfl⟩ | ⟨a, len, cap, elems, rest, m, rfl, rfl, rfl, _, hl, hm, hlen, hel, _, _⟩
  · exact ⟨none, 0, 0, 0, 0, rfl, Nat.le_refl _, by simp, fun h => absurd h (Nat.lt_irrefl _), fun i hi => absurd hi (Nat.not_lt_zero _)⟩
  · have hw' : (DataW.weights Try.prog t (.slice (elems.map (·.1)) (rest.map (·.1)))).all (fun z => decide (z ≤ reachBytes)) = true := hw
    rw [DataW.weights, ht] at hw'
    simp only [List.all_cons, List.all_append, Bool.and_eq_true, decide_eq_true_eq, List.length_map] at hw'
    obtain ⟨hw1, hw2, _⟩ := hw'
    have hspot : 0 < len → a.spot = none ∧ a.block < W.heap.size := by
      intro h0
      have h1 := hel 0 h0
      rw [List.getElem?_eq_getElem (by omega)] at h1
      obtain ⟨cs', hcs, _⟩ := Option.bind_eq_some_iff.1 h1
      obtain ⟨_, hcl, hat⟩ := World.cells?_some hcs
      have hc0 := hat 0 (by omega)
      rw [List.getElem?_eq_getElem (by omega)] at hc0
      have hsp : ((a.add (0 * Try.prog.cellsOf e)).add 0).spot = none ∧ ((a.add (0 * Try.prog.cellsOf e)).add 0).block < W.heap.size := by
        refine ⟨?_, World.block_lt_of_cell? W _ hc0⟩
        unfold World.cell? at hc0
        split at hc0
        · split at hc0
          · cases hc0
          · rename_i hs
            simpa using hs
        · cases hc0
      simpa [Addr.add] using hsp
    refine ⟨some a, len, cap, a.block, a.off, rfl, hl, ?_, ?_, ?_⟩
    · exact Nat.le_trans (Nat.mul_le_mul_right _ (by omega)) hw1
    · intro h0
      obtain ⟨h1, h2⟩ := hspot h0
      refine ⟨?_, h2⟩
      obtain ⟨ab, ao, sq⟩ := a
      simp only at h1
      rw [h1]
    · intro i hi
      have h1 := hel i hi
      rw [List.getElem?_eq_getElem (by omega)] at h1
      obtain ⟨cs', hcs, htr⟩ := Option.bind_eq_some_iff.1 h1
      obtain ⟨_, hcl, hat⟩ := World.cells?_some hcs
      refine ⟨m, cs', _, rfl, by omega, ?_, htr, ?_⟩
      · intro j u hu
        have hj : j < cs'.length := (List.getElem?_eq_some_iff.mp hu).1
        have h2 := hat j (by omega)
        rw [hu] at h2
        obtain ⟨hs, _⟩ := hspot (by omega)
        have e1 : (a.add (i * Try.prog.cellsOf e)).add j = ⟨a.block, a.off + i * S + j, none⟩ := by
          rw [hS, add_plain a hs, add_plain _ rfl]
        rw [e1] at h2
        exact h2
      · have hmem : (elems[i]'(by omega)).1 ∈ elems.map (·.1) := List.mem_map.mpr ⟨_, List.getElem_mem _, rfl⟩
        exact wt_all hw2 _ hmem

theorem trod_agg {t : TypeId} {fs : Array Field} (ht : Try.prog.underlying t = some (.struct fs)) {n : Nat} {cs : List Value} {y : DataW H × List MemPlace} (h : Rd enc W n t cs y) (hw : Wt t y.1) :
    ∃ m, n = m + 1 ∧ cs.length = Try.prog.cellsOf t ∧ ∀ (j : Nat) (f : Field), fs[j]? = some f → ∃ z, Rd enc W m f.type ((cs.drop f.offset).take (Try.prog.cellsOf f.type)) z ∧ Wt f.type z.1 := by
  obtain ⟨xs, m, rfl, hx, hl, hlen, hg⟩ := DataW.trod_struct ht h
  refine ⟨m, rfl, hl, fun j f hj => ?_⟩
  have hjl : j < fs.size := (Array.getElem?_eq_some_iff.1 hj).1
  have hxs : xs[j]? = some (xs[j]'(by omega)) := List.getElem?_eq_getElem (by omega)
  refine ⟨_, (hg j f hj).trans hxs, ?_⟩
  have hw' : Wt t (.agg (xs.map (·.1))) := by rw [← show y.1 = .agg (xs.map (·.1)) by rw [hx]]; exact hw
  unfold Wt at hw'
  rw [DataW.weights, ht] at hw'
  exact wt_each hw' (j := j) (by rw [List.getElem?_map]; simp [hj]) (by rw [List.getElem?_map, hxs]; rfl)
theorem cells9 : Try.prog.cellsOf 66 = 9 := by kernel_rfl
theorem cells7 : Try.prog.cellsOf 28 = 7 := by kernel_rfl
theorem cells2 : Try.prog.cellsOf 68 = 2 := by kernel_rfl
theorem cells1 : Try.prog.cellsOf 3 = 1 := by kernel_rfl
theorem cells1s : Try.prog.cellsOf 9 = 1 := by kernel_rfl
theorem cells1b : Try.prog.cellsOf 4 = 1 := by kernel_rfl
theorem cells1c : Try.prog.cellsOf 22 = 1 := by kernel_rfl
theorem cells1F : Try.prog.cellsOf 23 = 1 := by kernel_rfl
theorem cells1D : Try.prog.cellsOf 24 = 1 := by kernel_rfl
theorem cells1B : Try.prog.cellsOf 25 = 1 := by kernel_rfl
theorem cells1N : Try.prog.cellsOf 26 = 1 := by kernel_rfl
theorem bytes8 : Try.prog.bytesOf 3 = 8 := by kernel_rfl
theorem bytesF : 1 ≤ Try.prog.bytesOf 66 := by decide +kernel
theorem bytesT : 1 ≤ Try.prog.bytesOf 28 := by decide +kernel
theorem bytesM : 1 ≤ Try.prog.bytesOf 68 := by decide +kernel
theorem reach_len {n b : Nat} (h : n * b ≤ reachBytes) (hb : 1 ≤ b) : n ≤ 140737488355328 := by
  have : n * 1 ≤ n * b := Nat.mul_le_mul_left _ hb
  have h2 : reachBytes ≤ 140737488355328 := by decide
  omega
theorem take_one {l : List Value} {v : Value} (h : l.take 1 = [v]) : l[0]? = some v := by
  cases l with
  | nil => simp at h
  | cons x l => simp at h; simp [h]

set_option maxHeartbeats 2000000 in
theorem open_ty2 (n : Nat) : ∀ (cs : List Value) (y : DataW H × List MemPlace), Rd enc W n 28 cs y → Wt 28 y.1 → ∃ t, TyAt W W.heap.size t (.agg cs.toArray) ∧ Fit t := by
  induction n using Nat.strongRecOn with
  | ind n ih =>
    intro cs y h hw
    obtain ⟨m, rfl, hl, hf⟩ := trod_agg Try.underlying28 h hw
    rw [cells7] at hl
    obtain ⟨z0, r0, w0⟩ := hf 0 _ rfl
    obtain ⟨z1, r1, w1⟩ := hf 1 _ rfl
    obtain ⟨z2, r2, w2⟩ := hf 2 _ rfl
    obtain ⟨z3, r3, w3⟩ := hf 3 _ rfl
    obtain ⟨z4, r4, w4⟩ := hf 4 _ rfl
    obtain ⟨z5, r5, w5⟩ := hf 5 _ rfl
    obtain ⟨z6, r6, w6⟩ := hf 6 _ rfl
    obtain ⟨x0, x1, x2, x3, x4, x5, x6, rfl⟩ := list7 hl
    have q0 : Rd enc W m 22 (([x0, x1, x2, x3, x4, x5, x6].drop 0).take (Try.prog.cellsOf 22)) z0 := r0
    rw [cells1c] at q0
    have q0 : Rd enc W m 22 [x0] z0 := q0
    have w0 : Wt 22 z0.1 := w0
    have q1 : Rd enc W m 3 (([x0, x1, x2, x3, x4, x5, x6].drop 1).take (Try.prog.cellsOf 3)) z1 := r1
    rw [cells1] at q1
    have q1 : Rd enc W m 3 [x1] z1 := q1
    have w1 : Wt 3 z1.1 := w1
    have q2 : Rd enc W m 4 (([x0, x1, x2, x3, x4, x5, x6].drop 2).take (Try.prog.cellsOf 4)) z2 := r2
    rw [cells1b] at q2
    have q2 : Rd enc W m 4 [x2] z2 := q2
    have w2 : Wt 4 z2.1 := w2
    have q3 : Rd enc W m 23 (([x0, x1, x2, x3, x4, x5, x6].drop 3).take (Try.prog.cellsOf 23)) z3 := r3
    rw [cells1F] at q3
    have q3 : Rd enc W m 23 [x3] z3 := q3
    have w3 : Wt 23 z3.1 := w3
    have q4 : Rd enc W m 24 (([x0, x1, x2, x3, x4, x5, x6].drop 4).take (Try.prog.cellsOf 24)) z4 := r4
    rw [cells1D] at q4
    have q4 : Rd enc W m 24 [x4] z4 := q4
    have w4 : Wt 24 z4.1 := w4
    have q5 : Rd enc W m 25 (([x0, x1, x2, x3, x4, x5, x6].drop 5).take (Try.prog.cellsOf 25)) z5 := r5
    rw [cells1B] at q5
    have q5 : Rd enc W m 25 [x5] z5 := q5
    have w5 : Wt 25 z5.1 := w5
    have q6 : Rd enc W m 26 (([x0, x1, x2, x3, x4, x5, x6].drop 6).take (Try.prog.cellsOf 26)) z6 := r6
    rw [cells1N] at q6
    have q6 : Rd enc W m 26 [x6] z6 := q6
    have w6 : Wt 26 z6.1 := w6
    clear r0 r1 r2 r3 r4 r5 r6 hf h hw hl
    obtain ⟨c, e0, _, _⟩ := DataW.trod_int Try.underlying22 q0
    obtain ⟨wd, e1, _, _⟩ := DataW.trod_int Try.underlying3 q1
    obtain ⟨bg, e2, _⟩ := DataW.trod_bool Try.underlying4 q2
    obtain ⟨fA, fl, fC, fb, fo, e3, lf, bf, af, hF⟩ := open_row Try.underlying23 cells9 (by decide) q3 w3
    obtain ⟨dA, dl, dC, db, dO, e4, ld, bd, ad, hD⟩ := open_row Try.underlying24 cells1 (by decide) q4 w4
    obtain ⟨bA, bl, bC, bb, bo, e5, lb, bbb, ab, hB⟩ := open_row Try.underlying25 cells7 (by decide) q5 w5
    obtain ⟨nA, nl, nC, nb, nO, e6, ln, bn, an, hN⟩ := open_row Try.underlying26 cells2 (by decide) q6 w6
    simp only [List.cons.injEq, and_true] at e0 e1 e2 e3 e4 e5 e6
    subst e0 e1 e2 e3 e4 e5 e6
    clear q0 q1 q2 q3 q4 q5 q6 w0 w1 w2 w3 w4 w5 w6
    -- the fields
    have hF2 : ∀ i, i < fl → ∃ x : Fd × (Nat → Value), x.1.name.size ≤ 140737488355328 ∧ W.cell? ⟨fb, fo + i * 9, none⟩ = some (.string x.1.name) ∧ W.cell? ⟨fb, fo + i * 9 + 1, none⟩ = some (.int .i64 x.1.pos) ∧
        (∀ k, k < 7 → W.cell? ⟨fb, fo + i * 9 + 2 + k, none⟩ = some (x.2 k)) ∧ TyAt W W.heap.size x.1.ty (.agg #[x.2 0, x.2 1, x.2 2, x.2 3, x.2 4, x.2 5, x.2 6]) ∧ Fit x.1.ty := by
      intro i hi
      obtain ⟨m', cs', z, rfl, hl, hc, hr, hw⟩ := hF i hi
      obtain ⟨m2, rfl, hl2, hf⟩ := trod_agg Try.underlying66 hr hw
      obtain ⟨za, ra, wa⟩ := hf 0 _ rfl
      obtain ⟨zb, rb, wb⟩ := hf 1 _ rfl
      obtain ⟨zc, rc, wc⟩ := hf 2 _ rfl
      obtain ⟨y0, y1, y2, y3, y4, y5, y6, y7, y8, rfl⟩ := list9 hl
      have ra : Rd enc W m2 9 (([y0, y1, y2, y3, y4, y5, y6, y7, y8].drop 0).take (Try.prog.cellsOf 9)) za := ra
      have rb : Rd enc W m2 3 (([y0, y1, y2, y3, y4, y5, y6, y7, y8].drop 1).take (Try.prog.cellsOf 3)) zb := rb
      have rc : Rd enc W m2 28 (([y0, y1, y2, y3, y4, y5, y6, y7, y8].drop 2).take (Try.prog.cellsOf 28)) zc := rc
      rw [cells1s] at ra
      rw [cells1] at rb
      rw [cells7] at rc
      have wa : Wt 9 za.1 := wa
      have wc : Wt 28 zc.1 := wc
      obtain ⟨s, ea, eza, _⟩ := DataW.trod_string Try.underlying9 ra
      obtain ⟨p, eb, _, _⟩ := DataW.trod_int Try.underlying3 rb
      obtain ⟨t, ht, hfit⟩ := ih m2 (by omega) _ _ rc wc
      have ea2 : y0 = .string s := by simpa using ea
      have eb2 : y1 = .int .i64 p := by simpa using eb
      clear ea eb
      subst ea2
      subst eb2
      refine ⟨(.mk s p t, fun k => [y2, y3, y4, y5, y6, y7, y8].getD k default), ?_, hc 0 _ rfl, hc 1 _ rfl, ?_, ht, hfit⟩
      · show s.size ≤ _
        rw [eza] at wa
        unfold Wt at wa
        rw [DataW.weights] at wa
        have h2 : reachBytes ≤ 140737488355328 := by decide
        simp only [List.all_cons, List.all_nil, Bool.and_true, decide_eq_true_eq, Array.length_toList] at wa
        exact Nat.le_trans wa h2
      · intro k hk
        have h3 : [y2, y3, y4, y5, y6, y7, y8][k]? = some ([y2, y3, y4, y5, y6, y7, y8].getD k default) := by
          rw [List.getD_eq_getElem?_getD, List.getElem?_eq_getElem hk]; rfl
        have := hc (2 + k) ([y2, y3, y4, y5, y6, y7, y8].getD k default) (by rw [← h3, show 2 + k = k + 2 by omega]; rfl)
        rw [← Nat.add_assoc] at this
        exact this
    have hD2 : ∀ i, i < dl → ∃ x : Int, W.cell? ⟨db, dO + i, none⟩ = some (.int .i64 x) := by
      intro i hi
      obtain ⟨m', cs', z, rfl, hl, hc, hr, hw⟩ := hD i hi
      obtain ⟨x, rfl, _, _⟩ := DataW.trod_int Try.underlying3 hr
      refine ⟨x, ?_⟩
      have := hc 0 _ rfl
      rw [Nat.mul_one, Nat.add_zero] at this
      exact this
    have hB2 : ∀ i, i < bl → ∃ x : Ty × (Nat → Value), (∀ k, k < 7 → W.cell? ⟨bb, bo + i * 7 + k, none⟩ = some (x.2 k)) ∧ TyAt W W.heap.size x.1 (.agg #[x.2 0, x.2 1, x.2 2, x.2 3, x.2 4, x.2 5, x.2 6]) ∧ Fit x.1 := by
      intro i hi
      obtain ⟨m', cs', z, rfl, hl, hc, hr, hw⟩ := hB i hi
      obtain ⟨t, ht, hfit⟩ := ih m' (by omega) _ _ hr hw
      obtain ⟨y2, y3, y4, y5, y6, y7, y8, rfl⟩ := list7 hl
      refine ⟨(t, fun k => [y2, y3, y4, y5, y6, y7, y8].getD k default), ?_, ht, hfit⟩
      intro k hk
      have h3 : [y2, y3, y4, y5, y6, y7, y8][k]? = some ([y2, y3, y4, y5, y6, y7, y8].getD k default) := by
        rw [List.getD_eq_getElem?_getD, List.getElem?_eq_getElem hk]; rfl
      exact hc k _ h3
    have hN2 : ∀ i, i < nl → ∃ x : ByteArray × Int, x.1.size ≤ 140737488355328 ∧ (-9223372036854775808 ≤ x.2 ∧ x.2 ≤ 9223372036854775807) ∧ W.cell? ⟨nb, nO + i * 2, none⟩ = some (.string x.1) ∧ W.cell? ⟨nb, nO + i * 2 + 1, none⟩ = some (.int .i64 x.2) := by
      intro i hi
      obtain ⟨m', cs', z, rfl, hl, hc, hr, hw⟩ := hN i hi
      obtain ⟨m2, rfl, hl2, hf⟩ := trod_agg Try.underlying68 hr hw
      obtain ⟨za, ra, wa⟩ := hf 0 _ rfl
      obtain ⟨zb, rb, wb⟩ := hf 1 _ rfl
      obtain ⟨y0, y1, rfl⟩ := list2 hl
      have ra : Rd enc W m2 9 (([y0, y1].drop 0).take (Try.prog.cellsOf 9)) za := ra
      have rb : Rd enc W m2 3 (([y0, y1].drop 1).take (Try.prog.cellsOf 3)) zb := rb
      rw [cells1s] at ra
      rw [cells1] at rb
      have wa : Wt 9 za.1 := wa
      obtain ⟨s, ea, eza, _⟩ := DataW.trod_string Try.underlying9 ra
      obtain ⟨p, eb, _, hpw⟩ := DataW.trod_int Try.underlying3 rb
      have ea2 : y0 = .string s := by simpa using ea
      have eb2 : y1 = .int .i64 p := by simpa using eb
      clear ea eb
      subst ea2
      subst eb2
      refine ⟨(s, p), ?_, wf64 hpw, hc 0 _ rfl, hc 1 _ rfl⟩
      show s.size ≤ _
      rw [eza] at wa
      unfold Wt at wa
      rw [DataW.weights] at wa
      have h2 : reachBytes ≤ 140737488355328 := by decide
      simp only [List.all_cons, List.all_nil, Bool.and_true, decide_eq_true_eq, Array.length_toList] at wa
      exact Nat.le_trans wa h2
    obtain ⟨F, hF3⟩ := each_of hF2
    obtain ⟨D, hD3⟩ := each_of hD2
    obtain ⟨Bs, hB3⟩ := each_of hB2
    obtain ⟨Ns, hN3⟩ := each_of hN2
    have lf' := reach_len bf bytesF
    have ld' := reach_len bd (by rw [bytes8]; decide)
    have lb' := reach_len bbb bytesT
    have ln' := reach_len bn bytesM
    have eF : ((List.range fl).map fun i => (F i).1).length = fl := by simp
    have eD : ((List.range dl).map D).length = dl := by simp
    have eB : ((List.range bl).map fun i => (Bs i).1).length = bl := by simp
    have eN : ((List.range nl).map Ns).length = nl := by simp
    have hT := TyAt.mk (w := W) (B := W.heap.size) c wd bg ((List.range fl).map fun i => (F i).1) ((List.range dl).map D) ((List.range bl).map fun i => (Bs i).1) ((List.range nl).map Ns)
      fA dA bA nA fC dC bC nC fb fo db dO bb bo nb nO (fun i k => (F i).2 k) (fun i k => (Bs i).2 k) (by rw [eF]; exact lf') (by rw [eD]; exact ld') (by rw [eB]; exact lb') (by rw [eN]; exact ln')
      (by
        intro f hf
        obtain ⟨i, hi, rfl⟩ := List.mem_map.mp hf
        exact (hF3 i (List.mem_range.mp hi)).1)
      (by
        intro f hf
        obtain ⟨i, hi, rfl⟩ := List.mem_map.mp hf
        exact (hN3 i (List.mem_range.mp hi)).1)
      (by
        intro f hf
        obtain ⟨i, hi, rfl⟩ := List.mem_map.mp hf
        exact (hN3 i (List.mem_range.mp hi)).2.1)
      ⟨by rw [eF]; exact lf, by rw [eD]; exact ld, by rw [eB]; exact lb, by rw [eN]; exact ln⟩
      (by rw [eF]; exact af) (by rw [eD]; exact ad) (by rw [eB]; exact ab) (by rw [eN]; exact an)
      (fun i h => by rw [map_get (fun i => (F i).1)]; exact (hF3 i (by omega)).2.1)
      (fun i h => by rw [map_get (fun i => (F i).1)]; exact (hF3 i (by omega)).2.2.1)
      (fun i h k hk => (hF3 i (by omega)).2.2.2.1 k hk)
      (fun i h => by rw [map_get (fun i => (F i).1)]; exact (hF3 i (by omega)).2.2.2.2.1)
      (fun i h => by rw [map_get D]; exact hD3 i (by omega))
      (fun i h k hk => (hB3 i (by omega)).1 k hk)
      (fun i h => by rw [map_get (fun i => (Bs i).1)]; exact (hB3 i (by omega)).2.1)
      (fun i h => by rw [map_get Ns]; exact (hN3 i (by omega)).2.2.1)
      (fun i h => by rw [map_get Ns]; exact (hN3 i (by omega)).2.2.2)
    rw [eF, eD, eB, eN] at hT
    refine ⟨_, hT, .mk _ _ _ _ _ _ _ (by rw [eF]; exact bf) (by rw [eD]; exact bd) (by rw [eB]; exact bbb) (by rw [eN]; exact bn) ?_ ?_⟩
    · intro f hf
      obtain ⟨i, hi, rfl⟩ := List.mem_map.mp hf
      exact (hF3 i (List.mem_range.mp hi)).2.2.2.2.2
    · intro f hf
      obtain ⟨i, hi, rfl⟩ := List.mem_map.mp hf
      exact (hB3 i (List.mem_range.mp hi)).2.2
theorem open_ty (n : Nat) (cs : List Value) (y : DataW H × List MemPlace) (h : Rd enc W n 28 cs y) (hw : Wt 28 y.1) : ∃ t, TyAt W W.heap.size t (.agg cs.toArray) := by
  obtain ⟨t, ht, _⟩ := open_ty2 n cs y h hw
  exact ⟨t, ht⟩
theorem agg_of {v : Value} (h : v.cells.toList.length = 7) : v = .agg v.cells.toList.toArray := by
  cases v with
  | agg cs => simp [Value.cells]
  | _ => simp [Value.cells] at h
end
end Go.Proofs.Ytbdhihgokkcmfaa.Ty9
