/- Rows of bytes as arguments; the table as the row lays it (no extents). -/
import Derived.Test.YtpajimkebnfneaaDoorOa
import Derived.Test.YtpajimkebnfneaaDoorKca
import Derived.Test.YtpajimkebnfneaaDoorRows
import Derived.LaidMore
import Derived.MakeChecks
import Derived.OpenShut
import Derived.SizedLaws
import Derived.ChangeArms
import Derived.DataReads
import Derived.Carry
namespace Go.Proofs.YtpajimkebnfneaaDoor.X5
set_option linter.unusedVariables false
set_option linter.unusedSimpArgs false
open Go.RowKit Wd Ty9

theorem each_of {α : Type} [Inhabited α] {n : Nat} {P : Nat → α → Prop} (h : ∀ i, i < n → ∃ x, P i x) : ∃ F : Nat → α, ∀ i, i < n → P i (F i) := by
  have h2 : ∀ i, ∃ x, i < n → P i x := fun i => by
    by_cases hi : i < n
    · obtain ⟨x, hx⟩ := h i hi
      exact ⟨x, fun _ => hx⟩
    · exact ⟨default, fun h => absurd h hi⟩
  exact ⟨fun i => Classical.choose (h2 i), fun i hi => Classical.choose_spec (h2 i) hi⟩
section
variable {H : Type} {enc : TypeId × Value → H} {W : World}

abbrev Rd (enc : TypeId × Value → H) (W : World) (n : Nat) (t : TypeId) (cs : List Value) (x : DataW H × List MemPlace) : Prop := DataW.trod enc Tryd.prog W 0 (fun _ => true) true n t cs = some x
abbrev Wt (t : TypeId) (d : DataW H) : Prop := (DataW.weights Tryd.prog t d).all (fun z => decide (z ≤ reachBytes)) = true

theorem wt_all {e : TypeId} {l : List (DataW H)} (h : (DataW.weightsAll Tryd.prog e l).all (fun z => decide (z ≤ reachBytes)) = true) : ∀ d ∈ l, Wt e d := by
  induction l with
  | nil => intro d hd; exact absurd hd (List.not_mem_nil)
  | cons x l ih =>
    intro d hd
    rw [DataW.weightsAll, List.all_append, Bool.and_eq_true] at h
    rcases List.mem_cons.mp hd with rfl | hd
    · exact h.1
    · exact ih h.2 d hd
theorem wt_each {ts : List TypeId} {ds : List (DataW H)} (h : (DataW.weightsEach Tryd.prog ts ds).all (fun z => decide (z ≤ reachBytes)) = true) {j : Nat} {t : TypeId} {d : DataW H} (ht : ts[j]? = some t) (hd : ds[j]? = some d) : Wt t d :=
  List.all_eq_true.2 fun n hn => List.all_eq_true.1 h n (DataW.weights_mem_each ht hd n hn)

theorem add_plain (a : Addr) (h : a.spot = none) (i : Nat) : a.add i = ⟨a.block, a.off + i, none⟩ := by
  obtain ⟨ab, ao, sq⟩ := a
  simp only at h
  subst h
  unfold Addr.add
  split <;> simp_all
theorem list2 {l : List Value} (h : l.length = 2) : ∃ x0 x1, l = [x0, x1] := by
  match l, h with
  | [x0, x1], _ => exact ⟨x0, x1, rfl⟩

theorem open_row {t e : TypeId} {S : Nat} (ht : Tryd.prog.underlying t = some (.slice e)) (hS : Tryd.prog.cellsOf e = S) (hpos : 0 < S) {n : Nat} {cs : List Value} {y : DataW H × List MemPlace} (h : Rd enc W n t cs y) (hw : Wt t y.1) :
    ∃ A len cap b o, cs = [.slice A len cap] ∧ (A = none → cap = 0) ∧ len ≤ cap ∧ len * Tryd.prog.bytesOf e ≤ reachBytes ∧ (0 < len → A = some ⟨b, o, none⟩ ∧ b < W.heap.size) ∧
      ∀ i, i < len → ∃ m cs' z, n = m + 1 ∧ cs'.length = S ∧ (∀ j u, cs'[j]? = some u → W.cell? ⟨b, o + i * S + j, none⟩ = some u) ∧ Rd enc W m e cs' z ∧ Wt e z.1 := by
  rcases DataW.trod_slice ht h with ⟨rfl, rfl⟩ | ⟨a, len, cap, elems, rest, m, rfl, rfl, rfl, _, hl, hm, hlen, hel, _, _⟩
  · exact ⟨none, 0, 0, 0, 0, rfl, fun _ => rfl, Nat.le_refl _, by simp, fun h => absurd h (Nat.lt_irrefl _), fun i hi => absurd hi (Nat.not_lt_zero _)⟩
  · have hw' : (DataW.weights Tryd.prog t (.slice (elems.map (·.1)) (rest.map (·.1)))).all (fun z => decide (z ≤ reachBytes)) = true := hw
    rw [DataW.weights, ht] at hw'
    simp only [List.all_cons, List.all_append, Bool.and_eq_true, decide_eq_true_eq, List.length_map] at hw'
    obtain ⟨hw1, hw2, _⟩ := hw'
    have hspot : 0 < len → a.spot = none ∧ a.block < W.heap.size := by
      intro h0
      have h1 := hel 0 h0
      rw [List.getElem?_eq_getElem (by omega)] at h1
      obtain ⟨cs', hcs, _⟩ := Option.bind_eq_some_iff.1 h1
      obtain ⟨_, hcl, hat⟩ := World.cells?_some hcs
      have hc0 := hat 0 (by omega)
      rw [List.getElem?_eq_getElem (by omega)] at hc0
      have hsp : ((a.add (0 * Tryd.prog.cellsOf e)).add 0).spot = none ∧ ((a.add (0 * Tryd.prog.cellsOf e)).add 0).block < W.heap.size := by
        refine ⟨?_, World.block_lt_of_cell? W _ hc0⟩
        unfold World.cell? at hc0
        split at hc0
        · split at hc0
          · cases hc0
          · rename_i hs
            simpa using hs
        · cases hc0
      simpa [Addr.add] using hsp
    refine ⟨some a, len, cap, a.block, a.off, rfl, (fun h => by cases h), hl, ?_, ?_, ?_⟩
    · exact Nat.le_trans (Nat.mul_le_mul_right _ (by omega)) hw1
    · intro h0
      obtain ⟨h1, h2⟩ := hspot h0
      refine ⟨?_, h2⟩
      obtain ⟨ab, ao, sq⟩ := a
      simp only at h1
      rw [h1]
    · intro i hi
      have h1 := hel i hi
      rw [List.getElem?_eq_getElem (by omega)] at h1
      obtain ⟨cs', hcs, htr⟩ := Option.bind_eq_some_iff.1 h1
      obtain ⟨_, hcl, hat⟩ := World.cells?_some hcs
      refine ⟨m, cs', _, rfl, by omega, ?_, htr, ?_⟩
      · intro j u hu
        have hj : j < cs'.length := (List.getElem?_eq_some_iff.mp hu).1
        have h2 := hat j (by omega)
        rw [hu] at h2
        obtain ⟨hs, _⟩ := hspot (by omega)
        have e1 : (a.add (i * Tryd.prog.cellsOf e)).add j = ⟨a.block, a.off + i * S + j, none⟩ := by
          rw [hS, add_plain a hs, add_plain _ rfl]
        rw [e1] at h2
        exact h2
      · have hmem : (elems[i]'(by omega)).1 ∈ elems.map (·.1) := List.mem_map.mpr ⟨_, List.getElem_mem _, rfl⟩
        exact wt_all hw2 _ hmem

theorem trod_agg {t : TypeId} {fs : Array Field} (ht : Tryd.prog.underlying t = some (.struct fs)) {n : Nat} {cs : List Value} {y : DataW H × List MemPlace} (h : Rd enc W n t cs y) (hw : Wt t y.1) :
    ∃ m, n = m + 1 ∧ cs.length = Tryd.prog.cellsOf t ∧ ∀ (j : Nat) (f : Field), fs[j]? = some f → ∃ z, Rd enc W m f.type ((cs.drop f.offset).take (Tryd.prog.cellsOf f.type)) z ∧ Wt f.type z.1 := by
  obtain ⟨xs, m, rfl, hx, hl, hlen, hg⟩ := DataW.trod_struct ht h
  refine ⟨m, rfl, hl, fun j f hj => ?_⟩
  have hjl : j < fs.size := (Array.getElem?_eq_some_iff.1 hj).1
  have hxs : xs[j]? = some (xs[j]'(by omega)) := List.getElem?_eq_getElem (by omega)
  refine ⟨_, (hg j f hj).trans hxs, ?_⟩
  have hw' : Wt t (.agg (xs.map (·.1))) := by rw [← show y.1 = .agg (xs.map (·.1)) by rw [hx]]; exact hw
  unfold Wt at hw'
  rw [DataW.weights, ht] at hw'
  exact wt_each hw' (j := j) (by rw [List.getElem?_map]; simp [hj]) (by rw [List.getElem?_map, hxs]; rfl)
end

section
variable {H : Type} {enc : TypeId × Value → H} {W : World}
theorem cellsB : Tryd.prog.cellsOf 5 = 1 := by kernel_rfl
theorem bytesB : Tryd.prog.bytesOf 5 = 1 := by kernel_rfl
theorem u8_wf {n : Int} (h : (Lit.int .u8 n).wf = true) : ∃ k : Nat, k < 256 ∧ n = (k : Int) := by
  have h2 : 0 ≤ n ∧ n ≤ 255 := by
    simp [Lit.wf, IntKind.min, IntKind.max, IntKind.bits, IntKind.signed] at h
    omega
  exact ⟨n.toNat, by omega, by omega⟩
theorem open_bytes (n : Nat) (cs : List Value) (y : DataW H × List MemPlace) (h : Rd enc W n 22 cs y) (hw : Wt 22 y.1) :
    ∃ A len cap bs, cs = [.slice A len cap] ∧ len ≤ cap ∧ len ≤ 140737488355328 ∧ Byt W W.heap.size A len bs := by
  obtain ⟨A, len, cap, b, o, e, hA, hcap, hby, hat, hel⟩ := open_row Tryd.underlying22 cellsB (by decide) h hw
  rw [bytesB] at hby
  have hrb : reachBytes ≤ 140737488351232 := by decide
  obtain ⟨F, hF⟩ := each_of (P := fun i (x : Nat) => x < 256 ∧ W.cell? ⟨b, o + i, none⟩ = some (.int .u8 (x : Int))) (n := len) (fun i hi => by
    obtain ⟨m, cs', z, _, hl, hc, hr, hw'⟩ := hel i hi
    obtain ⟨a, e0, _, hwf⟩ := DataW.trod_int Tryd.underlying5 hr
    obtain ⟨k, hk, rfl⟩ := u8_wf hwf
    subst e0
    refine ⟨k, hk, ?_⟩
    have := hc 0 _ rfl
    rwa [Nat.mul_one, Nat.add_zero] at this)
  refine ⟨A, len, cap, (List.range len).map F, e, hcap, by omega, ⟨by simp, ?_, fun h0 => ?_⟩⟩
  · intro x hx
    obtain ⟨i, hi, rfl⟩ := List.mem_map.mp hx
    exact (hF i (List.mem_range.mp hi)).1
  · obtain ⟨hAe, hb⟩ := hat h0
    refine ⟨b, o, hAe, hb, fun j hj => ?_⟩
    simp at hj
    rw [List.getElem_map, List.getElem_range]
    exact (hF j hj).2
end

/-! the table -/
theorem gShort : Tryd.prog.globalNamed "slabvault/check.short" = some 0 := by kernel_rfl
theorem tShort : (Tryd.prog.globals[0]?).map (·.type) = some 103 := by kernel_rfl
theorem cellsU : Tryd.prog.cellsOf 83 = 1 := by kernel_rfl
def laidL : List (String × DataW Unit) := [("slabvault/check.short", Rows.laid_slabvault_check_short)]
theorem gs_of_laid {W : World} (h : laidMetH Tryd.prog laidL W) : Gs W := by
  rw [MakeChecks.laidMetH_plain _ _ _ (by kernel_rfl)] at h
  obtain ⟨ps, ⟨g0, t0, cs0, f0, p0, q0, hg0, ht0, hv0, hd0, _⟩, _, _⟩ := h
  obtain rfl := Option.some.inj (gShort.symm.trans hg0)
  obtain rfl := Option.some.inj (tShort.symm.trans ht0)
  obtain ⟨xs, m1, rfl, hx1, hlen, hn3, hel⟩ := DataW.trod_array Tryd.underlying103 hd0
  simp only [Prod.mk.injEq] at hx1
  have hx : xs.map (·.1) = cTab.map (fun (n : Nat) => DataW.lit (.int .u32 (n : Int))) := by
    have h1 := hx1.1
    simp only [Rows.laid_slabvault_check_short, DataW.agg.injEq] at h1
    rw [← h1]; rfl
  have hcell : ∀ i, i < 16 → W.cell? ⟨0, i, none⟩ = some (.int .u32 ((cTab.getD i 0 : Nat) : Int)) := by
    intro i hi
    rw [World.var?_cell hg0 hv0 i]
    have h1 := hel i hi
    rw [cellsU, Nat.mul_one] at h1
    have hxi : xs[i]? = some (xs[i]'(by omega)) := List.getElem?_eq_getElem (by omega)
    rw [hxi] at h1
    obtain ⟨k, e1, e2, _⟩ := DataW.trod_int Tryd.underlying83 h1
    have e3 : (xs.map (·.1))[i]? = some (DataW.lit (.int .u32 k)) := by rw [List.getElem?_map, hxi, e2]; rfl
    rw [hx, List.getElem?_map] at e3
    have hci : cTab[i]? = some (cTab.getD i 0) := by
      rw [List.getD_eq_getElem?_getD, List.getElem?_eq_getElem (show i < cTab.length from hi)]; rfl
    rw [hci] at e3
    simp at e3
    have e4 : cs0[i]? = some (.int .u32 k) := by
      have h2 : (cs0.toList.drop i)[0]? = some (.int .u32 k) := by
        have h3 := congrArg (fun (l : List Value) => l[0]?) e1
        simpa [List.getElem?_take] using h3
      simpa using h2
    rw [e4, ← e3]
    simp
  refine ⟨?_, hcell⟩
  exact World.block_lt_of_cell? W _ (hcell 0 (by decide))
theorem door_met (os : Os) (args : Array Value) : laidMetH Tryd.prog laidL ((World.doorLaid Tryd.prog 400 os).forCall (fun _ _ => 0) ⟨#[], args, []⟩).memory :=
  laidMetH_of_parts3 (fuel := 8) (laidMet_of_run' 8 (by kernel_rfl) (by kernel_rfl)) (by kernel_rfl) (by kernel_rfl)
end Go.Proofs.YtpajimkebnfneaaDoor.X5
