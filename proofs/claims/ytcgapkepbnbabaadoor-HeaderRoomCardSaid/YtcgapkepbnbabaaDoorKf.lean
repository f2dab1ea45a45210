/- The library's functions at rows of extents: IndexFunc, ContainsFunc, SortFunc, Clone. -/
import Derived.Test.YtcgapkepbnbabaaDoorKe
import Derived.Test.YtcgapkepbnbabaaDoorGa0
namespace Go.Proofs.YtcgapkepbnbabaaDoor.X5
set_option linter.unusedVariables false
set_option linter.unusedSimpArgs false
open Go.RowKit Wd Ty9

/-- What is asked of a predicate. -/
def Says (g : Nat) (lb : Array Value) (p : Xt → Bool) : Prop := ∀ (x : Xt) (W : World), Calls Tryd.prog g (#[av x] ++ lb) W fun e w' => e = .returned (.bool (p x)) ∧ Below W.heap.size W w'
theorem enters (g : Nat) {fn : Func} (h : Tryd.prog.funcs[g]? = some fn) (h2 : (fn.body.isSome) = true) : True := trivial

theorem idx_spec (p : Xt → Bool) : ∀ (l : List Xt) (i : Nat), (Lib.idxByFrom (fun _ y => p y) (0, 0) l i = -1 ∧ ∀ x ∈ l, p x = false) ∨ ∃ k, ∃ h : k < l.length, Lib.idxByFrom (fun _ y => p y) (0, 0) l i = ((i + k : Nat) : Int) ∧ p l[k] = true ∧ ∀ x ∈ l.take k, p x = false
  | [], _ => .inl ⟨rfl, by simp⟩
  | y :: r, i => by
    cases h : p y with
    | true => exact .inr ⟨0, by simp, by simp [Lib.idxByFrom, h], by simpa using h, by simp⟩
    | false =>
      rcases idx_spec p r (i + 1) with ⟨e, ha⟩ | ⟨k, hk, e, ht, ha⟩
      · exact .inl ⟨by simp [Lib.idxByFrom, h, e], fun x hx => by
          rcases List.mem_cons.mp hx with rfl | hx
          · exact h
          · exact ha x hx⟩
      · refine .inr ⟨k + 1, by simpa using hk, by simp only [Lib.idxByFrom, h]; rw [show (if false = true then (i : Int) else Lib.idxByFrom (fun _ y => p y) (0, 0) r (i + 1)) = Lib.idxByFrom (fun _ y => p y) (0, 0) r (i + 1) from rfl, e]; congr 1; omega, by simpa using ht, fun x hx => ?_⟩
        rw [List.take_succ_cons] at hx
        rcases List.mem_cons.mp hx with rfl | hx
        · exact h
        · exact ha x hx

theorem index_any (p : Xt → Bool) (g : Nat) (lb : Array Value) (hg : Says g lb p) (eg : ∀ args w, (callFunc g args).run Tryd.prog w = .ok (.enter g args) w) (A : Option Addr) (n C lo hi : Nat) (xs : List Xt) (w : World) (hn : n ≤ 140737488355328) (h : Ex w lo hi A n xs) (hhi : hi ≤ w.heap.size) :
    Calls Tryd.prog 59 #[.slice A n C, .func (.func g) #[] lb] w fun e w' => ((e = .returned (.int .i64 (-1)) ∧ ∀ x ∈ xs, p x = false) ∨ ∃ k, ∃ h : k < xs.length, e = .returned (.int .i64 k) ∧ p xs[k] = true ∧ ∀ x ∈ xs.take k, p x = false) ∧ Below w.heap.size w w' := by
  rcases Nat.eq_zero_or_pos n with rfl | h0
  · obtain rfl : xs = [] := List.eq_nil_of_length_eq_zero h.len
    exact (index0 A C _ w).mono fun e w' ⟨h1, h2⟩ => ⟨.inl ⟨h1, by simp⟩, h2⟩
  · obtain ⟨b, o, rfl, hb1, hb2, hc⟩ := h.at_ h0
    have hl := h.len
    refine (AnyQ.slices_IndexFunc Sh.layIF 2 Tryd.isAgg49 Tryd.sizeOf49 (fun x : Xt => [.int .i64 x.1, .int .i64 x.2]) (fun _ => rfl) p g lb eg b o n C xs w (fun W x _ => ?_) (by omega) (by omega) (by omega) fun j hj i v hv => ?_).mono fun e w' ⟨h1, h2⟩ => ⟨?_, h2⟩
    · rename_i hbw
      exact (hg x W).mono fun e w' ⟨q1, q2⟩ => ⟨q1, below_then hbw hbw.size q2⟩
    · obtain ⟨g1, g2⟩ := cl_get xs j hj
      rw [getElem!_pos xs j hj] at hv
      rcases i with _ | _ | i
      · simp at hv; subst hv; exact hc _ _ g1
      · simp at hv; subst hv; rw [show o + j * 2 + (0 + 1) = o + (j * 2 + 1) by omega]; exact hc _ _ g2
      · simp at hv
    · rw [List.take_of_length_le (by omega)] at h1
      rw [h1]
      rcases idx_spec p xs 0 with ⟨e1, h3⟩ | ⟨k, hk, e1, h3, h4⟩
      · exact .inl ⟨congrArg (fun z => Ending.returned (Value.int .i64 z)) e1, h3⟩
      · exact .inr ⟨k, hk, congrArg (fun z => Ending.returned (Value.int .i64 z)) (by rw [show (k : Int) = ((0 + k : Nat) : Int) by omega]; exact e1), h3, h4⟩

theorem clone_any (A : Option Addr) (n C lo hi : Nat) (xs : List Xt) (w : World) (hn : n * 16 ≤ 140737488355328) (h : Ex w lo hi A n xs) :
    Calls Tryd.prog 42 #[.slice A n C] w fun e w' => ∃ A' C', e = .returned (.slice A' n C') ∧ n ≤ C' ∧ w'.ownsRow w.heap.size 49 2 (.slice A' n C') n (cl xs) ∧ Below w.heap.size w w' := by
  rcases A with _ | A
  · have h0 : n = 0 := by
      rcases Nat.eq_zero_or_pos n with h0 | h0
      · exact h0
      · obtain ⟨b, o, e, _⟩ := h.at_ h0; cases e
    subst h0
    obtain rfl : xs = [] := List.eq_nil_of_length_eq_zero h.len
    exact (AnyE.slices_Clone_nil Sh.layCl 0 C w).mono fun e w' ⟨h1, h2⟩ => ⟨none, 0, h1, by omega, by rw [h2]; exact World.ownsRow_nil _ _ _ _, by rw [h2]; exact Below.refl _ _⟩
  · rcases Nat.eq_zero_or_pos n with rfl | h0
    · obtain rfl : xs = [] := List.eq_nil_of_length_eq_zero h.len
      go_enter Tryd.func42, Tryd.ntmps42
      have q22 : ∀ (w : World) (a : Option Addr) (n c n' c' : Nat), (binOp .eql 34 (.slice a n c) (.slice none n' c')).run Tryd.prog w = .ok (.bool a.isNone) w := fun w a n c n' c' => Lib.run_eql_slice_nil w _ _ a n c n' c' Tryd.underlying34
      go_wp2
      go_ret
      exact ⟨_, _, rfl, Nat.le_refl _, World.ownsRow_made w #[] 0 (Nat.le_refl _) (Nat.zero_le _) (by simp), (Below.refl _ _).alloc (Nat.le_refl _) _⟩
    · obtain ⟨b, o, e, hb1, hb2, hc⟩ := h.at_ h0
      cases e
      obtain ⟨i0, hi0, hz, hs, hbt⟩ := info_parts ext_info
      refine (AnyE.slices_Clone Sh.layCl i0 _ 2 16 hi0 hz hs hbt (by rfl) (by decide) Tryd.sizeOf49 b o n C (cl xs) w (by rw [cl_len, h.len]) (by unfold maxLen; omega) hn hc (cl_one xs)).mono fun e w' ⟨v', h1, h2, h3, h4⟩ => ?_
      obtain ⟨A', C', rfl, hC, -, -⟩ := own_ex h2
      exact ⟨A', C', h1, hC, h2, h4⟩

/-! ### sorting -/
theorem ltAt (x y : Xt) : ltOf (fun x y : Xt => Lib.compareInt x.1 y.1) x y = decide (x.1 < y.1) := by
  unfold ltOf Lib.compareInt
  by_cases h1 : x.1 < y.1
  · simp [h1]
  · by_cases h2 : y.1 < x.1 <;> simp [h1, h2]
theorem swoAt : Go.Sort.SWO (ltOf fun x y : Xt => Lib.compareInt x.1 y.1) where
  irrefl x := by rw [ltAt]; simp
  trans x y z h1 h2 := by rw [ltAt] at *; simp at *; omega
  ntrans x y z h1 h2 := by rw [ltAt] at *; simp at *; omega
/-- What is asked of a comparison. -/
def Compares (g : Nat) : Prop := ∀ (x y : Xt) (W : World), Calls Tryd.prog g #[av x, av y] W fun e w' => e = .returned (.int .i64 (Lib.compareInt x.1 y.1)) ∧ ∃ q os', w' = Go.Sort.grow (W.drewN q) os'

theorem ch_grow {P : Nat → Prop} (w : World) (os : Array Obj) : Ch P w (Go.Sort.grow w os) := ⟨rfl, rfl, rfl, by simp [Go.Sort.grow], fun k hk _ => Go.Sort.heap_grow_old w os hk⟩
theorem ch_putRow {α : Type} [Inhabited α] (enc : α → Value) (w : World) (m blk off : Nat) (d : Array α) : Ch (fun j => j = blk) w (Go.Sort.putRow enc (Go.Sort.ahead w m) blk off d) :=
  ⟨rfl, rfl, rfl, by simp [Go.Sort.putRow, Go.Sort.mapBlock, Go.Sort.ahead], fun k hk hn => by
    simp only [Go.Sort.putRow, Go.Sort.mapBlock, Go.Sort.ahead, Array.getElem?_modify]
    rw [if_neg (fun h => hn h.symm)]⟩
theorem sort_any (g : Nat) (hg : Compares g) (eg : ∀ args w, (callFunc g args).run Tryd.prog w = .ok (.enter g args) w) (A : Option Addr) (n C lo hi : Nat) (xs : List Xt) (w : World) (hn : n ≤ 140737488355328) (h : Ex w lo hi A n xs) (ht : Thaw w A n) (hhi : hi ≤ w.heap.size) :
    Calls Tryd.prog 45 #[.slice A n C, .func (.func g) #[] #[]] w fun e w' => e = .returned (.tuple #[]) ∧ ∃ d, d.Perm xs ∧ Asc d ∧ Ex w' lo hi A n d ∧ Thaw w' A n ∧ Ch (fun j => lo ≤ j ∧ j < hi) w w' := by
  rcases Nat.eq_zero_or_pos n with rfl | h0
  · obtain rfl : xs = [] := List.eq_nil_of_length_eq_zero h.len
    exact (sort0 A C _ w).mono fun e w' ⟨h1, h2⟩ => ⟨h1, [], List.Perm.refl _, List.Pairwise.nil, Ex.nil _ _ _ _, fun h => absurd h (Nat.lt_irrefl _), Ch.of_below h2⟩
  · obtain ⟨b, o, rfl, hb1, hb2, hc⟩ := h.at_ h0
    have hl := h.len
    have hH : Go.Sort.HoldsK (fun x : Xt => [.int .i64 x.1, .int .i64 x.2]) 2 w b o xs.toArray := by
      intro j hj
      rw [Go.Sort.size_flatK] at hj
      rw [Go.Sort.get_flatK _ _ _ _ hj]
      simp at hj
      refine ⟨?_, ht h0 b o rfl _⟩
      have hj2 : j / 2 < xs.length := by omega
      obtain ⟨g1, g2⟩ := cl_get xs (j / 2) hj2
      have e2 : xs.toArray[j / 2]! = xs[j / 2] := by rw [getElem!_pos _ _ (by simpa using hj2)]; simp
      rw [e2]
      rcases Nat.mod_two_eq_zero_or_one j with hm | hm
      · rw [hm]
        have e3 : j = j / 2 * 2 := by omega
        conv => lhs; rw [e3]
        exact hc _ _ g1
      · rw [hm]
        have e3 : j = j / 2 * 2 + 1 := by omega
        conv => lhs; rw [e3]
        exact hc _ _ g2
    have hcon := AnyQ.slices_SortFunc Sh.laySF 2 Tryd.isAgg49 Tryd.sizeOf49 (fun x : Xt => [.int .i64 x.1, .int .i64 x.2]) (fun _ => rfl) (fun x v hv => by simp at hv; rcases hv with rfl | rfl <;> rfl) (fun x y : Xt => Lib.compareInt x.1 y.1) swoAt g #[] b o C xs.toArray w eg (fun m os dk _ x y => hg x y _) hH (by omega) (by simp; omega)
    rw [List.size_toArray, hl] at hcon
    refine hcon.mono fun e w' ⟨h1, d', m, os, hp, hs, hw⟩ => ?_
    have hsz : d'.size = n := by rw [hp.1]; simpa using hl
    have hch : Ch (fun j => j = b) w w' := by
      rw [hw]
      exact (ch_putRow id w m b o _).trans (ch_grow (P := fun j => j = b) _ os) (fun _ h => h) (fun _ h => h)
    have hHk := Go.Proofs.holdsK_sortWorldK (fun x : Xt => [.int .i64 x.1, .int .i64 x.2]) 2 w b o m xs.toArray d' os (by omega) hH hp.1
    rw [← hw] at hHk
    have hfr : ∀ j, w'.frozen? ⟨b, j, none⟩ = false := by
      intro j
      rw [hw]
      have e1 : (sortWorldK (fun x : Xt => [.int .i64 x.1, .int .i64 x.2]) 2 w b o m d' os).frozen? ⟨b, j, none⟩ = (Go.Sort.putRowK (fun x : Xt => [.int .i64 x.1, .int .i64 x.2]) 2 (Go.Sort.ahead w m) b o d').frozen? ⟨b, j, none⟩ :=
        World.frozen?_of_block (Go.Sort.heap_grow_old _ os (by rw [Go.Sort.size_putRowK]; show b < w.heap.size; omega))
      rw [e1]
      exact (Go.Sort.frozen?_putRow id _ b o _ _).trans (ht h0 b o rfl j)
    refine ⟨h1, d'.toList, ?_, ?_, ⟨by simpa using hsz, fun _ => ⟨b, o, rfl, hb1, hb2, fun j u hu => ?_⟩⟩, fun _ b' o' e' j => ?_, ⟨hch.os, hch.tape, hch.output, hch.size, fun k hk hn => hch.block k hk fun e => hn (by omega)⟩⟩
    · have h3 := hp.2.2
      rw [Array.extract_eq_self_of_le (by omega), Array.extract_eq_self_of_le (by simp; omega)] at h3
      exact h3
    · refine List.pairwise_iff_getElem.mpr fun i j hi hj hij => ?_
      have h3 := hs i j (by omega) hij (by simp at hj; omega)
      rw [ltAt] at h3
      simp at hi hj
      rw [getElem!_pos d' i hi, getElem!_pos d' j hj] at h3
      simp at h3 ⊢
      omega
    · obtain ⟨i, hi, he⟩ := cl_at hu
      simp at hi
      have hgi : d'[i]! = d'.toList[i] := by rw [getElem!_pos d' i hi]; simp
      rcases he with ⟨rfl, rfl⟩ | ⟨rfl, rfl⟩
      · have := (hHk.cell (i := i) (c := 0) hi (by omega)).1
        rw [hgi] at this
        simpa using this
      · have := (hHk.cell (i := i) (c := 1) hi (by omega)).1
        rw [hgi] at this
        rw [← Nat.add_assoc]
        simpa using this
    · cases e'; exact hfr j
end Go.Proofs.YtcgapkepbnbabaaDoor.X5
