/- Rows of extents in memory; the library functions over them. -/
import Derived.Test.YtcgapkepbnbabaaDoorKd
import Derived.Test.YtcgapkepbnbabaaDoorKs
import Derived.Laws.AppendOwn
import Derived.Deep.AppendLies
import Derived.Test.YtcgapkepbnbabaaDoorMw
import Derived.Laws.IdiomCopy
import Derived.Deep.RegionHeld3
import Derived.Deep.RegionLawGrows
import Derived.Deep.DeepCutAuto
import Derived.StillTailTactics
import Derived.WalkLawsBesides
import Derived.BigQuiet
namespace Go.Proofs.YtcgapkepbnbabaaDoor.X5
set_option linter.unusedVariables false
set_option linter.unusedSimpArgs false
open Go.RowKit Wd Ty9

/-- The cells of extents. -/
def cl (xs : List Xt) : List Value := xs.flatMap fun x => [.int .i64 x.1, .int .i64 x.2]
theorem cl_len (xs : List Xt) : (cl xs).length = xs.length * 2 := by
  induction xs with
  | nil => rfl
  | cons x xs ih => rw [cl, List.flatMap_cons, List.length_append]; rw [cl] at ih; rw [ih]; simp; omega
theorem cl_app (a b : List Xt) : cl (a ++ b) = cl a ++ cl b := by simp [cl]
theorem cl_one (xs : List Xt) : ∀ u ∈ cl xs, u.oneCell' = true := by
  intro u hu; simp [cl] at hu; obtain ⟨x, y, _, h⟩ := hu; rcases h with rfl | rfl <;> rfl
theorem cl_get : ∀ (xs : List Xt) (i : Nat) (h : i < xs.length), (cl xs)[i * 2]? = some (.int .i64 xs[i].1) ∧ (cl xs)[i * 2 + 1]? = some (.int .i64 xs[i].2)
  | [], i, h => absurd h (Nat.not_lt_zero _)
  | x :: xs, 0, _ => ⟨rfl, rfl⟩
  | x :: xs, i + 1, h => by
    have ih := cl_get xs i (Nat.lt_of_succ_lt_succ h)
    have e : cl (x :: xs) = .int .i64 x.1 :: .int .i64 x.2 :: cl xs := rfl
    rw [e, show (i + 1) * 2 = i * 2 + 1 + 1 by omega]
    exact ih
theorem cl_at {xs : List Xt} {j : Nat} {u : Value} (h : (cl xs)[j]? = some u) : ∃ (i : Nat) (hi : i < xs.length), (j = i * 2 ∧ u = .int .i64 xs[i].1) ∨ (j = i * 2 + 1 ∧ u = .int .i64 xs[i].2) := by
  have hj : j < xs.length * 2 := by have := (List.getElem?_eq_some_iff.mp h).1; rwa [cl_len] at this
  have hi : j / 2 < xs.length := by omega
  have hg := cl_get xs (j / 2) hi
  refine ⟨j / 2, hi, ?_⟩
  rcases Nat.mod_two_eq_zero_or_one j with h0 | h0
  · have e : j = j / 2 * 2 := by omega
    left
    refine ⟨e, ?_⟩
    have h1 := hg.1
    rw [← e, h] at h1
    exact Option.some.inj h1
  · have e : j = j / 2 * 2 + 1 := by omega
    right
    refine ⟨e, ?_⟩
    have h1 := hg.2
    rw [← e, h] at h1
    exact Option.some.inj h1

/-- The extents xs lie at A, in a block of [lo, hi). -/
structure Ex (w : World) (lo hi : Nat) (A : Option Addr) (n : Nat) (xs : List Xt) : Prop where
  len : xs.length = n
  at_ : 0 < n → ∃ b o, A = some ⟨b, o, none⟩ ∧ lo ≤ b ∧ b < hi ∧ ∀ (j : Nat) (u : Value), (cl xs)[j]? = some u → w.cell? ⟨b, o + j, none⟩ = some u
theorem Ex.keep {w w2 : World} {lo hi n : Nat} {A : Option Addr} {xs : List Xt} (h : Ex w lo hi A n xs) (hk : ∀ g, lo ≤ g → g < hi → w2.heap[g]? = w.heap[g]?) : Ex w2 lo hi A n xs :=
  ⟨h.len, fun hn => by
    obtain ⟨b, o, e, h1, h2, h3⟩ := h.at_ hn
    exact ⟨b, o, e, h1, h2, fun j u hu => (World.cell?_of_block (w := w) (a := ⟨b, o + j, none⟩) (hk b h1 h2)).trans (h3 j u hu)⟩⟩
theorem Ex.later {w w2 : World} {B lo hi n : Nat} {A : Option Addr} {xs : List Xt} (h : Ex w lo hi A n xs) (hb : Below B w w2) (hB : hi ≤ B) : Ex w2 lo hi A n xs :=
  h.keep fun g _ h2 => hb.block g (by omega)
theorem Ex.widen {w : World} {lo hi lo' hi' n : Nat} {A : Option Addr} {xs : List Xt} (h : Ex w lo hi A n xs) (h1 : lo' ≤ lo) (h2 : hi ≤ hi') : Ex w lo' hi' A n xs :=
  ⟨h.len, fun hn => by
    obtain ⟨b, o, e, q1, q2, q3⟩ := h.at_ hn
    exact ⟨b, o, e, by omega, by omega, q3⟩⟩
theorem Ex.nil (w : World) (lo hi : Nat) (A : Option Addr) : Ex w lo hi A 0 [] := ⟨rfl, fun h => absurd h (Nat.lt_irrefl _)⟩
theorem Ex.get {w : World} {lo hi n : Nat} {A : Option Addr} {xs : List Xt} (h : Ex w lo hi A n xs) {b o : Nat} (hA : A = some ⟨b, o, none⟩) {i : Nat} (hi2 : i < xs.length) :
    w.cell? ⟨b, o + i * 2, none⟩ = some (.int .i64 xs[i].1) ∧ w.cell? ⟨b, o + i * 2 + 1, none⟩ = some (.int .i64 xs[i].2) := by
  obtain ⟨b', o', e, _, _, h3⟩ := h.at_ (by have := h.len; omega)
  rw [hA] at e
  cases e
  obtain ⟨g1, g2⟩ := cl_get xs i hi2
  exact ⟨h3 _ _ g1, by rw [Nat.add_assoc]; exact h3 _ _ g2⟩
/-- .. and may be written over. -/
def Thaw (w : World) (A : Option Addr) (n : Nat) : Prop := 0 < n → ∀ b o, A = some ⟨b, o, none⟩ → ∀ j, w.frozen? ⟨b, j, none⟩ = false

theorem own_ex {w : World} {base n : Nat} {e : TypeId} {V : Value} {xs : List Xt} (h : w.ownsRow base e 2 V n (cl xs)) : ∃ A C, V = .slice A n C ∧ n ≤ C ∧ Ex w base w.heap.size A n xs ∧ Thaw w A n := by
  have hn : xs.length = n := by have h1 := h.1; rw [cl_len] at h1; omega
  rcases h.2 with ⟨rfl, h0⟩ | ⟨g, cap, cur, rfl, hb, hg, hc, _⟩
  · exact ⟨none, 0, by rw [h0], by omega, ⟨hn, fun h => by omega⟩, fun _ b o e => by cases e⟩
  · refine ⟨_, cap, rfl, hc, ⟨hn, fun _ => ⟨g, 0, rfl, hb, (Array.getElem?_eq_some_iff.1 hg).1, fun j u hu => ?_⟩⟩, fun _ b o e j => ?_⟩
    · have := h.cells (g := g) rfl j u hu
      have hadd : (⟨g, 0, none⟩ : Addr).add j = ⟨g, 0 + j, none⟩ := by unfold Addr.add; split <;> simp_all
      rwa [hadd] at this
    · cases e
      simp [World.frozen?, hg]

/-! ### empty rows -/
set_option maxHeartbeats 1000000 in
theorem index0 (A : Option Addr) (C : Nat) (F : Value) (w : World) : Calls Tryd.prog 59 #[.slice A 0 C, F] w fun e w' => e = .returned (.int .i64 (-1)) ∧ Below w.heap.size w w' := by
  go_enter Tryd.func59, Tryd.ntmps59
  go_wp2
  go_loopw [8] (fun i wr => i = .int .i64 0 ∧ wr = w) (fun _ _ => 0)
  case atStart => exact ⟨rfl, rfl⟩
  case round =>
    obtain ⟨rfl, rfl⟩ := hrel
    go_wp2
    go_ret
    exact ⟨rfl, Below.refl _ _⟩
set_option maxHeartbeats 1000000 in
theorem delete0 (A : Option Addr) (C : Nat) (F : Value) (w : World) : Calls Tryd.prog 41 #[.slice A 0 C, F] w fun e w' => e = .returned (.slice A 0 C) ∧ Below w.heap.size w w' := by
  go_enter Tryd.func41, Tryd.ntmps41
  go_wp2_with (go_at_call 59; refine (index0 _ _ _ _).mono ?_; rintro _ w2 ⟨rfl, hb⟩)
  go_ret
  exact ⟨rfl, hb⟩
theorem ext_info : (Tryd.prog.info? 49).map (fun i => (i.zero, i.size, i.bytes)) = some (some (.agg #[.int .i64 0, .int .i64 0]), 2, 16) := by kernel_rfl
theorem rext_info : (Tryd.prog.info? 54).map (fun i => (i.zero, i.size, i.bytes)) = some (some (.agg #[.int .i64 0, .int .i64 0]), 2, 16) := by kernel_rfl
theorem info_parts {o : Option TypeInfo} {z : Value} {s b : Nat} (h : o.map (fun i => (i.zero, i.size, i.bytes)) = some (some z, s, b)) : ∃ i, o = some i ∧ i.zero = some z ∧ i.size = s ∧ i.bytes = b := by
  rcases o with _ | i
  · cases h
  · simp at h; exact ⟨i, rfl, h.1, h.2.1, h.2.2⟩
set_option maxHeartbeats 1000000 in
theorem clone0 (A : Option Addr) (C : Nat) (w : World) : Calls Tryd.prog 42 #[.slice A 0 C] w fun e w' => (∃ A' C', e = .returned (.slice A' 0 C')) ∧ Below w.heap.size w w' := by
  rcases A with _ | A
  · exact (AnyE.slices_Clone_nil Sh.layCl 0 C w).mono fun e w' ⟨h1, h2⟩ => ⟨⟨_, _, h1⟩, by rw [h2]; exact Below.refl _ _⟩
  · obtain ⟨i0, hi, hz, hs, hb⟩ := info_parts ext_info
    have q22 : ∀ (w : World) (a : Option Addr) (n c n' c' : Nat), (binOp .eql 34 (.slice a n c) (.slice none n' c')).run Tryd.prog w = .ok (.bool a.isNone) w := fun w a n c n' c' => Lib.run_eql_slice_nil w _ _ a n c n' c' Tryd.underlying34
    go_enter Tryd.func42, Tryd.ntmps42
    go_wp2
    go_ret
    exact ⟨⟨_, _, rfl⟩, (Below.refl _ _).alloc (Nat.le_refl _) _⟩
set_option maxHeartbeats 1000000 in
theorem insert0 (A : Option Addr) (C : Nat) (F : Value) (w : World) : Calls Tryd.prog 70 #[.slice A 0 C, .int .i64 0, .int .i64 0, F] w fun e w' => e = .returned (.tuple #[]) ∧ Below w.heap.size w w' := by
  go_enter Tryd.func70, Tryd.ntmps70
  go_wp2
  go_loopw [8] (fun i wr => i = .int .i64 1 ∧ wr = w) (fun _ _ => 0)
  case atStart => exact ⟨rfl, rfl⟩
  case round =>
    obtain ⟨rfl, rfl⟩ := hrel
    go_wp2
    go_end0
    exact ⟨rfl, Below.refl _ _⟩
set_option maxHeartbeats 1000000 in
theorem pdq0 (A : Option Addr) (C : Nat) (l : Int) (F : Value) (w : World) : Calls Tryd.prog 60 #[.slice A 0 C, .int .i64 0, .int .i64 0, .int .i64 l, F] w fun e w' => e = .returned (.tuple #[]) ∧ Below w.heap.size w w' := by
  go_enter Tryd.func60, Tryd.ntmps60
  go_wp2
  go_loopw [1, 2] (fun a b wr => a = .int .i64 0 ∧ b = .int .i64 0 ∧ wr = w) (fun _ _ _ => 0)
  case atStart => exact ⟨rfl, rfl, rfl⟩
  case round =>
    obtain ⟨rfl, rfl, rfl⟩ := hrel
    go_wp2_with (go_at_call 70; refine (insert0 _ _ _ _).mono ?_; rintro _ w2 ⟨rfl, hb⟩)
    (try simp only [Exit.inBlock, Exit.then]); refine bodyPost_ret (results_none rfl _ _ _) rfl ?_
    exact ⟨rfl, hb⟩
theorem bitlen0 : ∀ w, Calls Tryd.prog 61 #[.int .u64 0] w fun e w' => (∃ l : Int, e = .returned (.int .i64 l)) ∧ w' = w := fun w =>
  (Any.bits_Len (SlLaysF0.n15.bits (P := Tryd.prog) (ρ := Sh.laySF_ren) { Sh.laySF with }) 0 w (by omega) (by omega)).mono fun _ _ ⟨he, hw⟩ => ⟨⟨_, he⟩, hw⟩
set_option maxHeartbeats 1000000 in
theorem sort0 (A : Option Addr) (C : Nat) (F : Value) (w : World) : Calls Tryd.prog 45 #[.slice A 0 C, F] w fun e w' => e = .returned (.tuple #[]) ∧ Below w.heap.size w w' := by
  have hwr : IntKind.u64.wrap 0 = 0 := by decide
  go_enter Tryd.func45, Tryd.ntmps45
  go_wp2_with (first
    | (go_at_call 61; refine (bitlen0 _).mono ?_; rintro _ w2 ⟨⟨l, rfl⟩, rfl⟩)
    | (go_at_call 60; refine (pdq0 _ _ _ _ _).mono ?_; rintro _ w2 ⟨rfl, hb⟩))
  go_end0
  exact ⟨rfl, hb⟩

/-- What is asked of a predicate. -/
def Says (g : Nat) (lb : Array Value) (p : Xt → Bool) : Prop := ∀ (x : Xt) (W : World), Calls Tryd.prog g (#[av x] ++ lb) W fun e w' => e = .returned (.bool (p x)) ∧ Below W.heap.size W w'
theorem enters (g : Nat) {fn : Func} (h : Tryd.prog.funcs[g]? = some fn) (h2 : (fn.body.isSome) = true) : True := trivial

theorem idx_spec (p : Xt → Bool) : ∀ (l : List Xt) (i : Nat), (Lib.idxByFrom (fun _ y => p y) (0, 0) l i = -1 ∧ ∀ x ∈ l, p x = false) ∨ ∃ k, ∃ h : k < l.length, Lib.idxByFrom (fun _ y => p y) (0, 0) l i = ((i + k : Nat) : Int) ∧ p l[k] = true ∧ ∀ x ∈ l.take k, p x = false
  | [], _ => .inl ⟨rfl, by simp⟩
  | y :: r, i => by
    cases h : p y with
    | true => exact .inr ⟨0, by simp, by simp [Lib.idxByFrom, h], by simpa using h, by simp⟩
    | false =>
      rcases idx_spec p r (i + 1) with ⟨e, ha⟩ | ⟨k, hk, e, ht, ha⟩
      · exact .inl ⟨by simp [Lib.idxByFrom, h, e], fun x hx => by
          rcases List.mem_cons.mp hx with rfl | hx
          · exact h
          · exact ha x hx⟩
      · refine .inr ⟨k + 1, by simpa using hk, by simp only [Lib.idxByFrom, h]; rw [show (if false = true then (i : Int) else Lib.idxByFrom (fun _ y => p y) (0, 0) r (i + 1)) = Lib.idxByFrom (fun _ y => p y) (0, 0) r (i + 1) from rfl, e]; congr 1; omega, by simpa using ht, fun x hx => ?_⟩
        rw [List.take_succ_cons] at hx
        rcases List.mem_cons.mp hx with rfl | hx
        · exact h
        · exact ha x hx

theorem index_any (p : Xt → Bool) (g : Nat) (lb : Array Value) (hg : Says g lb p) (eg : ∀ args w, (callFunc g args).run Tryd.prog w = .ok (.enter g args) w) (A : Option Addr) (n C lo hi : Nat) (xs : List Xt) (w : World) (hn : n ≤ 140737488355328) (h : Ex w lo hi A n xs) (hhi : hi ≤ w.heap.size) :
    Calls Tryd.prog 59 #[.slice A n C, .func (.func g) #[] lb] w fun e w' => ((e = .returned (.int .i64 (-1)) ∧ ∀ x ∈ xs, p x = false) ∨ ∃ k, ∃ h : k < xs.length, e = .returned (.int .i64 k) ∧ p xs[k] = true ∧ ∀ x ∈ xs.take k, p x = false) ∧ Below w.heap.size w w' := by
  rcases Nat.eq_zero_or_pos n with rfl | h0
  · obtain rfl : xs = [] := List.eq_nil_of_length_eq_zero h.len
    exact (index0 A C _ w).mono fun e w' ⟨h1, h2⟩ => ⟨.inl ⟨h1, by simp⟩, h2⟩
  · obtain ⟨b, o, rfl, hb1, hb2, hc⟩ := h.at_ h0
    have hl := h.len
    refine (AnyQ.slices_IndexFunc Sh.layIF 2 Tryd.isAgg49 Tryd.sizeOf49 (fun x : Xt => [.int .i64 x.1, .int .i64 x.2]) (fun _ => rfl) p g lb eg b o n C xs w (fun W x _ => ?_) (by omega) (by omega) (by omega) fun j hj i v hv => ?_).mono fun e w' ⟨h1, h2⟩ => ⟨?_, h2⟩
    · rename_i hbw
      exact (hg x W).mono fun e w' ⟨q1, q2⟩ => ⟨q1, below_then hbw hbw.size q2⟩
    · obtain ⟨g1, g2⟩ := cl_get xs j hj
      rw [getElem!_pos xs j hj] at hv
      rcases i with _ | _ | i
      · simp at hv; subst hv; exact hc _ _ g1
      · simp at hv; subst hv; rw [show o + j * 2 + (0 + 1) = o + (j * 2 + 1) by omega]; exact hc _ _ g2
      · simp at hv
    · rw [List.take_of_length_le (by omega)] at h1
      rw [h1]
      rcases idx_spec p xs 0 with ⟨e1, h3⟩ | ⟨k, hk, e1, h3, h4⟩
      · exact .inl ⟨congrArg (fun z => Ending.returned (Value.int .i64 z)) e1, h3⟩
      · exact .inr ⟨k, hk, congrArg (fun z => Ending.returned (Value.int .i64 z)) (by rw [show (k : Int) = ((0 + k : Nat) : Int) by omega]; exact e1), h3, h4⟩

theorem clone_any (A : Option Addr) (n C lo hi : Nat) (xs : List Xt) (w : World) (hn : n * 16 ≤ 140737488355328) (h : Ex w lo hi A n xs) :
    Calls Tryd.prog 42 #[.slice A n C] w fun e w' => ∃ A' C', e = .returned (.slice A' n C') ∧ n ≤ C' ∧ w'.ownsRow w.heap.size 49 2 (.slice A' n C') n (cl xs) ∧ Below w.heap.size w w' := by
  rcases A with _ | A
  · have h0 : n = 0 := by
      rcases Nat.eq_zero_or_pos n with h0 | h0
      · exact h0
      · obtain ⟨b, o, e, _⟩ := h.at_ h0; cases e
    subst h0
    obtain rfl : xs = [] := List.eq_nil_of_length_eq_zero h.len
    exact (AnyE.slices_Clone_nil Sh.layCl 0 C w).mono fun e w' ⟨h1, h2⟩ => ⟨none, 0, h1, by omega, by rw [h2]; exact World.ownsRow_nil _ _ _ _, by rw [h2]; exact Below.refl _ _⟩
  · rcases Nat.eq_zero_or_pos n with rfl | h0
    · obtain rfl : xs = [] := List.eq_nil_of_length_eq_zero h.len
      go_enter Tryd.func42, Tryd.ntmps42
      have q22 : ∀ (w : World) (a : Option Addr) (n c n' c' : Nat), (binOp .eql 34 (.slice a n c) (.slice none n' c')).run Tryd.prog w = .ok (.bool a.isNone) w := fun w a n c n' c' => Lib.run_eql_slice_nil w _ _ a n c n' c' Tryd.underlying34
      go_wp2
      go_ret
      exact ⟨_, _, rfl, Nat.le_refl _, World.ownsRow_made w #[] 0 (Nat.le_refl _) (Nat.zero_le _) (by simp), (Below.refl _ _).alloc (Nat.le_refl _) _⟩
    · obtain ⟨b, o, e, hb1, hb2, hc⟩ := h.at_ h0
      cases e
      obtain ⟨i0, hi0, hz, hs, hbt⟩ := info_parts ext_info
      refine (AnyE.slices_Clone Sh.layCl i0 _ 2 16 hi0 hz hs hbt (by rfl) (by decide) Tryd.sizeOf49 b o n C (cl xs) w (by rw [cl_len, h.len]) (by unfold maxLen; omega) hn hc (cl_one xs)).mono fun e w' ⟨v', h1, h2, h3, h4⟩ => ?_
      obtain ⟨A', C', rfl, hC, -, -⟩ := own_ex h2
      exact ⟨A', C', h1, hC, h2, h4⟩

/-! ### sorting -/
theorem ltAt (x y : Xt) : ltOf (fun x y : Xt => Lib.compareInt x.1 y.1) x y = decide (x.1 < y.1) := by
  unfold ltOf Lib.compareInt
  by_cases h1 : x.1 < y.1
  · simp [h1]
  · by_cases h2 : y.1 < x.1 <;> simp [h1, h2]
theorem swoAt : Go.Sort.SWO (ltOf fun x y : Xt => Lib.compareInt x.1 y.1) where
  irrefl x := by rw [ltAt]; simp
  trans x y z h1 h2 := by rw [ltAt] at *; simp at *; omega
  ntrans x y z h1 h2 := by rw [ltAt] at *; simp at *; omega
/-- What is asked of a comparison. -/
def Compares (g : Nat) : Prop := ∀ (x y : Xt) (W : World), Calls Tryd.prog g #[av x, av y] W fun e w' => e = .returned (.int .i64 (Lib.compareInt x.1 y.1)) ∧ ∃ q os', w' = Go.Sort.grow (W.drewN q) os'

theorem ch_grow {P : Nat → Prop} (w : World) (os : Array Obj) : Ch P w (Go.Sort.grow w os) := ⟨rfl, rfl, rfl, by simp [Go.Sort.grow], fun k hk _ => Go.Sort.heap_grow_old w os hk⟩
theorem ch_putRow {α : Type} [Inhabited α] (enc : α → Value) (w : World) (m blk off : Nat) (d : Array α) : Ch (fun j => j = blk) w (Go.Sort.putRow enc (Go.Sort.ahead w m) blk off d) :=
  ⟨rfl, rfl, rfl, by simp [Go.Sort.putRow, Go.Sort.mapBlock, Go.Sort.ahead], fun k hk hn => by
    simp only [Go.Sort.putRow, Go.Sort.mapBlock, Go.Sort.ahead, Array.getElem?_modify]
    rw [if_neg (fun h => hn h.symm)]⟩
theorem sort_any (g : Nat) (hg : Compares g) (eg : ∀ args w, (callFunc g args).run Tryd.prog w = .ok (.enter g args) w) (A : Option Addr) (n C lo hi : Nat) (xs : List Xt) (w : World) (hn : n ≤ 140737488355328) (h : Ex w lo hi A n xs) (ht : Thaw w A n) (hhi : hi ≤ w.heap.size) :
    Calls Tryd.prog 45 #[.slice A n C, .func (.func g) #[] #[]] w fun e w' => e = .returned (.tuple #[]) ∧ ∃ d, d.Perm xs ∧ Asc d ∧ Ex w' lo hi A n d ∧ Thaw w' A n ∧ Ch (fun j => lo ≤ j ∧ j < hi) w w' := by
  rcases Nat.eq_zero_or_pos n with rfl | h0
  · obtain rfl : xs = [] := List.eq_nil_of_length_eq_zero h.len
    exact (sort0 A C _ w).mono fun e w' ⟨h1, h2⟩ => ⟨h1, [], List.Perm.refl _, List.Pairwise.nil, Ex.nil _ _ _ _, fun h => absurd h (Nat.lt_irrefl _), Ch.of_below h2⟩
  · obtain ⟨b, o, rfl, hb1, hb2, hc⟩ := h.at_ h0
    have hl := h.len
    have hH : Go.Sort.HoldsK (fun x : Xt => [.int .i64 x.1, .int .i64 x.2]) 2 w b o xs.toArray := by
      intro j hj
      rw [Go.Sort.size_flatK] at hj
      rw [Go.Sort.get_flatK _ _ _ _ hj]
      simp at hj
      refine ⟨?_, ht h0 b o rfl _⟩
      have hj2 : j / 2 < xs.length := by omega
      obtain ⟨g1, g2⟩ := cl_get xs (j / 2) hj2
      have e2 : xs.toArray[j / 2]! = xs[j / 2] := by rw [getElem!_pos _ _ (by simpa using hj2)]; simp
      rw [e2]
      rcases Nat.mod_two_eq_zero_or_one j with hm | hm
      · rw [hm]
        have e3 : j = j / 2 * 2 := by omega
        conv => lhs; rw [e3]
        exact hc _ _ g1
      · rw [hm]
        have e3 : j = j / 2 * 2 + 1 := by omega
        conv => lhs; rw [e3]
        exact hc _ _ g2
    have hcon := AnyQ.slices_SortFunc Sh.laySF 2 Tryd.isAgg49 Tryd.sizeOf49 (fun x : Xt => [.int .i64 x.1, .int .i64 x.2]) (fun _ => rfl) (fun x v hv => by simp at hv; rcases hv with rfl | rfl <;> rfl) (fun x y : Xt => Lib.compareInt x.1 y.1) swoAt g #[] b o C xs.toArray w eg (fun m os dk _ x y => hg x y _) hH (by omega) (by simp; omega)
    rw [List.size_toArray, hl] at hcon
    refine hcon.mono fun e w' ⟨h1, d', m, os, hp, hs, hw⟩ => ?_
    have hsz : d'.size = n := by rw [hp.1]; simpa using hl
    have hch : Ch (fun j => j = b) w w' := by
      rw [hw]
      exact (ch_putRow id w m b o _).trans (ch_grow (P := fun j => j = b) _ os) (fun _ h => h) (fun _ h => h)
    have hHk := Go.Proofs.holdsK_sortWorldK (fun x : Xt => [.int .i64 x.1, .int .i64 x.2]) 2 w b o m xs.toArray d' os (by omega) hH hp.1
    rw [← hw] at hHk
    have hfr : ∀ j, w'.frozen? ⟨b, j, none⟩ = false := by
      intro j
      rw [hw]
      have e1 : (sortWorldK (fun x : Xt => [.int .i64 x.1, .int .i64 x.2]) 2 w b o m d' os).frozen? ⟨b, j, none⟩ = (Go.Sort.putRowK (fun x : Xt => [.int .i64 x.1, .int .i64 x.2]) 2 (Go.Sort.ahead w m) b o d').frozen? ⟨b, j, none⟩ :=
        World.frozen?_of_block (Go.Sort.heap_grow_old _ os (by rw [Go.Sort.size_putRowK]; show b < w.heap.size; omega))
      rw [e1]
      exact (Go.Sort.frozen?_putRow id _ b o _ _).trans (ht h0 b o rfl j)
    refine ⟨h1, d'.toList, ?_, ?_, ⟨by simpa using hsz, fun _ => ⟨b, o, rfl, hb1, hb2, fun j u hu => ?_⟩⟩, fun _ b' o' e' j => ?_, ⟨hch.os, hch.tape, hch.output, hch.size, fun k hk hn => hch.block k hk fun e => hn (by omega)⟩⟩
    · have h3 := hp.2.2
      rw [Array.extract_eq_self_of_le (by omega), Array.extract_eq_self_of_le (by simp; omega)] at h3
      exact h3
    · refine List.pairwise_iff_getElem.mpr fun i j hi hj hij => ?_
      have h3 := hs i j (by omega) hij (by simp at hj; omega)
      rw [ltAt] at h3
      simp at hi hj
      rw [getElem!_pos d' i hi, getElem!_pos d' j hj] at h3
      simp at h3 ⊢
      omega
    · obtain ⟨i, hi, he⟩ := cl_at hu
      simp at hi
      have hgi : d'[i]! = d'.toList[i] := by rw [getElem!_pos d' i hi]; simp
      rcases he with ⟨rfl, rfl⟩ | ⟨rfl, rfl⟩
      · have := (hHk.cell (i := i) (c := 0) hi (by omega)).1
        rw [hgi] at this
        simpa using this
      · have := (hHk.cell (i := i) (c := 1) hi (by omega)).1
        rw [hgi] at this
        rw [← Nat.add_assoc]
        simpa using this
    · cases e'; exact hfr j

theorem cl_set {xs : List Xt} {i : Nat} (hi : i < xs.length) (x : Xt) : ∀ (j : Nat) (u : Value), (cl (xs.set i x))[j]? = some u → (j = i * 2 ∧ u = .int .i64 x.1) ∨ (j = i * 2 + 1 ∧ u = .int .i64 x.2) ∨ (j ≠ i * 2 ∧ j ≠ i * 2 + 1 ∧ (cl xs)[j]? = some u) := by
  intro j u hu
  obtain ⟨k, hk, he⟩ := cl_at hu
  rw [List.length_set] at hk
  by_cases hki : k = i
  · subst hki
    rcases he with ⟨rfl, rfl⟩ | ⟨rfl, rfl⟩ <;> simp
  · have e : (xs.set i x)[k]'(by rw [List.length_set]; exact hk) = xs[k] := by rw [List.getElem_set, if_neg (fun h => hki h.symm)]
    obtain ⟨g1, g2⟩ := cl_get xs k hk
    rcases he with ⟨rfl, rfl⟩ | ⟨rfl, rfl⟩
    · rw [e]; exact .inr (.inr ⟨by omega, by omega, g1⟩)
    · rw [e]; exact .inr (.inr ⟨by omega, by omega, g2⟩)
theorem frozen_set (w : World) (a b : Addr) (v : Value) : (w.setCell a v).frozen? b = w.frozen? b := by
  obtain ⟨ab, ao, sq⟩ := a
  rcases sq with _ | sq
  · simp
  · simp only [World.setCell, World.frozen?, Array.getElem?_modify]
    by_cases hk : ab = b.block
    · simp only [hk, if_true]
      cases hb : w.heap[b.block]? with
      | none => rfl
      | some o => cases o <;> simp
    · simp [hk]
theorem cell_ne (w : World) (b o q : Nat) (v : Value) (h : o ≠ q) : (w.setCell ⟨b, o, none⟩ v).cell? ⟨b, q, none⟩ = w.cell? ⟨b, q, none⟩ :=
  World.cell?_setCell_other w _ _ _ (fun e => h (by injection e))
theorem Ex.set {w : World} {lo hi n b o : Nat} {xs : List Xt} (h : Ex w lo hi (some ⟨b, o, none⟩) n xs) {i : Nat} (hi2 : i < xs.length) (x : Xt) :
    Ex ((w.setCell ⟨b, o + i * 2, none⟩ (.int .i64 x.1)).setCell ⟨b, o + i * 2 + 1, none⟩ (.int .i64 x.2)) lo hi (some ⟨b, o, none⟩) n (xs.set i x) := by
  refine ⟨by rw [List.length_set]; exact h.len, fun hn => ?_⟩
  obtain ⟨b', o', e, h1, h2, h3⟩ := h.at_ hn
  cases e
  obtain ⟨g1, g2⟩ := cl_get xs i hi2
  have q1 : (w.cell? ⟨b, o + i * 2, none⟩).isSome = true := by rw [h3 _ _ g1]; rfl
  have q2 : (w.cell? ⟨b, o + (i * 2 + 1), none⟩).isSome = true := by rw [h3 _ _ g2]; rfl
  refine ⟨b, o, rfl, h1, h2, fun j u hu => ?_⟩
  rcases cl_set hi2 x j u hu with ⟨rfl, rfl⟩ | ⟨rfl, rfl⟩ | ⟨n1, n2, hu⟩
  · rw [cell_ne _ _ _ _ _ (by omega)]
    exact World.cell?_setCell_same' _ _ _ q1
  · rw [← Nat.add_assoc]
    refine World.cell?_setCell_same' _ _ _ ?_
    rw [cell_ne _ _ _ _ _ (by omega)]
    exact q2
  · rw [cell_ne _ _ _ _ _ (by omega), cell_ne _ _ _ _ _ (by omega)]
    exact h3 j u hu
theorem Thaw.set {w : World} {A : Option Addr} {n : Nat} (h : Thaw w A n) (p : Addr) (v : Value) : Thaw (w.setCell p v) A n := fun hn b o e j => (frozen_set w p _ v).trans (h hn b o e j)
theorem _root_.Go.Proofs.YtcgapkepbnbabaaDoor.Ty9.Ch.set {P : Nat → Prop} {w w1 : World} (h : Ch P w w1) (p : Addr) (v : Value) (hP : P p.block) : Ch P w (w1.setCell p v) :=
  ⟨h.os, h.tape, h.output, by have := h.size; simpa [World.setCell] using this, fun k hk hn => (Below.heap_setCell _ _ _ _ (fun e => hn (by rw [e]; exact hP))).trans (h.block k hk hn)⟩
theorem _root_.Go.Proofs.YtcgapkepbnbabaaDoor.Ty9.Ch.more {P : Nat → Prop} {w w1 w2 : World} (h : Ch P w w1) (hb : Below w1.heap.size w1 w2) : Ch P w w2 := h.trans (Ch.of_below (P := P) hb) (fun _ h => h) (fun _ h => h)

/-- clear at extents. -/
theorem run_clear2 (w : World) (t e ty : TypeId) (z : Value) (ht : Tryd.prog.underlying t = some (.slice e)) (hv : ∀ w, (zeroValue e).run Tryd.prog w = .ok z w) (hz : z.cells = #[.int .i64 0, .int .i64 0]) (b o n c : Nat) (hn : 0 < n)
    (hc : ∀ j, j < n * 2 → (w.cell? ⟨b, o + j, none⟩).isSome = true) (hf : ∀ j, w.frozen? ⟨b, j, none⟩ = false) :
    (Builtin.clear_ #[t] ty #[.slice (some ⟨b, o, none⟩) n c]).run Tryd.prog w = .ok (.tuple #[]) (w.setCells b o (List.replicate (n * 2) (.int .i64 0))) := by
  have hzc : (Builtin.zeroCells z.cells n).toList = List.replicate (n * 2) (.int .i64 0) := by
    rw [hz]
    simp [Builtin.zeroCells]
    apply List.ext_getElem
    · simp
    · intro i h1 h2
      simp
      rcases Nat.mod_two_eq_zero_or_one i with h | h <;> simp [h]
  have hst := run_storeCells_cells (P := Tryd.prog) b o (List.replicate (n * 2) (.int .i64 0)) 0 w (by simpa using hc) (by intro j hj; exact hf _) (by intro v hv'; rw [List.eq_of_mem_replicate hv']; rfl)
  simp only [Nat.add_zero] at hst
  obtain ⟨m, rfl⟩ : ∃ m, n = m + 1 := ⟨n - 1, by omega⟩
  simp [Builtin.clear_, run_underlying ht, hv, hzc, hst]

theorem filter_skip {p : Xt → Bool} {xs : List Xt} {j : Nat} (hj : j < xs.length) (hp : p xs[j] = true) : (xs.take (j + 1)).filter (fun x => !p x) = (xs.take j).filter fun x => !p x := by
  rw [List.take_add_one, List.getElem?_eq_getElem hj, Option.toList_some, List.filter_append]
  simp [hp]
theorem filter_keep {p : Xt → Bool} {xs : List Xt} {j : Nat} (hj : j < xs.length) (hp : p xs[j] = false) : (xs.take (j + 1)).filter (fun x => !p x) = ((xs.take j).filter fun x => !p x) ++ [xs[j]] := by
  rw [List.take_add_one, List.getElem?_eq_getElem hj, Option.toList_some, List.filter_append]
  simp [hp]

set_option maxHeartbeats 4000000 in
set_option maxRecDepth 100000 in
theorem delete_any (p : Xt → Bool) (g : Nat) (hg : Says g #[] p) (eg : ∀ args w, (callFunc g args).run Tryd.prog w = .ok (.enter g args) w) (A : Option Addr) (n C lo hi : Nat) (xs : List Xt) (w : World) (hn : n ≤ 140737488355328) (hC : n ≤ C) (h : Ex w lo hi A n xs) (ht : Thaw w A n) (hhi : hi ≤ w.heap.size) :
    Calls Tryd.prog 41 #[.slice A n C, .func (.func g) #[] #[]] w fun e w' => ∃ m, m ≤ C ∧ e = .returned (.slice A m C) ∧ Ex w' lo hi A m (xs.filter fun x => !p x) ∧ Thaw w' A m ∧ Ch (fun j => lo ≤ j ∧ j < hi) w w' := by
  rcases Nat.eq_zero_or_pos n with rfl | h0
  · obtain rfl : xs = [] := List.eq_nil_of_length_eq_zero h.len
    exact (delete0 A C _ w).mono fun e w' ⟨h1, h2⟩ => ⟨0, hC, h1, Ex.nil _ _ _ _, fun h => absurd h (Nat.lt_irrefl _), Ch.of_below h2⟩
  obtain ⟨b, o, rfl, hb1, hb2', hc⟩ := h.at_ h0
  have hl := h.len
  have HX := Lib.hid h
  have HT := Lib.hid ht
  have HG := Lib.hid hg
  have HI := Lib.hid (index_any p g #[] hg eg (some ⟨b, o, none⟩) n C lo hi xs w hn h hhi)
  clear h ht hg hc
  go_enter Tryd.func41, Tryd.ntmps41
  go_wp2_with (go_at_call 59; refine HI.out.mono ?_; rintro _ w2 ⟨⟨rfl, hno⟩ | ⟨k, hk, rfl, hp, hno⟩, hb2⟩)
  · go_ret
    refine ⟨n, hC, rfl, ?_, ?_, Ch.of_below hb2⟩
    · rw [List.filter_eq_self.mpr (fun x hx => by simp [hno x hx])]
      exact HX.out.later hb2 hhi
    · exact fun hn b' o' e j => by cases e; exact (hb2.frozen (p := ⟨b, j, none⟩) (Nat.lt_of_lt_of_le hb2' hhi)).trans (HT.out hn b o rfl j)
  · have HP := Lib.hid hp
    have HNO := Lib.hid hno
    have HK := Lib.hid hk
    have HB := Lib.hid hb2
    clear hp hno hb2 HI
    have k63 : wrap64 ((k : Int) + 1) = (k : Int) + 1 := by unfold wrap64; omega
    have kne : ((k : Int) == -1) = false := beq_eq_false_iff_ne.2 (by omega)
    go_wp2
    simp only [kne]
    clear kne
    go_loopw [5, 6] (fun i j wr => ∃ (i' j' : Nat) (ys : List Xt), i = .int .i64 i' ∧ j = .int .i64 j' ∧ i' < j' ∧ j' ≤ n ∧ Ex wr lo hi (some ⟨b, o, none⟩) n ys ∧ Thaw wr (some ⟨b, o, none⟩) n ∧ Ch (fun j => lo ≤ j ∧ j < hi) w wr ∧
      ys.take i' = (xs.take j').filter (fun x => !p x) ∧ ys.drop j' = xs.drop j') (fun _ j _ => n - (intOf j).toNat)
    case atStart =>
      refine ⟨k, k + 1, xs, rfl, by go_num, by omega, by omega, HX.out.later HB.out hhi, fun hn b' o' e j => by cases e; exact (HB.out.frozen (p := ⟨b, j, none⟩) (Nat.lt_of_lt_of_le hb2' hhi)).trans (HT.out hn b o rfl j), Ch.of_below HB.out, ?_, rfl⟩
      rw [filter_skip HK.out HP.out, List.filter_eq_self.mpr (fun x hx => by simp [HNO.out x hx])]
    case round =>
      obtain ⟨i, j, ys, rfl, rfl, hij, hjn, hex, hth, hch, ht1, ht2⟩ := hrel
      have HEX := Lib.hid hex
      have HTH := Lib.hid hth
      have HCH := Lib.hid hch
      have HT1 := Lib.hid ht1
      have HT2 := Lib.hid ht2
      have hyl := hex.len
      clear hth hch ht1 ht2
      have hbw : b < wr.heap.size := Nat.lt_of_lt_of_le (Nat.lt_of_lt_of_le hb2' hhi) HCH.out.size
      by_cases hlt : j < n
      · have hjy : j < ys.length := by omega
        have hyj : ys[j] = xs[j] := by
          have h1 := congrArg (fun l => l[0]?) HT2.out
          simp only [List.getElem?_drop, Nat.add_zero] at h1
          rw [List.getElem?_eq_getElem hjy, List.getElem?_eq_getElem (by omega)] at h1
          exact Option.some.inj h1
        obtain ⟨c0, c1⟩ := hex.get rfl hjy
        rw [hyj] at c0 c1
        obtain ⟨d0, d1⟩ := hex.get rfl (i := i) (by omega)
        generalize hx : xs[j] = x at c0 c1
        have HXJ := Lib.hid hx
        clear hx hyj hex
        have fz0 := HTH.out (by omega) b o rfl (o + i * 2)
        have fz1 := HTH.out (by omega) b o rfl (o + i * 2 + 1)
        have hltz : (j : Int) < (n : Int) := by omega
        have hiz : (i : Int) < (n : Int) := by omega
        cases hq : p x with
        | true =>
          have HQ := Lib.hid hq
          clear hq
          go_wp2_with (go_at_fn g; refine (HG.out x _).mono ?_; rintro _ w3 ⟨he, hb3⟩; rw [HQ.out] at he; subst he)
          have HB3 := Lib.hid (below_more (below_new wr _) hb3)
          clear hb3
          go_roundw
          case rel =>
            refine ⟨i, j + 1, ys, rfl, by go_num, by omega, by omega, HEX.out.later HB3.out (by have := HCH.out.size; omega), fun hn b' o' e j => by cases e; exact (HB3.out.frozen (p := ⟨b, j, none⟩) hbw).trans (HTH.out hn b o rfl j), HCH.out.more HB3.out, ?_, ?_⟩
            · rw [filter_skip (by omega) (by rw [HXJ.out]; exact HQ.out)]; exact HT1.out
            · rw [← List.drop_drop, ← List.drop_drop, HT2.out]
          case measure => simp [intOf]; omega
        | false =>
          have HQ := Lib.hid hq
          clear hq
          go_wp2_with (go_at_fn g; refine (HG.out x _).mono ?_; rintro _ w3 ⟨he, hb3⟩; rw [HQ.out] at he; subst he; have HB3 := Lib.hid (below_more (below_new wr _) hb3); have hk3 := fun q : Nat => HB3.out.cell (p := ⟨b, q, none⟩) hbw; have hz3 := fun q : Nat => HB3.out.frozen (p := ⟨b, q, none⟩) hbw; have e0 : w3.cell? ⟨wr.heap.size, 0, none⟩ = some (.int .i64 x.1) := ((Bx.new wr 49 #[.int .i64 x.1, .int .i64 x.2]).later hb3 (by simp)).cell 0; have e1 : w3.cell? ⟨wr.heap.size, 1, none⟩ = some (.int .i64 x.2) := ((Bx.new wr 49 #[.int .i64 x.1, .int .i64 x.2]).later hb3 (by simp)).cell 1; rw [← hk3] at d0 d1; rw [← hz3] at fz0 fz1; clear hb3 hk3 hz3 c0 c1)
          go_roundw
          case rel =>
            have hex3 := HEX.out.later HB3.out (by have := HCH.out.size; omega)
            refine ⟨i + 1, j + 1, ys.set i x, by go_num, by go_num, by omega, by omega, hex3.set (by omega) x, (show Thaw w3 (some ⟨b, o, none⟩) n from fun hn b' o' e j => by cases e; exact (HB3.out.frozen (p := ⟨b, j, none⟩) hbw).trans (HTH.out hn b o rfl j)).set _ _ |>.set _ _, ((HCH.out.more HB3.out).set _ _ ⟨hb1, hb2'⟩).set _ _ ⟨hb1, hb2'⟩, ?_, ?_⟩
            · rw [filter_keep (by omega) (by rw [HXJ.out]; exact HQ.out), ← HT1.out, HXJ.out, List.take_add_one, List.getElem?_set_self (by omega), List.take_set_of_le (Nat.le_refl _)]
              rfl
            · rw [List.drop_set_of_lt (by omega), ← List.drop_drop, ← List.drop_drop, HT2.out]
          case measure => simp [intOf]; omega
      · obtain rfl : j = n := by omega
        have hcl : ∀ ty, (Builtin.clear_ #[34] ty #[.slice (some ⟨b, o + i * 2, none⟩) (j - i) (C - i)]).run Tryd.prog wr = .ok (.tuple #[]) (wr.setCells b (o + i * 2) (List.replicate ((j - i) * 2) (.int .i64 0))) :=
          fun ty => run_clear2 wr _ _ ty _ Tryd.underlying34 Tryd.zeroValue49 rfl b (o + i * 2) _ _ (by omega) (fun q hq => by
            obtain ⟨b', o', e, _, _, h3⟩ := HEX.out.at_ h0
            cases e
            have h4 : i * 2 + q < (cl ys).length := by rw [cl_len]; omega
            rw [Nat.add_assoc, h3 _ _ (List.getElem?_eq_getElem h4)]
            rfl) (HTH.out h0 b o rfl)
        have hltz : ¬ (j : Int) < (j : Int) := by omega
        clear hex
        go_wp2
        go_ret
        have hyi : (xs.filter fun x => !p x) = ys.take i := by rw [HT1.out, List.take_of_length_le (by omega)]
        obtain ⟨q1, q2, q3, q4, q5⟩ := setCells_keep b (List.replicate ((j - i) * 2) (.int .i64 0)) (o + i * 2) wr
        refine ⟨i, by omega, rfl, ⟨by rw [hyi, List.length_take]; omega, fun hi0 => ⟨b, o, rfl, hb1, hb2', fun q u hu => ?_⟩⟩, fun hi0 b' o' e q => ?_, ⟨q2.trans HCH.out.os, q3.trans HCH.out.tape, q4.trans HCH.out.output, by rw [q1]; exact HCH.out.size, fun q hq hnq => (q5 q (fun e => hnq (by rw [e]; exact ⟨hb1, hb2'⟩))).trans (HCH.out.block q hq hnq)⟩⟩
        · rw [hyi] at hu
          obtain ⟨r, hr, he⟩ := cl_at hu
          rw [List.length_take] at hr
          obtain ⟨b', o', e, _, _, h3⟩ := HEX.out.at_ h0
          cases e
          obtain ⟨g1, g2⟩ := cl_get ys r (by omega)
          rw [List.getElem_take] at he
          rw [World.cell?_setCells_out b _ _ wr ⟨b, o + q, none⟩ (fun _ _ => .inl (by show o + q < o + i * 2; omega))]
          rcases he with ⟨rfl, rfl⟩ | ⟨rfl, rfl⟩
          · exact h3 _ _ g1
          · exact h3 _ _ g2
        · cases e
          rw [World.frozen?_setCells]
          exact HTH.out h0 b o rfl q

theorem alloc_grow (W : World) (o : Obj) : W.alloc o = Go.Sort.grow W #[o] := by simp only [World.alloc, Go.Sort.grow, Array.push_eq_append]
set_option maxHeartbeats 1000000 in
theorem cmpc (g : Nat) (x y : Int) (W : World) : Calls Tryd.prog 47 #[.int .i64 x, .int .i64 y] W fun e w' => e = .returned (.int .i64 (Lib.compareInt x y)) ∧ w' = W := AnyG.cmp_Compare_int Sh.layCmp x y W
set_option maxHeartbeats 1000000 in
theorem compares_meets : Compares 46 := by
  intro x y W
  have hcon := fun W' => cmpc 0 x.1 y.1 W'
  generalize Lib.compareInt x.1 y.1 = r at hcon ⊢
  obtain ⟨a, s⟩ := x
  obtain ⟨b, t⟩ := y
  simp only [av] at *
  go_enter Tryd.func46, Tryd.ntmps46
  go_wp2_with (go_at_call 47; refine (hcon _).mono ?_; rintro e w' ⟨rfl, rfl⟩)
  go_ret
  exact ⟨rfl, 0, _, by rw [alloc_grow, alloc_grow, Go.Sort.grow_grow]; rfl⟩
set_option maxHeartbeats 1000000 in
theorem says_meets : Says 43 #[] fun x => !okP x := by
  intro x W
  have hm := may_any x
  obtain ⟨a, s⟩ := x
  simp only [av] at *
  have HD := Lib.hid (show (!okP (a, s)) = (!decide (mayP (a, s)) || decide (s = 0)) by simp [okP])
  generalize decide (mayP (a, s)) = r at *
  change Calls Tryd.prog _ #[.agg #[.int .i64 a, .int .i64 s]] _ _
  rw [HD.out]
  clear HD
  cases r
  all_goals
    go_enter Tryd.func43, Tryd.ntmps43
    go_wp2_with (go_at_call 44; refine (hm _).mono ?_; rintro _ w2 ⟨rfl, hb⟩; have c1 : w2.cell? ⟨W.heap.size, 1, none⟩ = some (.int .i64 s) := ((Bx.new W 49 #[.int .i64 a, .int .i64 s]).later hb (by simp)).cell 1; have HB := Lib.hid (below_more (below_new W _) hb); clear hb)
    go_ret
    exact ⟨congrArg (fun b => Ending.returned (Value.bool b)) (by rw [Bool.eq_iff_iff]; simp), HB.out⟩
end Go.Proofs.YtcgapkepbnbabaaDoor.X5
