/- Rows of extents in memory; the library's functions at empty rows. -/
import Derived.Test.YtcgapkepbnbabaaDoorKd
import Derived.Test.YtcgapkepbnbabaaDoorKs
import Derived.Laws.AppendOwn
import Derived.Deep.AppendLies
namespace Go.Proofs.YtcgapkepbnbabaaDoor.X5
set_option linter.unusedVariables false
set_option linter.unusedSimpArgs false
open Go.RowKit Wd Ty9

/-- The cells of extents. -/
def cl (xs : List Xt) : List Value := xs.flatMap fun x => [.int .i64 x.1, .int .i64 x.2]
theorem cl_len (xs : List Xt) : (cl xs).length = xs.length * 2 := by
  induction xs with
  | nil => rfl
  | cons x xs ih => rw [cl, List.flatMap_cons, List.length_append]; rw [cl] at ih; rw [ih]; simp; omega
theorem cl_app (a b : List Xt) : cl (a ++ b) = cl a ++ cl b := by simp [cl]
theorem cl_one (xs : List Xt) : ∀ u ∈ cl xs, u.oneCell' = true := by
  intro u hu; simp [cl] at hu; obtain ⟨x, y, _, h⟩ := hu; rcases h with rfl | rfl <;> rfl
theorem cl_get : ∀ (xs : List Xt) (i : Nat) (h : i < xs.length), (cl xs)[i * 2]? = some (.int .i64 xs[i].1) ∧ (cl xs)[i * 2 + 1]? = some (.int .i64 xs[i].2)
  | [], i, h => absurd h (Nat.not_lt_zero _)
  | x :: xs, 0, _ => ⟨rfl, rfl⟩
  | x :: xs, i + 1, h => by
    have ih := cl_get xs i (Nat.lt_of_succ_lt_succ h)
    have e : cl (x :: xs) = .int .i64 x.1 :: .int .i64 x.2 :: cl xs := rfl
    rw [e, show (i + 1) * 2 = i * 2 + 1 + 1 by omega]
    exact ih
theorem cl_at {xs : List Xt} {j : Nat} {u : Value} (h : (cl xs)[j]? = some u) : ∃ (i : Nat) (hi : i < xs.length), (j = i * 2 ∧ u = .int .i64 xs[i].1) ∨ (j = i * 2 + 1 ∧ u = .int .i64 xs[i].2) := by
  have hj : j < xs.length * 2 := by have := (List.getElem?_eq_some_iff.mp h).1; rwa [cl_len] at this
  have hi : j / 2 < xs.length := by omega
  have hg := cl_get xs (j / 2) hi
  refine ⟨j / 2, hi, ?_⟩
  rcases Nat.mod_two_eq_zero_or_one j with h0 | h0
  · have e : j = j / 2 * 2 := by omega
    left
    refine ⟨e, ?_⟩
    have h1 := hg.1
    rw [← e, h] at h1
    exact Option.some.inj h1
  · have e : j = j / 2 * 2 + 1 := by omega
    right
    refine ⟨e, ?_⟩
    have h1 := hg.2
    rw [← e, h] at h1
    exact Option.some.inj h1

/-- The extents xs lie at A, in a block of [lo, hi). -/
structure Ex (w : World) (lo hi : Nat) (A : Option Addr) (n : Nat) (xs : List Xt) : Prop where
  len : xs.length = n
  at_ : 0 < n → ∃ b o, A = some ⟨b, o, none⟩ ∧ lo ≤ b ∧ b < hi ∧ ∀ (j : Nat) (u : Value), (cl xs)[j]? = some u → w.cell? ⟨b, o + j, none⟩ = some u
theorem Ex.keep {w w2 : World} {lo hi n : Nat} {A : Option Addr} {xs : List Xt} (h : Ex w lo hi A n xs) (hk : ∀ g, lo ≤ g → g < hi → w2.heap[g]? = w.heap[g]?) : Ex w2 lo hi A n xs :=
  ⟨h.len, fun hn => by
    obtain ⟨b, o, e, h1, h2, h3⟩ := h.at_ hn
    exact ⟨b, o, e, h1, h2, fun j u hu => (World.cell?_of_block (w := w) (a := ⟨b, o + j, none⟩) (hk b h1 h2)).trans (h3 j u hu)⟩⟩
theorem Ex.later {w w2 : World} {B lo hi n : Nat} {A : Option Addr} {xs : List Xt} (h : Ex w lo hi A n xs) (hb : Below B w w2) (hB : hi ≤ B) : Ex w2 lo hi A n xs :=
  h.keep fun g _ h2 => hb.block g (by omega)
theorem Ex.widen {w : World} {lo hi lo' hi' n : Nat} {A : Option Addr} {xs : List Xt} (h : Ex w lo hi A n xs) (h1 : lo' ≤ lo) (h2 : hi ≤ hi') : Ex w lo' hi' A n xs :=
  ⟨h.len, fun hn => by
    obtain ⟨b, o, e, q1, q2, q3⟩ := h.at_ hn
    exact ⟨b, o, e, by omega, by omega, q3⟩⟩
theorem Ex.nil (w : World) (lo hi : Nat) (A : Option Addr) : Ex w lo hi A 0 [] := ⟨rfl, fun h => absurd h (Nat.lt_irrefl _)⟩
theorem Ex.get {w : World} {lo hi n : Nat} {A : Option Addr} {xs : List Xt} (h : Ex w lo hi A n xs) {b o : Nat} (hA : A = some ⟨b, o, none⟩) {i : Nat} (hi2 : i < xs.length) :
    w.cell? ⟨b, o + i * 2, none⟩ = some (.int .i64 xs[i].1) ∧ w.cell? ⟨b, o + i * 2 + 1, none⟩ = some (.int .i64 xs[i].2) := by
  obtain ⟨b', o', e, _, _, h3⟩ := h.at_ (by have := h.len; omega)
  rw [hA] at e
  cases e
  obtain ⟨g1, g2⟩ := cl_get xs i hi2
  exact ⟨h3 _ _ g1, by rw [Nat.add_assoc]; exact h3 _ _ g2⟩
/-- .. and may be written over. -/
def Thaw (w : World) (A : Option Addr) (n : Nat) : Prop := 0 < n → ∀ b o, A = some ⟨b, o, none⟩ → ∀ j, w.frozen? ⟨b, j, none⟩ = false

theorem own_ex {w : World} {base n : Nat} {e : TypeId} {V : Value} {xs : List Xt} (h : w.ownsRow base e 2 V n (cl xs)) : ∃ A C, V = .slice A n C ∧ n ≤ C ∧ Ex w base w.heap.size A n xs ∧ Thaw w A n := by
  have hn : xs.length = n := by have h1 := h.1; rw [cl_len] at h1; omega
  rcases h.2 with ⟨rfl, h0⟩ | ⟨g, cap, cur, rfl, hb, hg, hc, _⟩
  · exact ⟨none, 0, by rw [h0], by omega, ⟨hn, fun h => by omega⟩, fun _ b o e => by cases e⟩
  · refine ⟨_, cap, rfl, hc, ⟨hn, fun _ => ⟨g, 0, rfl, hb, (Array.getElem?_eq_some_iff.1 hg).1, fun j u hu => ?_⟩⟩, fun _ b o e j => ?_⟩
    · have := h.cells (g := g) rfl j u hu
      have hadd : (⟨g, 0, none⟩ : Addr).add j = ⟨g, 0 + j, none⟩ := by unfold Addr.add; split <;> simp_all
      rwa [hadd] at this
    · cases e
      simp [World.frozen?, hg]

/-! ### empty rows -/
set_option maxHeartbeats 1000000 in
theorem index0 (A : Option Addr) (C : Nat) (F : Value) (w : World) : Calls Tryd.prog 59 #[.slice A 0 C, F] w fun e w' => e = .returned (.int .i64 (-1)) ∧ Below w.heap.size w w' := by
  go_enter Tryd.func59, Tryd.ntmps59
  go_wp2
  go_loopw [8] (fun i wr => i = .int .i64 0 ∧ wr = w) (fun _ _ => 0)
  case atStart => exact ⟨rfl, rfl⟩
  case round =>
    obtain ⟨rfl, rfl⟩ := hrel
    go_wp2
    go_ret
    exact ⟨rfl, Below.refl _ _⟩
set_option maxHeartbeats 1000000 in
theorem delete0 (A : Option Addr) (C : Nat) (F : Value) (w : World) : Calls Tryd.prog 41 #[.slice A 0 C, F] w fun e w' => e = .returned (.slice A 0 C) ∧ Below w.heap.size w w' := by
  go_enter Tryd.func41, Tryd.ntmps41
  go_wp2_with (go_at_call 59; refine (index0 _ _ _ _).mono ?_; rintro _ w2 ⟨rfl, hb⟩)
  go_ret
  exact ⟨rfl, hb⟩
theorem ext_info : (Tryd.prog.info? 49).map (fun i => (i.zero, i.size, i.bytes)) = some (some (.agg #[.int .i64 0, .int .i64 0]), 2, 16) := by kernel_rfl
theorem rext_info : (Tryd.prog.info? 54).map (fun i => (i.zero, i.size, i.bytes)) = some (some (.agg #[.int .i64 0, .int .i64 0]), 2, 16) := by kernel_rfl
theorem info_parts {o : Option TypeInfo} {z : Value} {s b : Nat} (h : o.map (fun i => (i.zero, i.size, i.bytes)) = some (some z, s, b)) : ∃ i, o = some i ∧ i.zero = some z ∧ i.size = s ∧ i.bytes = b := by
  rcases o with _ | i
  · cases h
  · simp at h; exact ⟨i, rfl, h.1, h.2.1, h.2.2⟩
set_option maxHeartbeats 1000000 in
theorem clone0 (A : Option Addr) (C : Nat) (w : World) : Calls Tryd.prog 42 #[.slice A 0 C] w fun e w' => (∃ A' C', e = .returned (.slice A' 0 C')) ∧ Below w.heap.size w w' := by
  rcases A with _ | A
  · exact (AnyE.slices_Clone_nil Sh.layCl 0 C w).mono fun e w' ⟨h1, h2⟩ => ⟨⟨_, _, h1⟩, by rw [h2]; exact Below.refl _ _⟩
  · obtain ⟨i0, hi, hz, hs, hb⟩ := info_parts ext_info
    have q22 : ∀ (w : World) (a : Option Addr) (n c n' c' : Nat), (binOp .eql 34 (.slice a n c) (.slice none n' c')).run Tryd.prog w = .ok (.bool a.isNone) w := fun w a n c n' c' => Lib.run_eql_slice_nil w _ _ a n c n' c' Tryd.underlying34
    go_enter Tryd.func42, Tryd.ntmps42
    go_wp2
    go_ret
    exact ⟨⟨_, _, rfl⟩, (Below.refl _ _).alloc (Nat.le_refl _) _⟩
set_option maxHeartbeats 1000000 in
theorem insert0 (A : Option Addr) (C : Nat) (F : Value) (w : World) : Calls Tryd.prog 70 #[.slice A 0 C, .int .i64 0, .int .i64 0, F] w fun e w' => e = .returned (.tuple #[]) ∧ Below w.heap.size w w' := by
  go_enter Tryd.func70, Tryd.ntmps70
  go_wp2
  go_loopw [8] (fun i wr => i = .int .i64 1 ∧ wr = w) (fun _ _ => 0)
  case atStart => exact ⟨rfl, rfl⟩
  case round =>
    obtain ⟨rfl, rfl⟩ := hrel
    go_wp2
    go_end0
    exact ⟨rfl, Below.refl _ _⟩
set_option maxHeartbeats 1000000 in
theorem pdq0 (A : Option Addr) (C : Nat) (l : Int) (F : Value) (w : World) : Calls Tryd.prog 60 #[.slice A 0 C, .int .i64 0, .int .i64 0, .int .i64 l, F] w fun e w' => e = .returned (.tuple #[]) ∧ Below w.heap.size w w' := by
  go_enter Tryd.func60, Tryd.ntmps60
  go_wp2
  go_loopw [1, 2] (fun a b wr => a = .int .i64 0 ∧ b = .int .i64 0 ∧ wr = w) (fun _ _ _ => 0)
  case atStart => exact ⟨rfl, rfl, rfl⟩
  case round =>
    obtain ⟨rfl, rfl, rfl⟩ := hrel
    go_wp2_with (go_at_call 70; refine (insert0 _ _ _ _).mono ?_; rintro _ w2 ⟨rfl, hb⟩)
    (try simp only [Exit.inBlock, Exit.then]); refine bodyPost_ret (results_none rfl _ _ _) rfl ?_
    exact ⟨rfl, hb⟩
theorem bitlen0 : ∀ w, Calls Tryd.prog 61 #[.int .u64 0] w fun e w' => (∃ l : Int, e = .returned (.int .i64 l)) ∧ w' = w := fun w =>
  (Any.bits_Len (SlLaysF0.n15.bits (P := Tryd.prog) (ρ := Sh.laySF_ren) { Sh.laySF with }) 0 w (by omega) (by omega)).mono fun _ _ ⟨he, hw⟩ => ⟨⟨_, he⟩, hw⟩
set_option maxHeartbeats 1000000 in
theorem sort0 (A : Option Addr) (C : Nat) (F : Value) (w : World) : Calls Tryd.prog 45 #[.slice A 0 C, F] w fun e w' => e = .returned (.tuple #[]) ∧ Below w.heap.size w w' := by
  have hwr : IntKind.u64.wrap 0 = 0 := by decide
  go_enter Tryd.func45, Tryd.ntmps45
  go_wp2_with (first
    | (go_at_call 61; refine (bitlen0 _).mono ?_; rintro _ w2 ⟨⟨l, rfl⟩, rfl⟩)
    | (go_at_call 60; refine (pdq0 _ _ _ _ _).mono ?_; rintro _ w2 ⟨rfl, hb⟩))
  go_end0
  exact ⟨rfl, hb⟩
end Go.Proofs.YtcgapkepbnbabaaDoor.X5
