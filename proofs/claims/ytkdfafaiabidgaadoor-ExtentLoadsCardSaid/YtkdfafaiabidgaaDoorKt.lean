/- Normal on both sides, as one; the law's lives. -/
import Derived.Test.YtkdfafaiabidgaaDoorKr
import Derived.Test.YtkdfafaiabidgaaDoorKo
namespace Go.Proofs.YtkdfafaiabidgaaDoor.X5
set_option linter.unusedVariables false
set_option linter.unusedSimpArgs false
open Go.RowKit Wd Ty9

/-- What Normal tells. -/
def IsNormal (xs : List Xt) (e : Int) (out : List Xt) : Prop := (e = 0 ∧ xs.length ≤ 65536 ∧ (∀ x ∈ xs, mayP x) ∧ IsJoin xs out ∧ out.length ≤ xs.length) ∨ ((65536 < xs.length ∨ ¬ ∀ x ∈ xs, mayP x) ∧ e = (if 65536 < xs.length then 3 else 2) ∧ out = [])
theorem IsNormal.uniq {xs : List Xt} {e1 e2 : Int} {o1 o2 : List Xt} (h1 : IsNormal xs e1 o1) (h2 : IsNormal xs e2 o2) : e1 = e2 ∧ o1 = o2 := by
  rcases h1 with ⟨a1, a2, a3, a4, _⟩ | ⟨a1, a2, a3⟩ <;> rcases h2 with ⟨b1, b2, b3, b4, _⟩ | ⟨b1, b2, b3⟩
  · exact ⟨a1.trans b1.symm, a4.uniq b4⟩
  · rcases b1 with h | h
    · omega
    · exact absurd a3 h
  · rcases a1 with h | h
    · omega
    · exact absurd b3 h
  · exact ⟨a2.trans b2.symm, a3.trans b3.symm⟩
theorem normal_any (A : Option Addr) (n C lo hi : Nat) (xs : List Xt) (w : World) (hn : n ≤ 140737488355328) (h : Ex w lo hi A n xs) (hhi : hi ≤ w.heap.size) :
    Calls Tryd.prog 16 #[.slice A n C] w fun e w' => ∃ A' C' m z out, e = .returned (.tuple #[.slice A' m C', .int .i64 z]) ∧ IsNormal xs z out ∧ out.length = m ∧ w'.ownsRow w.heap.size 45 2 (.slice A' m C') m (cl out) ∧ Below w.heap.size w w' := by
  have hl := h.len
  by_cases hc : n ≤ 65536 ∧ ∀ x ∈ xs, mayP x
  · refine (normal_yes A n C lo hi xs w hc.1 h hhi hc.2).mono fun e w' ⟨V, out, h1, h2, h3, h4, h5⟩ => ?_
    obtain ⟨Af, Cf, rfl⟩ := own_form h4
    exact ⟨Af, Cf, out.length, 0, out, h1, .inl ⟨rfl, by omega, hc.2, h2, by omega⟩, rfl, h4, h5⟩
  · have hb : 65536 < n ∨ ¬ ∀ x ∈ xs, mayP x := by
      by_cases hx : 65536 < n
      · exact .inl hx
      · exact .inr fun h => hc ⟨by omega, h⟩
    exact (normal_no A n C lo hi xs w hn h hhi hb).mono fun e w' ⟨h1, h2⟩ => ⟨none, 0, 0, _, [], h1, .inr ⟨by rw [hl]; exact hb, by rw [hl], rfl⟩, rfl, World.ownsRow_nil _ _ _ _, h2⟩
theorem lit_ex (W : World) (t : TypeId) (xs : List Xt) : Ex (W.alloc (.cells (cl xs).toArray t)) W.heap.size (W.heap.size + 1) (some ⟨W.heap.size, 0, none⟩) xs.length xs :=
  ⟨rfl, fun _ => ⟨W.heap.size, 0, rfl, Nat.le_refl _, Nat.lt_succ_self _, fun j u hu => by
    rw [(Bx.new W t (cl xs).toArray).cell (0 + j)]
    simpa using hu⟩⟩
theorem lit1 {out : List Xt} (h : IsJoin [(4, 2), (0, 4), (9, 0)] out) : out = [(0, 6)] := by
  refine h.uniq ⟨⟨List.pairwise_singleton _ _, by simp⟩, fun p => ?_⟩
  simp only [cov_cons, cov_nil, or_false]
  omega
theorem lit2 : goodP [(0, 2), (5, 5)] 4194304 := by decide

set_option maxHeartbeats 4000000 in
set_option maxRecDepth 100000 in
theorem lives_any (w : World) : Calls Tryd.prog 6 #[] w fun e w' => e = .returned (.bool true) ∧ Below w.heap.size w w' := by
  have H1 := Lib.hid (show Calls Tryd.prog 16 #[.slice (some ⟨w.heap.size, 0, none⟩) 3 3] (w.alloc (.cells #[.int .i64 4, .int .i64 2, .int .i64 0, .int .i64 4, .int .i64 9, .int .i64 0] 45)) _ from
    normal_yes (some ⟨w.heap.size, 0, none⟩) 3 3 w.heap.size (w.heap.size + 1) [(4, 2), (0, 4), (9, 0)] _ (by omega) (lit_ex w 45 [(4, 2), (0, 4), (9, 0)]) (by simp) (by decide))
  go_enter Tryd.func6, Tryd.ntmps6
  go_wp2_with (go_at_call 16; refine H1.out.mono ?_; rintro _ w2 ⟨V, out, rfl, hj, hlen, hown, hb2⟩; refine Hid.out ?_)
  obtain rfl := lit1 hj
  obtain ⟨g, cap, hV, hg1, hg2⟩ := hown.form (by decide)
  subst hV
  obtain ⟨_, _, ev, -, hex, -⟩ := own_ex hown
  cases ev
  obtain ⟨c0, c1⟩ := hex.get rfl (i := 0) (by decide)
  have HEX := Lib.hid hex
  have HB2 := Lib.hid (below_more (below_new w _) hb2)
  have H2 := Lib.hid (show Calls Tryd.prog 17 #[.slice (some ⟨w2.heap.size, 0, none⟩) 2 2, .int .i64 3] (w2.alloc (.cells #[.int .i64 0, .int .i64 2, .int .i64 5, .int .i64 5] 45)) _ from
    take_yes (some ⟨w2.heap.size, 0, none⟩) 2 2 w2.heap.size (w2.heap.size + 1) [(0, 2), (5, 5)] 3 1 _ (by omega) (lit_ex w2 45 [(0, 2), (5, 5)]) (by simp) (by omega) lit2 (by decide) (by decide) (by decide))
  have HC0 := Lib.hid c0
  have HC1 := Lib.hid c1
  have HG2 := Lib.hid hg2
  clear hj hlen hown hb2 hex c0 c1 hg1 H1
  refine go_on ?_
  go_wp2_with (go_at_call 17; refine H2.out.mono ?_; rintro _ w3 ⟨A', m, C', rfl, hex3, hth3, hb3, hA3⟩; refine Hid.out ?_)
  obtain rfl : m = 2 := hex3.len.symm
  have d0 : w3.cell? ⟨g, 0, none⟩ = some (.int .i64 0) := (hb3.cell (p := ⟨g, 0, none⟩) (by simp; have := HG2.out; omega)).trans ((Lib.cell?_alloc_some _ HC0.out))
  have d1 : w3.cell? ⟨g, 1, none⟩ = some (.int .i64 6) := (hb3.cell (p := ⟨g, 1, none⟩) (by simp; have := HG2.out; omega)).trans ((Lib.cell?_alloc_some _ HC1.out))
  have HB3 := Lib.hid (below_more HB2.out (below_more (below_new w2 _) hb3))
  clear hex3 hth3 hb3 H2
  try simp only [List.length_singleton, List.length_cons, List.length_nil]
  refine go_on ?_
  go_wp2
  go_ret
  exact ⟨rfl, HB3.out⟩
end Go.Proofs.YtkdfafaiabidgaaDoor.X5
