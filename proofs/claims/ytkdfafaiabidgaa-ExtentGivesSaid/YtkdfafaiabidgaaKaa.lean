/- The law's in; what a list and its rest have. -/
import Derived.Test.YtkdfafaiabidgaaKx
import Derived.Test.YtkdfafaiabidgaaKm
import Derived.Test.YtkdfafaiabidgaaKj
namespace Go.Proofs.Ytkdfafaiabidgaa.X5
set_option linter.unusedVariables false
set_option linter.unusedSimpArgs false
open Go.RowKit Wd Ty9

def hasP (p : Int) (x : Xt) : Bool := decide (x.1 ≤ p) && decide (p - x.1 < x.2)
def cnt (xs : List Xt) (p : Int) : Int := ((xs.filter (hasP p)).length : Int)
theorem hasP_iff (p : Int) (x : Xt) : hasP p x = true ↔ x.1 ≤ p ∧ p < x.1 + x.2 := by simp [hasP]; omega
theorem cnt_pos (xs : List Xt) (p : Int) : 0 < cnt xs p ↔ cov xs p := by
  unfold cnt cov
  constructor
  · intro h
    obtain ⟨x, hx⟩ := List.exists_mem_of_length_pos (l := xs.filter (hasP p)) (by omega)
    obtain ⟨h1, h2⟩ := List.mem_filter.mp hx
    exact ⟨x, h1, (hasP_iff p x).mp h2⟩
  · rintro ⟨x, hx, h2⟩
    have : x ∈ xs.filter (hasP p) := List.mem_filter.mpr ⟨hx, (hasP_iff p x).mpr h2⟩
    have := List.length_pos_of_mem this
    omega
theorem cnt_le (xs : List Xt) (p : Int) (h : Sep xs) : cnt xs p ≤ 1 := by
  unfold cnt
  have hs : (xs.filter (hasP p)).Pairwise (fun a b => a.1 + a.2 < b.1) := h.1.filter _
  rcases hl : xs.filter (hasP p) with _ | ⟨a, _ | ⟨b, l⟩⟩
  · simp
  · simp
  · rw [hl] at hs
    have h1 := (List.pairwise_cons.mp hs).1 b (by simp)
    have ha := (hasP_iff p a).mp (List.mem_filter.mp (by rw [hl]; simp : a ∈ xs.filter (hasP p))).2
    have hb := (hasP_iff p b).mp (List.mem_filter.mp (by rw [hl]; simp : b ∈ xs.filter (hasP p))).2
    omega
theorem cnt_nn (xs : List Xt) (p : Int) : 0 ≤ cnt xs p := by unfold cnt; omega
theorem cnt_snoc (xs : List Xt) (x : Xt) (p : Int) : cnt (xs ++ [x]) p = if hasP p x = true then cnt xs p + 1 else cnt xs p := by
  unfold cnt
  rw [List.filter_append]
  by_cases h : hasP p x = true <;> simp [h]

set_option maxHeartbeats 4000000 in
set_option maxRecDepth 100000 in
theorem in_any (A : Option Addr) (n C lo hi : Nat) (xs : List Xt) (p : Int) (w : World) (hn : n ≤ 1000000) (h : Ex w lo hi A n xs) (hhi : hi ≤ w.heap.size) (hm : ∀ x ∈ xs, mayP x) (hp0 : 0 ≤ p) (hp1 : p ≤ 4194304) :
    Calls Try.prog 31 #[.slice A n C, .int .i64 p] w fun e w' => e = .returned (.int .i64 (cnt xs p)) ∧ Below w.heap.size w w' := by
  have hl := h.len
  have HX := Lib.hid h
  have HM := Lib.hid hm
  generalize hR : cnt xs p = R
  have HR := Lib.hid hR
  clear h hm hR
  go_enter Try.func31, Try.ntmps31
  go_wp2
  go_loopw [5, 6] (fun s i wr => ∃ (k : Nat) (q : Int), s = .int .i64 q ∧ i = .int .i64 k ∧ k ≤ n ∧ 0 ≤ q ∧ q ≤ k ∧ Below w.heap.size w wr ∧ Hid (q = cnt (xs.take k) p)) (fun _ i _ => n - (intOf i).toNat)
  case atStart => exact ⟨0, 0, rfl, rfl, Nat.zero_le _, by omega, by omega, Below.refl _ _, Lib.hid rfl⟩
  case round =>
    obtain ⟨k, q, rfl, rfl, hk, hq0, hq1, hbe, HQ⟩ := hrel
    have HBE := Lib.hid hbe
    clear hbe
    by_cases hlt : k < n
    · have hltz : (k : Int) < (n : Int) := by omega
      obtain ⟨b, o, rfl, hb1, hb2, -⟩ := HX.out.at_ (by omega)
      obtain ⟨c0, c1⟩ := HX.out.get rfl (i := k) (by omega)
      rw [← HBE.out.cell (p := ⟨b, o + k * 2, none⟩) (Nat.lt_of_lt_of_le hb2 hhi)] at c0
      rw [← HBE.out.cell (p := ⟨b, o + k * 2 + 1, none⟩) (Nat.lt_of_lt_of_le hb2 hhi)] at c1
      have hxm := HM.out xs[k] (List.getElem_mem _)
      have htk : xs.take (k + 1) = xs.take k ++ [xs[k]] := by rw [List.take_add_one, List.getElem?_eq_getElem (by omega)]; rfl
      have hsn : cnt (xs.take (k + 1)) p = if hasP p xs[k] = true then q + 1 else q := by rw [htk, cnt_snoc, ← HQ.out]
      have HSN := Lib.hid hsn
      clear htk hsn
      generalize xs[k] = x at c0 c1 HSN hxm
      unfold mayP at hxm
      have s1 : wrap64 (p - x.1) = p - x.1 := by unfold wrap64; omega
      have s2 : IntKind.i64.wrap (p - x.1) = p - x.1 := IntWalk.i64_in _ (by omega)
      have s3 : wrap64 (q + 1) = q + 1 := by unfold wrap64; omega
      clear hxm
      by_cases h1 : x.1 ≤ p
      · have d1 : decide (x.1 ≤ p) = true := by simp; exact h1
        by_cases h2 : p - x.1 < x.2
        · have d2 : decide (p - x.1 < x.2) = true := by simp; exact h2
          go_upto_region 5 with fail
          go_quiet (fail)
          have HBQ := Lib.hid (below_more HBE.out (below_drewN (Below.refl wr.heap.size wr) nq))
          generalize wr.drewN nq = wc at *
          have HF := Lib.hid (show hasP p x = true by unfold hasP; rw [d1, d2]; rfl)
          go_wp2
          go_roundw
          case rel => exact ⟨k + 1, q + 1, rfl, by go_num, by omega, by omega, by omega, HBQ.out, Lib.hid (by rw [HSN.out, if_pos HF.out])⟩
          case measure => simp [intOf]; omega
        · have d2 : decide (p - x.1 < x.2) = false := by simp; omega
          go_upto_region 5 with fail
          go_quiet (fail)
          have HBQ := Lib.hid (below_more HBE.out (below_drewN (Below.refl wr.heap.size wr) nq))
          generalize wr.drewN nq = wc at *
          have HF := Lib.hid (show hasP p x = false by unfold hasP; rw [d1, d2]; rfl)
          go_wp2
          go_roundw
          case rel => exact ⟨k + 1, q, rfl, by go_num, by omega, by omega, by omega, HBQ.out, Lib.hid (by rw [HSN.out, HF.out]; rfl)⟩
          case measure => simp [intOf]; omega
      · have d1 : decide (x.1 ≤ p) = false := by simp; omega
        go_upto_region 5 with fail
        go_quiet (fail)
        have HBQ := Lib.hid (below_more HBE.out (below_drewN (Below.refl wr.heap.size wr) nq))
        generalize wr.drewN nq = wc at *
        have HF := Lib.hid (show hasP p x = false by unfold hasP; rw [d1]; rfl)
        go_wp2
        go_roundw
        case rel => exact ⟨k + 1, q, rfl, by go_num, by omega, by omega, by omega, HBQ.out, Lib.hid (by rw [HSN.out, HF.out]; rfl)⟩
        case measure => simp [intOf]; omega
    · obtain rfl : k = n := by omega
      have hf : q = R := by rw [HQ.out, List.take_of_length_le (by omega)]; exact HR.out
      subst hf
      go_wp2
      go_ret
      exact ⟨rfl, HBE.out⟩

theorem sep_nocom {a : List Xt} (h : Sep a) : a.Pairwise fun x y => ¬ com x y := h.1.imp fun {x y} h1 hc => by unfold com at hc; omega
theorem noMeet_two {a b : List Xt} (ha : Sep a) (hb : Sep b) (hab : ∀ p, cov a p → ¬ cov b p) : noMeet (a ++ b) := by
  unfold noMeet
  refine List.pairwise_append.mpr ⟨(sep_nocom ha).imp fun {x y} h1 h2 => h1 h2.2.2, (sep_nocom hb).imp fun {x y} h1 h2 => h1 h2.2.2, fun x hx y hy h => ?_⟩
  have hc := h.2.2
  unfold com at hc
  exact hab (max x.1 y.1) ⟨x, hx, by omega, by omega⟩ ⟨y, hy, by omega, by omega⟩
theorem own_none {w : World} {base n C m : Nat} {e : TypeId} {A : Option Addr} {xs : List Value} (h : w.ownsRow base e 2 (.slice A m C) n xs) : A = none → C = 0 := by
  intro hA
  subst hA
  rcases h.2 with ⟨e1, _⟩ | ⟨g, cap, cur, e1, _⟩
  · cases e1; rfl
  · cases e1
end Go.Proofs.Ytkdfafaiabidgaa.X5
