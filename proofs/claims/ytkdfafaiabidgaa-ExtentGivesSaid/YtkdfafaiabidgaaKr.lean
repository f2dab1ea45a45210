/- The reference's Normal. -/
import Derived.Test.YtkdfafaiabidgaaKq
namespace Go.Proofs.Ytkdfafaiabidgaa.X5
set_option linter.unusedVariables false
set_option linter.unusedSimpArgs false
open Go.RowKit Wd Ty9

set_option maxHeartbeats 4000000 in
set_option maxRecDepth 100000 in
theorem rnormal_yes (A : Option Addr) (n C lo hi : Nat) (xs : List Xt) (w : World) (hn : n ≤ 65536) (h : Ex w lo hi A n xs) (hhi : hi ≤ w.heap.size) (hm : ∀ x ∈ xs, mayP x) :
    Calls Try.prog 14 #[.slice A n C] w fun e w' => ∃ V out, e = .returned (.tuple #[V, .int .i64 0]) ∧ IsJoin xs out ∧ out.length ≤ n ∧ w'.ownsRow w.heap.size 51 2 V out.length (cl out) ∧ Below w.heap.size w w' := by
  have hl := h.len
  have HX := Lib.hid h
  have HM := Lib.hid hm
  clear h hm
  go_enter Try.func14, Try.ntmps14
  go_wp2
  go_loopw [4] (fun i wr => ∃ (k : Nat), i = .int .i64 k ∧ k ≤ n ∧ Below w.heap.size w wr) (fun i _ => n - (intOf i).toNat)
  case atStart => exact ⟨0, rfl, Nat.zero_le _, Below.refl _ _⟩
  case round =>
    obtain ⟨k, rfl, hk, hbe⟩ := hrel
    have HBE := Lib.hid hbe
    clear hbe
    by_cases hlt : k < n
    · have hltz : (k : Int) < (n : Int) := by omega
      obtain ⟨b, o, rfl, hb1, hb2, -⟩ := HX.out.at_ (by omega)
      obtain ⟨c0, c1⟩ := HX.out.get rfl (i := k) (by omega)
      rw [← HBE.out.cell (p := ⟨b, o + k * 2, none⟩) (Nat.lt_of_lt_of_le hb2 hhi)] at c0
      rw [← HBE.out.cell (p := ⟨b, o + k * 2 + 1, none⟩) (Nat.lt_of_lt_of_le hb2 hhi)] at c1
      have hxm := HM.out xs[k] (List.getElem_mem _)
      generalize xs[k] = x at c0 c1 hxm
      have HXM := Lib.hid hxm
      clear hxm
      go_wp2_with (go_at_call 36; refine (rmay_any x _).mono ?_; rintro _ w2 ⟨he, hb2'⟩; rw [decide_eq_true HXM.out] at he; subst he; have HW := Lib.hid hb2'; clear hb2')
      go_roundw
      case rel => exact ⟨k + 1, by go_num, by omega, below_more HBE.out HW.out⟩
      case measure => simp [intOf]; omega
    · obtain rfl : k = n := by omega
      have HJ := Lib.hid (rjoin_any A k C lo hi xs wr (by omega) (HX.out.later HBE.out hhi) (Nat.le_trans hhi HBE.out.size) HM.out)
      go_wp2_with (go_at_call 37; refine HJ.out.mono ?_; rintro _ w3 ⟨V, out, rfl, hj, hlen, hown, hb3⟩; refine Hid.out ?_)
      obtain ⟨Af, Cf, hV⟩ := own_form hown
      subst hV
      have HJ1 := Lib.hid hj
      have HL := Lib.hid hlen
      have HO := Lib.hid (own_base hown HBE.out.size)
      have HB3 := Lib.hid (below_more HBE.out hb3)
      clear hj hlen hown hb3
      refine go_on ?_
      go_wp2
      go_ret2
      exact ⟨_, out, rfl, HJ1.out, HL.out, HO.out, HB3.out⟩

set_option maxHeartbeats 4000000 in
set_option maxRecDepth 100000 in
theorem rnormal_no (A : Option Addr) (n C lo hi : Nat) (xs : List Xt) (w : World) (hn : n ≤ 140737488355328) (h : Ex w lo hi A n xs) (hhi : hi ≤ w.heap.size) (hm : 65536 < n ∨ ¬ ∀ x ∈ xs, mayP x) :
    Calls Try.prog 14 #[.slice A n C] w fun e w' => e = .returned (.tuple #[.slice none 0 0, .int .i64 (if 65536 < n then 3 else 2)]) ∧ Below w.heap.size w w' := by
  by_cases hb : 65536 < n
  · rw [if_pos hb]
    clear hm h
    go_enter Try.func14, Try.ntmps14
    go_wp2
    go_ret2
    exact ⟨rfl, Below.refl _ _⟩
  · rw [if_neg hb]
    have hm2 : ¬ ∀ x ∈ xs, mayP x := hm.resolve_left hb
    have hl := h.len
    have HX := Lib.hid h
    have HM := Lib.hid hm2
    clear h hm hm2
    go_enter Try.func14, Try.ntmps14
    go_wp2
    go_loopw [4] (fun i wr => ∃ (k : Nat), i = .int .i64 k ∧ k ≤ n ∧ Below w.heap.size w wr ∧ Hid (∀ x ∈ xs.take k, mayP x)) (fun i _ => n - (intOf i).toNat)
    case atStart => exact ⟨0, rfl, Nat.zero_le _, Below.refl _ _, Lib.hid (by simp)⟩
    case round =>
      obtain ⟨k, rfl, hk, hbe, HQ⟩ := hrel
      have HBE := Lib.hid hbe
      clear hbe
      by_cases hlt : k < n
      · have hltz : (k : Int) < (n : Int) := by omega
        obtain ⟨b, o, rfl, hb1, hb2, -⟩ := HX.out.at_ (by omega)
        obtain ⟨c0, c1⟩ := HX.out.get rfl (i := k) (by omega)
        rw [← HBE.out.cell (p := ⟨b, o + k * 2, none⟩) (Nat.lt_of_lt_of_le hb2 hhi)] at c0
        rw [← HBE.out.cell (p := ⟨b, o + k * 2 + 1, none⟩) (Nat.lt_of_lt_of_le hb2 hhi)] at c1
        have htk : xs.take (k + 1) = xs.take k ++ [xs[k]] := by rw [List.take_add_one, List.getElem?_eq_getElem (by omega)]; rfl
        have HTK := Lib.hid htk
        clear htk
        generalize xs[k] = x at c0 c1 HTK
        by_cases hxm : mayP x
        · have HXM := Lib.hid hxm
          clear hxm
          go_wp2_with (go_at_call 36; refine (rmay_any x _).mono ?_; rintro _ w2 ⟨he, hb2'⟩; rw [decide_eq_true HXM.out] at he; subst he; have HW := Lib.hid hb2'; clear hb2')
          go_roundw
          case rel =>
            refine ⟨k + 1, by go_num, by omega, below_more HBE.out HW.out, Lib.hid (fun y hy => ?_)⟩
            rw [HTK.out] at hy
            rcases List.mem_append.mp hy with hy | hy
            · exact HQ.out y hy
            · simp at hy; rw [hy]; exact HXM.out
          case measure => simp [intOf]; omega
        · have HXM := Lib.hid hxm
          clear hxm
          go_wp2_with (go_at_call 36; refine (rmay_any x _).mono ?_; rintro _ w2 ⟨he, hb2'⟩; rw [decide_eq_false HXM.out] at he; subst he; have HW := Lib.hid hb2'; clear hb2')
          go_ret2
          exact ⟨rfl, below_more HBE.out HW.out⟩
      · have h1 := HQ.out
        rw [List.take_of_length_le (by omega)] at h1
        exact absurd h1 HM.out
end Go.Proofs.Ytkdfafaiabidgaa.X5
