/- extent.Good. -/
import Derived.Test.YtkdfafaiabidgaaDoorKg
import Derived.BigQuiet
namespace Go.Proofs.YtkdfafaiabidgaaDoor.X5
set_option linter.unusedVariables false
set_option linter.unusedSimpArgs false
open Go.RowKit Wd Ty9

theorem drop_cons {xs : List Xt} {k : Nat} (h : k < xs.length) : xs.drop k = xs[k] :: xs.drop (k + 1) := List.drop_eq_getElem_cons h
theorem bool_eq {p : Prop} [Decidable p] {b : Bool} (h : b = true ↔ p) : b = decide p := by
  cases b <;> simp_all

set_option maxHeartbeats 4000000 in
set_option maxRecDepth 100000 in
theorem good_any (A : Option Addr) (n C lo hi : Nat) (xs : List Xt) (size : Int) (w : World) (hn : n ≤ 140737488355328) (h : Ex w lo hi A n xs) (hhi : hi ≤ w.heap.size) :
    Calls Tryd.prog 15 #[.slice A n C, .int .i64 size] w fun e w' => e = .returned (.bool (decide (goodP xs size))) ∧ Below w.heap.size w w' := by
  have hl := h.len
  have HX := Lib.hid h
  have hd : (decide (goodP xs size) = true) ↔ (0 ≤ size ∧ size ≤ 4194304 ∧ n ≤ 65536 ∧ goodFrom size (-1) xs) := by rw [decide_eq_true_eq, ← hl]; exact Iff.rfl
  have HD := Lib.hid hd
  generalize decide (goodP xs size) = r at *
  clear hd h
  by_cases h1 : 0 ≤ size ∧ size ≤ 4194304 ∧ n ≤ 65536
  · obtain ⟨h1, h2, h3⟩ := h1
    go_enter Tryd.func15, Tryd.ntmps15
    go_wp2
    go_loopw [5, 21] (fun bv i wr => ∃ (k : Nat) (bh : Int), bv = .int .i64 bh ∧ i = .int .i64 k ∧ k ≤ n ∧ Below w.heap.size w wr ∧ Hid (goodFrom size (-1) xs ↔ goodFrom size bh (xs.drop k))) (fun _ i _ => n - (intOf i).toNat)
    case atStart => exact ⟨0, -1, rfl, rfl, Nat.zero_le _, Below.refl _ _, Lib.hid Iff.rfl⟩
    case round =>
      obtain ⟨k, bh, rfl, rfl, hk, hbe, HG⟩ := hrel
      have HBE := Lib.hid hbe
      clear hbe
      by_cases hlt : k < n
      · have hltz : (k : Int) < (n : Int) := by omega
        obtain ⟨b, o, rfl, hb1, hb2, -⟩ := HX.out.at_ (by omega)
        obtain ⟨c0, c1⟩ := HX.out.get rfl (i := k) (by omega)
        rw [← HBE.out.cell (p := ⟨b, o + k * 2, none⟩) (Nat.lt_of_lt_of_le hb2 hhi)] at c0
        rw [← HBE.out.cell (p := ⟨b, o + k * 2 + 1, none⟩) (Nat.lt_of_lt_of_le hb2 hhi)] at c1
        have hg := HG.out
        rw [drop_cons (by omega)] at hg
        generalize xs[k] = x at c0 c1 hg
        have HG2 := Lib.hid (show goodFrom size (-1) xs ↔ (stepP size bh x ∧ goodFrom size (x.1 + x.2) (xs.drop (k + 1))) from hg)
        clear hg
        have HBX := Lib.hid (Bx.new wr 45 #[.int .i64 x.1, .int .i64 x.2])
        have HW := Lib.hid (below_new wr (.cells #[.int .i64 x.1, .int .i64 x.2] 45))
        by_cases hm : mayP x
        · have HM := Lib.hid hm
          clear hm
          by_cases hst : stepP size bh x
          · obtain ⟨-, q1, q2, q3⟩ := hst
            have q1' : (x.2 == 0) = false := beq_eq_false_iff_ne.2 q1
            have HS := Lib.hid (show stepP size bh x from ⟨HM.out, q1, q2, q3⟩)
            go_wp2_with (first
              | (go_at_call 27; refine (may_any x _).mono ?_; rintro _ w2 ⟨he, hb2⟩; rw [decide_eq_true HM.out] at he; subst he; have hbx := HBX.out.later hb2 HBX.out.lt; have HW := Lib.hid (below_more HW.out hb2); have x0 := hbx.cell 0; have x1 := hbx.cell 1; have HBX := Lib.hid hbx; clear hbx hb2)
              | (go_at_call 28; refine (end_any x _ HM.out).mono ?_; rintro _ w3 ⟨rfl, hb3⟩; have hbx := HBX.out.later hb3 HBX.out.lt; have HW := Lib.hid (below_more HW.out hb3); have x0 := hbx.cell 0; have x1 := hbx.cell 1; have HBX := Lib.hid hbx; clear hbx hb3))
            go_roundw
            case rel => exact ⟨k + 1, _, rfl, by go_num, by omega, below_more HBE.out HW.out, Lib.hid (HG2.out.trans ⟨fun h => h.2, fun h => ⟨HS.out, h⟩⟩)⟩
            case measure => simp [intOf]; omega
          · have HNS := Lib.hid (show ¬ goodFrom size (-1) xs from fun h => hst (HG2.out.mp h).1)
            have hcase : x.2 = 0 ∨ (x.2 ≠ 0 ∧ x.1 ≤ bh) ∨ (x.2 ≠ 0 ∧ bh < x.1 ∧ size < x.1 + x.2) := by
              have hmm := HM.out
              unfold stepP at hst
              by_cases a1 : x.2 = 0
              · exact .inl a1
              · by_cases a2 : x.1 ≤ bh
                · exact .inr (.inl ⟨a1, a2⟩)
                · exact .inr (.inr ⟨a1, by omega, Int.not_le.mp fun a3 => hst ⟨hmm, a1, by omega, a3⟩⟩)
            clear hst
            rcases hcase with q1 | ⟨q1, q2⟩ | ⟨q1, q2, q3⟩
            · have q1' : (x.2 == 0) = true := beq_iff_eq.2 q1
              clear q1
              go_wp2_with (first
                | (go_at_call 27; refine (may_any x _).mono ?_; rintro _ w2 ⟨he, hb2⟩; rw [decide_eq_true HM.out] at he; subst he; have hbx := HBX.out.later hb2 HBX.out.lt; have HW := Lib.hid (below_more HW.out hb2); have x0 := hbx.cell 0; have x1 := hbx.cell 1; have HBX := Lib.hid hbx; clear hbx hb2))
              go_ret
              exact ⟨congrArg (fun b => Ending.returned (Value.bool b)) (Bool.eq_iff_iff.mpr (by rw [HD.out]; simp [HNS.out])), below_more HBE.out HW.out⟩
            · have q1' : (x.2 == 0) = false := beq_eq_false_iff_ne.2 q1
              go_wp2_with (first
                | (go_at_call 27; refine (may_any x _).mono ?_; rintro _ w2 ⟨he, hb2⟩; rw [decide_eq_true HM.out] at he; subst he; have hbx := HBX.out.later hb2 HBX.out.lt; have HW := Lib.hid (below_more HW.out hb2); have x0 := hbx.cell 0; have x1 := hbx.cell 1; have HBX := Lib.hid hbx; clear hbx hb2))
              go_ret
              exact ⟨congrArg (fun b => Ending.returned (Value.bool b)) (Bool.eq_iff_iff.mpr (by rw [HD.out]; simp [HNS.out])), below_more HBE.out HW.out⟩
            · have q1' : (x.2 == 0) = false := beq_eq_false_iff_ne.2 q1
              go_wp2_with (first
                | (go_at_call 27; refine (may_any x _).mono ?_; rintro _ w2 ⟨he, hb2⟩; rw [decide_eq_true HM.out] at he; subst he; have hbx := HBX.out.later hb2 HBX.out.lt; have HW := Lib.hid (below_more HW.out hb2); have x0 := hbx.cell 0; have x1 := hbx.cell 1; have HBX := Lib.hid hbx; clear hbx hb2)
                | (go_at_call 28; refine (end_any x _ HM.out).mono ?_; rintro _ w3 ⟨rfl, hb3⟩; have hbx := HBX.out.later hb3 HBX.out.lt; have HW := Lib.hid (below_more HW.out hb3); have x0 := hbx.cell 0; have x1 := hbx.cell 1; have HBX := Lib.hid hbx; clear hbx hb3))
              go_ret
              exact ⟨congrArg (fun b => Ending.returned (Value.bool b)) (Bool.eq_iff_iff.mpr (by rw [HD.out]; simp [HNS.out])), below_more HBE.out HW.out⟩
        · have HM := Lib.hid hm
          have HNS := Lib.hid (show ¬ goodFrom size (-1) xs from fun h => hm (HG2.out.mp h).1.1)
          clear hm
          go_wp2_with (go_at_call 27; refine (may_any x _).mono ?_; rintro _ w2 ⟨he, hb2⟩; rw [decide_eq_false HM.out] at he; subst he; have hbx := HBX.out.later hb2 HBX.out.lt; have HW := Lib.hid (below_more HW.out hb2); have x0 := hbx.cell 0; have x1 := hbx.cell 1; have HBX := Lib.hid hbx; clear hbx hb2)
          go_ret
          exact ⟨congrArg (fun b => Ending.returned (Value.bool b)) (Bool.eq_iff_iff.mpr (by rw [HD.out]; simp [HNS.out])), below_more HBE.out HW.out⟩
      · obtain rfl : k = n := by omega
        have hg := HG.out
        rw [List.drop_eq_nil_of_le (by omega)] at hg
        have HG2 := Lib.hid (hg.mpr trivial)
        clear hg
        go_wp2
        go_ret
        exact ⟨congrArg (fun b => Ending.returned (Value.bool b)) (Bool.eq_iff_iff.mpr (by rw [HD.out]; simp only [true_iff]; exact ⟨h1, h2, h3, HG2.out⟩)), HBE.out⟩
  · have hcase : size < 0 ∨ (0 ≤ size ∧ 4194304 < size) ∨ (0 ≤ size ∧ size ≤ 4194304 ∧ 65536 < n) := by omega
    have hr : r = false := by
      rcases hr : r with _ | _
      · rfl
      · exact absurd (HD.out.mp hr) (fun h => h1 ⟨h.1, h.2.1, h.2.2.1⟩)
    subst hr
    clear h1 HD
    rcases hcase with q | ⟨q1, q2⟩ | ⟨q1, q2, q3⟩
    all_goals
      go_enter Tryd.func15, Tryd.ntmps15
      go_wp2
      go_ret
      exact ⟨rfl, Below.refl _ _⟩
end Go.Proofs.YtkdfafaiabidgaaDoor.X5
