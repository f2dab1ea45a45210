/- extent.Normal, extent.Meets. -/
import Derived.Test.YtkdfafaiabidgaaDoorKl
import Derived.WalkMore
namespace Go.Proofs.YtkdfafaiabidgaaDoor.X5
set_option linter.unusedVariables false
set_option linter.unusedSimpArgs false
open Go.RowKit Wd Ty9

theorem any_not {xs : List Xt} : (xs.any fun x => !decide (mayP x)) = false ↔ ∀ x ∈ xs, mayP x := by simp

set_option maxHeartbeats 4000000 in
set_option maxRecDepth 100000 in
theorem normal_yes (A : Option Addr) (n C lo hi : Nat) (xs : List Xt) (w : World) (hn : n ≤ 65536) (h : Ex w lo hi A n xs) (hhi : hi ≤ w.heap.size) (hm : ∀ x ∈ xs, mayP x) :
    Calls Tryd.prog 16 #[.slice A n C] w fun e w' => ∃ V out, e = .returned (.tuple #[V, .int .i64 0]) ∧ IsJoin xs out ∧ out.length ≤ n ∧ w'.ownsRow w.heap.size 45 2 V out.length (cl out) ∧ Below w.heap.size w w' := by
  have eg : ∀ args w, (callFunc 30 args).run Tryd.prog w = .ok (.enter 30 args) w := enters_of Tryd.func30 (by kernel_rfl) rfl
  have HC := Lib.hid (contains_any (fun x => !decide (mayP x)) 30 #[] says_normal eg A n C lo hi xs w (by omega) h hhi)
  have HX := Lib.hid h
  have HM := Lib.hid hm
  clear h hm eg
  go_enter Tryd.func16, Tryd.ntmps16
  go_wp2_with (go_at_call 29; refine HC.out.mono ?_; rintro _ w2 ⟨he, hb2⟩; rw [any_not.mpr HM.out] at he; subst he; have HB := Lib.hid hb2; clear hb2)
  go_wp2_with (go_at_call 31; refine (join_any A n C lo hi xs w2 (by omega) (HX.out.later HB.out hhi) (Nat.le_trans hhi HB.out.size) HM.out).mono ?_; rintro _ w3 ⟨V, out, rfl, hj, hlen, hown, hb3⟩; refine Hid.out ?_)
  obtain ⟨Af, Cf, hV⟩ := own_form hown
  subst hV
  have HJ := Lib.hid hj
  have HL := Lib.hid hlen
  have HO := Lib.hid (own_base hown HB.out.size)
  have HB3 := Lib.hid (below_more HB.out hb3)
  clear hj hlen hown hb3
  refine go_on ?_
  go_wp2
  go_ret2
  exact ⟨_, out, rfl, HJ.out, HL.out, HO.out, HB3.out⟩

set_option maxHeartbeats 4000000 in
set_option maxRecDepth 100000 in
theorem normal_no (A : Option Addr) (n C lo hi : Nat) (xs : List Xt) (w : World) (hn : n ≤ 140737488355328) (h : Ex w lo hi A n xs) (hhi : hi ≤ w.heap.size) (hm : 65536 < n ∨ ¬ ∀ x ∈ xs, mayP x) :
    Calls Tryd.prog 16 #[.slice A n C] w fun e w' => e = .returned (.tuple #[.slice none 0 0, .int .i64 (if 65536 < n then 3 else 2)]) ∧ Below w.heap.size w w' := by
  by_cases hb : 65536 < n
  · rw [if_pos hb]
    clear hm h
    go_enter Tryd.func16, Tryd.ntmps16
    go_wp2
    go_ret2
    exact ⟨rfl, Below.refl _ _⟩
  · rw [if_neg hb]
    have hm2 : (xs.any fun x => !decide (mayP x)) = true := by
      rcases hm with hm | hm
      · exact absurd hm hb
      · rw [← Bool.not_eq_false]; exact fun h1 => hm (any_not.mp h1)
    have eg : ∀ args w, (callFunc 30 args).run Tryd.prog w = .ok (.enter 30 args) w := enters_of Tryd.func30 (by kernel_rfl) rfl
    have HC := Lib.hid (contains_any (fun x => !decide (mayP x)) 30 #[] says_normal eg A n C lo hi xs w (by omega) h hhi)
    have HM := Lib.hid hm2
    clear h hm hm2 eg
    go_enter Tryd.func16, Tryd.ntmps16
    go_wp2_with (go_at_call 29; refine HC.out.mono ?_; rintro _ w2 ⟨he, hb2⟩; rw [HM.out] at he; subst he; have HB := Lib.hid hb2; clear hb2)
    go_ret2
    exact ⟨rfl, HB.out⟩

end Go.Proofs.YtkdfafaiabidgaaDoor.X5
