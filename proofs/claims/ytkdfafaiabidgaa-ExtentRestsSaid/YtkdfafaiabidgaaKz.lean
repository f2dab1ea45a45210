/- The law ExtentRests. -/
import Derived.Test.YtkdfafaiabidgaaKy
namespace Go.Proofs.Ytkdfafaiabidgaa.X5
set_option linter.unusedVariables false
set_option linter.unusedSimpArgs false
open Go.RowKit Wd Ty9

set_option maxHeartbeats 4000000 in
set_option maxRecDepth 100000 in
theorem rests_walk (w : World) (A : Option Addr) (n C : Nat) (xs : List Xt) (hn : (n + 1) * 16 ≤ 140737488355328) (hA : A = none → C = 0) (h : Ex w 0 w.heap.size A n xs) (size : Int) (hr : -9223372036854775808 ≤ size ∧ size ≤ 9223372036854775807) :
    Calls Try.prog 6 #[.slice A n C, .int .i64 size] w fun e w' => e = .returned (.bool true) ∧ Below w.heap.size w w' := by
  have hl := h.len
  have HX := Lib.hid h
  have HF := Lib.hid (few_any A n C w (by omega))
  by_cases hf : n ≤ 300 ∨ 65536 < n
  · have HFD := Lib.hid (decide_eq_true hf)
    clear h hf hr
    go_enter Try.func6, Try.ntmps6
    go_wp2_with (go_at_call 10; refine HF.out.mono ?_; rintro _ w1 ⟨he, hb⟩; rw [HFD.out] at he; subst he; refine Hid.out ?_)
    have HB1 := Lib.hid hb
    have HX1 := Lib.hid (HX.out.later hb (Nat.le_refl _))
    have HLE := Lib.hid (lent_any A n C 0 w.heap.size xs w1 hn hA HX1.out hb.size)
    clear hb
    refine go_on ?_
    go_wp2_with (go_at_call 12; refine HLE.out.mono ?_; rintro _ w2 ⟨g, C2, rfl, hL, hb⟩; refine Hid.out ?_)
    have HL := Lib.hid hL
    have HB2 := Lib.hid (below_more HB1.out hb)
    have HN := Lib.hid (rest_any (some ⟨g, 0, none⟩) n C2 w1.heap.size w2.heap.size xs size w2 (by omega) hL.ex (Nat.le_refl _))
    clear hL hb
    refine go_on ?_
    go_wp2_with (go_at_call 27; refine HN.out.mono ?_; rintro _ w3 ⟨A3, C3, m3, z3, o3, rfl, hn3, hl3, hown3, hb⟩; refine Hid.out ?_)
    obtain ⟨_, _, ev, -, hex3, -⟩ := own_ex hown3
    cases ev
    have HN3 := Lib.hid hn3
    have HE3 := Lib.hid hex3
    have HL3 := Lib.hid (HL.out.later hb)
    have HB3 := Lib.hid (below_more HB2.out hb)
    have HP := Lib.hid (plain_any A n C 0 w.heap.size xs w3 (by omega) (HX.out.later HB3.out (Nat.le_refl _)) HB3.out.size)
    clear hn3 hown3 hex3 hb HN hl3
    refine go_on ?_
    go_wp2_with (go_at_call 15; refine HP.out.mono ?_; rintro _ w5 ⟨V5, rfl, how5⟩; refine Hid.out ?_)
    obtain ⟨A5, C5, hV, -, hex5, -⟩ := own_ex how5.own
    rw [hl] at hV hex5
    subst hV
    have hb := how5.be
    have HR := Lib.hid (rrest_any A5 n C5 w3.heap.size w5.heap.size xs size w5 (by omega) hex5 (Nat.le_refl _))
    have HE3c := Lib.hid (HE3.out.later hb (Nat.le_refl _))
    have HL5 := Lib.hid (HL3.out.later hb)
    have HB5 := Lib.hid (below_more HB3.out hb)
    have HS35 := Lib.hid hb.size
    clear how5 hex5 hb HP
    refine go_on ?_
    go_wp2_with (go_at_call 28; refine HR.out.mono ?_; rintro _ w6 ⟨A6, C6, m6, z6, o6, rfl, hn6, hl6, hown6, hb⟩; refine Hid.out ?_)
    obtain ⟨_, _, ev, -, hex6, -⟩ := own_ex hown6
    cases ev
    obtain ⟨hz, ho⟩ := hn6.uniq HN3.out
    subst hz ho
    have HE6 := Lib.hid hex6
    have HE3d := Lib.hid (HE3c.out.later hb HS35.out)
    have HL6 := Lib.hid (HL5.out.later hb)
    have HB6 := Lib.hid (below_more HB5.out hb)
    have hlen := hn6.len
    have HQ := Lib.hid (same_any A3 A6 m3 m6 C3 C6 _ _ _ _ o6 o6 w6 (by have h1 := HE3.out.len; omega) HE3d.out (Nat.le_trans HS35.out hb.size) HE6.out (Nat.le_refl _))
    have HK := Lib.hid (fun (W : World) (hL : Lent w1 W g n C2 xs) (hb : Below w.heap.size w W) => kept_yes w1 g C2 A n C 0 w.heap.size xs W hn hL (HX.out.later hb (Nat.le_refl _)) hb.size)
    have zz : (z6 == z6) = true := by simp
    clear hown6 hex6 hb hn6 hl6 HR hlen
    refine go_on ?_
    go_wp2_with (go_at_call 16; refine HQ.out.mono ?_; rintro _ w7 ⟨he, hb⟩; rw [decide_eq_true rfl] at he; subst he; refine Hid.out ?_)
    have HB7 := Lib.hid (below_more HB6.out hb)
    have HK7 := Lib.hid (HK.out w7 (HL6.out.later hb) HB7.out)
    clear hb HQ
    refine go_on ?_
    go_wp2_with (go_at_call 17; refine HK7.out.mono ?_; rintro _ w8 ⟨rfl, hb⟩; refine Hid.out ?_)
    have HB8 := Lib.hid (below_more HB7.out hb)
    clear hb HK7
    refine go_on ?_
    go_wp2_with (go_at_call 11; refine (lives_any w8).mono ?_; rintro _ w12 ⟨rfl, hb⟩; refine Hid.out ?_)
    have HB12 := Lib.hid (below_more HB8.out hb)
    clear hb
    refine go_on ?_
    go_wp2
    go_ret
    exact ⟨rfl, HB12.out⟩
  · have HFD := Lib.hid (decide_eq_false hf)
    clear h hf hr
    go_enter Try.func6, Try.ntmps6
    go_wp2_with (go_at_call 10; refine HF.out.mono ?_; rintro _ w1 ⟨he, hb⟩; rw [HFD.out] at he; subst he; have HB1 := Lib.hid hb; clear hb)
    go_wp2_with (go_at_call 11; refine (lives_any w1).mono ?_; rintro _ w2 ⟨rfl, hb⟩; have HB2 := Lib.hid (below_more HB1.out hb); clear hb)
    go_ret
    exact ⟨rfl, HB2.out⟩
end Go.Proofs.Ytkdfafaiabidgaa.X5
