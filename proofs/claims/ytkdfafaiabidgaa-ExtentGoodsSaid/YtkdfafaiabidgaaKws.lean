/- The law ExtentGoods. -/
import Derived.Test.YtkdfafaiabidgaaKw
import Derived.Test.YtkdfafaiabidgaaKwn
import Derived.Test.YtkdfafaiabidgaaKt
namespace Go.Proofs.Ytkdfafaiabidgaa.X5
set_option linter.unusedVariables false
set_option linter.unusedSimpArgs false
open Go.RowKit Wd Ty9

theorem same_bool {r s : Bool} {p : Prop} (h1 : r = false ↔ p) (h2 : s = false ↔ p) : r = s := by
  cases r <;> cases s
  · rfl
  · exact absurd (h2.mpr (h1.mp rfl)) (by decide)
  · exact absurd (h1.mpr (h2.mp rfl)) (by decide)
  · rfl

set_option maxHeartbeats 4000000 in
set_option maxRecDepth 100000 in
theorem goods_walk (w : World) (A : Option Addr) (n C : Nat) (xs : List Xt) (hn : (n + 1) * 16 ≤ 140737488355328) (hA : A = none → C = 0) (h : Ex w 0 w.heap.size A n xs) (size : Int) (hr : -9223372036854775808 ≤ size ∧ size ≤ 9223372036854775807) :
    Calls Try.prog 5 #[.slice A n C, .int .i64 size] w fun e w' => e = .returned (.bool true) ∧ Below w.heap.size w w' := by
  have hl := h.len
  have HX := Lib.hid h
  have HF := Lib.hid (few_any A n C w (by omega))
  by_cases hf : n ≤ 300 ∨ 65536 < n
  · have HFD := Lib.hid (decide_eq_true hf)
    clear h hf hr
    go_enter Try.func5, Try.ntmps5
    go_wp2_with (go_at_call 10; refine HF.out.mono ?_; rintro _ w1 ⟨he, hb⟩; rw [HFD.out] at he; subst he; refine Hid.out ?_)
    have HB1 := Lib.hid hb
    have HX1 := Lib.hid (HX.out.later hb (Nat.le_refl _))
    have HLE := Lib.hid (lent_any A n C 0 w.heap.size xs w1 hn hA HX1.out hb.size)
    clear hb
    refine go_on ?_
    go_wp2_with (go_at_call 12; refine HLE.out.mono ?_; rintro _ w2 ⟨g, C2, rfl, hL, hb⟩; refine Hid.out ?_)
    have HL := Lib.hid hL
    have HB2 := Lib.hid (below_more HB1.out hb)
    have HN := Lib.hid (good_any (some ⟨g, 0, none⟩) n C2 w1.heap.size w2.heap.size xs size w2 (by omega) hL.ex (Nat.le_refl _))
    have HK := Lib.hid (fun (W : World) (hL : Lent w1 W g n C2 xs) (hb : Below w.heap.size w W) => kept_yes w1 g C2 A n C 0 w.heap.size xs W hn hL (HX.out.later hb (Nat.le_refl _)) hb.size)
    have HP := Lib.hid (fun (W : World) (hb : Below w.heap.size w W) => plain_any A n C 0 w.heap.size xs W (by omega) (HX.out.later hb (Nat.le_refl _)) hb.size)
    clear hL hb
    refine go_on ?_
    go_wp2_with (go_at_call 21; refine HN.out.mono ?_; rintro _ w3 ⟨rfl, hb⟩; refine Hid.out ?_)
    have HL3 := Lib.hid (HL.out.later hb)
    have HB3 := Lib.hid (below_more HB2.out hb)
    have HP3 := Lib.hid (HP.out w3 HB3.out)
    clear hb HN
    refine go_on ?_
    go_wp2_with (go_at_call 15; refine HP3.out.mono ?_; rintro _ w5 ⟨V5, rfl, how5⟩; refine Hid.out ?_)
    obtain ⟨A5, C5, hV, -, hex5, -⟩ := own_ex how5.own
    rw [hl] at hV hex5
    subst hV
    have hb := how5.be
    have HR := Lib.hid (rgood_any A5 n C5 w3.heap.size w5.heap.size xs size w5 (by omega) hex5 (Nat.le_refl _))
    have HL5 := Lib.hid (HL3.out.later hb)
    have HB5 := Lib.hid (below_more HB3.out hb)
    clear how5 hex5 hb HP3
    generalize decide (goodP xs size) = r at *
    have rr : (r != r) = false := by simp
    have rr2 : (r == r) = true := by simp
    refine go_on ?_
    go_wp2_with (go_at_call 22; refine HR.out.mono ?_; rintro _ w6 ⟨rfl, hb⟩; refine Hid.out ?_)
    have HL6 := Lib.hid (HL5.out.later hb)
    have HB6 := Lib.hid (below_more HB5.out hb)
    have HT := Lib.hid (total_any (some ⟨g, 0, none⟩) n C2 w1.heap.size w6.heap.size xs w6 (by omega) (by have h1 := HL6.out.ex; exact h1) (Nat.le_refl _))
    clear hb HR
    refine go_on ?_
    go_wp2_with (go_at_call 23; refine HT.out.mono ?_; rintro _ w7 ⟨rfl, hb⟩; refine Hid.out ?_)
    have HL7 := Lib.hid (HL6.out.later hb)
    have HB7 := Lib.hid (below_more HB6.out hb)
    have HP7 := Lib.hid (HP.out w7 HB7.out)
    clear hb HT
    refine go_on ?_
    go_wp2_with (go_at_call 15; refine HP7.out.mono ?_; rintro _ w8 ⟨V8, rfl, how8⟩; refine Hid.out ?_)
    obtain ⟨A8, C8, hV, -, hex8, -⟩ := own_ex how8.own
    rw [hl] at hV hex8
    subst hV
    have hb := how8.be
    have HR8 := Lib.hid (rtotal_any A8 n C8 w7.heap.size w8.heap.size xs w8 (by omega) hex8 (Nat.le_refl _))
    have HL8 := Lib.hid (HL7.out.later hb)
    have HB8 := Lib.hid (below_more HB7.out hb)
    clear how8 hex8 hb HP7
    generalize sumL xs = sm at *
    have ss : (sm != sm) = false := by simp
    refine go_on ?_
    go_wp2_with (go_at_call 24; refine HR8.out.mono ?_; rintro _ w9 ⟨rfl, hb⟩; refine Hid.out ?_)
    have HL9 := Lib.hid (HL8.out.later hb)
    have HB9 := Lib.hid (below_more HB8.out hb)
    clear hb HR8
    by_cases h3 : 300 < n
    · have h4 : (300 : Int) < (n : Int) := by omega
      have HK9 := Lib.hid (HK.out w9 HL9.out HB9.out)
      refine go_on ?_
      go_wp2_with (go_at_call 17; refine HK9.out.mono ?_; rintro _ w11 ⟨rfl, hb⟩; refine Hid.out ?_)
      have HB11 := Lib.hid (below_more HB9.out hb)
      clear hb HK9
      refine go_on ?_
      go_wp2_with (go_at_call 11; refine (lives_any w11).mono ?_; rintro _ w12 ⟨rfl, hb⟩; refine Hid.out ?_)
      have HB12 := Lib.hid (below_more HB11.out hb)
      clear hb
      refine go_on ?_
      go_wp2
      go_ret
      exact ⟨rfl, HB12.out⟩
    · have h4 : ¬ (300 : Int) < (n : Int) := by omega
      have HME := Lib.hid (meets_any (some ⟨g, 0, none⟩) n C2 w1.heap.size w9.heap.size xs w9 (by omega) HL9.out.ex (Nat.le_refl _))
      refine go_on ?_
      go_wp2_with (go_at_call 25; refine HME.out.mono ?_; rintro _ w10 ⟨m1, rfl, hm1, hb⟩; refine Hid.out ?_)
      have HM1 := Lib.hid hm1.out
      have HL10 := Lib.hid (HL9.out.later hb)
      have HB10 := Lib.hid (below_more HB9.out hb)
      have HP10 := Lib.hid (HP.out w10 HB10.out)
      clear hb hm1 HME
      refine go_on ?_
      go_wp2_with (go_at_call 15; refine HP10.out.mono ?_; rintro _ w13 ⟨V13, rfl, how13⟩; refine Hid.out ?_)
      obtain ⟨A13, C13, hV, -, hex13, -⟩ := own_ex how13.own
      rw [hl] at hV hex13
      subst hV
      have hb := how13.be
      have HR13 := Lib.hid (rmeets_any A13 n C13 w10.heap.size w13.heap.size xs w13 (by omega) hex13 (Nat.le_refl _))
      have HL13 := Lib.hid (HL10.out.later hb)
      have HB13 := Lib.hid (below_more HB10.out hb)
      clear how13 hex13 hb HP10
      refine go_on ?_
      go_wp2_with (go_at_call 26; refine HR13.out.mono ?_; rintro _ w14 ⟨m2, rfl, hm2, hb⟩; refine Hid.out ?_)
      obtain rfl := same_bool hm2.out HM1.out
      have mm : (m2 == m2) = true := by simp
      have HL14 := Lib.hid (HL13.out.later hb)
      have HB14 := Lib.hid (below_more HB13.out hb)
      have HK14 := Lib.hid (HK.out w14 HL14.out HB14.out)
      clear hb hm2 HR13
      refine go_on ?_
      go_wp2_with (go_at_call 17; refine HK14.out.mono ?_; rintro _ w11 ⟨rfl, hb⟩; refine Hid.out ?_)
      have HB11 := Lib.hid (below_more HB14.out hb)
      clear hb HK14
      refine go_on ?_
      go_wp2_with (go_at_call 11; refine (lives_any w11).mono ?_; rintro _ w12 ⟨rfl, hb⟩; refine Hid.out ?_)
      have HB12 := Lib.hid (below_more HB11.out hb)
      clear hb
      refine go_on ?_
      go_wp2
      go_ret
      exact ⟨rfl, HB12.out⟩
  · have HFD := Lib.hid (decide_eq_false hf)
    clear h hf hr
    go_enter Try.func5, Try.ntmps5
    go_wp2_with (go_at_call 10; refine HF.out.mono ?_; rintro _ w1 ⟨he, hb⟩; rw [HFD.out] at he; subst he; have HB1 := Lib.hid hb; clear hb)
    go_wp2_with (go_at_call 11; refine (lives_any w1).mono ?_; rintro _ w2 ⟨rfl, hb⟩; have HB2 := Lib.hid (below_more HB1.out hb); clear hb)
    go_ret
    exact ⟨rfl, HB2.out⟩
end Go.Proofs.Ytkdfafaiabidgaa.X5
