/- The law ExtentTakes. -/
import Derived.Test.YtkdfafaiabidgaaKwp
import Derived.Test.YtkdfafaiabidgaaKt
namespace Go.Proofs.Ytkdfafaiabidgaa.X5
set_option linter.unusedVariables false
set_option linter.unusedSimpArgs false
open Go.RowKit Wd Ty9

set_option maxHeartbeats 4000000 in
set_option maxRecDepth 100000 in
theorem takes_walk (w : World) (A : Option Addr) (n C : Nat) (xs : List Xt) (hn : (n + 1) * 16 ≤ 140737488355328) (hA : A = none → C = 0) (h : Ex w 0 w.heap.size A n xs) (z : Int) (hr : -9223372036854775808 ≤ z ∧ z ≤ 9223372036854775807) :
    Calls Try.prog 4 #[.slice A n C, .int .i64 z] w fun e w' => e = .returned (.bool true) ∧ Below w.heap.size w w' := by
  have hl := h.len
  have HX := Lib.hid h
  have HF := Lib.hid (few_any A n C w (by omega))
  by_cases hf : n ≤ 300 ∨ 65536 < n
  · have HFD := Lib.hid (decide_eq_true hf)
    clear h hf hr
    go_enter Try.func4, Try.ntmps4
    go_wp2_with (go_at_call 10; refine HF.out.mono ?_; rintro _ w1 ⟨he, hb⟩; rw [HFD.out] at he; subst he; refine Hid.out ?_)
    have HB1 := Lib.hid hb
    have HX1 := Lib.hid (HX.out.later hb (Nat.le_refl _))
    have HLE := Lib.hid (lent_any A n C 0 w.heap.size xs w1 hn hA HX1.out hb.size)
    clear hb
    refine go_on ?_
    go_wp2_with (go_at_call 12; refine HLE.out.mono ?_; rintro _ w2 ⟨g, C2, rfl, hL, hb⟩; refine Hid.out ?_)
    have HL := Lib.hid hL
    have HB2 := Lib.hid (below_more HB1.out hb)
    have HN := Lib.hid (take_any (some ⟨g, 0, none⟩) n C2 w1.heap.size w2.heap.size xs z w2 (by omega) hL.ex (Nat.le_refl _))
    clear hL hb
    refine go_on ?_
    go_wp2_with (go_at_call 19; refine HN.out.mono ?_; rintro _ w3 ⟨A3, C3, m3, R3, z3, o3, rfl, ht3, hex3, hth3, hb⟩; refine Hid.out ?_)
    have HT3 := Lib.hid hth3
    have HN3 := Lib.hid ht3
    have HE3 := Lib.hid hex3
    have HL3 := Lib.hid (HL.out.later hb)
    have HB3 := Lib.hid (below_more HB2.out hb)
    have HP := Lib.hid (plain_any A n C 0 w.heap.size xs w3 (by omega) (HX.out.later HB3.out (Nat.le_refl _)) HB3.out.size)
    clear ht3 hth3 hex3 hb HN
    refine go_on ?_
    go_wp2_with (go_at_call 15; refine HP.out.mono ?_; rintro _ w5 ⟨V5, rfl, how5⟩; refine Hid.out ?_)
    obtain ⟨A5, C5, hV, hC5, hex5, -⟩ := own_ex how5.own
    rw [hl] at hV hex5 hC5
    subst hV
    have hb := how5.be
    have HR := Lib.hid (rtake_any A5 n C5 w3.heap.size w5.heap.size xs z w5 (by omega) hC5 hex5 (Nat.le_refl _))
    have HE3c := Lib.hid (HE3.out.later hb (Nat.le_refl _))
    have HT3c := Lib.hid (thaw_below HT3.out hb (fun h0 b o e => by obtain ⟨b', o', e', _, h3, _⟩ := HE3.out.at_ h0; rw [e] at e'; cases e'; exact h3))
    have HL5 := Lib.hid (HL3.out.later hb)
    have HB5 := Lib.hid (below_more HB3.out hb)
    have HS35 := Lib.hid hb.size
    clear how5 hex5 hb HP hC5
    refine go_on ?_
    go_wp2_with (go_at_call 20; refine HR.out.mono ?_; rintro _ w6 ⟨A6, C6, m6, R6, z6, o6, rfl, hn6, hl6, hown6, hb⟩; refine Hid.out ?_)
    obtain ⟨_, _, ev, -, hex6, -⟩ := own_ex hown6
    cases ev
    obtain ⟨hR, hz, ho⟩ := hn6.uniq HN3.out
    subst hR hz ho
    have HS36 := Lib.hid (show w3.heap.size ≤ w6.heap.size from Nat.le_trans HS35.out hb.size)
    have HE6 := Lib.hid hex6
    have HE3d := Lib.hid (HE3c.out.later hb HS35.out)
    have HT3d := Lib.hid (thaw_below HT3c.out hb (fun h0 b o e => by obtain ⟨b', o', e', _, h3, _⟩ := HE3.out.at_ h0; rw [e] at e'; cases e'; have := HS35.out; omega))
    have HL6 := Lib.hid (HL5.out.later hb)
    have HB6 := Lib.hid (below_more HB5.out hb)
    have hlen := hn6.len
    have HQ := Lib.hid (same_any A3 A6 m3 m6 C3 C6 _ _ _ _ o6 o6 w6 (by have h1 := HE3.out.len; omega) HE3d.out HS36.out HE6.out (Nat.le_refl _))
    have HM3 := Lib.hid (show m3 ≤ 140737488355328 by have h1 := HE3.out.len; omega)
    have HK := Lib.hid (fun (W : World) (hL : Lent w1 W g n C2 xs) (hb : Below w.heap.size w W) => kept_yes w1 g C2 A n C 0 w.heap.size xs W hn hL (HX.out.later hb (Nat.le_refl _)) hb.size)
    have zz : (z6 != z6) = false := by simp
    have zr : (R6 != R6) = false := by simp
    clear hown6 hex6 hb hn6 hl6 HR hlen
    refine go_on ?_
    go_wp2_with (go_at_call 16; refine HQ.out.mono ?_; rintro _ w7 ⟨he, hb⟩; rw [decide_eq_true rfl] at he; subst he; refine Hid.out ?_)
    have HL7 := Lib.hid (HL6.out.later hb)
    have HB7 := Lib.hid (below_more HB6.out hb)
    have HB67 := Lib.hid hb
    have HK7 := Lib.hid (HK.out w7 HL7.out HB7.out)
    clear hb HQ
    refine go_on ?_
    go_wp2_with (go_at_call 17; refine HK7.out.mono ?_; rintro _ w8 ⟨rfl, hb⟩; refine Hid.out ?_)
    have HB68 := Lib.hid (below_more HB67.out hb)
    have HL8 := Lib.hid (HL7.out.later hb)
    have HB8 := Lib.hid (below_more HB7.out hb)
    have HE3e := Lib.hid (HE3d.out.later HB68.out HS36.out)
    have HT3e := Lib.hid (thaw_below HT3d.out HB68.out (fun h0 b o e => by obtain ⟨b', o', e', _, h3, _⟩ := HE3.out.at_ h0; rw [e] at e'; cases e'; have := HS36.out; omega))
    have HSP := Lib.hid (spoil_any A3 m3 C3 w2.heap.size w3.heap.size o6 w8 HM3.out HE3e.out HT3e.out)
    clear hb HK7
    refine go_on ?_
    go_wp2_with (go_at_call 18; refine HSP.out.mono ?_; rintro _ w9 ⟨rfl, hch⟩; refine Hid.out ?_)
    have HB9 := Lib.hid (HB8.out.trans (hch.below HB8.out.size (fun j hj => by have h1 := hj.1; have h2 := HB2.out.size; omega)))
    have hg := HL.out.form.2.2.1
    have HL9 := Lib.hid (HL8.out.keep (hch.block g HL8.out.form.2.2.1 (fun hj => by have h1 := hj.1; omega)))
    have HK9 := Lib.hid (HK.out w9 HL9.out HB9.out)
    clear hch hg HSP
    refine go_on ?_
    go_wp2_with (go_at_call 17; refine HK9.out.mono ?_; rintro _ w11 ⟨rfl, hb⟩; refine Hid.out ?_)
    have HB11 := Lib.hid (below_more HB9.out hb)
    clear hb HK9
    refine go_on ?_
    go_wp2_with (go_at_call 11; refine (lives_any w11).mono ?_; rintro _ w12 ⟨rfl, hb⟩; refine Hid.out ?_)
    have HB12 := Lib.hid (below_more HB11.out hb)
    clear hb
    refine go_on ?_
    go_wp2
    go_ret
    exact ⟨rfl, HB12.out⟩
  · have HFD := Lib.hid (decide_eq_false hf)
    clear h hf hr
    go_enter Try.func4, Try.ntmps4
    go_wp2_with (go_at_call 10; refine HF.out.mono ?_; rintro _ w1 ⟨he, hb⟩; rw [HFD.out] at he; subst he; have HB1 := Lib.hid hb; clear hb)
    go_wp2_with (go_at_call 11; refine (lives_any w1).mono ?_; rintro _ w2 ⟨rfl, hb⟩; have HB2 := Lib.hid (below_more HB1.out hb); clear hb)
    go_ret
    exact ⟨rfl, HB2.out⟩
end Go.Proofs.Ytkdfafaiabidgaa.X5
