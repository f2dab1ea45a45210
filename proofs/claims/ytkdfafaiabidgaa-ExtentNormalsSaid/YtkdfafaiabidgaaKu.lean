/- The law ExtentNormals. -/
import Derived.Test.YtkdfafaiabidgaaKt
namespace Go.Proofs.Ytkdfafaiabidgaa.X5
set_option linter.unusedVariables false
set_option linter.unusedSimpArgs false
open Go.RowKit Wd Ty9

set_option maxHeartbeats 4000000 in
set_option maxRecDepth 100000 in
theorem normals_walk (w : World) (A : Option Addr) (n C : Nat) (xs : List Xt) (hn : (n + 1) * 16 ≤ 140737488355328) (hA : A = none → C = 0) (h : Ex w 0 w.heap.size A n xs) :
    Calls Try.prog 3 #[.slice A n C] w fun e w' => e = .returned (.bool true) ∧ Below w.heap.size w w' := by
  have hl := h.len
  have HX := Lib.hid h
  have HF := Lib.hid (few_any A n C w (by omega))
  by_cases hf : n ≤ 300 ∨ 65536 < n
  · have HFD := Lib.hid (decide_eq_true hf)
    clear h hf
    go_enter Try.func3, Try.ntmps3
    go_wp2_with (go_at_call 10; refine HF.out.mono ?_; rintro _ w1 ⟨he, hb⟩; rw [HFD.out] at he; subst he; refine Hid.out ?_)
    have HB1 := Lib.hid hb
    have HX1 := Lib.hid (HX.out.later hb (Nat.le_refl _))
    have HLE := Lib.hid (lent_any A n C 0 w.heap.size xs w1 hn hA HX1.out hb.size)
    clear hb
    refine go_on ?_
    go_wp2_with (go_at_call 12; refine HLE.out.mono ?_; rintro _ w2 ⟨g, C2, rfl, hL, hb⟩; refine Hid.out ?_)
    have HL := Lib.hid hL
    have HB2 := Lib.hid (below_more HB1.out hb)
    have HN := Lib.hid (normal_any (some ⟨g, 0, none⟩) n C2 w1.heap.size w2.heap.size xs w2 (by omega) hL.ex (Nat.le_refl _))
    clear hL hb
    refine go_on ?_
    go_wp2_with (go_at_call 13; refine HN.out.mono ?_; rintro _ w3 ⟨A3, C3, m3, z3, o3, rfl, hn3, hl3, hown3, hb⟩; refine Hid.out ?_)
    obtain ⟨_, _, ev, -, hex3, hth3⟩ := own_ex hown3
    cases ev
    have HN3 := Lib.hid hn3
    have HE3 := Lib.hid hex3
    have HT3 := Lib.hid hth3
    have HL3 := Lib.hid (HL.out.later hb)
    have HB3 := Lib.hid (below_more HB2.out hb)
    have HB23 := Lib.hid hb
    have HNb := Lib.hid (normal_any (some ⟨g, 0, none⟩) n C2 w1.heap.size w3.heap.size xs w3 (by omega) HL3.out.ex (Nat.le_refl _))
    clear hn3 hown3 hex3 hth3 hb HN hl3
    refine go_on ?_
    go_wp2_with (go_at_call 13; refine HNb.out.mono ?_; rintro _ w4 ⟨A4, C4, m4, z4, o4, rfl, hn4, hl4, hown4, hb⟩; refine Hid.out ?_)
    obtain ⟨_, _, ev, -, hex4, -⟩ := own_ex hown4
    cases ev
    obtain ⟨hz, ho⟩ := hn4.uniq HN3.out
    subst ho
    have HE4 := Lib.hid hex4
    have HE3b := Lib.hid (HE3.out.later hb (Nat.le_refl _))
    have HT3b := Lib.hid (thaw_below HT3.out hb (fun h0 b o e => by obtain ⟨b', o', e', _, h3, _⟩ := HE3.out.at_ h0; rw [e] at e'; cases e'; exact h3))
    have HL4 := Lib.hid (HL3.out.later hb)
    have HB4 := Lib.hid (below_more HB3.out hb)
    have HB34 := Lib.hid hb
    have HP := Lib.hid (plain_any A n C 0 w.heap.size xs w4 (by omega) (HX.out.later HB4.out (Nat.le_refl _)) HB4.out.size)
    clear hn4 hown4 hex4 hb HNb hl4 hz
    refine go_on ?_
    go_wp2_with (go_at_call 15; refine HP.out.mono ?_; rintro _ w5 ⟨V5, rfl, how5⟩; refine Hid.out ?_)
    obtain ⟨A5, C5, hV, -, hex5, -⟩ := own_ex how5.own
    rw [hl] at hV hex5
    subst hV
    have hb := how5.be
    have HR := Lib.hid (rnormal_any A5 n C5 w4.heap.size w5.heap.size xs w5 (by omega) hex5 (Nat.le_refl _))
    have HE4c := Lib.hid (HE4.out.later hb (Nat.le_refl _))
    have HE3c := Lib.hid (HE3b.out.later hb HB34.out.size)
    have HT3c := Lib.hid (thaw_below HT3b.out hb (fun h0 b o e => by obtain ⟨b', o', e', _, h3, _⟩ := HE3.out.at_ h0; rw [e] at e'; cases e'; have := HB34.out.size; omega))
    have HL5 := Lib.hid (HL4.out.later hb)
    have HB5 := Lib.hid (below_more HB4.out hb)
    have HS45 := Lib.hid hb.size
    clear how5 hex5 hb HP
    refine go_on ?_
    go_wp2_with (go_at_call 14; refine HR.out.mono ?_; rintro _ w6 ⟨A6, C6, m6, z6, o6, rfl, hn6, hl6, hown6, hb⟩; refine Hid.out ?_)
    obtain ⟨_, _, ev, -, hex6, -⟩ := own_ex hown6
    cases ev
    obtain ⟨hz, ho⟩ := hn6.uniq HN3.out
    subst hz ho
    have HS36 := Lib.hid (show w3.heap.size ≤ w6.heap.size by have h1 := HB34.out.size; have h2 := HS45.out; have h3 := hb.size; omega)
    have HS46 := Lib.hid (show w4.heap.size ≤ w6.heap.size by have h2 := HS45.out; have h3 := hb.size; omega)
    have HE6 := Lib.hid hex6
    have HE4d := Lib.hid (HE4c.out.later hb HS45.out)
    have HE3d := Lib.hid (HE3c.out.later hb (by have h1 := HB34.out.size; have h2 := HS45.out; omega))
    have HT3d := Lib.hid (thaw_below HT3c.out hb (fun h0 b o e => by obtain ⟨b', o', e', _, h3, _⟩ := HE3.out.at_ h0; rw [e] at e'; cases e'; have := HB34.out.size; have := HS45.out; omega))
    have HL6 := Lib.hid (HL5.out.later hb)
    have HB6 := Lib.hid (below_more HB5.out hb)
    have HMN : m6 ≤ 140737488355328 := by rw [← hl6]; rcases hn6 with ⟨_, _, _, _, h5⟩ | ⟨_, _, h5⟩; (omega); (rw [h5]; simp)
    have HQ := Lib.hid (same_any A3 A6 m3 m6 C3 C6 _ _ _ _ o6 o6 w6 (by have h1 := HE3.out.len; omega) HE3d.out HS36.out HE6.out (Nat.le_refl _))
    have HK := Lib.hid (fun (W : World) (hL : Lent w1 W g n C2 xs) (hb : Below w.heap.size w W) => kept_yes w1 g C2 A n C 0 w.heap.size xs W hn hL (HX.out.later hb (Nat.le_refl _)) hb.size)
    have zz : (z6 != z6) = false := by simp
    clear hown6 hex6 hb hn6 hl6 HR
    refine go_on ?_
    go_wp2_with (go_at_call 16; refine HQ.out.mono ?_; rintro _ w7 ⟨he, hb⟩; rw [decide_eq_true rfl] at he; subst he; refine Hid.out ?_)
    have HL7 := Lib.hid (HL6.out.later hb)
    have HB7 := Lib.hid (below_more HB6.out hb)
    have HB67 := Lib.hid hb
    have HK7 := Lib.hid (HK.out w7 HL7.out HB7.out)
    clear hb HQ
    refine go_on ?_
    go_wp2_with (go_at_call 17; refine HK7.out.mono ?_; rintro _ w8 ⟨rfl, hb⟩; refine Hid.out ?_)
    have HB68 := Lib.hid (below_more HB67.out hb)
    have HL8 := Lib.hid (HL7.out.later hb)
    have HB8 := Lib.hid (below_more HB7.out hb)
    have HE3e := Lib.hid (HE3d.out.later HB68.out HS36.out)
    have HT3e := Lib.hid (thaw_below HT3d.out HB68.out (fun h0 b o e => by obtain ⟨b', o', e', _, h3, _⟩ := HE3.out.at_ h0; rw [e] at e'; cases e'; have := HS36.out; omega))
    have HSP := Lib.hid (spoil_any A3 m3 C3 w2.heap.size w3.heap.size o6 w8 (by have h1 := HE3.out.len; have h2 := HE6.out.len; omega) HE3e.out HT3e.out)
    clear hb HK7
    refine go_on ?_
    go_wp2_with (go_at_call 18; refine HSP.out.mono ?_; rintro _ w9 ⟨rfl, hch⟩; refine Hid.out ?_)
    have HB9 := Lib.hid (HB8.out.trans (hch.below HB8.out.size (fun j hj => by have h1 := hj.1; have h2 := HB2.out.size; omega)))
    have hg := HL.out.form.2.2.1
    have HL9 := Lib.hid (HL8.out.keep (hch.block g HL8.out.form.2.2.1 (fun hj => by have h1 := hj.1; omega)))
    have HE4e := Lib.hid ((HE4d.out.later HB68.out HS46.out).keep (w2 := w9) (fun b h1 h2 => hch.block b (by have h3 := HS46.out; have h4 := HB68.out.size; omega) (fun hj => by have h5 := hj.2; omega)))
    have HE6e := Lib.hid ((HE6.out.later HB68.out (Nat.le_refl _)).keep (w2 := w9) (fun b h1 h2 => hch.block b (by have h4 := HB68.out.size; omega) (fun hj => by have h5 := hj.2; have h6 := HB34.out.size; have h7 := HS45.out; omega)))
    have HS9 := Lib.hid (show w6.heap.size ≤ w9.heap.size from Nat.le_trans HB68.out.size hch.size)
    have HQ2 := Lib.hid (same_any A4 A6 m4 m6 C4 C6 _ _ _ _ o6 o6 w9 (by have h1 := HE4.out.len; have h2 := HE6.out.len; omega) HE4e.out (Nat.le_trans HS46.out HS9.out) HE6e.out HS9.out)
    clear hch hg HSP
    refine go_on ?_
    go_wp2_with (go_at_call 16; refine HQ2.out.mono ?_; rintro _ w10 ⟨he, hb⟩; rw [decide_eq_true rfl] at he; subst he; refine Hid.out ?_)
    have HB10 := Lib.hid (below_more HB9.out hb)
    have HK10 := Lib.hid (HK.out w10 (HL9.out.later hb) HB10.out)
    clear hb HQ2
    refine go_on ?_
    go_wp2_with (go_at_call 17; refine HK10.out.mono ?_; rintro _ w11 ⟨rfl, hb⟩; refine Hid.out ?_)
    have HB11 := Lib.hid (below_more HB10.out hb)
    clear hb HK10
    refine go_on ?_
    go_wp2_with (go_at_call 11; refine (lives_any w11).mono ?_; rintro _ w12 ⟨rfl, hb⟩; refine Hid.out ?_)
    have HB12 := Lib.hid (below_more HB11.out hb)
    clear hb
    refine go_on ?_
    go_wp2
    go_ret
    exact ⟨rfl, HB12.out⟩
  · have HFD := Lib.hid (decide_eq_false hf)
    clear h hf
    go_enter Try.func3, Try.ntmps3
    go_wp2_with (go_at_call 10; refine HF.out.mono ?_; rintro _ w1 ⟨he, hb⟩; rw [HFD.out] at he; subst he; have HB1 := Lib.hid hb; clear hb)
    go_wp2_with (go_at_call 11; refine (lives_any w1).mono ?_; rintro _ w2 ⟨rfl, hb⟩; have HB2 := Lib.hid (below_more HB1.out hb); clear hb)
    go_ret
    exact ⟨rfl, HB2.out⟩
end Go.Proofs.Ytkdfafaiabidgaa.X5
