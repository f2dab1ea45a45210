/- The law ExtentBytes. -/
import Derived.Test.YtkdfafaiabidgaaDoorKck
import Derived.Test.YtkdfafaiabidgaaDoorKt
namespace Go.Proofs.YtkdfafaiabidgaaDoor.X5
set_option linter.unusedVariables false
set_option linter.unusedSimpArgs false
open Go.RowKit Wd Ty9

theorem ebytes_walk (w : World) (hG : Gs w) (A : Option Addr) (n C : Nat) (xs : List Xt) (hn : (n + 1) * 16 ≤ 140737488355328) (hA : A = none → C = 0) (h : Ex w 0 w.heap.size A n xs)
    (Ab : Option Addr) (m cb : Nat) (bs : List Nat) (hm : m ≤ 140737488355328) (hmc : m ≤ cb) (hb0 : Byt w w.heap.size Ab m bs) :
    Calls Tryd.prog 3 #[.slice A n C, .slice Ab m cb] w fun e w' => e = .returned (.bool true) ∧ Below w.heap.size w w' := by
  have hl := h.len
  have HX := Lib.hid h
  have HBB := Lib.hid hb0
  have HGS := Lib.hid hG
  have HF := Lib.hid (few_any A n C w (by omega))
  clear hb0 hG
  by_cases hf : n ≤ 300 ∨ 65536 < n
  · have HFD := Lib.hid (decide_eq_true hf)
    clear h hf
    by_cases hbig : 40000 < m
    · have z1 : (40000 : Int) < (m : Int) := by omega
      go_enter Tryd.func3, Tryd.ntmps3
      go_wp2_with (go_at_call 5; refine HF.out.mono ?_; rintro _ w1 ⟨he, hb⟩; rw [HFD.out] at he; subst he; have HB1 := Lib.hid hb; clear hb)
      go_wp2_with (go_at_call 6; refine (lives_any w1).mono ?_; rintro _ w2 ⟨rfl, hb⟩; have HB2 := Lib.hid (below_more HB1.out hb); clear hb)
      go_ret
      exact ⟨rfl, HB2.out⟩
    have z1 : ¬ (40000 : Int) < (m : Int) := by omega
    have hmb : m ≤ 40000 := by omega
    go_enter Tryd.func3, Tryd.ntmps3
    go_wp2_with (go_at_call 5; refine HF.out.mono ?_; rintro _ w1 ⟨he, hb⟩; rw [HFD.out] at he; subst he; refine Hid.out ?_)
    have HB1 := Lib.hid hb
    have HX1 := Lib.hid (HX.out.later hb (Nat.le_refl _))
    have HLE := Lib.hid (lent_any A n C 0 w.heap.size xs w1 hn hA HX1.out hb.size)
    clear hb
    refine go_on ?_
    go_wp2_with (go_at_call 7; refine HLE.out.mono ?_; rintro _ w2 ⟨g, C2, rfl, hL, hb⟩; refine Hid.out ?_)
    have HL := Lib.hid hL
    have HB2 := Lib.hid (below_more HB1.out hb)
    have HN := Lib.hid (bytes_any (some ⟨g, 0, none⟩) n C2 w1.heap.size w2.heap.size xs w2 (by omega) hL.ex (Nat.le_refl _) (HGS.out.later HB2.out (Nat.le_refl _)))
    clear hL hb
    refine go_on ?_
    go_wp2_with (go_at_call 8; refine HN.out.mono ?_; rintro _ w3 ⟨V3, z3, o3, rfl, hy3, hr3, hb⟩; refine Hid.out ?_)
    have HY3 := Lib.hid hy3
    have HR3 := Lib.hid hr3
    have HL3 := Lib.hid (HL.out.later hb)
    have HB3 := Lib.hid (below_more HB2.out hb)
    have HP := Lib.hid (plain_any A n C 0 w.heap.size xs w3 (by omega) (HX.out.later HB3.out (Nat.le_refl _)) HB3.out.size)
    clear hy3 hr3 hb HN
    refine go_on ?_
    go_wp2_with (go_at_call 10; refine HP.out.mono ?_; rintro _ w5 ⟨V5, rfl, how5⟩; refine Hid.out ?_)
    obtain ⟨A5, C5, hV, -, hex5, -⟩ := own_ex how5.own
    rw [hl] at hV hex5
    subst hV
    have hb := how5.be
    have HR := Lib.hid (rbytes_any A5 n C5 w3.heap.size w5.heap.size xs w5 (by omega) hex5 (Nat.le_refl _))
    have HR3c := Lib.hid (HR3.out.below hb)
    have HL5 := Lib.hid (HL3.out.later hb)
    have HB5 := Lib.hid (below_more HB3.out hb)
    clear how5 hex5 hb HP
    refine go_on ?_
    go_wp2_with (go_at_call 9; refine HR.out.mono ?_; rintro _ w6 ⟨V6, z6, o6, rfl, hy6, hr6, hb⟩; refine Hid.out ?_)
    obtain ⟨hz, ho⟩ := hy6.uniq HY3.out
    subst hz ho
    have HR6 := Lib.hid hr6
    have HR3d := Lib.hid (HR3c.out.below hb)
    have HL6 := Lib.hid (HL5.out.later hb)
    have HB6 := Lib.hid (below_more HB5.out hb)
    have HLD := Lib.hid (load_any Ab m cb bs w6 (by omega) hmc ((HBB.out.later HB6.out).up HB6.out.size) (HGS.out.later HB6.out (Nat.le_refl _)))
    clear hy6 hr6 hb HR
    refine go_on ?_
    go_wp2_with (go_at_call 11; refine HLD.out.mono ?_; rintro _ w7 ⟨A7, C7, k7, z7, l7, rfl, hy7, hl7, hown7, hb⟩; refine Hid.out ?_)
    obtain ⟨_, _, ev, -, hex7, -⟩ := own_ex hown7
    cases ev
    have HY7 := Lib.hid hy7
    have HE7 := Lib.hid hex7
    have HR6e := Lib.hid (HR6.out.below hb)
    have HR3e := Lib.hid (HR3d.out.below hb)
    have HL7 := Lib.hid (HL6.out.later hb)
    have HB7 := Lib.hid (below_more HB6.out hb)
    have HRL := Lib.hid (rload_any Ab m cb bs w7 (by omega) hmc ((HBB.out.later HB7.out).up HB7.out.size))
    clear hy7 hl7 hown7 hex7 hb HLD
    refine go_on ?_
    go_wp2_with (go_at_call 12; refine HRL.out.mono ?_; rintro _ w8 ⟨A8, C8, k8, z8, l8, rfl, hy8, hl8, hown8, hb⟩; refine Hid.out ?_)
    obtain ⟨_, _, ev, -, hex8, -⟩ := own_ex hown8
    cases ev
    obtain ⟨hz, ho⟩ := hy8.uniq HY7.out
    subst hz ho
    have hlen := hy8.len
    have HE8 := Lib.hid hex8
    have HE7e := Lib.hid (HE7.out.later hb (Nat.le_refl _))
    have hr3 := HR3e.out.below hb
    have hr6 := HR6e.out.below hb
    obtain ⟨A3, c3, hV3, hbt3⟩ := hr3.byt
    obtain ⟨A6, c6, hV6, hbt6⟩ := hr6.byt
    subst hV3 hV6
    have hcv1 := conv_bytes hbt3 c3
    have hcv2 := conv_bytes hbt6 c6
    have HL8 := Lib.hid (HL7.out.later hb)
    have HB8 := Lib.hid (below_more HB7.out hb)
    have HS78 := Lib.hid hb.size
    have HQ := Lib.hid (same_any A7 A8 k7 k8 C7 C8 _ _ _ _ l8 l8 w8 (by have h1 := HE7.out.len; omega) HE7e.out HS78.out HE8.out (Nat.le_refl _))
    have HK := Lib.hid (fun (W : World) (hL : Lent w1 W g n C2 xs) (hb : Below w.heap.size w W) => kept_yes w1 g C2 A n C 0 w.heap.size xs W hn hL (HX.out.later hb (Nat.le_refl _)) hb.size)
    have zz : (z6 == z6) = true := by simp
    have zy : (z8 == z8) = true := by simp
    generalize strOf o6 = ss at *
    have zs : (ss.toList == ss.toList) = true := by simp
    clear hy8 hl8 hown8 hex8 hb HRL hr3 hr6 hbt3 hbt6 hlen
    refine go_on ?_
    go_wp2_with (go_at_call 13; refine HQ.out.mono ?_; rintro _ w9 ⟨he, hb⟩; rw [decide_eq_true rfl] at he; subst he; refine Hid.out ?_)
    have HB9 := Lib.hid (below_more HB8.out hb)
    have HK9 := Lib.hid (HK.out w9 (HL8.out.later hb) HB9.out)
    clear hb HQ hcv1 hcv2
    refine go_on ?_
    go_wp2_with (go_at_call 14; refine HK9.out.mono ?_; rintro _ w11 ⟨rfl, hb⟩; refine Hid.out ?_)
    have HB11 := Lib.hid (below_more HB9.out hb)
    clear hb HK9
    refine go_on ?_
    go_wp2_with (go_at_call 6; refine (lives_any w11).mono ?_; rintro _ w12 ⟨rfl, hb⟩; refine Hid.out ?_)
    have HB12 := Lib.hid (below_more HB11.out hb)
    clear hb
    refine go_on ?_
    go_wp2
    go_ret
    exact ⟨rfl, HB12.out⟩
  · have HFD := Lib.hid (decide_eq_false hf)
    clear h hf
    go_enter Tryd.func3, Tryd.ntmps3
    go_wp2_with (go_at_call 5; refine HF.out.mono ?_; rintro _ w1 ⟨he, hb⟩; rw [HFD.out] at he; subst he; have HB1 := Lib.hid hb; clear hb)
    go_wp2_with (go_at_call 6; refine (lives_any w1).mono ?_; rintro _ w2 ⟨rfl, hb⟩; have HB2 := Lib.hid (below_more HB1.out hb); clear hb)
    go_ret
    exact ⟨rfl, HB2.out⟩
end Go.Proofs.YtkdfafaiabidgaaDoor.X5
