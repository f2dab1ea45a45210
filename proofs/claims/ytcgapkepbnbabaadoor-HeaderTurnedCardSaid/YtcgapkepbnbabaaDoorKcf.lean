/- The reference's Unseal. -/
import Derived.Test.YtcgapkepbnbabaaDoorKce
import Derived.Deep.RegionLaw
namespace Go.Proofs.YtcgapkepbnbabaaDoor.X5
set_option linter.unusedVariables false
set_option linter.unusedSimpArgs false
open Go.RowKit Wd Ty9

set_option maxHeartbeats 2000000 in
set_option maxRecDepth 100000 in
theorem runseal_any (A : Option Addr) (m c : Nat) (bs : List Nat) (w : World) (hm : m ≤ 140737488000000) (hc : m ≤ c) (hb : Byt w w.heap.size A m bs) :
    Calls Tryd.prog 37 #[.slice A m c] w fun e w' => ∃ V z out, e = .returned (.tuple #[V, .int .i64 z]) ∧ IsUn bs z out ∧ RowB w' w.heap.size V out ∧ Below w.heap.size w w' := by
  have hl := hb.len
  by_cases h4 : m < 4
  · have HU := Lib.hid (show IsUn bs 4 [] from .inl ⟨by omega, rfl, rfl⟩)
    have s4 : (m : Int) < 4 := by omega
    clear hb
    go_enter Tryd.func37, Tryd.ntmps37
    go_wp2
    go_ret2
    first | exact ⟨_, 4, [], rfl, HU.out, RowB.nil _ _, Below.refl _ _⟩ | exact ⟨_, 4, rfl, [], HU.out, RowB.nil _ _, Below.refl _ _⟩
  · obtain ⟨n, hn⟩ : ∃ n, n + 4 = m := ⟨m - 4, by omega⟩
    have hnl : bs.length - 4 = n := by omega
    have HU5 := Lib.hid (fun (h : bs ≠ sealL (bs.take n)) => show IsUn bs 5 [] from .inr (.inl ⟨by omega, by rw [hnl]; exact h, rfl, rfl⟩))
    have HU0 := Lib.hid (fun (h : bs = sealL (bs.take n)) => show IsUn bs 0 (bs.take n) from .inr (.inr ⟨by omega, by rw [hnl]; exact h, rfl, by rw [hnl]⟩))
    have HB := Lib.hid hb
    have hbp := byt_pre hb (k := n) (by omega)
    have HSE := Lib.hid (rseal_any A n c (bs.take n) w.drew (by omega) (hbp.drew))
    have s1 : IntKind.i64.wrap ((m : Int) - 4) = (n : Int) := by rw [show (m : Int) - 4 = n by omega]; exact IntWalk.i64_in _ (by omega)
    have s2 : wrap64 ((m : Int) - 4) = (n : Int) := by unfold wrap64; omega
    have s3 : ¬ (m : Int) < 4 := by omega
    have s4 : (n : Int) ≤ (c : Int) := by omega
    have hcv0 := conv_bytes hb.drew c
    have HBP := Lib.hid hbp
    have HCV := Lib.hid (strOf_eq (a := sealL (bs.take n)) (b := bs) (lt_app (fun x hx => hb.lt x (List.mem_of_mem_take hx)) (digs_lt _ _ _)) hb.lt)
    clear hb hbp hnl
    by_cases hq : sealL (bs.take n) = bs
    · have hq2 : ((strOf (sealL (bs.take n))).toList == (strOf bs).toList) = true := by rw [HCV.out]; exact decide_eq_true hq
      have HR := Lib.hid (HU0.out hq.symm)
      clear hq HU5 HU0
      go_enter Tryd.func37, Tryd.ntmps37
      go_wp2
      go_upto_region 4 with fail
      go_region_law (go_simp; go_at_call 33; refine HSE.out.mono ?_; rintro _ w2 ⟨V, rfl, hrow, hb⟩; have hb : Below w.heap.size w w2 := below_then (Below.refl _ w).drew (Nat.le_refl _) hb; obtain ⟨A2, c2, rfl, hby⟩ := hrow.byt; have hcv1 := conv_bytes hby c2; have hcv2 := conv_bytes (HB.out.later hb) c; have HB2 := Lib.hid hb; clear hrow hb hby)
      all_goals
        clear hcv0 hcv1 hcv2
        have HBN := Lib.hid (below_new w2 (.cells (by8 []).toArray 5))
        have HR0 := Lib.hid (RowB.lit w2 [] (fun x h => absurd h (List.not_mem_nil)) (by simp) (Nat.le_refl w2.heap.size))
        have HB3 := Lib.hid ((HBP.out.later HB2.out).later (HBN.out.mono HB2.out.size))
        have HBB := Lib.hid (HBN.out.size)
        have HLL := Lib.hid (show ([] : List Nat).length + n ≤ 140737488355328 by show 0 + n ≤ _; omega)
        go_wp2_with (at_builtin; refine wp_rowb rfl (.tmp 19) (.tmp 22) rfl w2.heap.size n c _ [] (bs.take n) A w.heap.size rfl rfl HR0.out HB3.out HLL.out HBB.out ?_; intro V3 w3 hrow3 hb3; refine Hid.out ?_)
        rw [List.nil_append] at hrow3
        have HR3 := Lib.hid (hrow3.up HB2.out.size)
        have HW3 := Lib.hid (below_more HB2.out (HBN.out.trans hb3))
        clear hrow3 hb3
        refine go_on ?_
        go_wp2
        go_ret2
        first | exact ⟨V3, 0, bs.take n, rfl, HR.out, HR3.out, HW3.out⟩ | exact ⟨V3, 0, rfl, bs.take n, HR.out, HR3.out, HW3.out⟩
    · have hq2 : ((strOf (sealL (bs.take n))).toList == (strOf bs).toList) = false := by rw [HCV.out]; exact decide_eq_false hq
      have HR := Lib.hid (HU5.out (fun h => hq h.symm))
      clear hq HU5 HU0
      go_enter Tryd.func37, Tryd.ntmps37
      go_wp2
      go_upto_region 4 with fail
      go_region_law (go_simp; go_at_call 33; refine HSE.out.mono ?_; rintro _ w2 ⟨V, rfl, hrow, hb⟩; have hb : Below w.heap.size w w2 := below_then (Below.refl _ w).drew (Nat.le_refl _) hb; obtain ⟨A2, c2, rfl, hby⟩ := hrow.byt; have hcv1 := conv_bytes hby c2; have hcv2 := conv_bytes (HB.out.later hb) c; have HB2 := Lib.hid hb; clear hrow hb hby)
      all_goals
        go_wp2
        go_ret2
        first | exact ⟨_, 5, [], rfl, HR.out, RowB.nil _ _, HB2.out⟩ | exact ⟨_, 5, rfl, [], HR.out, RowB.nil _ _, HB2.out⟩
end Go.Proofs.YtcgapkepbnbabaaDoor.X5
