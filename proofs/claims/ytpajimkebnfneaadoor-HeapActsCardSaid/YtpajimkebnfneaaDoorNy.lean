/- A heap and the reference's one: alike. -/
import Derived.Test.YtpajimkebnfneaaDoorNx
import Derived.Deep.RegionHeld3
namespace Go.Proofs.YtpajimkebnfneaaDoor.X5
set_option linter.unusedVariables false
set_option linter.unusedSimpArgs false
open Go.RowKit Go.Maps Wd Ty9

theorem op_at {ops : Array Oper} {i : Nat} {o : Oper} {r : List Oper} (h : ops.toList.drop i = o :: r) : ops[i]? = some o := by
  have h1 : (ops.toList.drop i)[0]? = some o := by rw [h]; rfl
  rw [List.getElem?_drop, Nat.add_zero] at h1
  simpa using h1
theorem Ch.weak {P Q : Nat → Prop} {w w' : World} (h : Ch Q w w') (hq : ∀ k, k < w.heap.size → Q k → P k) : Ch P w w' := ⟨h.os, h.tape, h.output, h.size, fun k hk hn => h.block k hk (fun e => hn (hq k hk e))⟩
section
variable {w : World} {S T : Nat → Prop} {hb mb rb : Nat} {D : DataW Value} {Lv : List (Option Value)} {L M : List (Option (List Nat))} {V : Value} {vs : List (Bool × Value)}
set_option maxHeartbeats 4000000 in
set_option maxRecDepth 100000 in
theorem alike_any (h : HpR w S hb mb D Lv L) (r : RhR w T rb V vs M) (hs : Sim L M) (ht : Tr M) (hl : L.length ≤ 1000) (hG : Gs w) :
    Calls Tryd.prog 21 #[.pointer (some ⟨hb, 0, none⟩), .pointer (some ⟨rb, 0, none⟩)] w fun e w' => e = .returned (.bool true) ∧ Below w.heap.size w w' := by
  have hl2 : M.length ≤ 1000 := Nat.le_trans hs.len hl
  have HH := Lib.hid h
  have HR := Lib.hid r
  have HSI := Lib.hid hs
  have HL := Lib.hid hl
  have HL2 := Lib.hid hl2
  have HGS := Lib.hid hG
  have HX : Hid (sealL (heapB L) = sealL (digs 4 true M.length ++ M.flatMap slotB)) := Lib.hid (by
    rw [hs.heapB]
    unfold heapB
    rw [ht.take, ht])
  have HI := Lib.hid (ids_any h (by omega))
  have hcn := hs.cnt
  have HCN := Lib.hid hcn
  have HID := Lib.hid hs.ids
  rw [hs.ids, hcn] at HI
  obtain ⟨zs, hzs⟩ : ∃ zs, idsL M = zs := ⟨_, rfl⟩
  have HZS := Lib.hid hzs
  have HZL := Lib.hid (show zs.length = cntL M by rw [← hzs, idsL_len])
  rw [hzs] at HI
  obtain ⟨cn, hcn2⟩ : ∃ cn, cntL M = cn := ⟨_, rfl⟩
  have HC2 := Lib.hid hcn2
  rw [hcn2] at HI HZL
  have hcl := cntL_le M
  have HCL := Lib.hid (show cn ≤ 1000 by omega)
  clear h r hs ht hl hl2 hG hcn hzs hcn2 hcl
  go_enter Tryd.func21, Tryd.ntmps21
  go_wp2_with (go_at_call 12; refine HI.out.mono ?_; rintro _ w1 ⟨V1, rfl, ho1, hb1⟩; refine Hid.out ?_)
  obtain ⟨A1, c1, rfl⟩ := own_form ho1
  have HO1 := Lib.hid ho1
  have HB1 := Lib.hid hb1
  have HI2 := Lib.hid (rids_any (HR.out.later hb1) (by have := HL2.out; omega))
  rw [HZS.out, HC2.out] at HI2
  clear ho1 hb1 HI
  refine go_on ?_
  go_wp2_with (go_at_call 33; refine HI2.out.mono ?_; rintro _ w2 ⟨V2, rfl, ho2, hb2⟩; refine Hid.out ?_)
  obtain ⟨A2, c2, rfl⟩ := own_form ho2
  have HO2 := Lib.hid ho2
  have HB2 := Lib.hid (below_more HB1.out hb2)
  have HO12 := Lib.hid (ownsRow_block (w' := w2) HO1.out (fun g hg => hb2.block g (HO1.out.lt g hg).2))
  have HD12 := Lib.hid (show ∀ g, (Value.slice A1 cn c1).ownBlock = some g → (Value.slice A2 cn c2).ownBlock ≠ some g from fun g h1 h2 => by
    have e1 := (HO1.out.lt g h1).2
    have e2 := (HO2.out.lt g h2).1
    omega)
  have HD := Lib.hid (HH.out.later HB2.out)
  have HRD := Lib.hid (HR.out.later HB2.out)
  have hbd := (Below.refl w2.heap.size w2).drew
  have HLN := Lib.hid (len_any (HD.out.later hbd))
  rw [HCN.out, HC2.out] at HLN
  have HBH := Lib.hid (bytes_any (HD.out.later hbd) (by have := HL.out; omega) (HGS.out.later (HB2.out.trans (hbd.mono HB2.out.size)) (Nat.le_refl _)))
  rw [HX.out] at HBH
  have HBR := Lib.hid (fun (W : World) (hW : Below w2.heap.size w2 W) => rbytes_any (HRD.out.later hW) HL2.out)
  have HBD := Lib.hid hbd
  generalize sealL (digs 4 true M.length ++ M.flatMap slotB) = o1 at *
  have n0 : ((cn : Int) != (cn : Int)) = false := by simp
  have n2 : ((Ty9.strOf o1).toList != (Ty9.strOf o1).toList) = false := by simp
  clear ho2 hb2 HI2 hbd HX
  refine go_on ?_
  go_wp2
  go_upto_region 3 with fail
  refine wp_region_held_drew (S := fun _ => True) (by kernel_rfl) trivial (fun hHeld => ?_)
  clear hHeld
  refine wpAnyH_take (i := 0) (v := ?v7) (op_at rfl) (by kernel_rfl) (by kernel_rfl) (by kernel_rfl) (fun _ _ _ h => h) (Or.inl ⟨by rfl, ?hy7⟩) trivial ?rest7
  case hy7 => (intro w hSw; clear hSw; go_simp; try with_reducible rfl)
  try simp only [Act.put, List.setIfInBounds_toArray, List.set_cons_zero, List.set_cons_succ]
  refine wpAnyH_take (i := 2) (v := ?v8) (op_at rfl) (by kernel_rfl) (by kernel_rfl) (by kernel_rfl) (fun _ _ _ h => h) (Or.inl ⟨by rfl, ?hy8⟩) trivial ?rest8
  case hy8 => (intro w hSw; clear hSw; go_simp; try with_reducible rfl)
  try simp only [Act.put, List.setIfInBounds_toArray, List.set_cons_zero, List.set_cons_succ]
  refine wpAnyH_take (i := 3) (v := ?v9) (op_at rfl) (by kernel_rfl) (by kernel_rfl) (by kernel_rfl) (fun _ _ _ h => h) (Or.inl ⟨by rfl, ?hy9⟩) trivial ?rest9
  case hy9 => (intro w hSw; clear hSw; go_simp; try with_reducible rfl)
  try simp only [Act.put, List.setIfInBounds_toArray, List.set_cons_zero, List.set_cons_succ]
  refine wpAnyH_ready (rs := [1]) (by kernel_rfl) (by simp) ?_
  refine AllReadyH.cons (op_at rfl) (fun K hK => ?_) AllReadyH.nil
  go_simp
  go_at_call 11; refine HLN.out.mono ?_; rintro _ w3 ⟨rfl, hw3⟩; subst hw3
  refine hK.out _ _ trivial (fun hHeld => ?_)
  clear hK K hHeld
  try simp only [Act.put, List.setIfInBounds_toArray, List.set_cons_zero, List.set_cons_succ]
  refine wpAnyH_take (i := 4) (v := ?v10) (op_at rfl) (by kernel_rfl) (by kernel_rfl) (by kernel_rfl) (fun _ _ _ h => h) (Or.inl ⟨by rfl, ?hy10⟩) trivial ?rest10
  case hy10 => (intro w hSw; clear hSw; go_simp; try with_reducible rfl)
  try simp only [Act.put, List.setIfInBounds_toArray, List.set_cons_zero, List.set_cons_succ]
  refine wpAnyH_take (i := 5) (v := ?v11) (op_at rfl) (by kernel_rfl) (by kernel_rfl) (by kernel_rfl) (fun _ _ _ h => h) (Or.inl ⟨by rfl, ?hy11⟩) trivial ?rest11
  case hy11 => (intro w hSw; clear hSw; go_simp; try with_reducible rfl)
  try simp only [Act.put, List.setIfInBounds_toArray, List.set_cons_zero, List.set_cons_succ]
  refine wpAnyH_take (i := 6) (v := ?v12) (op_at rfl) (by kernel_rfl) (by kernel_rfl) (by kernel_rfl) (fun _ _ _ h => h) (Or.inl ⟨by rfl, ?hy12⟩) trivial ?rest12
  case hy12 => (intro w hSw; clear hSw; go_simp; try with_reducible rfl)
  try simp only [Act.put, List.setIfInBounds_toArray, List.set_cons_zero, List.set_cons_succ]
  refine wpAnyH_take (i := 7) (v := ?v13) (op_at rfl) (by kernel_rfl) (by kernel_rfl) (by kernel_rfl) (fun _ _ _ h => h) (Or.inl ⟨by rfl, ?hy13⟩) trivial ?rest13
  case hy13 => (intro w hSw; clear hSw; go_simp; try with_reducible rfl)
  try simp only [Act.put, List.setIfInBounds_toArray, List.set_cons_zero, List.set_cons_succ]
  refine wpAnyH_take (i := 8) (v := ?v14) (op_at rfl) (by kernel_rfl) (by kernel_rfl) (by kernel_rfl) (fun _ _ _ h => h) (Or.inl ⟨by rfl, ?hy14⟩) trivial ?rest14
  case hy14 => (intro w hSw; clear hSw; go_simp; try with_reducible rfl)
  try simp only [Act.put, List.setIfInBounds_toArray, List.set_cons_zero, List.set_cons_succ]
  refine wpAnyH_take (i := 9) (v := ?v15) (op_at rfl) (by kernel_rfl) (by kernel_rfl) (by kernel_rfl) (fun _ _ _ h => h) (Or.inl ⟨by rfl, ?hy15⟩) trivial ?rest15
  case hy15 => (intro w hSw; clear hSw; go_simp; try with_reducible rfl)
  try simp only [Act.put, List.setIfInBounds_toArray, List.set_cons_zero, List.set_cons_succ]
  refine wpAnyH_take (i := 10) (v := ?v16) (op_at rfl) (by kernel_rfl) (by kernel_rfl) (by kernel_rfl) (fun _ _ _ h => h) (Or.inl ⟨by rfl, ?hy16⟩) trivial ?rest16
  case hy16 => (intro w hSw; clear hSw; go_simp; try with_reducible rfl)
  try simp only [Act.put, List.setIfInBounds_toArray, List.set_cons_zero, List.set_cons_succ]
  refine wpAnyH_take (i := 11) (v := ?v17) (op_at rfl) (by kernel_rfl) (by kernel_rfl) (by kernel_rfl) (fun _ _ _ h => h) (Or.inl ⟨by rfl, ?hy17⟩) trivial ?rest17
  case hy17 => (intro w hSw; clear hSw; go_simp; try with_reducible rfl)
  try simp only [Act.put, List.setIfInBounds_toArray, List.set_cons_zero, List.set_cons_succ]
  refine wpAnyH_take (i := 12) (v := ?v18) (op_at rfl) (by kernel_rfl) (by kernel_rfl) (by kernel_rfl) (fun _ _ _ h => h) (Or.inl ⟨by rfl, ?hy18⟩) trivial ?rest18
  case hy18 => (intro w hSw; clear hSw; go_simp; try with_reducible rfl)
  try simp only [Act.put, List.setIfInBounds_toArray, List.set_cons_zero, List.set_cons_succ]
  refine wpAnyH_take (i := 13) (v := ?v19) (op_at rfl) (by kernel_rfl) (by kernel_rfl) (by kernel_rfl) (fun _ _ _ h => h) (Or.inl ⟨by rfl, ?hy19⟩) trivial ?rest19
  case hy19 => (intro w hSw; clear hSw; go_simp; try with_reducible rfl)
  try simp only [Act.put, List.setIfInBounds_toArray, List.set_cons_zero, List.set_cons_succ]
  refine wpAnyH_take (i := 16) (v := ?v20) (op_at rfl) (by kernel_rfl) (by kernel_rfl) (by kernel_rfl) (fun _ _ _ h => h) (Or.inl ⟨by rfl, ?hy20⟩) trivial ?rest20
  case hy20 => (intro w hSw; clear hSw; go_simp; try with_reducible rfl)
  try simp only [Act.put, List.setIfInBounds_toArray, List.set_cons_zero, List.set_cons_succ]
  refine wpAnyH_ready (rs := [14]) (by kernel_rfl) (by simp) ?_
  refine AllReadyH.cons (op_at rfl) (fun K hK => ?_) AllReadyH.nil
  go_simp
  go_at_call 13; refine HBH.out.mono ?_; rintro _ w6 ⟨V6, rfl, hr6, hb6⟩; have HB6 := Lib.hid (below_more HBD.out hb6); obtain ⟨A6, C6, rfl, hy6⟩ := hr6.byt; have hcv6 := conv_bytes hy6 C6; have HY6 := Lib.hid hy6; have HBQ := Lib.hid (HBR.out w6 HB6.out); clear hr6 hb6 hy6
  refine hK.out _ _ trivial (fun hHeld => ?_)
  clear hK K hHeld
  try simp only [Act.put, List.setIfInBounds_toArray, List.set_cons_zero, List.set_cons_succ]
  refine wpAnyH_ready (rs := [15, 17]) (by kernel_rfl) (by simp) ?_
  refine AllReadyH.cons (op_at rfl) (fun K hK => ?_) (AllReadyH.cons (op_at rfl) (fun K hK => ?_) AllReadyH.nil)
  go_simp
  refine hK.out _ _ trivial (fun hHeld => ?_)
  clear hK K hHeld
  try simp only [Act.put, List.setIfInBounds_toArray, List.set_cons_zero, List.set_cons_succ]
  refine wpAnyH_ready (rs := [17]) (by kernel_rfl) (by simp) ?_
  refine AllReadyH.cons (op_at rfl) (fun K hK => ?_) AllReadyH.nil
  go_simp
  go_at_call 34; refine HBQ.out.mono ?_; rintro _ w7 ⟨V7, rfl, hr7, hb7⟩; have HB7 := Lib.hid (below_more HB6.out hb7); obtain ⟨A7, C7, rfl, hy7⟩ := hr7.byt; have hcv7 := conv_bytes hy7 C7; have hcv67 := conv_bytes (HY6.out.later hb7) C6; clear hr7 hb7 hy7
  refine hK.out _ _ trivial (fun hHeld => ?_)
  clear hK K hHeld
  try simp only [Act.put, List.setIfInBounds_toArray, List.set_cons_zero, List.set_cons_succ]
  refine wpAnyH_ready (rs := [18]) (by kernel_rfl) (by simp) ?_
  refine AllReadyH.cons (op_at rfl) (fun K hK => ?_) AllReadyH.nil
  go_simp
  refine hK.out _ _ trivial (fun hHeld => ?_)
  clear hK K hHeld
  try simp only [Act.put, List.setIfInBounds_toArray, List.set_cons_zero, List.set_cons_succ]
  refine wpAnyH_take (i := 19) (v := ?v5) (op_at rfl) (by kernel_rfl) (by kernel_rfl) (by kernel_rfl) (fun _ _ _ h => h) (Or.inl ⟨by rfl, ?hy5⟩) trivial ?rest5
  case hy5 => (intro w hSw; clear hSw; go_simp; try with_reducible rfl)
  try simp only [Act.put, List.setIfInBounds_toArray, List.set_cons_zero, List.set_cons_succ]
  refine wpAnyH_take (i := 20) (v := ?v6) (op_at rfl) (by kernel_rfl) (by kernel_rfl) (by kernel_rfl) (fun _ _ _ h => h) (Or.inl ⟨by rfl, ?hy6⟩) trivial ?rest6
  case hy6 => (intro w hSw; clear hSw; go_simp; try with_reducible rfl)
  try simp only [Act.put, List.setIfInBounds_toArray, List.set_cons_zero, List.set_cons_succ]
  refine wpAnyH_done (by kernel_rfl) ?_ _
  rotate_left
  go_simp
  go_at_call 34; refine HBQ.out.mono ?_; rintro _ w7 ⟨V7, rfl, hr7, hb7⟩; have HB7 := Lib.hid (below_more HB6.out hb7); obtain ⟨A7, C7, rfl, hy7⟩ := hr7.byt; have hcv7 := conv_bytes hy7 C7; have hcv67 := conv_bytes (HY6.out.later hb7) C6; clear hr7 hb7 hy7
  refine hK.out _ _ trivial (fun hHeld => ?_)
  clear hK K hHeld
  try simp only [Act.put, List.setIfInBounds_toArray, List.set_cons_zero, List.set_cons_succ]
  refine wpAnyH_ready (rs := [15, 18]) (by kernel_rfl) (by simp) ?_
  refine AllReadyH.cons (op_at rfl) (fun K hK => ?_) (AllReadyH.cons (op_at rfl) (fun K hK => ?_) AllReadyH.nil)
  go_simp
  refine hK.out _ _ trivial (fun hHeld => ?_)
  clear hK K hHeld
  try simp only [Act.put, List.setIfInBounds_toArray, List.set_cons_zero, List.set_cons_succ]
  refine wpAnyH_ready (rs := [18]) (by kernel_rfl) (by simp) ?_
  refine AllReadyH.cons (op_at rfl) (fun K hK => ?_) AllReadyH.nil
  go_simp
  refine hK.out _ _ trivial (fun hHeld => ?_)
  clear hK K hHeld
  try simp only [Act.put, List.setIfInBounds_toArray, List.set_cons_zero, List.set_cons_succ]
  refine wpAnyH_take (i := 19) (v := ?v1) (op_at rfl) (by kernel_rfl) (by kernel_rfl) (by kernel_rfl) (fun _ _ _ h => h) (Or.inl ⟨by rfl, ?hy1⟩) trivial ?rest1
  case hy1 => (intro w hSw; clear hSw; go_simp; try with_reducible rfl)
  try simp only [Act.put, List.setIfInBounds_toArray, List.set_cons_zero, List.set_cons_succ]
  refine wpAnyH_take (i := 20) (v := ?v2) (op_at rfl) (by kernel_rfl) (by kernel_rfl) (by kernel_rfl) (fun _ _ _ h => h) (Or.inl ⟨by rfl, ?hy2⟩) trivial ?rest2
  case hy2 => (intro w hSw; clear hSw; go_simp; try with_reducible rfl)
  try simp only [Act.put, List.setIfInBounds_toArray, List.set_cons_zero, List.set_cons_succ]
  refine wpAnyH_done (by kernel_rfl) ?_ _
  rotate_left
  go_simp
  refine hK.out _ _ trivial (fun hHeld => ?_)
  clear hK K hHeld
  try simp only [Act.put, List.setIfInBounds_toArray, List.set_cons_zero, List.set_cons_succ]
  refine wpAnyH_ready (rs := [15]) (by kernel_rfl) (by simp) ?_
  refine AllReadyH.cons (op_at rfl) (fun K hK => ?_) AllReadyH.nil
  go_simp
  refine hK.out _ _ trivial (fun hHeld => ?_)
  clear hK K hHeld
  try simp only [Act.put, List.setIfInBounds_toArray, List.set_cons_zero, List.set_cons_succ]
  refine wpAnyH_take (i := 19) (v := ?v3) (op_at rfl) (by kernel_rfl) (by kernel_rfl) (by kernel_rfl) (fun _ _ _ h => h) (Or.inl ⟨by rfl, ?hy3⟩) trivial ?rest3
  case hy3 => (intro w hSw; clear hSw; go_simp; try with_reducible rfl)
  try simp only [Act.put, List.setIfInBounds_toArray, List.set_cons_zero, List.set_cons_succ]
  refine wpAnyH_take (i := 20) (v := ?v4) (op_at rfl) (by kernel_rfl) (by kernel_rfl) (by kernel_rfl) (fun _ _ _ h => h) (Or.inl ⟨by rfl, ?hy4⟩) trivial ?rest4
  case hy4 => (intro w hSw; clear hSw; go_simp; try with_reducible rfl)
  try simp only [Act.put, List.setIfInBounds_toArray, List.set_cons_zero, List.set_cons_succ]
  refine wpAnyH_done (by kernel_rfl) ?_ _
  all_goals
    have HO17 := Lib.hid (ownsRow_block (w' := w7) HO12.out (fun g hg => HB7.out.block g (Nat.lt_of_lt_of_le (HO12.out.lt g hg).2 (Nat.le_refl _))))
    have HO27 := Lib.hid (ownsRow_block (w' := w7) HO2.out (fun g hg => HB7.out.block g (HO2.out.lt g hg).2))
    have HBW := Lib.hid (below_more HB2.out HB7.out)
    clear hcv7 hcv67 hcv6 HB7 HB6 HBQ HY6 HBH HBR HLN HBD HO12 HO1 HO2 n2 HD HRD
    have hd12 : ∀ g, (Value.slice A1 cn c1).ownBlock = some g → (Value.slice A2 cn c2).ownBlock ≠ some g := HD12.out
    clear hd12
    go_wp2
    go_loopw [7] (fun i wr => ∃ (j : Nat) (ys : List Int), i = .int .i64 j ∧ j ≤ cn ∧ ys.length = cn ∧ (∀ q : Nat, j ≤ q → ys[q]? = zs[q]?) ∧ wr.ownsRow w.heap.size 3 1 (.slice A1 cn c1) cn (ys.map (Value.int .i64)) ∧ wr.ownsRow w1.heap.size 3 1 (.slice A2 cn c2) cn (zs.map (Value.int .i64)) ∧ Below w.heap.size w wr) (fun i _ => cn - (RowKit.intOf i).toNat)
    case atStart => exact ⟨0, zs, rfl, Nat.zero_le _, HZL.out, fun _ _ => rfl, HO17.out, HO27.out, HBW.out⟩
    case round =>
      obtain ⟨j, ys, rfl, hj, hyl, hys, ho1, ho2, hbe⟩ := hrel
      have HYL := Lib.hid hyl
      have HYS := Lib.hid hys
      have HO1 := Lib.hid ho1
      have HO2 := Lib.hid ho2
      have HBE := Lib.hid hbe
      clear hyl hys ho1 ho2 hbe
      by_cases hlt : j < cn
      · have hltz : (j : Int) < (cn : Int) := by omega
        have hj0 : (0 : Int) ≤ (j : Int) := by omega
        have hj9 : j < 1000 := by have := HCL.out; omega
        obtain ⟨g1, k1, e1, h1, h2⟩ := HO1.out.form (by omega)
        injection e1 with e1 e2 e3
        subst e1 e3
        clear e2
        obtain ⟨g2, k2, e1, h3, h4⟩ := HO2.out.form (by omega)
        injection e1 with e1 e2 e3
        subst e1 e3
        clear e2
        obtain ⟨i, hzi⟩ : ∃ i : Nat, zs[j]? = some (i : Int) := by
          have hm : zs[j]'(by have := HZL.out; omega) ∈ idsL M := by rw [HZS.out]; exact List.getElem_mem _
          have h0 := ((idsL_mem _ _).mp hm).1
          exact ⟨(zs[j]'(by have := HZL.out; omega)).toNat, by rw [List.getElem?_eq_getElem (by have := HZL.out; omega)]; congr 1; omega⟩
        obtain ⟨x, hx⟩ : ∃ x, M[i]? = some (some x) := by
          have hm : (i : Int) ∈ idsL M := by rw [HZS.out]; exact List.mem_of_getElem? hzi
          obtain ⟨_, x, hx⟩ := (idsL_mem _ _).mp hm
          exact ⟨x, by simpa using hx⟩
        have a1 : wr.cell? ⟨g1, j, none⟩ = some (.int .i64 (i : Int)) := by
          rw [HO1.out.cellAt j (by omega), List.getElem?_map, HYS.out j (Nat.le_refl _), hzi]; rfl
        have a2 : wr.cell? ⟨g2, j, none⟩ = some (.int .i64 (i : Int)) := by
          rw [HO2.out.cellAt j (by omega), List.getElem?_map, hzi]; rfl
        have hil := (List.getElem?_eq_some_iff.mp hx).1
        have HIL := Lib.hid hil
        have HC1 := Lib.hid (show ∀ W : World, W.ownsRow w.heap.size 3 1 (.slice (some ⟨g1, 0, none⟩) cn c1) cn (ys.map (Value.int .i64)) → W.cell? ⟨g1, j, none⟩ = some (.int .i64 (i : Int)) from fun W hW => by
          rw [hW.cellAt j (by omega), List.getElem?_map, HYS.out j (Nat.le_refl _), hzi]; rfl)
        have HC2b := Lib.hid (show ∀ W : World, W.ownsRow w1.heap.size 3 1 (.slice (some ⟨g2, 0, none⟩) cn c2) cn (zs.map (Value.int .i64)) → W.cell? ⟨g2, j, none⟩ = some (.int .i64 (i : Int)) from fun W hW => by
          rw [hW.cellAt j (by omega), List.getElem?_map, hzi]; rfl)
        have n1 : ((i : Int) != (i : Int)) = false := by simp
        have n2 : ((Ty9.strOf x).toList != (Ty9.strOf x).toList) = false := by simp
        have HH1 := Lib.hid h1
        have HH2 := Lib.hid h2
        clear hzi hil h1 h2 h3 h4
        have HMX := Lib.hid hx
        have HLS := Lib.hid (show x.length ≤ 65536 from HR.out.small x (List.mem_of_getElem? hx))
        have HGW := Lib.hid (HO1.out.lt g1 rfl).1
        clear hx
        go_wp2
        go_quiet (fail)
        have HBQ := Lib.hid (below_drewN (Below.refl wr.heap.size wr) nq)
        have HO1b := Lib.hid (ownsRow_block (w' := wr.drewN nq) HO1.out (fun g hg => HBQ.out.block g (HO1.out.lt g hg).2))
        have HO2b := Lib.hid (ownsRow_block (w' := wr.drewN nq) HO2.out (fun g hg => HBQ.out.block g (HO2.out.lt g hg).2))
        have HBb := Lib.hid (below_more HBE.out HBQ.out)
        clear a1 a2 HO1 HO2 HBE HBQ
        generalize wr.drewN nq = wb at *
        have a1 : wb.cell? ⟨g1, j, none⟩ = some (.int .i64 (i : Int)) := HC1.out wb HO1b.out
        have a2 : wb.cell? ⟨g2, j, none⟩ = some (.int .i64 (i : Int)) := HC2b.out wb HO2b.out
        have HGH := Lib.hid (get_yes (HH.out.later HBb.out) ((HSI.out.get i x).mpr HMX.out) (by have := HL2.out; have := HIL.out; omega))
        have HGR := Lib.hid (fun (W : World) (hW : Below wb.heap.size wb W) => rget_yes (HR.out.later (below_more HBb.out hW)) (by have := HL2.out; omega) HMX.out)
        go_wp2_with (go_at_call 9; refine HGH.out.mono ?_; rintro _ w8 ⟨V8, rfl, hr8, hb8⟩; refine Hid.out ?_)
        obtain ⟨A8, C8, rfl, hy8⟩ := hr8.byt
        have HR8 := Lib.hid hr8
        have HB8 := Lib.hid hb8
        have HY8 := Lib.hid hy8
        have HG9 := Lib.hid (HGR.out w8 hb8)
        have HO1c := Lib.hid (ownsRow_block (w' := w8) HO1b.out (fun g hg => hb8.block g (HO1b.out.lt g hg).2))
        have HO2c := Lib.hid (ownsRow_block (w' := w8) HO2b.out (fun g hg => hb8.block g (HO2b.out.lt g hg).2))
        have HWS := Lib.hid (show ∀ g, (Value.slice A8 x.length C8).ownBlock = some g → g1 ≠ g ∧ g2 ≠ g ∧ wb.heap.size ≤ g from fun g hg => by
          have e1 := (hr8.own.lt g hg).1
          have e2 := (HO1b.out.lt g1 rfl).2
          have e3 := (HO2b.out.lt g2 rfl).2
          exact ⟨by omega, by omega, e1⟩)
        clear a1 a2 hr8 hb8 hy8 HGH HGR
        have a2 : w8.cell? ⟨g2, j, none⟩ = some (.int .i64 (i : Int)) := HC2b.out w8 HO2c.out
        obtain ⟨lx, hlx⟩ : ∃ lx, x.length = lx := ⟨_, rfl⟩
        have HLX := Lib.hid hlx
        rw [hlx] at HR8 HY8 HWS HLS ⊢
        clear hlx
        refine go_on ?_
        go_wp2_with (go_at_call 19; refine HG9.out.mono ?_; rintro _ w9 ⟨V9, rfl, hr9, hb9⟩; refine Hid.out ?_)
        obtain ⟨A9, C9, rfl, hy9⟩ := hr9.byt
        have HO1d := Lib.hid (ownsRow_block (w' := w9) HO1c.out (fun g hg => hb9.block g (HO1c.out.lt g hg).2))
        have HO2d := Lib.hid (ownsRow_block (w' := w9) HO2c.out (fun g hg => hb9.block g (HO2c.out.lt g hg).2))
        have HR9 := Lib.hid (HR8.out.below hb9)
        have hcv1 := conv_bytes (HY8.out.later hb9) C8
        have hcv2 := conv_bytes hy9 C9
        have HB9 := Lib.hid (below_more (below_more HBb.out HB8.out) hb9)
        rw [HLX.out] at hcv2 ⊢
        clear hr9 hb9 hy9 a2 HG9 HO1b HO2b HO1c HO2c
        generalize Ty9.strOf x = sx at *
        refine go_on ?_
        go_wp2
        go_loopw [12] (fun i wx => ∃ (k : Nat) (bs : List Nat), i = .int .i64 k ∧ k ≤ lx ∧ bs.length = lx ∧ Rl wb.heap.size (.slice A8 lx C8) w9 (.slice A8 lx C8) bs wx) (fun i _ => lx - (RowKit.intOf i).toNat)
        case atStart => exact ⟨0, x, rfl, Nat.zero_le _, HLX.out, Rl.refl HR9.out.own HR9.out.lt⟩
        case round =>
          obtain ⟨k, bs, rfl, hk, hbl, hrl⟩ := hrel
          have HBL := Lib.hid hbl
          have HRL := Lib.hid hrl
          clear hbl hrl
          by_cases hlt2 : k < lx
          · have hltz2 : (k : Int) < (lx : Int) := by omega
            have hk0 : (0 : Int) ≤ (k : Int) := by omega
            have hk9 : k < 70000 := by have := HLS.out; omega
            obtain ⟨g8, k8, e1, h1, h2⟩ := HRL.out.own.form (by rw [HBL.out]; omega)
            injection e1 with e1 e2 e3
            subst e1 e3
            clear e2
            have hkb : k < bs.length := by rw [HBL.out]; exact hlt2
            have b0 := HRL.out.cellAt HBL.out.symm k hkb
            have bf := HRL.out.frozenAt HBL.out.symm k
            have hal := HRL.out.lt bs[k] (List.getElem_mem hkb)
            obtain ⟨a, ha⟩ : ∃ a, bs[k] = a := ⟨_, rfl⟩
            rw [ha] at b0 hal
            obtain ⟨v, hv⟩ : ∃ v, (a + 1) % 256 = v := ⟨_, rfl⟩
            have hvl : v < 256 := by omega
            have hv1 : ((a : Int) + 1) % 256 = (v : Int) := by omega
            have hv2 : IntKind.u8.wrap ((a : Int) + 1) = (v : Int) := by simp [IntKind.wrap, IntKind.bits, IntKind.signed]; omega
            have HST := Lib.hid (HRL.out.set HBL.out.symm k v hvl)
            clear ha hv hvl hal hkb h1 h2
            go_wp2
            go_roundw
            case rel => exact ⟨k + 1, bs.set k v, by go_num, by omega, by rw [List.length_set]; exact HBL.out, HST.out⟩
            case measure => simp [RowKit.intOf]; omega
          · obtain rfl : k = lx := by omega
            have HO1e := Lib.hid (ownsRow_block (w' := wr) HO1d.out (fun g hg => by
              have hg1 : g1 = g := by injection hg
              subst hg1
              exact HRL.out.gr.block g1 (HO1d.out.lt g1 rfl).2 (fun e => (HWS.out g1 e.symm).1 rfl)))
            have HO2e := Lib.hid (ownsRow_block (w' := wr) HO2d.out (fun g hg => by
              have hg1 : g2 = g := by injection hg
              subst hg1
              exact HRL.out.gr.block g2 (HO2d.out.lt g2 rfl).2 (fun e => (HWS.out g2 e.symm).2.1 rfl)))
            have HBe := Lib.hid (HB9.out.grown HRL.out.gr HB9.out.size (fun g e => Nat.le_trans HBb.out.size (HWS.out g e).2.2))
            have a1 : wr.cell? ⟨g1, j, none⟩ = some (.int .i64 (i : Int)) := HC1.out wr HO1e.out
            have af := HO1e.out.frozenAt j
            obtain ⟨hs1, hs2⟩ := HO1e.out.stored j (.int .i64 (-1))
            rw [← List.map_set] at hs1
            have HS1 := Lib.hid hs1
            have HS2 := Lib.hid (ownsRow_block HO2e.out (fun g hg => by
              have hg1 : g2 = g := by injection hg
              subst hg1
              exact hs2.block g2 (HO2e.out.lt g2 rfl).2 (fun e => HD12.out g1 rfl e)))
            have HBf := Lib.hid (HBe.out.grown hs2 HBe.out.size (fun g e => by
              have hg1 : g1 = g := by injection e
              subst hg1
              exact HGW.out))
            clear hs1 hs2 hlt2 hk
            go_wp2
            go_roundw
            case rel => exact ⟨j + 1, ys.set j (-1), by go_num, by omega, by rw [List.length_set]; exact HYL.out, fun q hq => by rw [List.getElem?_set, if_neg (by omega)]; exact HYS.out q (by omega), HS1.out, HS2.out, HBf.out⟩
            case measure => simp [RowKit.intOf]; omega
      · obtain rfl : j = cn := by omega
        clear hlt hj
        go_wp2
        go_ret
        exact ⟨rfl, HBE.out⟩
end
end Go.Proofs.YtpajimkebnfneaaDoor.X5
