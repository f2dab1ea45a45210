/- The reference's Join and Normal. -/
import Derived.Test.YtkdfafaiabidgaaKp
namespace Go.Proofs.Ytkdfafaiabidgaa.X5
set_option linter.unusedVariables false
set_option linter.unusedSimpArgs false
open Go.RowKit Wd Ty9

theorem rjoin_len (d : List Xt) : (rjoin d).length ≤ d.length := by
  rw [rjoin_eq]
  suffices h : ∀ (l out : List Xt), (l.foldl jstep out).length ≤ out.length + l.length by
    have := h (d.filter posP) []
    have h2 := List.length_filter_le posP d
    unfold joinL
    simp at this
    omega
  intro l
  induction l with
  | nil => intro out; simp
  | cons x l ih =>
    intro out
    rw [List.foldl_cons]
    have := ih (jstep out x)
    have := jstep_len out x
    simp
    omega
theorem max_alt (a s b t : Int) : max t (a + s - b) = max (a + s) (b + t) - b := by omega

set_option maxHeartbeats 4000000 in
set_option maxRecDepth 100000 in
theorem rjoin_any (A : Option Addr) (n C lo hi : Nat) (xs : List Xt) (w : World) (hn : n ≤ 1000000) (h : Ex w lo hi A n xs) (hhi : hi ≤ w.heap.size) (hm : ∀ x ∈ xs, mayP x) :
    Calls Try.prog 37 #[.slice A n C] w fun e w' => ∃ V out, e = .returned V ∧ IsJoin xs out ∧ out.length ≤ n ∧ w'.ownsRow w.heap.size 51 2 V out.length (cl out) ∧ Below w.heap.size w w' := by
  have hl := h.len
  have HORD := Lib.hid (ordered_any A n C lo hi xs w (by omega) h hhi)
  have HM := Lib.hid hm
  clear h hm
  go_enter Try.func37, Try.ntmps37
  go_wp2_with (go_at_call 51; refine HORD.out.mono ?_; rintro _ w3 ⟨Vd, d, rfl, hperm, hasc, how⟩; refine Hid.out ?_)
  have hdl : d.length = n := by rw [hperm.length_eq, hl]
  obtain ⟨A1, C1, hV, -, hex, -⟩ := own_ex how.own
  rw [hdl] at hV hex
  subst hV
  have HX3 := Lib.hid hex
  have HP := Lib.hid hperm
  have HA := Lib.hid hasc
  have HB3 := Lib.hid how.be
  have HDM := Lib.hid (show ∀ x ∈ d, mayP x from fun x hx => HM.out x (HP.out.mem_iff.mp hx))
  clear hex hperm hasc how HORD
  refine go_on ?_
  go_wp2
  go_loopw [3, 5] (fun v i wr => ∃ (k : Nat) (ou : List Xt), i = .int .i64 k ∧ k ≤ n ∧ rjoin (d.take k) = ou ∧ Ow 51 w3 v ou wr) (fun _ i _ => n - (intOf i).toNat)
  case atStart => exact ⟨0, [], rfl, Nat.zero_le _, rfl, Ow.nil _ _⟩
  case round =>
    obtain ⟨k, ou, rfl, hk, hou, how⟩ := hrel
    obtain ⟨Af, Cf, hV⟩ := own_form how.own
    subst hV
    have HOU := Lib.hid hou
    have HOW := Lib.hid how
    have hwl : ou.length ≤ k := by have := rjoin_len (d.take k); rw [hou, List.length_take] at this; omega
    have HWL := Lib.hid hwl
    clear hou how hwl
    by_cases hlt : k < n
    · have hltz : (k : Int) < (n : Int) := by omega
      obtain ⟨b, o, rfl, hb1, hb2, -⟩ := HX3.out.at_ (by omega)
      obtain ⟨c0, c1⟩ := HX3.out.get rfl (i := k) (by omega)
      have hxm := HDM.out d[k] (List.getElem_mem _)
      have htk : d.take (k + 1) = d.take k ++ [d[k]] := by rw [List.take_add_one, List.getElem?_eq_getElem (by omega)]; rfl
      have hjs : rjoin (d.take (k + 1)) = rstep ou d[k] := by rw [htk, rjoin_snoc, HOU.out]
      clear htk
      generalize d[k] = x at c0 c1 hxm hjs
      have HXM := Lib.hid hxm
      have HJS := Lib.hid hjs
      rw [← HOW.out.be.cell (p := ⟨b, o + k * 2, none⟩) hb2] at c0
      rw [← HOW.out.be.cell (p := ⟨b, o + k * 2 + 1, none⟩) hb2] at c1
      clear hxm hjs
      obtain ⟨wb, hwb⟩ : ∃ wb, wb = wr.alloc (.cells #[.int .i64 x.1, .int .i64 x.2] 51) := ⟨_, rfl⟩
      have HWB := Lib.hid hwb
      have HW1 := Lib.hid (show Below wr.heap.size wr wb by rw [hwb]; exact below_new wr _)
      have HBX := Lib.hid (show Bx wb wr.heap.size 51 #[.int .i64 x.1, .int .i64 x.2] by rw [hwb]; exact Bx.new wr _ _)
      have x0 : wb.cell? ⟨wr.heap.size, 0, none⟩ = some (.int .i64 x.1) := HBX.out.cell 0
      have x1 : wb.cell? ⟨wr.heap.size, 1, none⟩ = some (.int .i64 x.2) := HBX.out.cell 1
      have HOB := Lib.hid (HOW.out.below HW1.out)
      clear hwb
      by_cases hz : x.2 = 0
      · have z1 : (x.2 == 0) = true := beq_iff_eq.2 hz
        have z2 : decide (x.2 = 0) = true := by simp; exact hz
        have HZ := Lib.hid hz
        clear hz
        go_wp2
        rw [← HWB.out]
        go_roundw
        case rel => exact ⟨k + 1, ou, by go_num, by omega, by rw [HJS.out, rstep, if_pos HZ.out], HOB.out⟩
        case measure => simp [intOf]; omega
      · have z1 : (x.2 == 0) = false := beq_eq_false_iff_ne.2 hz
        have z2 : decide (x.2 = 0) = false := by simp; exact hz
        have HZ := Lib.hid hz
        clear hz
        rcases List.eq_nil_or_concat ou with rfl | ⟨pre, c, rfl⟩
        · simp only [List.length_nil] at HOB HOW ⊢
          go_upto_region 10 with fail
          rw [← HWB.out]
          clear c0 c1
          go_quiet (fail)
          have HOC := Lib.hid (HOB.out.below (below_drewN (Below.refl wb.heap.size wb) nq))
          have HBC := Lib.hid (HBX.out.drewN nq)
          clear HBX HOB HW1 x0 x1
          generalize wb.drewN nq = wc at *
          have x0 : wc.cell? ⟨wr.heap.size, 0, none⟩ = some (.int .i64 x.1) := HBC.out.cell 0
          have x1 : wc.cell? ⟨wr.heap.size, 1, none⟩ = some (.int .i64 x.2) := HBC.out.cell 1
          have HOD := Lib.hid (HOC.out.below (below_new wc (.cells #[.int .i64 x.1, .int .i64 x.2] 51)))
          go_wp2_with (at_builtin; refine wp_app2 Try.underlying29 rext_info (by rfl) (.tmp 22) (.tmp 24) (by rfl) w3 _ [] x wc.heap.size (by rfl) (by rfl) HOD.out (Bx.new wc _ _) (by decide) ?_; intro V2 w4 how4; have HO4 := Lib.hid how4; clear how4)
          go_roundw
          case rel => exact ⟨k + 1, [x], by go_num, by omega, by rw [HJS.out, rstep, if_neg HZ.out]; rfl, HO4.out⟩
          case measure => simp [intOf]; omega
        · rw [List.concat_eq_append] at *
          have hcm : mayP c := by
            have hj := (isJoin_of_rjoin (l := d.take k) (d := d.take k) (fun y hy => by have := HDM.out y (List.mem_of_mem_take hy); unfold mayP at this; omega) (List.Perm.refl _) (HA.out.sublist (List.take_sublist _ _))).1
            rw [HOU.out] at hj
            exact (joined_may hj (fun y hy => HDM.out y (List.mem_of_mem_take hy)) c (by simp)).1
          have HCM := Lib.hid hcm
          obtain ⟨g, C', hV, hg1, hg2⟩ := HOB.out.own.form (by simp)
          cases hV
          have HGL := Lib.hid hg2
          obtain ⟨_, _, ev, -, hexo, htho⟩ := own_ex HOB.out.own
          cases ev
          obtain ⟨d0, d1⟩ := hexo.get rfl (i := pre.length) (by simp)
          have hwl := HWL.out
          simp only [List.getElem_concat_length, Nat.zero_add, List.length_append, List.length_singleton] at d0 d1 HOB HOW htho hwl ⊢
          have f0 := htho (by omega) g 0 rfl (pre.length * 2 + 1)
          have hxx := HXM.out
          unfold mayP at hxx hcm
          generalize hN : pre.length + 1 = N at *
          have HNL := Lib.hid hN
          have HNB := Lib.hid (show N ≤ 1000000 by omega)
          have s1 : IntKind.i64.wrap ((N : Int) - 1) = pre.length := by rw [show (N : Int) - 1 = pre.length by omega]; exact IntWalk.i64_in _ (by omega)
          have s2 : wrap64 ((N : Int) - 1) = pre.length := by unfold wrap64; omega
          have s3 : (0 : Int) < (N : Int) := by omega
          have s4 : (pre.length : Int) < (N : Int) := by omega
          have s5 : (0 : Int) ≤ (pre.length : Int) := by omega
          have s6 : decide (0 < N) = true := by simp; omega
          have t1 : IntKind.i64.wrap (c.1 + c.2) = c.1 + c.2 := IntWalk.i64_in _ (by omega)
          have t2 : wrap64 (c.1 + c.2) = c.1 + c.2 := by unfold wrap64; omega
          have t3 : IntKind.i64.wrap (x.1 + x.2) = x.1 + x.2 := IntWalk.i64_in _ (by omega)
          have t4 : wrap64 (x.1 + x.2) = x.1 + x.2 := by unfold wrap64; omega
          have t5 : IntKind.i64.wrap (x.1 + x.2 - c.1) = x.1 + x.2 - c.1 := IntWalk.i64_in _ (by omega)
          have t6 : wrap64 (x.1 + x.2 - c.1) = x.1 + x.2 - c.1 := by unfold wrap64; omega
          clear hexo htho hg1 hg2 hwl hxx hcm hN
          generalize hL : pre.length = L at *
          have HL := Lib.hid hL
          clear hL
          by_cases hle : x.1 ≤ c.1 + c.2
          · have hd : decide (x.1 ≤ c.1 + c.2) = true := by simp; exact hle
            go_upto_region 10 with fail
            rw [← HWB.out]
            clear c0 c1
            go_quiet (fail)
            have HOC := Lib.hid (HOB.out.below (below_drewN (Below.refl wb.heap.size wb) nq))
            have HBC := Lib.hid (HBX.out.drewN nq)
            have d0' := ((below_drewN (Below.refl wb.heap.size wb) nq).cell (p := ⟨g, L * 2, none⟩) HGL.out).trans d0
            have d1' := ((below_drewN (Below.refl wb.heap.size wb) nq).cell (p := ⟨g, L * 2 + 1, none⟩) HGL.out).trans d1
            have f0' := ((below_drewN (Below.refl wb.heap.size wb) nq).frozen (p := ⟨g, L * 2 + 1, none⟩) HGL.out).trans f0
            clear HBX HOB HW1 x0 x1 d0 d1 f0
            generalize wb.drewN nq = wc at *
            have x0 : wc.cell? ⟨wr.heap.size, 0, none⟩ = some (.int .i64 x.1) := HBC.out.cell 0
            have x1 : wc.cell? ⟨wr.heap.size, 1, none⟩ = some (.int .i64 x.2) := HBC.out.cell 1
            go_upto_region 11 with fail
            go_still_tail 24, (by kernel_rfl)
            change wpList _ _ _ _ _ wc.drew
            have HOE := Lib.hid (show Ow 51 w3 _ (pre ++ [c]) wc.drew from HOC.out.below ((Below.refl wc.heap.size wc).drew))
            have d1e : wc.drew.cell? ⟨g, L * 2 + 1, none⟩ = some (.int .i64 c.2) := d1'
            have f0e : wc.drew.frozen? ⟨g, L * 2 + 1, none⟩ = false := f0'
            clear d0' d1' f0' x0 x1 HOC HBC
            generalize wc.drew = we at *
            have HSL := Lib.hid (HOE.out.last HNL.out HL.out (max c.2 (x.1 + x.2 - c.1)))
            rw [max_alt] at HSL
            have hmx := max_alt x.1 x.2 c.1 c.2
            go_wp2
            go_roundw
            case rel => exact ⟨k + 1, _, by go_num, by omega, by rw [HJS.out, rstep, if_neg HZ.out, jstep_snoc, if_pos hle], by first | exact HSL.out | (rw [hmx]; exact HSL.out)⟩
            case measure => simp [intOf]; omega
          · have hd : decide (x.1 ≤ c.1 + c.2) = false := by simp; omega
            go_upto_region 10 with fail
            rw [← HWB.out]
            clear c0 c1
            go_quiet (fail)
            have HOC := Lib.hid (HOB.out.below (below_drewN (Below.refl wb.heap.size wb) nq))
            have HBC := Lib.hid (HBX.out.drewN nq)
            clear HBX HOB HW1 x0 x1 d0 d1 f0
            generalize wb.drewN nq = wc at *
            have x0 : wc.cell? ⟨wr.heap.size, 0, none⟩ = some (.int .i64 x.1) := HBC.out.cell 0
            have x1 : wc.cell? ⟨wr.heap.size, 1, none⟩ = some (.int .i64 x.2) := HBC.out.cell 1
            have HOD := Lib.hid (HOC.out.below (below_new wc (.cells #[.int .i64 x.1, .int .i64 x.2] 51)))
            go_wp2_with (at_builtin; refine wp_app2 Try.underlying29 rext_info (by rfl) (.tmp 22) (.tmp 24) (by rfl) w3 _ (pre ++ [c]) x wc.heap.size (by rfl) (by rfl) HOD.out (Bx.new wc _ _) (by have := HL.out; have := HNL.out; have := HNB.out; simp; omega) ?_; intro V2 w4 how4; have HO4 := Lib.hid how4; clear how4)
            go_roundw
            case rel => exact ⟨k + 1, _, by go_num, by omega, by rw [HJS.out, rstep, if_neg HZ.out, jstep_snoc, if_neg (by omega)], HO4.out⟩
            case measure => simp [intOf]; omega
    · obtain rfl : k = n := by omega
      have hou := HOU.out
      rw [List.take_of_length_le (by omega)] at hou
      obtain ⟨hj1, hj2⟩ := isJoin_of_rjoin (l := xs) (fun y hy => by have := HM.out y hy; unfold mayP at this; omega) HP.out HA.out
      rw [hou] at hj1 hj2
      have HJ1 := Lib.hid hj1
      have HJ2 := Lib.hid hj2
      clear hj1 hj2 hou
      go_wp2
      go_ret
      exact ⟨_, ou, rfl, HJ1.out, by have := HJ2.out; omega, own_base HOW.out.own HB3.out.size, below_more HB3.out HOW.out.be⟩
end Go.Proofs.Ytkdfafaiabidgaa.X5
