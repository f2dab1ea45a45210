/- extent.Normal, extent.Meets. -/
import Derived.Test.YtcgapkepbnbabaaDoorKl
import Derived.WalkMore
namespace Go.Proofs.YtcgapkepbnbabaaDoor.X5
set_option linter.unusedVariables false
set_option linter.unusedSimpArgs false
open Go.RowKit Wd Ty9

theorem any_not {xs : List Xt} : (xs.any fun x => !decide (mayP x)) = false ↔ ∀ x ∈ xs, mayP x := by simp

set_option maxHeartbeats 4000000 in
set_option maxRecDepth 100000 in
theorem meets_any (A : Option Addr) (n C lo hi : Nat) (xs : List Xt) (w : World) (hn : n ≤ 1000000) (h : Ex w lo hi A n xs) (hhi : hi ≤ w.heap.size) :
    Calls Tryd.prog 28 #[.slice A n C] w fun e w' => ∃ r : Bool, e = .returned (.bool r) ∧ Hid (r = false ↔ noMeet xs) ∧ Below w.heap.size w w' := by
  have HCL := Lib.hid (clone_any A n C lo hi xs w (by omega) h)
  have hl := h.len
  have HX := Lib.hid h
  have eg1 : ∀ args w, (callFunc 43 args).run Tryd.prog w = .ok (.enter 43 args) w := enters_of Tryd.func43 (by kernel_rfl) rfl
  have eg2 : ∀ args w, (callFunc 46 args).run Tryd.prog w = .ok (.enter 46 args) w := enters_of Tryd.func46 (by kernel_rfl) rfl
  have HE1 := Lib.hid eg1
  have HE2 := Lib.hid eg2
  clear h eg1 eg2
  go_enter Tryd.func28, Tryd.ntmps28
  go_wp2
  go_step3
  go_wp2_with (go_at_call 42; refine HCL.out.mono ?_; rintro _ w1 ⟨A1, C1, rfl, hC1, hown1, hb1⟩; refine Hid.out ?_)
  obtain ⟨A1', C1', ev, hcc, hex1, hth1⟩ := own_ex hown1
  cases ev
  have HD := Lib.hid (delete_any (fun x => !okP x) 43 says_meets HE1.out A1 n C1 w.heap.size w1.heap.size xs w1 (by omega) hC1 hex1 hth1 (Nat.le_refl _))
  have HB1 := Lib.hid hb1
  clear hown1 hC1 hb1 HCL hex1 hth1 hcc
  refine go_on ?_
  go_wp2_with (go_at_call 41; refine HD.out.mono ?_; rintro _ w2 ⟨m, hmC, rfl, hex2, hth2, hch2⟩; refine Hid.out ?_)
  have hfl : (xs.filter fun x => !!okP x) = xs.filter okP := by simp
  rw [hfl] at hex2
  have hml : m ≤ n := by
    have h1 := hex2.len
    have h2 := List.length_filter_le okP xs
    omega
  have HSR := Lib.hid (sort_any 46 compares_meets HE2.out A1 m C1 w.heap.size w1.heap.size _ w2 (by omega) hex2 hth2 hch2.size)
  have HH2 := Lib.hid hch2
  clear hmC hex2 hth2 hch2 hfl HD
  refine go_on ?_
  go_wp2_with (go_at_call 45; refine HSR.out.mono ?_; rintro _ w3 ⟨rfl, d, hperm, hasc, hex3, hth3, hch3⟩; refine Hid.out ?_)
  have HP := Lib.hid hperm
  have HA := Lib.hid hasc
  have HX3 := Lib.hid hex3
  have HB3 := Lib.hid (HB1.out.trans ((HH2.out.trans hch3 (fun _ h => h) (fun _ h => h)).below HB1.out.size (fun j hj => hj.1)))
  have HS3 := Lib.hid (Nat.le_trans HH2.out.size hch3.size)
  clear hperm hasc hex3 hth3 hch3 HSR HH2 HE1 HE2
  have hdl := HX3.out.len
  have HIF := Lib.hid (adj_iff HP.out HA.out)
  have HDM := Lib.hid (show ∀ x ∈ d, mayP x from fun x hx => ((okP_iff x).mp (List.mem_filter.mp (HP.out.mem_iff.mp hx)).2).1)
  clear HP
  refine go_on ?_
  go_wp2
  go_step3
  go_wp2
  go_loopw [3, 12] (fun v i wr => ∃ (k : Nat), v = .bool false ∧ i = .int .i64 k ∧ k ≤ m ∧ Below w3.heap.size w3 wr ∧ Hid (∀ i (h : i + 1 < d.length), i + 1 < k → d[i].1 + d[i].2 ≤ d[i + 1].1)) (fun _ i _ => m - (intOf i).toNat)
  case atStart => exact ⟨0, rfl, rfl, Nat.zero_le _, Below.refl _ _, Lib.hid (fun i h h2 => absurd h2 (by omega))⟩
  case round =>
    obtain ⟨k, rfl, rfl, hk, hbe, HQ⟩ := hrel
    have HBE := Lib.hid hbe
    clear hbe
    by_cases hlt : k < m
    · have hltz : (k : Int) < (m : Int) := by omega
      rcases Nat.eq_zero_or_pos k with rfl | hkp
      · go_upto_region 7 with fail
        go_quiet (fail)
        have HBQ := Lib.hid (below_more HBE.out (below_drewN (Below.refl wr.heap.size wr) nq))
        generalize wr.drewN nq = wc at *
        go_wp2
        go_roundw
        case rel => exact ⟨1, rfl, by go_num, by omega, HBQ.out, Lib.hid (fun i h h2 => absurd h2 (by omega))⟩
        case measure => simp [intOf]; omega
      · obtain ⟨b, o, rfl, hb1, hb2, -⟩ := HX3.out.at_ (by omega)
        obtain ⟨L, hL⟩ : ∃ L, L + 1 = k := ⟨k - 1, by omega⟩
        obtain ⟨c0, c1⟩ := HX3.out.get rfl (i := k) (by omega)
        obtain ⟨d0, d1⟩ := HX3.out.get rfl (i := L) (by omega)
        have hbw : b < w3.heap.size := Nat.lt_of_lt_of_le hb2 HS3.out
        rw [← HBE.out.cell (p := ⟨b, o + k * 2, none⟩) hbw] at c0
        rw [← HBE.out.cell (p := ⟨b, o + L * 2, none⟩) hbw] at d0
        rw [← HBE.out.cell (p := ⟨b, o + L * 2 + 1, none⟩) hbw] at d1
        have hbw2 : b < wr.heap.size := Nat.lt_of_lt_of_le hbw HBE.out.size
        have hxm := HDM.out d[L] (List.getElem_mem _)
        have hxk : ∀ (h : L + 1 < d.length), d[k].1 = d[L + 1].1 := fun h => by subst hL; rfl
        have HXK := Lib.hid hxk
        have HLK := Lib.hid hL
        have HXM := Lib.hid hxm
        have s1 : IntKind.i64.wrap ((k : Int) - 1) = L := by rw [show (k : Int) - 1 = L by omega]; exact IntWalk.i64_in _ (by omega)
        have s2 : wrap64 ((k : Int) - 1) = L := by unfold wrap64; omega
        have s3 : (0 : Int) < (k : Int) := by omega
        have s4 : (L : Int) < (m : Int) := by omega
        have s5 : (0 : Int) ≤ (L : Int) := by omega
        have s6 : decide (0 < k) = true := by simp; omega
        clear c1 hxm hxk
        generalize hy : d[L] = y at d0 d1 HXM
        generalize hx : d[k].1 = xa at c0 HXK
        have HY := Lib.hid hy
        have HXA := Lib.hid hx
        clear hy hx hkp
        have hstep : y.1 + y.2 ≤ xa ∨ xa < y.1 + y.2 := by omega
        rcases hstep with hle | hgt
        · have hlf : decide (xa < y.1 + y.2) = false := by simp; omega
          have hlf2 : ¬ (xa < y.1 + y.2) := by omega
          go_upto_region 7 with fail
          go_region_held3 (fun w' => w'.cell? ⟨b, o + k * 2, none⟩ = some (.int .i64 xa) ∧ w'.cell? ⟨b, o + L * 2, none⟩ = some (.int .i64 y.1) ∧ w'.cell? ⟨b, o + L * 2 + 1, none⟩ = some (.int .i64 y.2))
            (first
              | (with_reducible exact ⟨y0, e0, e1⟩)
              | exact ⟨c0, d0, d1⟩)
            (first
              | (go_at_call 48; refine (end_any y _ HXM.out).mono ?_; rintro _ w4 ⟨rfl, hb4⟩; have hbw4 := below_more ((Below.refl _ wr).drew) hb4; have y0 := (hbw4.cell (p := ⟨b, o + k * 2, none⟩) hbw2).trans c0; have e0 := (hbw4.cell (p := ⟨b, o + L * 2, none⟩) hbw2).trans d0; have e1 := (hbw4.cell (p := ⟨b, o + L * 2 + 1, none⟩) hbw2).trans d1; have HB4 := Lib.hid hbw4; clear hb4 hbw4))
          have HBQ := Lib.hid (below_more HBE.out HB4.out)
          clear c0 d0 d1 y0 e0 e1
          go_wp2
          go_roundw
          case rel =>
            refine ⟨k + 1, rfl, by go_num, by omega, HBQ.out, Lib.hid (fun i h h2 => ?_)⟩
            have h3 := HLK.out
            rcases Nat.lt_or_ge (i + 1) k with h4 | h4
            · exact HQ.out i h h4
            · obtain rfl : i = L := by omega
              have h5 := HXK.out h
              have h6 := HY.out
              rw [← h5, h6]
              exact hle
          case measure => simp [intOf]; omega
        · have hlf : decide (xa < y.1 + y.2) = true := by simp; omega
          go_upto_region 7 with fail
          go_region_held3 (fun w' => w'.cell? ⟨b, o + k * 2, none⟩ = some (.int .i64 xa) ∧ w'.cell? ⟨b, o + L * 2, none⟩ = some (.int .i64 y.1) ∧ w'.cell? ⟨b, o + L * 2 + 1, none⟩ = some (.int .i64 y.2))
            (first
              | (with_reducible exact ⟨y0, e0, e1⟩)
              | exact ⟨c0, d0, d1⟩)
            (first
              | (go_at_call 48; refine (end_any y _ HXM.out).mono ?_; rintro _ w4 ⟨rfl, hb4⟩; have hbw4 := below_more ((Below.refl _ wr).drew) hb4; have y0 := (hbw4.cell (p := ⟨b, o + k * 2, none⟩) hbw2).trans c0; have e0 := (hbw4.cell (p := ⟨b, o + L * 2, none⟩) hbw2).trans d0; have e1 := (hbw4.cell (p := ⟨b, o + L * 2 + 1, none⟩) hbw2).trans d1; have HB4 := Lib.hid hbw4; clear hb4 hbw4))
          have HBQ := Lib.hid (below_more HBE.out HB4.out)
          clear c0 d0 d1 y0 e0 e1
          have HNM := Lib.hid (show ¬ noMeet xs from fun h => by
            have h3 := HLK.out
            have h7 : L + 1 < d.length := by omega
            have h4 := HIF.out.mpr h L h7
            have h5 := HXK.out h7
            have h6 := HY.out
            rw [h6] at h4
            omega)
          go_wp2
          rw [Exit.noGoto_ret]
          go_ret
          exact ⟨true, rfl, Lib.hid ⟨(fun h => Bool.noConfusion h), fun h => absurd h HNM.out⟩, below_more HB3.out HBQ.out⟩
    · obtain rfl : k = m := by omega
      have HNM := Lib.hid (show noMeet xs from HIF.out.mp fun i h => HQ.out i h (by omega))
      go_wp2
      go_ret
      exact ⟨false, rfl, Lib.hid ⟨fun _ => HNM.out, fun _ => rfl⟩, below_more HB3.out HBE.out⟩
end Go.Proofs.YtcgapkepbnbabaaDoor.X5
