/- The reference's enum: what an enum type's size is. -/
import Derived.Test.YtbdhihgokkcmfaaTv
import Derived.Lib.SlicesS
namespace Go.Proofs.Ytbdhihgokkcmfaa.Ty9
set_option linter.unusedVariables false
set_option linter.unusedSimpArgs false
open Go.RowKit Wd

set_option maxHeartbeats 2000000 in
set_option maxRecDepth 100000 in
theorem renum_any (d : Nat) (hd4 : d ≤ 1000) (t : Ty) (v : Value) (w : World) (ht : TyAt w w.heap.size t v) :
    Calls Try.prog 54 #[v, .int .i64 (d + 1 : Nat)] w fun e w' => e = .returned (.int .i64 (enumS d t)) ∧ Below w.heap.size w w' := by
  cases ht with
  | mk c wd bb fs ds bs ns fA dA bA nA fC dC bC nC fb fo db dO bbb bo nb nO fv bv hf hd hb hn hfz hnz hnr hcap hfA hdA hbA hnA hf0 hf1 hf2 hft hd0 hb0 hbt hn0' hn1' =>
  clear hfz hfA hdA hf0 hf1 hf2 hft hd0
  have HN0 := Lib.hid hn0'
  have HN1 := Lib.hid hn1'
  have HB0 := Lib.hid hb0
  have HBT := Lib.hid hbt
  clear hn0' hn1' hb0 hbt
  go_enter Try.func54, Try.ntmps54
  by_cases hbad : bb = true ∨ wd ≠ 0 ∨ fs.length + ds.length ≠ 0 ∨ bs.length ≠ 1 ∨ ns.length = 0 ∨ 16 < ns.length ∨ d < 1
  · have hz : enumS d (.mk c wd bb fs ds bs ns) = 0 := by unfold enumS; exact if_pos hbad
    rw [hz]
    clear hz HB0 HBT HN0 HN1 hnz
    go_wp2
    all_goals first
      | (go_ret
         exact ⟨rfl, below_new _ _⟩)
      | (exfalso
         rcases hbad with h | h | h | h | h | h | h <;> first | omega | (simp_all; done) | (simp_all; omega))
  · have hz : enumS d (.mk c wd bb fs ds bs ns) = enumB ns bs := by unfold enumS; exact if_neg hbad
    rw [hz]
    clear hz
    obtain rfl : bb = false := by cases bb <;> simp_all
    obtain rfl : wd = 0 := by omega
    obtain ⟨b0, rfl⟩ : ∃ b0, bs = [b0] := List.length_eq_one_iff.mp (by omega)
    have hd1 : 1 ≤ ns.length := by omega
    have hd2 : ns.length ≤ 16 := by omega
    have hd3 : 1 ≤ d := by omega
    have hfn : fs.length + ds.length = 0 := by omega
    clear hbad
    obtain ⟨rfl, hnb⟩ := hbA (by simp)
    obtain ⟨rfl, hnd⟩ := hnA (by omega)
    have hc := fun o : Nat => (below_new w (.cells #[.int .i64 c, .int .i64 0, .bool false, .slice fA fs.length fC, .slice dA ds.length dC, .slice (some ⟨bbb, bo, none⟩) 1 bC, .slice (some ⟨nb, nO, none⟩) ns.length nC] 28)).cell (p := ⟨bbb, o, none⟩) hnb
    have a0 := (hc bo).trans (HB0.out 0 (by simp) 0 (by omega))
    have a1 := (hc (bo + 1)).trans (HB0.out 0 (by simp) 1 (by omega))
    have a2 := (hc (bo + 2)).trans (HB0.out 0 (by simp) 2 (by omega))
    have a3 := (hc (bo + 3)).trans (HB0.out 0 (by simp) 3 (by omega))
    have a4 := (hc (bo + 4)).trans (HB0.out 0 (by simp) 4 (by omega))
    have a5 := (hc (bo + 5)).trans (HB0.out 0 (by simp) 5 (by omega))
    have a6 := (hc (bo + 6)).trans (HB0.out 0 (by simp) 6 (by omega))
    clear hc
    have HBX := Lib.hid (Bx.new w 28 #[.int .i64 c, .int .i64 0, .bool false, .slice fA fs.length fC, .slice dA ds.length dC, .slice (some ⟨bbb, bo, none⟩) 1 bC, .slice (some ⟨nb, nO, none⟩) ns.length nC])
    have HBN := Lib.hid (below_new w (.cells #[.int .i64 c, .int .i64 0, .bool false, .slice fA fs.length fC, .slice dA ds.length dC, .slice (some ⟨bbb, bo, none⟩) 1 bC, .slice (some ⟨nb, nO, none⟩) ns.length nC] 28))
    have hbt := HBT.out 0 (by simp)
    rw [show [b0][0] = b0 from rfl] at hbt
    obtain ⟨fA', dA', bA', nA', fC', dC', bC', nC', e0, e1, e2, e3, e4, e5, e6⟩ := hbt.cells
    have hln := hbt.lens
    rw [e0] at a0 hbt
    rw [e1] at a1 hbt
    rw [e2] at a2 hbt
    rw [e3] at a3 hbt
    rw [e4] at a4 hbt
    rw [e5] at a5 hbt
    rw [e6] at a6 hbt
    have HBT1 := Lib.hid hbt
    clear e0 e1 e2 e3 e4 e5 e6
    clear HBT HB0 hbt
    by_cases hcl : b0.c = 1 ∨ b0.c = 2
    · rcases hcl with hc1 | hc1
      all_goals
        rw [hc1] at a0
        have hbt := HBT1.out
        rw [hc1] at hbt
        have HBT2 := Lib.hid hbt
        have HBZ := Lib.hid (Bx.new2 w (.cells #[.int .i64 c, .int .i64 0, .bool false, .slice fA fs.length fC, .slice dA ds.length dC, .slice (some ⟨bbb, bo, none⟩) 1 bC, .slice (some ⟨nb, nO, none⟩) ns.length nC] 28) 28 #[.int .i64 b0.c, .int .i64 b0.w, .bool b0.big, .slice fA' b0.fs.length fC', .slice dA' b0.ds.length dC', .slice bA' b0.bs.length bC', .slice nA' b0.ns.length nC'])
        clear hbt HBT1
        go_wp2_with (go_at_call 55; refine (number_any b0 _ _ ?_).mono ?_)
        · exact (HBT2.out.later ((below_new _ _).trans ((below_new _ _).mono (by simp)))).up (by omega)
        rintro _ w2 rfl hb2
        have HW := Lib.hid (show Below w.heap.size w w2 from ((below_new _ _).trans ((below_new _ _).mono (by simp))).trans (hb2.mono (by omega)))
        have hy := HBZ.out
        rw [hc1] at hy
        have HBY := Lib.hid ((HBX.out.later (below_new _ _) (by simp)).later hb2 (by omega))
        have HBZ2 := Lib.hid (hy.later hb2 (by simp))
        clear HBX HBN HBZ hy hb2 a0 a1 a2 a3 a4 a5 a6
        by_cases hnum : numB b0 = true
        · have hnw := (numB_iff b0).mp hnum
          have hw1 : 1 ≤ b0.w := by omega
          have hw8 : b0.w ≤ 8 := by omega
          have he : enumB ns [b0] = mems b0 ns [] := by rw [enumB, if_pos ⟨by omega, hnum⟩]
          have HE := Lib.hid he
          clear he hnw
          rw [hnum]
          go_wp2
          go_loopw [6] (fun i wr => ∃ k : Nat, k ≤ ns.length ∧ i = .int .i64 k ∧ mems b0 (ns.drop k) (ns.take k) = enumB ns [b0] ∧ Below w.heap.size w wr ∧
              Bx wr w.heap.size 28 #[.int .i64 c, .int .i64 0, .bool false, .slice fA fs.length fC, .slice dA ds.length dC, .slice (some ⟨bbb, bo, none⟩) 1 bC, .slice (some ⟨nb, nO, none⟩) ns.length nC] ∧
              Bx wr (w.heap.size + 1) 28 #[.int .i64 b0.c, .int .i64 b0.w, .bool b0.big, .slice fA' b0.fs.length fC', .slice dA' b0.ds.length dC', .slice bA' b0.bs.length bC', .slice nA' b0.ns.length nC']) (fun i _ => ns.length - (intOf i).toNat)
          case atStart =>
            have hy := HBZ2.out
            rw [← hc1] at hy
            exact ⟨0, Nat.zero_le _, rfl, HE.out.symm, HW.out, HBY.out, hy⟩
          case round =>
            clear HW HBY HBZ2 HE
            obtain ⟨k, hk, rfl, hme, hW, hB, hZ⟩ := hrel
            rw [hc1] at hZ
            have c6 := hB.cell 6
            have z0 := hZ.cell 0
            have z1 := hZ.cell 1
            have z2 := hZ.cell 2
            have z3 := hZ.cell 3
            have z4 := hZ.cell 4
            have z5 := hZ.cell 5
            have z6 := hZ.cell 6
            have hlt2 := hZ.lt
            have HW := Lib.hid hW
            have HB := Lib.hid hB
            have HZ := Lib.hid hZ
            have HME := Lib.hid hme
            clear hW hB hZ hme
            by_cases hlt : k < ns.length
            · have n0 := (HW.out.cell (p := ⟨nb, nO + k * 2, none⟩) hnd).trans (HN0.out k hlt)
              have n1 := (HW.out.cell (p := ⟨nb, nO + k * 2 + 1, none⟩) hnd).trans (HN1.out k hlt)
              have hmz := hnz ns[k] (List.getElem_mem hlt)
              have hrr := hnr ns[k] (List.getElem_mem hlt)
              have hr0 := hrr.1
              have hr1 := hrr.2
              have hmc := HME.out
              rw [List.drop_eq_getElem_cons hlt, mems] at hmc
              have HMC := Lib.hid hmc
              have HTK := Lib.hid (List.take_succ_eq_append_getElem hlt)
              have HWm := Lib.hid fun q => below_drewN (HW.out.alloc HW.out.size (.cells #[.string ns[k].1, .int .i64 ns[k].2] 68)) q
              have HBm := Lib.hid (Bx.new wr 68 #[.string ns[k].1, .int .i64 ns[k].2])
              have HWn := Lib.hid (Below.alloc (Below.refl wr.heap.size wr) (Nat.le_refl _) (.cells #[.string ns[k].1, .int .i64 ns[k].2] 68))
              clear hmc HME hrr
              go_wp2_with (first
                | (go_at_call 74; refine (Name_any _ _ ?_).mono ?_)
                | (go_at_call 75; refine (fits_any b0 _ _ _ ?_ ?_ ?_ ?_ ?_ ?_).mono ?_))
              · exact hmz
              rintro _ w3 ⟨rfl, ⟨⟨q, rfl⟩⟩⟩
              by_cases hnm : nameB ns[k].1 = true
              · rw [hnm]
                go_wp2_with (go_at_call 75; refine (fits_any b0 _ _ _ ?_ ?_ ?_ ?_ ?_ ?_).mono ?_)
                · exact (HBT2.out.later (HWm.out q)).up (HWm.out q).size
                · omega
                · omega
                · omega
                · omega
                · omega
                rintro _ w4 ⟨rfl, hb4⟩
                have HW4 := Lib.hid (below_then (HWm.out q) (HWm.out q).size hb4)
                have hs4 : wr.heap.size + 1 ≤ ((wr.alloc (.cells #[.string ns[k].1, .int .i64 ns[k].2] 68)).drewN q).heap.size := by simp
                have d6 := ((HB.out.later (below_drewN HWn.out q) (by omega)).later hb4 (by omega)).cell 6
                have HD6 := Lib.hid d6
                have dm0 := (Bx.later (w := (wr.alloc (.cells #[.string ns[k].1, .int .i64 ns[k].2] 68)).drewN q) HBm.out hb4 (by omega)).cell 0
                have dm1 := (Bx.later (w := (wr.alloc (.cells #[.string ns[k].1, .int .i64 ns[k].2] 68)).drewN q) HBm.out hb4 (by omega)).cell 1
                have HB4 := Lib.hid ((HB.out.later (below_drewN HWn.out q) (by omega)).later hb4 (by omega))
                have HZ4 := Lib.hid ((HZ.out.later (below_drewN HWn.out q) (by omega)).later hb4 (by omega))
                clear hb4 HWm HWn HBm HB HZ hs4 c6 z0 z1 z2 z3 z4 z5 z6 n0 n1
                by_cases hft : fitsB ns[k].2 b0.c b0.w = true
                · rw [hft]
                  go_wp2
                  go_loopw [8] (fun x W => ∃ j q2 : Nat, j ≤ k ∧ x = .int .i64 j ∧ W = w4.drewN q2 ∧ ∀ y ∈ ns.take j, y.1 ≠ ns[k].1 ∧ y.2 ≠ ns[k].2) (fun x _ => k - (intOf x).toNat)
                  case atStart => exact ⟨0, 0, Nat.zero_le _, rfl, rfl, fun y hy => by simp at hy⟩
                  case round =>
                    obtain ⟨j, q2, hj, rfl, rfl, hall⟩ := hrel
                    have HALL := Lib.hid hall
                    clear hall
                    by_cases hjk : j < k
                    · have hjl : j < ns.length := by omega
                      have n0 := (HW4.out.cell (p := ⟨nb, nO + j * 2, none⟩) hnd).trans (HN0.out j hjl)
                      have n1 := (HW4.out.cell (p := ⟨nb, nO + j * 2 + 1, none⟩) hnd).trans (HN1.out j hjl)
                      by_cases e1 : ns[j].1 = ns[k].1
                      · have e1b : (ns[j].1.toList == ns[k].1.toList) = true := (Go.Lib.bytes_beq_iff _ _).mpr e1
                        have HE1 := Lib.hid e1
                        clear e1
                        have hz : enumB ns [b0] = 0 := by
                          rw [← HMC.out, if_pos (.inr (.inr ⟨ns[j], by rw [List.mem_take_iff_getElem]; exact ⟨j, by omega, rfl⟩, .inl HE1.out⟩))]
                        have HZE := Lib.hid hz
                        clear hz
                        go_wp2
                        go_quiet (fail)
                        go_wp2
                        go_ret
                        exact ⟨by rw [HZE.out]; rfl, by rw [World.drewN_drewN]; exact below_drewN HW4.out _⟩
                      have e1b : (ns[j].1.toList == ns[k].1.toList) = false := (Go.Lib.bytes_beq_false_iff _ _).mpr e1
                      have HE1 := Lib.hid e1
                      clear e1
                      by_cases e2 : ns[j].2 = ns[k].2
                      · have e2b : (ns[j].2 == ns[k].2) = true := beq_iff_eq.mpr e2
                        have HE2 := Lib.hid e2
                        clear e2
                        have hz : enumB ns [b0] = 0 := by
                          rw [← HMC.out, if_pos (.inr (.inr ⟨ns[j], by rw [List.mem_take_iff_getElem]; exact ⟨j, by omega, rfl⟩, .inr HE2.out⟩))]
                        have HZE := Lib.hid hz
                        clear hz
                        go_wp2
                        go_quiet (fail)
                        go_wp2
                        go_ret
                        exact ⟨by rw [HZE.out]; rfl, by rw [World.drewN_drewN]; exact below_drewN HW4.out _⟩
                      have e2b : (ns[j].2 == ns[k].2) = false := beq_eq_false_iff_ne.mpr e2
                      have HE2 := Lib.hid e2
                      clear e2
                      go_wp2
                      go_quiet (fail)
                      go_wp2
                      go_roundw
                      case measure => simp [intOf]; omega
                      refine ⟨j + 1, q2 + nq, by omega, by go_num, rfl, fun y hy => ?_⟩
                      rw [List.take_succ_eq_append_getElem hjl, List.mem_append, List.mem_singleton] at hy
                      rcases hy with hy | rfl
                      · exact HALL.out y hy
                      · exact ⟨HE1.out, HE2.out⟩
                    · obtain rfl : j = k := by omega
                      go_wp2
                      go_roundw
                      case rel =>
                        refine ⟨j + 1, by omega, by go_num, ?_, below_drewN HW4.out _, HB4.out.drewN _, by rw [hc1]; exact HZ4.out.drewN _⟩
                        rw [HTK.out, ← HMC.out, if_neg]
                        rintro (h | h | ⟨y, hy, h | h⟩)
                        · rw [hnm] at h; cases h
                        · rw [hft] at h; cases h
                        · exact (HALL.out y hy).1 h
                        · exact (HALL.out y hy).2 h
                      case measure => simp [intOf]; omega
                · rw [Bool.not_eq_true] at hft
                  rw [hft]
                  go_wp2
                  go_ret
                  exact ⟨by rw [← HMC.out, if_pos (.inr (.inl hft))]; rfl, HW4.out⟩
              · rw [Bool.not_eq_true] at hnm
                rw [hnm]
                go_wp2
                go_ret
                exact ⟨by rw [← HMC.out, if_pos (.inl hnm)]; rfl, HWm.out q⟩
            · obtain rfl : k = ns.length := by omega
              have hme := HME.out
              rw [List.drop_length, mems] at hme
              have HM := Lib.hid hme
              clear hme
              go_wp2
              go_ret
              exact ⟨by rw [← HM.out]; rfl, HW.out⟩
        · have hz : enumB ns [b0] = 0 := by rw [enumB, if_neg (fun h => hnum h.2)]
          rw [Bool.not_eq_true] at hnum
          rw [hnum]
          go_wp2
          go_ret
          exact ⟨by rw [hz]; rfl, HW.out⟩
    · have hz : enumB ns [b0] = 0 := by rw [enumB, if_neg (fun h => hcl h.1)]
      have h1 : (b0.c != 1) = true := by simp; omega
      have h2 : (b0.c != 2) = true := by simp; omega
      have h3 : (b0.c == 1) = false := by simp; omega
      have h4 : (b0.c == 2) = false := by simp; omega
      go_wp2
      go_ret
      exact ⟨by first | rfl | (rw [hz]; rfl), (below_new _ _).trans ((below_new _ _).mono (by simp))⟩
end Go.Proofs.Ytbdhihgokkcmfaa.Ty9
