/- The reference: Sized, Size. -/
import Derived.Test.YtbdhihgokkcmfaaTv
import Derived.Lib.SlicesS
namespace Go.Proofs.Ytbdhihgokkcmfaa.Ty9
set_option linter.unusedVariables false
set_option linter.unusedSimpArgs false
open Go.RowKit Wd

set_option maxHeartbeats 2000000 in
set_option maxRecDepth 100000 in
theorem renum_any (d : Nat) (hd4 : d ≤ 1000) (t : Ty) (v : Value) (w : World) (ht : TyAt w w.heap.size t v) :
    Calls Try.prog 54 #[v, .int .i64 (d + 1 : Nat)] w fun e w' => e = .returned (.int .i64 (enumS d t)) ∧ Below w.heap.size w w' := by
  cases ht with
  | mk c wd bb fs ds bs ns fA dA bA nA fC dC bC nC fb fo db dO bbb bo nb nO fv bv hf hd hb hn hfz hnz hnr hcap hfA hdA hbA hnA hf0 hf1 hf2 hft hd0 hb0 hbt hn0' hn1' =>
  clear hfz hfA hdA hf0 hf1 hf2 hft hd0
  have HN0 := Lib.hid hn0'
  have HN1 := Lib.hid hn1'
  have HB0 := Lib.hid hb0
  have HBT := Lib.hid hbt
  clear hn0' hn1' hb0 hbt
  go_enter Try.func54, Try.ntmps54
  by_cases hbad : bb = true ∨ wd ≠ 0 ∨ fs.length + ds.length ≠ 0 ∨ bs.length ≠ 1 ∨ ns.length = 0 ∨ 16 < ns.length ∨ d < 1
  · have hz : enumS d (.mk c wd bb fs ds bs ns) = 0 := by unfold enumS; exact if_pos hbad
    rw [hz]
    clear hz HB0 HBT HN0 HN1 hnz
    go_wp2
    all_goals first
      | (go_ret
         exact ⟨rfl, below_new _ _⟩)
      | (exfalso
         rcases hbad with h | h | h | h | h | h | h <;> first | omega | (simp_all; done) | (simp_all; omega))
  · have hz : enumS d (.mk c wd bb fs ds bs ns) = enumB ns bs := by unfold enumS; exact if_neg hbad
    rw [hz]
    clear hz
    obtain rfl : bb = false := by cases bb <;> simp_all
    obtain rfl : wd = 0 := by omega
    obtain ⟨b0, rfl⟩ : ∃ b0, bs = [b0] := List.length_eq_one_iff.mp (by omega)
    have hd1 : 1 ≤ ns.length := by omega
    have hd2 : ns.length ≤ 16 := by omega
    have hd3 : 1 ≤ d := by omega
    have hfn : fs.length + ds.length = 0 := by omega
    clear hbad
    obtain ⟨rfl, hnb⟩ := hbA (by simp)
    obtain ⟨rfl, hnd⟩ := hnA (by omega)
    have hc := fun o : Nat => (below_new w (.cells #[.int .i64 c, .int .i64 0, .bool false, .slice fA fs.length fC, .slice dA ds.length dC, .slice (some ⟨bbb, bo, none⟩) 1 bC, .slice (some ⟨nb, nO, none⟩) ns.length nC] 28)).cell (p := ⟨bbb, o, none⟩) hnb
    have a0 := (hc bo).trans (HB0.out 0 (by simp) 0 (by omega))
    have a1 := (hc (bo + 1)).trans (HB0.out 0 (by simp) 1 (by omega))
    have a2 := (hc (bo + 2)).trans (HB0.out 0 (by simp) 2 (by omega))
    have a3 := (hc (bo + 3)).trans (HB0.out 0 (by simp) 3 (by omega))
    have a4 := (hc (bo + 4)).trans (HB0.out 0 (by simp) 4 (by omega))
    have a5 := (hc (bo + 5)).trans (HB0.out 0 (by simp) 5 (by omega))
    have a6 := (hc (bo + 6)).trans (HB0.out 0 (by simp) 6 (by omega))
    clear hc
    have HBX := Lib.hid (Bx.new w 28 #[.int .i64 c, .int .i64 0, .bool false, .slice fA fs.length fC, .slice dA ds.length dC, .slice (some ⟨bbb, bo, none⟩) 1 bC, .slice (some ⟨nb, nO, none⟩) ns.length nC])
    have HBN := Lib.hid (below_new w (.cells #[.int .i64 c, .int .i64 0, .bool false, .slice fA fs.length fC, .slice dA ds.length dC, .slice (some ⟨bbb, bo, none⟩) 1 bC, .slice (some ⟨nb, nO, none⟩) ns.length nC] 28))
    have hbt := HBT.out 0 (by simp)
    rw [show [b0][0] = b0 from rfl] at hbt
    obtain ⟨fA', dA', bA', nA', fC', dC', bC', nC', e0, e1, e2, e3, e4, e5, e6⟩ := hbt.cells
    have hln := hbt.lens
    rw [e0] at a0 hbt
    rw [e1] at a1 hbt
    rw [e2] at a2 hbt
    rw [e3] at a3 hbt
    rw [e4] at a4 hbt
    rw [e5] at a5 hbt
    rw [e6] at a6 hbt
    have HBT1 := Lib.hid hbt
    clear e0 e1 e2 e3 e4 e5 e6
    clear HBT HB0 hbt
    by_cases hcl : b0.c = 1 ∨ b0.c = 2
    · rcases hcl with hc1 | hc1
      all_goals
        rw [hc1] at a0
        have hbt := HBT1.out
        rw [hc1] at hbt
        have HBT2 := Lib.hid hbt
        have HBZ := Lib.hid (Bx.new2 w (.cells #[.int .i64 c, .int .i64 0, .bool false, .slice fA fs.length fC, .slice dA ds.length dC, .slice (some ⟨bbb, bo, none⟩) 1 bC, .slice (some ⟨nb, nO, none⟩) ns.length nC] 28) 28 #[.int .i64 b0.c, .int .i64 b0.w, .bool b0.big, .slice fA' b0.fs.length fC', .slice dA' b0.ds.length dC', .slice bA' b0.bs.length bC', .slice nA' b0.ns.length nC'])
        clear hbt HBT1
        go_wp2_with (go_at_call 55; refine (number_any b0 _ _ ?_).mono ?_)
        · exact (HBT2.out.later ((below_new _ _).trans ((below_new _ _).mono (by simp)))).up (by omega)
        rintro _ w2 rfl hb2
        have HW := Lib.hid (show Below w.heap.size w w2 from ((below_new _ _).trans ((below_new _ _).mono (by simp))).trans (hb2.mono (by omega)))
        have hy := HBZ.out
        rw [hc1] at hy
        have HBY := Lib.hid ((HBX.out.later (below_new _ _) (by simp)).later hb2 (by omega))
        have HBZ2 := Lib.hid (hy.later hb2 (by simp))
        clear HBX HBN HBZ hy hb2 a0 a1 a2 a3 a4 a5 a6
        by_cases hnum : numB b0 = true
        · have hnw := (numB_iff b0).mp hnum
          have hw1 : 1 ≤ b0.w := by omega
          have hw8 : b0.w ≤ 8 := by omega
          have he : enumB ns [b0] = mems b0 ns [] := by rw [enumB, if_pos ⟨by omega, hnum⟩]
          have HE := Lib.hid he
          clear he hnw
          rw [hnum]
          go_wp2
          go_loopw [6] (fun i wr => ∃ k : Nat, k ≤ ns.length ∧ i = .int .i64 k ∧ mems b0 (ns.drop k) (ns.take k) = enumB ns [b0] ∧ Below w.heap.size w wr ∧
              Bx wr w.heap.size 28 #[.int .i64 c, .int .i64 0, .bool false, .slice fA fs.length fC, .slice dA ds.length dC, .slice (some ⟨bbb, bo, none⟩) 1 bC, .slice (some ⟨nb, nO, none⟩) ns.length nC] ∧
              Bx wr (w.heap.size + 1) 28 #[.int .i64 b0.c, .int .i64 b0.w, .bool b0.big, .slice fA' b0.fs.length fC', .slice dA' b0.ds.length dC', .slice bA' b0.bs.length bC', .slice nA' b0.ns.length nC']) (fun i _ => ns.length - (intOf i).toNat)
          case atStart =>
            have hy := HBZ2.out
            rw [← hc1] at hy
            exact ⟨0, Nat.zero_le _, rfl, HE.out.symm, HW.out, HBY.out, hy⟩
          case round =>
            clear HW HBY HBZ2 HE
            obtain ⟨k, hk, rfl, hme, hW, hB, hZ⟩ := hrel
            rw [hc1] at hZ
            have c6 := hB.cell 6
            have z0 := hZ.cell 0
            have z1 := hZ.cell 1
            have z2 := hZ.cell 2
            have z3 := hZ.cell 3
            have z4 := hZ.cell 4
            have z5 := hZ.cell 5
            have z6 := hZ.cell 6
            have hlt2 := hZ.lt
            have HW := Lib.hid hW
            have HB := Lib.hid hB
            have HZ := Lib.hid hZ
            have HME := Lib.hid hme
            clear hW hB hZ hme
            by_cases hlt : k < ns.length
            · have n0 := (HW.out.cell (p := ⟨nb, nO + k * 2, none⟩) hnd).trans (HN0.out k hlt)
              have n1 := (HW.out.cell (p := ⟨nb, nO + k * 2 + 1, none⟩) hnd).trans (HN1.out k hlt)
              have hmz := hnz ns[k] (List.getElem_mem hlt)
              have hrr := hnr ns[k] (List.getElem_mem hlt)
              have hr0 := hrr.1
              have hr1 := hrr.2
              have hmc := HME.out
              rw [List.drop_eq_getElem_cons hlt, mems] at hmc
              have HMC := Lib.hid hmc
              have HTK := Lib.hid (List.take_succ_eq_append_getElem hlt)
              have HWm := Lib.hid fun q => below_drewN (HW.out.alloc HW.out.size (.cells #[.string ns[k].1, .int .i64 ns[k].2] 68)) q
              have HBm := Lib.hid (Bx.new wr 68 #[.string ns[k].1, .int .i64 ns[k].2])
              have HWn := Lib.hid (Below.alloc (Below.refl wr.heap.size wr) (Nat.le_refl _) (.cells #[.string ns[k].1, .int .i64 ns[k].2] 68))
              clear hmc HME hrr
              go_wp2_with (first
                | (go_at_call 74; refine (Name_any _ _ ?_).mono ?_)
                | (go_at_call 75; refine (fits_any b0 _ _ _ ?_ ?_ ?_ ?_ ?_ ?_).mono ?_))
              · exact hmz
              rintro _ w3 ⟨rfl, ⟨⟨q, rfl⟩⟩⟩
              by_cases hnm : nameB ns[k].1 = true
              · rw [hnm]
                go_wp2_with (go_at_call 75; refine (fits_any b0 _ _ _ ?_ ?_ ?_ ?_ ?_ ?_).mono ?_)
                · exact (HBT2.out.later (HWm.out q)).up (HWm.out q).size
                · omega
                · omega
                · omega
                · omega
                · omega
                rintro _ w4 ⟨rfl, hb4⟩
                have HW4 := Lib.hid (below_then (HWm.out q) (HWm.out q).size hb4)
                have hs4 : wr.heap.size + 1 ≤ ((wr.alloc (.cells #[.string ns[k].1, .int .i64 ns[k].2] 68)).drewN q).heap.size := by simp
                have d6 := ((HB.out.later (below_drewN HWn.out q) (by omega)).later hb4 (by omega)).cell 6
                have HD6 := Lib.hid d6
                have dm0 := (Bx.later (w := (wr.alloc (.cells #[.string ns[k].1, .int .i64 ns[k].2] 68)).drewN q) HBm.out hb4 (by omega)).cell 0
                have dm1 := (Bx.later (w := (wr.alloc (.cells #[.string ns[k].1, .int .i64 ns[k].2] 68)).drewN q) HBm.out hb4 (by omega)).cell 1
                have HB4 := Lib.hid ((HB.out.later (below_drewN HWn.out q) (by omega)).later hb4 (by omega))
                have HZ4 := Lib.hid ((HZ.out.later (below_drewN HWn.out q) (by omega)).later hb4 (by omega))
                clear hb4 HWm HWn HBm HB HZ hs4 c6 z0 z1 z2 z3 z4 z5 z6 n0 n1
                by_cases hft : fitsB ns[k].2 b0.c b0.w = true
                · rw [hft]
                  go_wp2
                  go_loopw [8] (fun x W => ∃ j q2 : Nat, j ≤ k ∧ x = .int .i64 j ∧ W = w4.drewN q2 ∧ ∀ y ∈ ns.take j, y.1 ≠ ns[k].1 ∧ y.2 ≠ ns[k].2) (fun x _ => k - (intOf x).toNat)
                  case atStart => exact ⟨0, 0, Nat.zero_le _, rfl, rfl, fun y hy => by simp at hy⟩
                  case round =>
                    obtain ⟨j, q2, hj, rfl, rfl, hall⟩ := hrel
                    have HALL := Lib.hid hall
                    clear hall
                    by_cases hjk : j < k
                    · have hjl : j < ns.length := by omega
                      have n0 := (HW4.out.cell (p := ⟨nb, nO + j * 2, none⟩) hnd).trans (HN0.out j hjl)
                      have n1 := (HW4.out.cell (p := ⟨nb, nO + j * 2 + 1, none⟩) hnd).trans (HN1.out j hjl)
                      by_cases e1 : ns[j].1 = ns[k].1
                      · have e1b : (ns[j].1.toList == ns[k].1.toList) = true := (Go.Lib.bytes_beq_iff _ _).mpr e1
                        have HE1 := Lib.hid e1
                        clear e1
                        have hz : enumB ns [b0] = 0 := by
                          rw [← HMC.out, if_pos (.inr (.inr ⟨ns[j], by rw [List.mem_take_iff_getElem]; exact ⟨j, by omega, rfl⟩, .inl HE1.out⟩))]
                        have HZE := Lib.hid hz
                        clear hz
                        go_wp2
                        go_quiet (fail)
                        go_wp2
                        go_ret
                        exact ⟨by rw [HZE.out]; rfl, by rw [World.drewN_drewN]; exact below_drewN HW4.out _⟩
                      have e1b : (ns[j].1.toList == ns[k].1.toList) = false := (Go.Lib.bytes_beq_false_iff _ _).mpr e1
                      have HE1 := Lib.hid e1
                      clear e1
                      by_cases e2 : ns[j].2 = ns[k].2
                      · have e2b : (ns[j].2 == ns[k].2) = true := beq_iff_eq.mpr e2
                        have HE2 := Lib.hid e2
                        clear e2
                        have hz : enumB ns [b0] = 0 := by
                          rw [← HMC.out, if_pos (.inr (.inr ⟨ns[j], by rw [List.mem_take_iff_getElem]; exact ⟨j, by omega, rfl⟩, .inr HE2.out⟩))]
                        have HZE := Lib.hid hz
                        clear hz
                        go_wp2
                        go_quiet (fail)
                        go_wp2
                        go_ret
                        exact ⟨by rw [HZE.out]; rfl, by rw [World.drewN_drewN]; exact below_drewN HW4.out _⟩
                      have e2b : (ns[j].2 == ns[k].2) = false := beq_eq_false_iff_ne.mpr e2
                      have HE2 := Lib.hid e2
                      clear e2
                      go_wp2
                      go_quiet (fail)
                      go_wp2
                      go_roundw
                      case measure => simp [intOf]; omega
                      refine ⟨j + 1, q2 + nq, by omega, by go_num, rfl, fun y hy => ?_⟩
                      rw [List.take_succ_eq_append_getElem hjl, List.mem_append, List.mem_singleton] at hy
                      rcases hy with hy | rfl
                      · exact HALL.out y hy
                      · exact ⟨HE1.out, HE2.out⟩
                    · obtain rfl : j = k := by omega
                      go_wp2
                      go_roundw
                      case rel =>
                        refine ⟨j + 1, by omega, by go_num, ?_, below_drewN HW4.out _, HB4.out.drewN _, by rw [hc1]; exact HZ4.out.drewN _⟩
                        rw [HTK.out, ← HMC.out, if_neg]
                        rintro (h | h | ⟨y, hy, h | h⟩)
                        · rw [hnm] at h; cases h
                        · rw [hft] at h; cases h
                        · exact (HALL.out y hy).1 h
                        · exact (HALL.out y hy).2 h
                      case measure => simp [intOf]; omega
                · rw [Bool.not_eq_true] at hft
                  rw [hft]
                  go_wp2
                  go_ret
                  exact ⟨by rw [← HMC.out, if_pos (.inr (.inl hft))]; rfl, HW4.out⟩
              · rw [Bool.not_eq_true] at hnm
                rw [hnm]
                go_wp2
                go_ret
                exact ⟨by rw [← HMC.out, if_pos (.inl hnm)]; rfl, HWm.out q⟩
            · obtain rfl : k = ns.length := by omega
              have hme := HME.out
              rw [List.drop_length, mems] at hme
              have HM := Lib.hid hme
              clear hme
              go_wp2
              go_ret
              exact ⟨by rw [← HM.out]; rfl, HW.out⟩
        · have hz : enumB ns [b0] = 0 := by rw [enumB, if_neg (fun h => hnum h.2)]
          rw [Bool.not_eq_true] at hnum
          rw [hnum]
          go_wp2
          go_ret
          exact ⟨by rw [hz]; rfl, HW.out⟩
    · have hz : enumB ns [b0] = 0 := by rw [enumB, if_neg (fun h => hcl h.1)]
      have h1 : (b0.c != 1) = true := by simp; omega
      have h2 : (b0.c != 2) = true := by simp; omega
      have h3 : (b0.c == 1) = false := by simp; omega
      have h4 : (b0.c == 2) = false := by simp; omega
      go_wp2
      go_ret
      exact ⟨by first | rfl | (rw [hz]; rfl), (below_new _ _).trans ((below_new _ _).mono (by simp))⟩

set_option maxHeartbeats 2000000 in
set_option maxRecDepth 100000 in
theorem rcompound_any (d : Nat) (hd4 : d ≤ 1000) (ih : SizedOk d) (t : Ty) (v : Value) (w : World) (ht : TyAt w w.heap.size t v) :
    Calls Try.prog 52 #[v, .int .i64 (d + 1 : Nat)] w fun e w' => e = .returned (.int .i64 (compS (sz d) t)) ∧ Below w.heap.size w w' := by
  cases ht with
  | mk c wd bb fs ds bs ns fA dA bA nA fC dC bC nC fb fo db dO bbb bo nb nO fv bv hf hd hb hn hfz hnz hnr hcap hfA hdA hbA hnA hf0 hf1 hf2 hft hd0 hb0 hbt hn0' hn1' =>
  clear hnz hnr hdA hbA hnA hd0 hb0 hbt hn0' hn1'
  have HF0 := Lib.hid hf0
  have HF1 := Lib.hid hf1
  have HF2 := Lib.hid hf2
  have HFT := Lib.hid hft
  have IH := Lib.hid ih
  clear hf0 hf1 hf2 hft ih
  go_enter Try.func52, Try.ntmps52
  by_cases hbad : bb = true ∨ ds.length + bs.length + ns.length ≠ 0 ∨ wd < 1 ∨ 256 < wd ∨ fs.length = 0 ∨ 16 < fs.length
  · have hz : compS (sz d) (.mk c wd bb fs ds bs ns) = 0 := by unfold compS; exact if_pos hbad
    rw [hz]
    clear hz HF0 HF1 HF2 HFT IH hfz
    go_wp2
    all_goals first
      | (go_ret
         exact ⟨rfl, below_new _ _⟩)
      | (exfalso
         rcases hbad with h | h | h | h | h | h <;> first | omega | (simp_all; done) | (simp_all; omega))
  · have hz : compS (sz d) (.mk c wd bb fs ds bs ns) = flds (sz d) wd fs [] 0 := by unfold compS; exact if_neg hbad
    rw [hz]
    clear hz
    obtain rfl : bb = false := by cases bb <;> simp_all
    have hd1 : 1 ≤ fs.length := by omega
    have hd2 : fs.length ≤ 16 := by omega
    have hw1 : 1 ≤ wd := by omega
    have hw2 : wd ≤ 256 := by omega
    have hfn : ds.length + bs.length + ns.length = 0 := by omega
    clear hbad
    obtain ⟨rfl, hnf⟩ := hfA (by omega)
    have HBX := Lib.hid (Bx.new w 28 #[.int .i64 c, .int .i64 wd, .bool false, .slice (some ⟨fb, fo, none⟩) fs.length fC, .slice dA ds.length dC, .slice bA bs.length bC, .slice nA ns.length nC])
    have HBN := Lib.hid (below_new w (.cells #[.int .i64 c, .int .i64 wd, .bool false, .slice (some ⟨fb, fo, none⟩) fs.length fC, .slice dA ds.length dC, .slice bA bs.length bC, .slice nA ns.length nC] 28))
    go_wp2
    go_loopw [5, 6] (fun x i wr => ∃ (k : Nat) (e : Int), k ≤ fs.length ∧ x = .int .i64 e ∧ i = .int .i64 k ∧ 0 ≤ e ∧ e ≤ 256 ∧ flds (sz d) wd (fs.drop k) ((fs.take k).map Fd.name) e = flds (sz d) wd fs [] 0 ∧ Below w.heap.size w wr ∧
        Bx wr w.heap.size 28 #[.int .i64 c, .int .i64 wd, .bool false, .slice (some ⟨fb, fo, none⟩) fs.length fC, .slice dA ds.length dC, .slice bA bs.length bC, .slice nA ns.length nC]) (fun _ i _ => fs.length - (intOf i).toNat)
    case atStart => exact ⟨0, 0, Nat.zero_le _, rfl, rfl, Int.le_refl _, by omega, rfl, HBN.out, HBX.out⟩
    case round =>
      clear HBN HBX
      obtain ⟨k, e, hk, rfl, rfl, he0, he1, hfl, hW, hB⟩ := hrel
      have c3 := hB.cell 3
      have hlt2 := hB.lt
      have HW := Lib.hid hW
      have HB := Lib.hid hB
      have HFL := Lib.hid hfl
      clear hW hB hfl
      by_cases hlt : k < fs.length
      · have hc := fun o : Nat => HW.out.cell (p := ⟨fb, o, none⟩) hnf
        have g0 := (hc (fo + k * 9)).trans (HF0.out k hlt)
        have g1 := (hc (fo + k * 9 + 1)).trans (HF1.out k hlt)
        have a0 : wr.cell? ⟨fb, fo + k * 9 + 2, none⟩ = some (fv k 0) := (hc _).trans (HF2.out k hlt 0 (by omega))
        have a1 := (hc (fo + k * 9 + 2 + 1)).trans (HF2.out k hlt 1 (by omega))
        have a2 := (hc (fo + k * 9 + 2 + 2)).trans (HF2.out k hlt 2 (by omega))
        have a3 := (hc (fo + k * 9 + 2 + 3)).trans (HF2.out k hlt 3 (by omega))
        have a4 := (hc (fo + k * 9 + 2 + 4)).trans (HF2.out k hlt 4 (by omega))
        have a5 := (hc (fo + k * 9 + 2 + 5)).trans (HF2.out k hlt 5 (by omega))
        have a6 := (hc (fo + k * 9 + 2 + 6)).trans (HF2.out k hlt 6 (by omega))
        clear hc
        have hbt := HFT.out k hlt
        obtain ⟨fA', dA', bA', nA', fC', dC', bC', nC', e0, e1, e2, e3, e4, e5, e6⟩ := hbt.cells
        have hln := hbt.lens
        rw [e0] at a0 hbt
        rw [e1] at a1 hbt
        rw [e2] at a2 hbt
        rw [e3] at a3 hbt
        rw [e4] at a4 hbt
        rw [e5] at a5 hbt
        rw [e6] at a6 hbt
        have HBT1 := Lib.hid hbt
        clear e0 e1 e2 e3 e4 e5 e6 hbt
        have hmz := hfz fs[k] (List.getElem_mem hlt)
        have hfc := HFL.out
        rw [List.drop_eq_getElem_cons hlt, flds] at hfc
        have hsl := sz_le d fs[k].ty
        have hsg := sz_ge d fs[k].ty
        generalize hnn : sz d fs[k].ty = n0 at *
        have HNN := Lib.hid hnn
        have HFC := Lib.hid hfc
        have HTK := Lib.hid (List.take_succ_eq_append_getElem hlt)
        have HWm := Lib.hid (HW.out.alloc HW.out.size (.cells (#[.string fs[k].name, .int .i64 fs[k].pos, .int .i64 fs[k].ty.c, .int .i64 fs[k].ty.w, .bool fs[k].ty.big, .slice fA' fs[k].ty.fs.length fC', .slice dA' fs[k].ty.ds.length dC', .slice bA' fs[k].ty.bs.length bC', .slice nA' fs[k].ty.ns.length nC']) 66))
        have HBm := Lib.hid (Bx.new wr 66 #[.string fs[k].name, .int .i64 fs[k].pos, .int .i64 fs[k].ty.c, .int .i64 fs[k].ty.w, .bool fs[k].ty.big, .slice fA' fs[k].ty.fs.length fC', .slice dA' fs[k].ty.ds.length dC', .slice bA' fs[k].ty.bs.length bC', .slice nA' fs[k].ty.ns.length nC'])
        have HWn := Lib.hid (Below.alloc (Below.refl wr.heap.size wr) (Nat.le_refl _) (.cells (#[.string fs[k].name, .int .i64 fs[k].pos, .int .i64 fs[k].ty.c, .int .i64 fs[k].ty.w, .bool fs[k].ty.big, .slice fA' fs[k].ty.fs.length fC', .slice dA' fs[k].ty.ds.length dC', .slice bA' fs[k].ty.bs.length bC', .slice nA' fs[k].ty.ns.length nC']) 66))
        clear hfc hnn HFL
        go_wp2_with (go_at_call 34; refine (IH.out fs[k].ty _ _ ?_).mono ?_)
        · exact (HBT1.out.later HWm.out).up HWm.out.size
        rintro _ w3 ⟨he, hb3⟩
        rw [HNN.out] at he
        subst he
        have hs4 : (wr.alloc (.cells (#[.string fs[k].name, .int .i64 fs[k].pos, .int .i64 fs[k].ty.c, .int .i64 fs[k].ty.w, .bool fs[k].ty.big, .slice fA' fs[k].ty.fs.length fC', .slice dA' fs[k].ty.ds.length dC', .slice bA' fs[k].ty.bs.length bC', .slice nA' fs[k].ty.ns.length nC']) 66)).heap.size = wr.heap.size + 1 := by simp
        rw [hs4] at hb3
        have HW3 := Lib.hid (below_then HWm.out HWm.out.size (by rw [hs4]; exact hb3))
        have HB3 := Lib.hid ((HB.out.later HWn.out (by omega)).later hb3 (by omega))
        have HM3 := Lib.hid (HBm.out.later hb3 (by omega))
        have d3 := HB3.out.cell 3
        have d1 := HB3.out.cell 1
        have m0 := HM3.out.cell 0
        have m1 := HM3.out.cell 1
        clear hs4 hb3 HWm HBm HWn HB a0 a1 a2 a3 a4 a5 a6 g0 g1 c3 HBT1
        by_cases hz : n0 = 0
        · have hR : flds (sz d) wd fs [] 0 = 0 := by rw [← HFC.out, if_pos (.inl hz)]
          have HR := Lib.hid hR
          clear hR
          subst hz
          go_wp2
          go_ret
          exact ⟨by rw [HR.out]; rfl, HW3.out⟩
        have hzb : (n0 == 0) = false := beq_eq_false_iff_ne.mpr hz
        by_cases hnm : nameB fs[k].name = true
        rotate_left
        · have hR : flds (sz d) wd fs [] 0 = 0 := by rw [← HFC.out, if_pos (.inr (.inl (by rwa [Bool.not_eq_true] at hnm)))]
          have HR := Lib.hid hR
          clear hR
          rw [Bool.not_eq_true] at hnm
          go_wp2_with (go_at_call 74; refine (Name_any _ _ ?_).mono ?_)
          · exact hmz
          rintro _ w4 ⟨rfl, ⟨⟨q, rfl⟩⟩⟩
          rw [hnm]
          go_wp2
          go_ret
          exact ⟨by rw [HR.out]; rfl, below_drewN HW3.out q⟩
        generalize hpp : fs[k].pos = p at *
        have HPP := Lib.hid hpp
        clear hpp
        by_cases hbd : p < e ∨ wd < p + n0
        · have hR : flds (sz d) wd fs [] 0 = 0 := by rw [← HFC.out, if_pos (by omega)]
          have HR := Lib.hid hR
          clear hR
          go_wp2_with (go_at_call 74; refine (Name_any _ _ ?_).mono ?_)
          · exact hmz
          rintro _ w4 ⟨rfl, ⟨⟨q, rfl⟩⟩⟩
          rw [hnm]
          by_cases q1 : p < e
          · go_wp2
            go_ret
            exact ⟨by rw [HR.out]; rfl, below_drewN HW3.out q⟩
          by_cases q2 : 256 < p
          · go_wp2
            go_ret
            exact ⟨by rw [HR.out]; rfl, below_drewN HW3.out q⟩
          have q3 : wd < p + n0 := by omega
          go_wp2
          go_ret
          exact ⟨by rw [HR.out]; rfl, below_drewN HW3.out q⟩
        have q1 : e ≤ p := by omega
        have q2 : p ≤ 256 := by omega
        have q3 : p + n0 ≤ wd := by omega
        go_wp2_with (go_at_call 74; refine (Name_any _ _ ?_).mono ?_)
        · exact hmz
        rintro _ w4 ⟨rfl, ⟨⟨q, rfl⟩⟩⟩
        rw [hnm]
        go_wp2
        go_loopw [9] (fun x W => ∃ j q2 : Nat, j ≤ k ∧ x = .int .i64 j ∧ W = w3.drewN q2 ∧ ∀ y ∈ fs.take j, y.name ≠ fs[k].name) (fun x _ => k - (intOf x).toNat)
        case atStart => exact ⟨0, q, Nat.zero_le _, rfl, rfl, fun y hy => by simp at hy⟩
        case round =>
          obtain ⟨j, q2, hj, rfl, rfl, hall⟩ := hrel
          have HALL := Lib.hid hall
          clear hall
          by_cases hjk : j < k
          · have hjl : j < fs.length := by omega
            have n0' := (HW3.out.cell (p := ⟨fb, fo + j * 9, none⟩) hnf).trans (HF0.out j hjl)
            by_cases e1 : fs[j].name = fs[k].name
            · have e1b : (fs[j].name.toList == fs[k].name.toList) = true := (Go.Lib.bytes_beq_iff _ _).mpr e1
              have hR : flds (sz d) wd fs [] 0 = 0 := by
                have hin : fs[k].name ∈ (fs.take k).map Fd.name := List.mem_map.mpr ⟨fs[j], List.mem_take_iff_getElem.mpr ⟨j, by omega, rfl⟩, e1⟩
                rw [← HFC.out, if_pos (.inr (.inr (.inr (.inr hin))))]
              have HR := Lib.hid hR
              clear hR e1
              go_wp2
              go_quiet (fail)
              go_wp2
              go_ret
              exact ⟨by rw [HR.out]; rfl, by rw [World.drewN_drewN]; exact below_drewN HW3.out _⟩
            have e1b : (fs[j].name.toList == fs[k].name.toList) = false := (Go.Lib.bytes_beq_false_iff _ _).mpr e1
            have HE1 := Lib.hid e1
            clear e1
            go_wp2
            go_quiet (fail)
            go_wp2
            go_roundw
            case measure => simp [intOf]; omega
            refine ⟨j + 1, q2 + nq, by omega, by go_num, rfl, fun y hy => ?_⟩
            rw [List.take_succ_eq_append_getElem hjl, List.mem_append, List.mem_singleton] at hy
            rcases hy with hy | rfl
            · exact HALL.out y hy
            · exact HE1.out
          · obtain rfl : j = k := by omega
            go_wp2
            go_roundw
            case rel =>
              refine ⟨j + 1, p + n0, by omega, by go_num, by go_num, by omega, by omega, ?_, below_drewN HW3.out _, HB3.out.drewN _⟩
              rw [HTK.out, List.map_append, ← HFC.out, if_neg]
              · rfl
              rintro (h | h | h | h | h)
              · exact hz h
              · rw [hnm] at h; cases h
              · omega
              · omega
              · rw [List.mem_map] at h
                obtain ⟨y, hy, hh⟩ := h
                exact HALL.out y hy hh
            case measure => simp [intOf]; omega
      · obtain rfl : k = fs.length := by omega
        have hme := HFL.out
        rw [List.drop_length, flds] at hme
        have HM := Lib.hid hme
        clear hme
        have c1 := HB.out.cell 1
        go_wp2
        go_ret
        exact ⟨by rw [← HM.out]; rfl, HW.out⟩

set_option maxHeartbeats 2000000 in
set_option maxRecDepth 100000 in
theorem sized_zero : SizedOk 0 := by
  intro t v w ht
  obtain ⟨fA, dA, bA, nA, fC, dC, bC, nC, rfl⟩ := ht.shape
  go_enter Try.func34, Try.ntmps34
  go_wp2
  go_ret
  exact ⟨rfl, below_new _ _⟩

set_option maxHeartbeats 2000000 in
set_option maxRecDepth 100000 in
theorem sized_succ (d : Nat) (hd4 : d ≤ 1000) (ih : SizedOk d) : SizedOk (d + 1) := by
  intro t v w ht
  obtain ⟨fA, dA, bA, nA, fC, dC, bC, nC, rfl⟩ := ht.shape
  have hln := ht.lens
  have HT := Lib.hid ((ht.later (below_new w (.cells #[.int .i64 t.c, .int .i64 t.w, .bool t.big, .slice fA t.fs.length fC, .slice dA t.ds.length dC, .slice bA t.bs.length bC, .slice nA t.ns.length nC] 28))).up (below_new w (.cells #[.int .i64 t.c, .int .i64 t.w, .bool t.big, .slice fA t.fs.length fC, .slice dA t.ds.length dC, .slice bA t.bs.length bC, .slice nA t.ns.length nC] 28)).size)
  have HBX := Lib.hid (Bx.new w 28 #[.int .i64 t.c, .int .i64 t.w, .bool t.big, .slice fA t.fs.length fC, .slice dA t.ds.length dC, .slice bA t.bs.length bC, .slice nA t.ns.length nC])
  have IH := Lib.hid ih
  clear ih ht
  have hsz : sz (d + 1) t = cap256 (if t.c = 5 then compS (sz d) t else if t.c = 6 then arrS (sz d) t else if t.c = 7 then enumS d t else numS t) := rfl
  have HSZ := Lib.hid hsz
  clear hsz
  go_enter Try.func34, Try.ntmps34
  by_cases h5 : t.c = 5
  · have hz := HSZ.out
    rw [if_pos h5] at hz
    generalize hr : compS (sz d) t = r at hz
    have HR := Lib.hid hr
    have HZ := Lib.hid hz
    have ht5 := HT.out
    rw [h5] at ht5
    have HT5 := Lib.hid ht5
    clear hr hz ht5 HT HBX HSZ
    go_wp2_with (go_at_call 52; refine (rcompound_any d hd4 IH.out t _ _ ?_).mono ?_)
    · exact HT5.out
    rintro _ w2 ⟨he, hb2⟩
    rw [HR.out] at he
    subst he
    have HW := Lib.hid (below_more (below_new _ _) hb2)
    clear hb2
    by_cases hr : 256 < r
    · go_wp2
      go_ret
      exact ⟨by rw [HZ.out, cap256, if_pos (by omega)]; rfl, HW.out⟩
    · go_wp2
      go_ret
      exact ⟨by rw [HZ.out, cap256, if_neg (by omega)]; rfl, HW.out⟩
  by_cases h6 : t.c = 6
  · have hz := HSZ.out
    rw [if_neg h5, if_pos h6] at hz
    generalize hr : arrS (sz d) t = r at hz
    have HR := Lib.hid hr
    have HZ := Lib.hid hz
    have ht5 := HT.out
    rw [h6] at ht5
    have HT5 := Lib.hid ht5
    clear hr hz ht5 HT HBX HSZ
    go_wp2_with (go_at_call 53; refine (rarray_any d hd4 IH.out t _ _ ?_).mono ?_)
    · exact HT5.out
    rintro _ w2 ⟨he, hb2⟩
    rw [HR.out] at he
    subst he
    have HW := Lib.hid (below_more (below_new _ _) hb2)
    clear hb2
    by_cases hr : 256 < r
    · go_wp2
      go_ret
      exact ⟨by rw [HZ.out, cap256, if_pos (by omega)]; rfl, HW.out⟩
    · go_wp2
      go_ret
      exact ⟨by rw [HZ.out, cap256, if_neg (by omega)]; rfl, HW.out⟩
  by_cases h7 : t.c = 7
  · have hz := HSZ.out
    rw [if_neg h5, if_neg h6, if_pos h7] at hz
    generalize hr : enumS d t = r at hz
    have HR := Lib.hid hr
    have HZ := Lib.hid hz
    have ht5 := HT.out
    rw [h7] at ht5
    have HT5 := Lib.hid ht5
    clear hr hz ht5 HT HBX HSZ
    go_wp2_with (go_at_call 54; refine (renum_any d hd4 t _ _ ?_).mono ?_)
    · exact HT5.out
    rintro _ w2 ⟨he, hb2⟩
    rw [HR.out] at he
    subst he
    have HW := Lib.hid (below_more (below_new _ _) hb2)
    clear hb2
    by_cases hr : 256 < r
    · go_wp2
      go_ret
      exact ⟨by rw [HZ.out, cap256, if_pos (by omega)]; rfl, HW.out⟩
    · go_wp2
      go_ret
      exact ⟨by rw [HZ.out, cap256, if_neg (by omega)]; rfl, HW.out⟩
  have hz := HSZ.out
  rw [if_neg h5, if_neg h6, if_neg h7] at hz
  have HZ := Lib.hid hz
  clear hz HSZ
  have b5 : (t.c == 5) = false := beq_eq_false_iff_ne.mpr h5
  have b6 : (t.c == 6) = false := beq_eq_false_iff_ne.mpr h6
  have b7 : (t.c == 7) = false := beq_eq_false_iff_ne.mpr h7
  go_wp2_with (go_at_call 55; refine (number_any t _ _ ?_).mono ?_)
  · exact HT.out
  rintro _ w2 ⟨rfl, hb2⟩
  have HW := Lib.hid (below_more (below_new _ _) hb2)
  have hB := HBX.out.later hb2 (by simp)
  have c0 := hB.cell 0
  have c1 := hB.cell 1
  clear hB hb2 HBX HT
  by_cases hnum : numB t = true
  · have hni := (numB_iff t).mp hnum
    have w1 : 1 ≤ t.w := by omega
    have w2 : t.w ≤ 8 := by omega
    rw [hnum]
    by_cases h4 : t.c = 4
    · have hr : sz (d + 1) t = 2 * t.w := by rw [HZ.out, numS, if_pos hnum, if_pos h4, cap256, if_neg (by omega)]
      have HR := Lib.hid hr
      clear hr hni
      go_wp2
      go_ret
      exact ⟨by rw [HR.out]; rfl, HW.out⟩
    · have hr : sz (d + 1) t = t.w := by rw [HZ.out, numS, if_pos hnum, if_neg h4, cap256, if_neg (by omega)]
      have HR := Lib.hid hr
      have b4 : (t.c == 4) = false := beq_eq_false_iff_ne.mpr h4
      clear hr hni
      go_wp2
      go_ret
      exact ⟨by rw [HR.out]; rfl, HW.out⟩
  · have hr : sz (d + 1) t = 0 := by rw [HZ.out, numS, if_neg hnum]; rfl
    have HR := Lib.hid hr
    clear hr
    rw [Bool.not_eq_true] at hnum
    rw [hnum]
    go_wp2
    all_goals
      go_ret
      exact ⟨by rw [HR.out]; rfl, HW.out⟩

theorem sized_any (d : Nat) (h : d ≤ 1000) : SizedOk d := by
  induction d with
  | zero => exact sized_zero
  | succ d ih => exact sized_succ d (by omega) (ih (by omega))

/-- The size of a type, and the error's number. -/
noncomputable def sizeV (t : Ty) : Value := if sz 4 t = 0 then .tuple #[.int .i64 0, .int .i64 15] else .tuple #[.int .i64 (sz 4 t), .int .i64 0]
set_option maxHeartbeats 2000000 in
theorem rsize_any (t : Ty) (v : Value) (w : World) (ht : TyAt w w.heap.size t v) :
    Calls Try.prog 16 #[v] w fun e w' => e = .returned (sizeV t) ∧ Below w.heap.size w w' := by
  obtain ⟨fA, dA, bA, nA, fC, dC, bC, nC, rfl⟩ := ht.shape
  have HT := Lib.hid ((ht.later (below_new w (.cells #[.int .i64 t.c, .int .i64 t.w, .bool t.big, .slice fA t.fs.length fC, .slice dA t.ds.length dC, .slice bA t.bs.length bC, .slice nA t.ns.length nC] 28))).up (below_new w (.cells #[.int .i64 t.c, .int .i64 t.w, .bool t.big, .slice fA t.fs.length fC, .slice dA t.ds.length dC, .slice bA t.bs.length bC, .slice nA t.ns.length nC] 28)).size)
  clear ht
  generalize hr : sz 4 t = r
  have HR := Lib.hid hr
  have hv : sizeV t = if r = 0 then .tuple #[.int .i64 0, .int .i64 15] else .tuple #[.int .i64 r, .int .i64 0] := by rw [sizeV, hr]
  rw [hv]
  clear hr hv
  go_enter Try.func16, Try.ntmps16
  go_wp2_with (go_at_call 34; refine (sized_any 4 (by omega) t _ _ ?_).mono ?_)
  · exact HT.out
  rintro _ w2 ⟨he, hb2⟩
  rw [HR.out] at he
  subst he
  have HW := Lib.hid (below_more (below_new _ _) hb2)
  clear hb2
  by_cases hz : r = 0
  · subst hz
    go_wp2
    go_ret2
    exact ⟨rfl, HW.out⟩
  · have hb : (r == 0) = false := beq_eq_false_iff_ne.mpr hz
    have hif : (if r = 0 then Value.tuple #[.int .i64 0, .int .i64 15] else .tuple #[.int .i64 r, .int .i64 0]) = .tuple #[.int .i64 r, .int .i64 0] := if_neg hz
    have HIF := Lib.hid hif
    clear hif
    go_wp2
    go_ret2
    exact ⟨by first | rfl | (rw [HIF.out]; rfl), HW.out⟩
end Go.Proofs.Ytbdhihgokkcmfaa.Ty9
