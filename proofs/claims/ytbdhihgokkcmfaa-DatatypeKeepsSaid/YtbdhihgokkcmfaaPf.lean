/- The program's compound. -/
import Derived.Test.YtbdhihgokkcmfaaPd
namespace Go.Proofs.Ytbdhihgokkcmfaa.Ty9
set_option linter.unusedVariables false
set_option linter.unusedSimpArgs false
open Go.RowKit Wd

set_option maxHeartbeats 2000000 in
set_option maxRecDepth 100000 in
theorem pcompound_any (d : Nat) (hd4 : d ≤ 1000) (ih : PSizeOk d) (t : Ty) (v : Value) (w : World) (ht : TyAt w w.heap.size t v) (hbig : t.big = false) :
    Calls Try.prog 49 #[v, .int .i64 (d + 1 : Nat)] w fun e w' => e = .returned (.int .i64 (compS (sz d) t)) ∧ Below w.heap.size w w' := by
  have HTA := Lib.hid ht
  revert hbig HTA
  cases ht with
  | mk c wd bb fs ds bs ns fA dA bA nA fC dC bC nC fb fo db dO bbb bo nb nO fv bv hf hd hb hn hfz hnz hnr hcap hfA hdA hbA hnA hf0 hf1 hf2 hft hd0 hb0 hbt hn0' hn1' =>
  intro hbig HTA
  obtain rfl : bb = false := hbig
  clear hnz hnr hdA hbA hnA hd0 hb0 hbt hn0' hn1'
  have HZS := Lib.hid (zs_of hf0 hf1 hf2 hft)
  have HF0 := Lib.hid hf0
  have HF1 := Lib.hid hf1
  have HF2 := Lib.hid hf2
  have HFT := Lib.hid hft
  have IH := Lib.hid ih
  clear hf0 hf1 hf2 hft ih
  have HBX := Lib.hid (Bx.new w 28 #[.int .i64 c, .int .i64 wd, .bool false, .slice fA fs.length fC, .slice dA ds.length dC, .slice bA bs.length bC, .slice nA ns.length nC])
  have HBN := Lib.hid (below_new w (.cells #[.int .i64 c, .int .i64 wd, .bool false, .slice fA fs.length fC, .slice dA ds.length dC, .slice bA bs.length bC, .slice nA ns.length nC] 28))
  generalize hR : compS (sz d) (.mk c wd false fs ds bs ns) = R
  have HR := Lib.hid hR
  clear hR
  go_enter Try.func49, Try.ntmps49
  go_wp2_with (go_at_call 48; refine (bare_any (.mk c wd false fs ds bs ns) _ _ _ _ _ _ ?_).mono ?_)
  · exact (HTA.out.later HBN.out).up HBN.out.size
  rintro _ w2 ⟨rfl, hb2⟩
  have HW2 := Lib.hid (below_more HBN.out hb2)
  have HBX2 := Lib.hid (HBX.out.later hb2 (by simp))
  clear hb2 HBX HBN HTA
  have c1 := HBX2.out.cell 1
  have c3 := HBX2.out.cell 3
  by_cases hbad : ds.length + bs.length + ns.length ≠ 0 ∨ wd < 1 ∨ 256 < wd ∨ fs.length = 0 ∨ 16 < fs.length
  · have hz : compS (sz d) (.mk c wd false fs ds bs ns) = 0 := by unfold compS; exact if_pos (.inr hbad)
    have HZ := Lib.hid (hz.symm.trans HR.out)
    clear hz HR IH HF0 HF1 HF2 HFT HZS hfz
    by_cases hbr : ds.length = 0 ∧ bs.length = 0 ∧ ns.length = 0
    · rw [show (decide ((Ty.mk c wd false fs ds bs ns).ds.length = 0)) = true from decide_eq_true hbr.1, show (decide ((Ty.mk c wd false fs ds bs ns).bs.length = 0)) = true from decide_eq_true hbr.2.1, show (decide ((Ty.mk c wd false fs ds bs ns).ns.length = 0)) = true from decide_eq_true hbr.2.2]
      go_wp2
      all_goals first
        | (go_ret
           exact ⟨by first | rfl | (rw [← HZ.out]; rfl), HW2.out⟩)
        | (exfalso
           rcases hbad with h | h | h | h | h <;> first | omega | (simp_all; done) | (simp_all; omega))
    · have hff : ((true || decide ((Ty.mk c wd false fs ds bs ns).fs.length = 0)) && (false || decide ((Ty.mk c wd false fs ds bs ns).ds.length = 0)) && (false || decide ((Ty.mk c wd false fs ds bs ns).bs.length = 0)) && (false || decide ((Ty.mk c wd false fs ds bs ns).ns.length = 0))) = false := by
        have hor : ds.length ≠ 0 ∨ bs.length ≠ 0 ∨ ns.length ≠ 0 := by omega
        rcases hor with h | h | h
        · rw [show (decide ((Ty.mk c wd false fs ds bs ns).ds.length = 0)) = false from decide_eq_false h]; rfl
        · rw [show (decide ((Ty.mk c wd false fs ds bs ns).bs.length = 0)) = false from decide_eq_false h]
          cases (decide ((Ty.mk c wd false fs ds bs ns).ds.length = 0)) <;> rfl
        · rw [show (decide ((Ty.mk c wd false fs ds bs ns).ns.length = 0)) = false from decide_eq_false h]
          cases (decide ((Ty.mk c wd false fs ds bs ns).ds.length = 0)) <;> cases (decide ((Ty.mk c wd false fs ds bs ns).bs.length = 0)) <;> rfl
      rw [hff]
      go_wp2
      all_goals
        go_ret
        exact ⟨by first | rfl | (rw [← HZ.out]; rfl), HW2.out⟩
  · have hz : compS (sz d) (.mk c wd false fs ds bs ns) = flds (sz d) wd fs [] 0 := by
      unfold compS
      exact if_neg (fun h => by
        rcases h with h | h
        · cases h
        · exact hbad h)
    have HZ := Lib.hid (hz.symm.trans HR.out)
    clear hz HR
    have hd1 : 1 ≤ fs.length := by omega
    have hd2 : fs.length ≤ 16 := by omega
    have hw1 : 1 ≤ wd := by omega
    have hw2 : wd ≤ 256 := by omega
    have hdz : ((fs.length : Int) == 0) = false := by rw [beq_eq_false_iff_ne]; omega
    rw [show (decide ((Ty.mk c wd false fs ds bs ns).ds.length = 0)) = true from decide_eq_true (show ds.length = 0 by omega), show (decide ((Ty.mk c wd false fs ds bs ns).bs.length = 0)) = true from decide_eq_true (show bs.length = 0 by omega), show (decide ((Ty.mk c wd false fs ds bs ns).ns.length = 0)) = true from decide_eq_true (show ns.length = 0 by omega)]
    clear hbad
    obtain ⟨rfl, hnf⟩ := hfA (by omega)
    go_wp2
    go_loopw [5, 38] (fun x i wr => ∃ (k : Nat) (e : Int), k ≤ fs.length ∧ x = .int .i64 e ∧ i = .int .i64 k ∧ 0 ≤ e ∧ e ≤ 256 ∧ flds (sz d) wd (fs.drop k) ((fs.take k).map Fd.name) e = R ∧ Below w.heap.size w wr ∧
        Bx wr w.heap.size 28 #[.int .i64 c, .int .i64 wd, .bool false, .slice (some ⟨fb, fo, none⟩) fs.length fC, .slice dA ds.length dC, .slice bA bs.length bC, .slice nA ns.length nC]) (fun _ i _ => fs.length - (intOf i).toNat)
    case atStart => exact ⟨0, 0, Nat.zero_le _, rfl, rfl, Int.le_refl _, by omega, HZ.out, HW2.out, HBX2.out⟩
    case round =>
      clear HW2 HBX2 c1 c3
      obtain ⟨k, e, hk, rfl, rfl, he0, he1, hfl, hW, hB⟩ := hrel
      have c3 := hB.cell 3
      have hlt2 := hB.lt
      have HW := Lib.hid hW
      have HB := Lib.hid hB
      have HFL := Lib.hid hfl
      clear hW hB hfl
      by_cases hlt : k < fs.length
      · have hc := fun o : Nat => HW.out.cell (p := ⟨fb, o, none⟩) hnf
        have g0 := (hc (fo + k * 9)).trans (HF0.out k hlt)
        have g1 := (hc (fo + k * 9 + 1)).trans (HF1.out k hlt)
        have a0 : wr.cell? ⟨fb, fo + k * 9 + 2, none⟩ = some (fv k 0) := (hc _).trans (HF2.out k hlt 0 (by omega))
        have a1 := (hc (fo + k * 9 + 2 + 1)).trans (HF2.out k hlt 1 (by omega))
        have a2 := (hc (fo + k * 9 + 2 + 2)).trans (HF2.out k hlt 2 (by omega))
        have a3 := (hc (fo + k * 9 + 2 + 3)).trans (HF2.out k hlt 3 (by omega))
        have a4 := (hc (fo + k * 9 + 2 + 4)).trans (HF2.out k hlt 4 (by omega))
        have a5 := (hc (fo + k * 9 + 2 + 5)).trans (HF2.out k hlt 5 (by omega))
        have a6 := (hc (fo + k * 9 + 2 + 6)).trans (HF2.out k hlt 6 (by omega))
        clear hc
        have hbt := HFT.out k hlt
        obtain ⟨fA', dA', bA', nA', fC', dC', bC', nC', e0, e1, e2, e3, e4, e5, e6⟩ := hbt.cells
        have hln := hbt.lens
        rw [e0] at a0 hbt
        rw [e1] at a1 hbt
        rw [e2] at a2 hbt
        rw [e3] at a3 hbt
        rw [e4] at a4 hbt
        rw [e5] at a5 hbt
        rw [e6] at a6 hbt
        have HBT1 := Lib.hid hbt
        clear e0 e1 e2 e3 e4 e5 e6 hbt
        have hmz := hfz fs[k] (List.getElem_mem hlt)
        have hfc := HFL.out
        rw [List.drop_eq_getElem_cons hlt, flds] at hfc
        have hsl := sz_le d fs[k].ty
        have hsg := sz_ge d fs[k].ty
        generalize hnn : sz d fs[k].ty = n0 at *
        have HNN := Lib.hid hnn
        have HFC := Lib.hid hfc
        have HTK := Lib.hid (List.take_succ_eq_append_getElem hlt)
        have HWm := Lib.hid (HW.out.alloc HW.out.size (.cells (#[.string fs[k].name, .int .i64 fs[k].pos, .int .i64 fs[k].ty.c, .int .i64 fs[k].ty.w, .bool fs[k].ty.big, .slice fA' fs[k].ty.fs.length fC', .slice dA' fs[k].ty.ds.length dC', .slice bA' fs[k].ty.bs.length bC', .slice nA' fs[k].ty.ns.length nC']) 66))
        have HBm := Lib.hid (Bx.new wr 66 #[.string fs[k].name, .int .i64 fs[k].pos, .int .i64 fs[k].ty.c, .int .i64 fs[k].ty.w, .bool fs[k].ty.big, .slice fA' fs[k].ty.fs.length fC', .slice dA' fs[k].ty.ds.length dC', .slice bA' fs[k].ty.bs.length bC', .slice nA' fs[k].ty.ns.length nC'])
        have HWn := Lib.hid (Below.alloc (Below.refl wr.heap.size wr) (Nat.le_refl _) (.cells (#[.string fs[k].name, .int .i64 fs[k].pos, .int .i64 fs[k].ty.c, .int .i64 fs[k].ty.w, .bool fs[k].ty.big, .slice fA' fs[k].ty.fs.length fC', .slice dA' fs[k].ty.ds.length dC', .slice bA' fs[k].ty.bs.length bC', .slice nA' fs[k].ty.ns.length nC']) 66))
        clear hfc hnn HFL
        go_wp2_with (go_at_call 33; refine (IH.out fs[k].ty _ _ ?_).mono ?_)
        · exact (HBT1.out.later HWm.out).up HWm.out.size
        rintro _ w3 ⟨he, hb3⟩
        rw [HNN.out] at he
        subst he
        have hs4 : (wr.alloc (.cells (#[.string fs[k].name, .int .i64 fs[k].pos, .int .i64 fs[k].ty.c, .int .i64 fs[k].ty.w, .bool fs[k].ty.big, .slice fA' fs[k].ty.fs.length fC', .slice dA' fs[k].ty.ds.length dC', .slice bA' fs[k].ty.bs.length bC', .slice nA' fs[k].ty.ns.length nC']) 66)).heap.size = wr.heap.size + 1 := by simp
        rw [hs4] at hb3
        have HW3 := Lib.hid (below_then HWm.out HWm.out.size (by rw [hs4]; exact hb3))
        have HB3 := Lib.hid ((HB.out.later HWn.out (by omega)).later hb3 (by omega))
        have HM3 := Lib.hid (HBm.out.later hb3 (by omega))
        have d3 := HB3.out.cell 3
        have d1 := HB3.out.cell 1
        have m0 := HM3.out.cell 0
        have m1 := HM3.out.cell 1
        clear hs4 hb3 HWm HBm HWn HB a0 a1 a2 a3 a4 a5 a6 g0 g1 c3 HBT1
        obtain ⟨zs, hzl, hzn, hzc⟩ := HZS.out
        have hany := any_names hzl hzn k (by omega) fs[k].name
        generalize hg : ((zs.take k).any fun x => x.name.toList == fs[k].name.toList) = tw at *
        have HG := Lib.hid hg
        have HAN := Lib.hid hany
        have HCT := Lib.hid (containsF fb fo k fC zs fs[k].name wr.heap.size w3 HM3.out.lt m0 (by omega) (by omega) (Nat.lt_of_lt_of_le hnf HW3.out.size) (fun j hj i v hv => (HW3.out.cell (p := ⟨fb, fo + j * 9 + i, none⟩) hnf).trans (hzc j hj i v hv)))
        have hkc : k ≤ fC := by omega
        clear hg hany hzl hzn hzc
        go_wp2_with (go_at_call 68; refine HCT.out.mono ?_)
        rintro _ w4 ⟨he, hb4⟩
        rw [HG.out] at he
        subst he
        have HW4 := Lib.hid (below_then HW3.out HW3.out.size hb4)
        have HB4 := Lib.hid (HB3.out.later hb4 HB3.out.lt)
        have HM4 := Lib.hid (HM3.out.later hb4 HM3.out.lt)
        clear hb4 HCT HG d3 d1 m0 m1 HB3 HM3 HW3
        have d1 := HB4.out.cell 1
        have m0 := HM4.out.cell 0
        have m1 := HM4.out.cell 1
        by_cases hz : n0 = 0
        · have hR : 0 = R := by rw [← HFC.out, if_pos (.inl hz)]
          have HR := Lib.hid hR
          clear hR
          subst hz
          go_wp2
          go_ret
          exact ⟨by rw [← HR.out]; rfl, HW4.out⟩
        have hzb : (n0 == 0) = false := beq_eq_false_iff_ne.mpr hz
        by_cases htw : tw = true
        · have hR : 0 = R := by rw [← HFC.out, if_pos (.inr (.inr (.inr (.inr (HAN.out.mp htw)))))]
          have HR := Lib.hid hR
          clear hR
          subst htw
          go_wp2
          go_ret
          exact ⟨by rw [← HR.out]; rfl, HW4.out⟩
        obtain rfl : tw = false := by cases tw <;> simp_all
        have hno : fs[k].name ∉ (fs.take k).map Fd.name := fun h => by have := HAN.out.mpr h; cases this
        have HNO := Lib.hid hno
        clear hno htw
        by_cases hnm : nameB fs[k].name = true
        rotate_left
        · have hR : 0 = R := by rw [← HFC.out, if_pos (.inr (.inl (by rwa [Bool.not_eq_true] at hnm)))]
          have HR := Lib.hid hR
          clear hR
          rw [Bool.not_eq_true] at hnm
          go_wp2_with (go_at_call 70; refine (name_any _ _ ?_).mono ?_)
          · exact hmz
          rintro _ w5 ⟨rfl, ⟨⟨q, rfl⟩⟩⟩
          rw [hnm]
          go_wp2
          go_ret
          exact ⟨by rw [← HR.out]; rfl, below_drewN HW4.out q⟩
        generalize hpp : fs[k].pos = p at *
        have HPP := Lib.hid hpp
        clear hpp
        by_cases hbd : p < e ∨ wd < p + n0
        · have hR : 0 = R := by rw [← HFC.out, if_pos (by omega)]
          have HR := Lib.hid hR
          clear hR
          go_wp2_with (go_at_call 70; refine (name_any _ _ ?_).mono ?_)
          · exact hmz
          rintro _ w5 ⟨rfl, ⟨⟨q, rfl⟩⟩⟩
          rw [hnm]
          by_cases q1 : p < e
          · go_wp2
            go_ret
            exact ⟨by rw [← HR.out]; rfl, below_drewN HW4.out q⟩
          have q3 : wd - n0 < p := by omega
          go_wp2
          go_ret
          exact ⟨by rw [← HR.out]; rfl, below_drewN HW4.out q⟩
        have q1 : e ≤ p := by omega
        have q3 : p ≤ wd - n0 := by omega
        go_wp2_with (go_at_call 70; refine (name_any _ _ ?_).mono ?_)
        · exact hmz
        rintro _ w5 ⟨rfl, ⟨⟨q, rfl⟩⟩⟩
        rw [hnm]
        go_wp2
        go_roundw
        case rel =>
          refine ⟨k + 1, p + n0, by omega, by go_num, by go_num, by omega, by omega, ?_, below_drewN HW4.out _, HB4.out.drewN _⟩
          rw [HTK.out, List.map_append, ← HFC.out, if_neg]
          · rfl
          rintro (h | h | h | h | h)
          · exact hz h
          · rw [hnm] at h; cases h
          · omega
          · omega
          · exact HNO.out h
        case measure => simp [intOf]; omega
      · obtain rfl : k = fs.length := by omega
        have hme := HFL.out
        rw [List.drop_length, flds] at hme
        have HM := Lib.hid hme
        clear hme
        have c1 := HB.out.cell 1
        go_wp2
        go_ret
        exact ⟨by rw [← HM.out]; rfl, HW.out⟩
end Go.Proofs.Ytbdhihgokkcmfaa.Ty9
