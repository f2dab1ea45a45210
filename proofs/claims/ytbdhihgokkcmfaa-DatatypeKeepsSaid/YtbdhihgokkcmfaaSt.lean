/- The reference's compound: what a compound type's size is. -/
import Derived.Test.YtbdhihgokkcmfaaTv
import Derived.Lib.SlicesS
namespace Go.Proofs.Ytbdhihgokkcmfaa.Ty9
set_option linter.unusedVariables false
set_option linter.unusedSimpArgs false
open Go.RowKit Wd

set_option maxHeartbeats 2000000 in
set_option maxRecDepth 100000 in
theorem rcompound_any (d : Nat) (hd4 : d ≤ 1000) (ih : SizedOk d) (t : Ty) (v : Value) (w : World) (ht : TyAt w w.heap.size t v) :
    Calls Try.prog 52 #[v, .int .i64 (d + 1 : Nat)] w fun e w' => e = .returned (.int .i64 (compS (sz d) t)) ∧ Below w.heap.size w w' := by
  cases ht with
  | mk c wd bb fs ds bs ns fA dA bA nA fC dC bC nC fb fo db dO bbb bo nb nO fv bv hf hd hb hn hfz hnz hnr hcap hfA hdA hbA hnA hf0 hf1 hf2 hft hd0 hb0 hbt hn0' hn1' =>
  clear hnz hnr hdA hbA hnA hd0 hb0 hbt hn0' hn1'
  have HF0 := Lib.hid hf0
  have HF1 := Lib.hid hf1
  have HF2 := Lib.hid hf2
  have HFT := Lib.hid hft
  have IH := Lib.hid ih
  clear hf0 hf1 hf2 hft ih
  go_enter Try.func52, Try.ntmps52
  by_cases hbad : bb = true ∨ ds.length + bs.length + ns.length ≠ 0 ∨ wd < 1 ∨ 256 < wd ∨ fs.length = 0 ∨ 16 < fs.length
  · have hz : compS (sz d) (.mk c wd bb fs ds bs ns) = 0 := by unfold compS; exact if_pos hbad
    rw [hz]
    clear hz HF0 HF1 HF2 HFT IH hfz
    go_wp2
    all_goals first
      | (go_ret
         exact ⟨rfl, below_new _ _⟩)
      | (exfalso
         rcases hbad with h | h | h | h | h | h <;> first | omega | (simp_all; done) | (simp_all; omega))
  · have hz : compS (sz d) (.mk c wd bb fs ds bs ns) = flds (sz d) wd fs [] 0 := by unfold compS; exact if_neg hbad
    rw [hz]
    clear hz
    obtain rfl : bb = false := by cases bb <;> simp_all
    have hd1 : 1 ≤ fs.length := by omega
    have hd2 : fs.length ≤ 16 := by omega
    have hw1 : 1 ≤ wd := by omega
    have hw2 : wd ≤ 256 := by omega
    have hfn : ds.length + bs.length + ns.length = 0 := by omega
    clear hbad
    obtain ⟨rfl, hnf⟩ := hfA (by omega)
    have HBX := Lib.hid (Bx.new w 28 #[.int .i64 c, .int .i64 wd, .bool false, .slice (some ⟨fb, fo, none⟩) fs.length fC, .slice dA ds.length dC, .slice bA bs.length bC, .slice nA ns.length nC])
    have HBN := Lib.hid (below_new w (.cells #[.int .i64 c, .int .i64 wd, .bool false, .slice (some ⟨fb, fo, none⟩) fs.length fC, .slice dA ds.length dC, .slice bA bs.length bC, .slice nA ns.length nC] 28))
    go_wp2
    go_loopw [5, 6] (fun x i wr => ∃ (k : Nat) (e : Int), k ≤ fs.length ∧ x = .int .i64 e ∧ i = .int .i64 k ∧ 0 ≤ e ∧ e ≤ 256 ∧ flds (sz d) wd (fs.drop k) ((fs.take k).map Fd.name) e = flds (sz d) wd fs [] 0 ∧ Below w.heap.size w wr ∧
        Bx wr w.heap.size 28 #[.int .i64 c, .int .i64 wd, .bool false, .slice (some ⟨fb, fo, none⟩) fs.length fC, .slice dA ds.length dC, .slice bA bs.length bC, .slice nA ns.length nC]) (fun _ i _ => fs.length - (intOf i).toNat)
    case atStart => exact ⟨0, 0, Nat.zero_le _, rfl, rfl, Int.le_refl _, by omega, rfl, HBN.out, HBX.out⟩
    case round =>
      clear HBN HBX
      obtain ⟨k, e, hk, rfl, rfl, he0, he1, hfl, hW, hB⟩ := hrel
      have c3 := hB.cell 3
      have hlt2 := hB.lt
      have HW := Lib.hid hW
      have HB := Lib.hid hB
      have HFL := Lib.hid hfl
      clear hW hB hfl
      by_cases hlt : k < fs.length
      · have hc := fun o : Nat => HW.out.cell (p := ⟨fb, o, none⟩) hnf
        have g0 := (hc (fo + k * 9)).trans (HF0.out k hlt)
        have g1 := (hc (fo + k * 9 + 1)).trans (HF1.out k hlt)
        have a0 : wr.cell? ⟨fb, fo + k * 9 + 2, none⟩ = some (fv k 0) := (hc _).trans (HF2.out k hlt 0 (by omega))
        have a1 := (hc (fo + k * 9 + 2 + 1)).trans (HF2.out k hlt 1 (by omega))
        have a2 := (hc (fo + k * 9 + 2 + 2)).trans (HF2.out k hlt 2 (by omega))
        have a3 := (hc (fo + k * 9 + 2 + 3)).trans (HF2.out k hlt 3 (by omega))
        have a4 := (hc (fo + k * 9 + 2 + 4)).trans (HF2.out k hlt 4 (by omega))
        have a5 := (hc (fo + k * 9 + 2 + 5)).trans (HF2.out k hlt 5 (by omega))
        have a6 := (hc (fo + k * 9 + 2 + 6)).trans (HF2.out k hlt 6 (by omega))
        clear hc
        have hbt := HFT.out k hlt
        obtain ⟨fA', dA', bA', nA', fC', dC', bC', nC', e0, e1, e2, e3, e4, e5, e6⟩ := hbt.cells
        have hln := hbt.lens
        rw [e0] at a0 hbt
        rw [e1] at a1 hbt
        rw [e2] at a2 hbt
        rw [e3] at a3 hbt
        rw [e4] at a4 hbt
        rw [e5] at a5 hbt
        rw [e6] at a6 hbt
        have HBT1 := Lib.hid hbt
        clear e0 e1 e2 e3 e4 e5 e6 hbt
        have hmz := hfz fs[k] (List.getElem_mem hlt)
        have hfc := HFL.out
        rw [List.drop_eq_getElem_cons hlt, flds] at hfc
        have hsl := sz_le d fs[k].ty
        have hsg := sz_ge d fs[k].ty
        generalize hnn : sz d fs[k].ty = n0 at *
        have HNN := Lib.hid hnn
        have HFC := Lib.hid hfc
        have HTK := Lib.hid (List.take_succ_eq_append_getElem hlt)
        have HWm := Lib.hid (HW.out.alloc HW.out.size (.cells (#[.string fs[k].name, .int .i64 fs[k].pos, .int .i64 fs[k].ty.c, .int .i64 fs[k].ty.w, .bool fs[k].ty.big, .slice fA' fs[k].ty.fs.length fC', .slice dA' fs[k].ty.ds.length dC', .slice bA' fs[k].ty.bs.length bC', .slice nA' fs[k].ty.ns.length nC']) 66))
        have HBm := Lib.hid (Bx.new wr 66 #[.string fs[k].name, .int .i64 fs[k].pos, .int .i64 fs[k].ty.c, .int .i64 fs[k].ty.w, .bool fs[k].ty.big, .slice fA' fs[k].ty.fs.length fC', .slice dA' fs[k].ty.ds.length dC', .slice bA' fs[k].ty.bs.length bC', .slice nA' fs[k].ty.ns.length nC'])
        have HWn := Lib.hid (Below.alloc (Below.refl wr.heap.size wr) (Nat.le_refl _) (.cells (#[.string fs[k].name, .int .i64 fs[k].pos, .int .i64 fs[k].ty.c, .int .i64 fs[k].ty.w, .bool fs[k].ty.big, .slice fA' fs[k].ty.fs.length fC', .slice dA' fs[k].ty.ds.length dC', .slice bA' fs[k].ty.bs.length bC', .slice nA' fs[k].ty.ns.length nC']) 66))
        clear hfc hnn HFL
        go_wp2_with (go_at_call 34; refine (IH.out fs[k].ty _ _ ?_).mono ?_)
        · exact (HBT1.out.later HWm.out).up HWm.out.size
        rintro _ w3 ⟨he, hb3⟩
        rw [HNN.out] at he
        subst he
        have hs4 : (wr.alloc (.cells (#[.string fs[k].name, .int .i64 fs[k].pos, .int .i64 fs[k].ty.c, .int .i64 fs[k].ty.w, .bool fs[k].ty.big, .slice fA' fs[k].ty.fs.length fC', .slice dA' fs[k].ty.ds.length dC', .slice bA' fs[k].ty.bs.length bC', .slice nA' fs[k].ty.ns.length nC']) 66)).heap.size = wr.heap.size + 1 := by simp
        rw [hs4] at hb3
        have HW3 := Lib.hid (below_then HWm.out HWm.out.size (by rw [hs4]; exact hb3))
        have HB3 := Lib.hid ((HB.out.later HWn.out (by omega)).later hb3 (by omega))
        have HM3 := Lib.hid (HBm.out.later hb3 (by omega))
        have d3 := HB3.out.cell 3
        have d1 := HB3.out.cell 1
        have m0 := HM3.out.cell 0
        have m1 := HM3.out.cell 1
        clear hs4 hb3 HWm HBm HWn HB a0 a1 a2 a3 a4 a5 a6 g0 g1 c3 HBT1
        by_cases hz : n0 = 0
        · have hR : flds (sz d) wd fs [] 0 = 0 := by rw [← HFC.out, if_pos (.inl hz)]
          have HR := Lib.hid hR
          clear hR
          subst hz
          go_wp2
          go_ret
          exact ⟨by rw [HR.out]; rfl, HW3.out⟩
        have hzb : (n0 == 0) = false := beq_eq_false_iff_ne.mpr hz
        by_cases hnm : nameB fs[k].name = true
        rotate_left
        · have hR : flds (sz d) wd fs [] 0 = 0 := by rw [← HFC.out, if_pos (.inr (.inl (by rwa [Bool.not_eq_true] at hnm)))]
          have HR := Lib.hid hR
          clear hR
          rw [Bool.not_eq_true] at hnm
          go_wp2_with (go_at_call 74; refine (Name_any _ _ ?_).mono ?_)
          · exact hmz
          rintro _ w4 ⟨rfl, ⟨⟨q, rfl⟩⟩⟩
          rw [hnm]
          go_wp2
          go_ret
          exact ⟨by rw [HR.out]; rfl, below_drewN HW3.out q⟩
        generalize hpp : fs[k].pos = p at *
        have HPP := Lib.hid hpp
        clear hpp
        by_cases hbd : p < e ∨ wd < p + n0
        · have hR : flds (sz d) wd fs [] 0 = 0 := by rw [← HFC.out, if_pos (by omega)]
          have HR := Lib.hid hR
          clear hR
          go_wp2_with (go_at_call 74; refine (Name_any _ _ ?_).mono ?_)
          · exact hmz
          rintro _ w4 ⟨rfl, ⟨⟨q, rfl⟩⟩⟩
          rw [hnm]
          by_cases q1 : p < e
          · go_wp2
            go_ret
            exact ⟨by rw [HR.out]; rfl, below_drewN HW3.out q⟩
          by_cases q2 : 256 < p
          · go_wp2
            go_ret
            exact ⟨by rw [HR.out]; rfl, below_drewN HW3.out q⟩
          have q3 : wd < p + n0 := by omega
          go_wp2
          go_ret
          exact ⟨by rw [HR.out]; rfl, below_drewN HW3.out q⟩
        have q1 : e ≤ p := by omega
        have q2 : p ≤ 256 := by omega
        have q3 : p + n0 ≤ wd := by omega
        go_wp2_with (go_at_call 74; refine (Name_any _ _ ?_).mono ?_)
        · exact hmz
        rintro _ w4 ⟨rfl, ⟨⟨q, rfl⟩⟩⟩
        rw [hnm]
        go_wp2
        go_loopw [9] (fun x W => ∃ j q2 : Nat, j ≤ k ∧ x = .int .i64 j ∧ W = w3.drewN q2 ∧ ∀ y ∈ fs.take j, y.name ≠ fs[k].name) (fun x _ => k - (intOf x).toNat)
        case atStart => exact ⟨0, q, Nat.zero_le _, rfl, rfl, fun y hy => by simp at hy⟩
        case round =>
          obtain ⟨j, q2, hj, rfl, rfl, hall⟩ := hrel
          have HALL := Lib.hid hall
          clear hall
          by_cases hjk : j < k
          · have hjl : j < fs.length := by omega
            have n0' := (HW3.out.cell (p := ⟨fb, fo + j * 9, none⟩) hnf).trans (HF0.out j hjl)
            by_cases e1 : fs[j].name = fs[k].name
            · have e1b : (fs[j].name.toList == fs[k].name.toList) = true := (Go.Lib.bytes_beq_iff _ _).mpr e1
              have hR : flds (sz d) wd fs [] 0 = 0 := by
                have hin : fs[k].name ∈ (fs.take k).map Fd.name := List.mem_map.mpr ⟨fs[j], List.mem_take_iff_getElem.mpr ⟨j, by omega, rfl⟩, e1⟩
                rw [← HFC.out, if_pos (.inr (.inr (.inr (.inr hin))))]
              have HR := Lib.hid hR
              clear hR e1
              go_wp2
              go_quiet (fail)
              go_wp2
              go_ret
              exact ⟨by rw [HR.out]; rfl, by rw [World.drewN_drewN]; exact below_drewN HW3.out _⟩
            have e1b : (fs[j].name.toList == fs[k].name.toList) = false := (Go.Lib.bytes_beq_false_iff _ _).mpr e1
            have HE1 := Lib.hid e1
            clear e1
            go_wp2
            go_quiet (fail)
            go_wp2
            go_roundw
            case measure => simp [intOf]; omega
            refine ⟨j + 1, q2 + nq, by omega, by go_num, rfl, fun y hy => ?_⟩
            rw [List.take_succ_eq_append_getElem hjl, List.mem_append, List.mem_singleton] at hy
            rcases hy with hy | rfl
            · exact HALL.out y hy
            · exact HE1.out
          · obtain rfl : j = k := by omega
            go_wp2
            go_roundw
            case rel =>
              refine ⟨j + 1, p + n0, by omega, by go_num, by go_num, by omega, by omega, ?_, below_drewN HW3.out _, HB3.out.drewN _⟩
              rw [HTK.out, List.map_append, ← HFC.out, if_neg]
              · rfl
              rintro (h | h | h | h | h)
              · exact hz h
              · rw [hnm] at h; cases h
              · omega
              · omega
              · rw [List.mem_map] at h
                obtain ⟨y, hy, hh⟩ := h
                exact HALL.out y hy hh
            case measure => simp [intOf]; omega
      · obtain rfl : k = fs.length := by omega
        have hme := HFL.out
        rw [List.drop_length, flds] at hme
        have HM := Lib.hid hme
        clear hme
        have c1 := HB.out.cell 1
        go_wp2
        go_ret
        exact ⟨by rw [← HM.out]; rfl, HW.out⟩
end Go.Proofs.Ytbdhihgokkcmfaa.Ty9
