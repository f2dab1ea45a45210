/- The reference's laid: enums. -/
import Derived.Test.YtbdhihgokkcmfaaDc
namespace Go.Proofs.Ytbdhihgokkcmfaa.Ty9
set_option linter.unusedVariables false
set_option linter.unusedSimpArgs false
open Go.RowKit Wd

theorem laid_num2 (c wd : Nat) (bg : Bool) (f d b n : Value) (w : World) (hc1 : 1 ≤ c) (hc4 : c ≤ 4) (hw : wd ≤ 8) (hf : ∃ a l c, f = .slice a l c) (hd : ∃ a l c, d = .slice a l c) (hbb : ∃ a l c, b = .slice a l c) (hn : ∃ a l c, n = .slice a l c)
    (y : List Nat) (hy : [c, wd, if bg then 1 else 0] = y) :
    Calls Try.prog 38 #[.agg #[.int .i64 c, .int .i64 wd, .bool bg, f, d, b, n]] w fun e w' => ∃ V, e = .returned V ∧ RowB w' w.heap.size V y ∧ Below w.heap.size w w' :=
  hy ▸ laid_num c wd bg f d b n w hc1 hc4 hw hf hd hbb hn

set_option maxHeartbeats 4000000 in
set_option maxRecDepth 100000 in
theorem laid_enum (d : Nat) (hd : d ≤ 3) (t : Ty) (v : Value) (w : World) (hc : t.c = 7) (hz : sz (d + 1) t ≠ 0) (ht : TyAt w w.heap.size t v) :
    Calls Try.prog 38 #[v] w fun e w' => ∃ V, e = .returned V ∧ RowB w' w.heap.size V (lb t) ∧ Below w.heap.size w w' := by
  obtain ⟨b, hbs, hbc, hnum, -, hd1, hbig, hw0, hfn, hn1, hn2, hm⟩ := sz_enum hc hz
  have hi := (numB_iff b).mp hnum
  have hlm := lbm_len _ _ hm
  have hbw : 1 ≤ b.w ∧ b.w ≤ 8 := by omega
  rw [lb_enum hc hbs, lb_num (t := b) (by omega) (by omega) (by omega)]
  obtain ⟨cb, hcb⟩ : ∃ cb : Nat, b.c = cb := ⟨b.c.toNat, by omega⟩
  obtain ⟨wb, hwb⟩ : ∃ wb : Nat, b.w = wb := ⟨b.w.toNat, by omega⟩
  rw [hcb, hwb, Int.toNat_natCast, Int.toNat_natCast]
  clear hz hd1 hi hnum
  revert hc; revert hbs; revert hbig; revert hw0; revert hfn; revert hn1; revert hn2; revert hm; revert hlm
  cases ht with
  | mk c wd bb fs ds bs' ns fA dA bA nA fC dC bC nC fb fo db dO bbb bo nb nO fv bv hf hd' hb' hn hfz hnz hnr hcap hfA hdA hbA hnA hf0 hf1' hf2' hft hd0 hb0' hbt hn0' hn1' =>
  intro hlm hm hn2 hn1 hfn hw0 hbig hbs hc
  obtain rfl : c = 7 := hc
  obtain rfl : bb = false := hbig
  obtain rfl : bs' = [b] := hbs
  obtain rfl : wd = 0 := hw0
  change fs.length + ds.length = 0 at hfn
  change 1 ≤ ns.length at hn1
  change ns.length ≤ 16 at hn2
  change (lbm ns).length ≤ ns.length * 76 at hlm
  change mems b ns [] ≠ 0 at hm
  show Calls _ _ _ _ (fun e w' => ∃ V, e = .returned V ∧ RowB w' w.heap.size V (7 :: ([cb, wb, if b.big = true then 1 else 0] ++ digs 1 true (bits64 ns.length) ++ lbm ns)) ∧ Below w.heap.size w w')
  generalize hY : [cb, wb, if b.big = true then 1 else 0] = y3
  have HY := Lib.hid hY
  have hy3 : y3.length = 3 := by rw [← hY]; rfl
  clear hY
  clear hfz hfA hdA hf0 hf1' hf2' hft hd0
  have HN0 := Lib.hid hn0'
  have HN1 := Lib.hid hn1'
  have HB0 := Lib.hid hb0'
  have HBT := Lib.hid hbt
  have HM := Lib.hid hm
  have HNR := Lib.hid hnr
  clear hn0' hn1' hb0' hm hnr
  obtain ⟨rfl, hnb⟩ := hbA (by simp)
  obtain ⟨rfl, hnd⟩ := hnA (by omega)
  have hT := hbt 0 (by simp)
  rw [show [b][0] = b from rfl] at hT
  obtain ⟨fA', dA', bA', nA', fC', dC', bC', nC', e0, e1, e2, e3, e4, e5, e6⟩ := hT.cells
  have HBN := Lib.hid (below_new w (.cells #[.int .i64 7, .int .i64 0, .bool false, .slice fA fs.length fC, .slice dA ds.length dC, .slice (some ⟨bbb, bo, none⟩) 1 bC, .slice (some ⟨nb, nO, none⟩) ns.length nC] 28))
  have hbx := Bx.new w 28 #[.int .i64 7, .int .i64 0, .bool false, .slice fA fs.length fC, .slice dA ds.length dC, .slice (some ⟨bbb, bo, none⟩) 1 bC, .slice (some ⟨nb, nO, none⟩) ns.length nC]
  have hsz := size_alloc w (.cells #[.int .i64 7, .int .i64 0, .bool false, .slice fA fs.length fC, .slice dA ds.length dC, .slice (some ⟨bbb, bo, none⟩) 1 bC, .slice (some ⟨nb, nO, none⟩) ns.length nC] 28)
  have hr := RowB.lit (w.alloc (.cells #[.int .i64 7, .int .i64 0, .bool false, .slice fA fs.length fC, .slice dA ds.length dC, .slice (some ⟨bbb, bo, none⟩) 1 bC, .slice (some ⟨nb, nO, none⟩) ns.length nC] 28)) [7] (by intro x hx; rw [List.mem_singleton] at hx; omega) (by simp) (base := w.heap.size + 1) (by rw [hsz]; omega)
  rw [hsz] at hr
  have HR := Lib.hid hr
  have hW1 := below_more HBN.out (below_new (w.alloc (.cells #[.int .i64 7, .int .i64 0, .bool false, .slice fA fs.length fC, .slice dA ds.length dC, .slice (some ⟨bbb, bo, none⟩) 1 bC, .slice (some ⟨nb, nO, none⟩) ns.length nC] 28)) (.cells (by8 [7]).toArray 5))
  have HW1 := Lib.hid hW1
  have HX1 := Lib.hid (hbx.later (below_new _ (.cells (by8 [7]).toArray 5)) (by rw [hsz]; exact Nat.lt_succ_self _))
  have HS1 := Lib.hid (show w.heap.size + 1 ≤ ((w.alloc (.cells #[.int .i64 7, .int .i64 0, .bool false, .slice fA fs.length fC, .slice dA ds.length dC, .slice (some ⟨bbb, bo, none⟩) 1 bC, .slice (some ⟨nb, nO, none⟩) ns.length nC] 28)).alloc (.cells (by8 [7]).toArray 5)).heap.size by rw [size_alloc, hsz]; omega)
  have hc : ∀ o : Nat, ((w.alloc (.cells #[.int .i64 7, .int .i64 0, .bool false, .slice fA fs.length fC, .slice dA ds.length dC, .slice (some ⟨bbb, bo, none⟩) 1 bC, .slice (some ⟨nb, nO, none⟩) ns.length nC] 28)).alloc (.cells #[.int .u8 7] 5)).cell? ⟨bbb, o, none⟩ = w.cell? ⟨bbb, o, none⟩ := fun o : Nat => hW1.cell (p := ⟨bbb, o, none⟩) hnb
  have a0 := (hc bo).trans (HB0.out 0 (by simp) 0 (by omega))
  have a1 := (hc (bo + 1)).trans (HB0.out 0 (by simp) 1 (by omega))
  have a2 := (hc (bo + 2)).trans (HB0.out 0 (by simp) 2 (by omega))
  have a3 := (hc (bo + 3)).trans (HB0.out 0 (by simp) 3 (by omega))
  have a4 := (hc (bo + 4)).trans (HB0.out 0 (by simp) 4 (by omega))
  have a5 := (hc (bo + 5)).trans (HB0.out 0 (by simp) 5 (by omega))
  have a6 := (hc (bo + 6)).trans (HB0.out 0 (by simp) 6 (by omega))
  rw [e0, hcb] at a0
  rw [e1, hwb] at a1
  rw [e2] at a2
  rw [e3] at a3
  rw [e4] at a4
  rw [e5] at a5
  rw [e6] at a6
  have hcb1 : 1 ≤ cb := by omega
  have hcb4 : cb ≤ 4 := by omega
  have hwb8 : wb ≤ 8 := by omega
  have hone : digs 1 true (bits64 ns.length) = [ns.length] := by rw [bits64_nat (by omega), digs_one (by omega)]
  have hto : ([7] ++ y3) ++ [ns.length] ++ lbm ns = 7 :: (y3 ++ digs 1 true (bits64 ns.length) ++ lbm ns) := by
    rw [hone]; simp only [List.append_assoc, List.cons_append, List.nil_append]
  generalize 7 :: (y3 ++ digs 1 true (bits64 ns.length) ++ lbm ns) = tot at *
  have HTO := Lib.hid hto
  have HY3 := Lib.hid hy3
  clear hr hbx hsz hone hto hW1 hc HBN e0 e1 e2 e3 e4 e5 e6 hT hbt hcb hwb hbc hbw hy3
  go_enter Try.func38, Try.ntmps38
  go_wp2_with (go_at_call 38; refine (laid_num2 cb wb b.big _ _ _ _ _ hcb1 hcb4 hwb8 ⟨_, _, _, rfl⟩ ⟨_, _, _, rfl⟩ ⟨_, _, _, rfl⟩ ⟨_, _, _, rfl⟩ y3 HY.out).mono ?_)
  first
    | rintro _ w2 V2 rfl hrow2 hb2
    | rintro _ w2 ⟨V2, rfl, hrow2, hb2⟩
  have hb2 := below_succ2 hb2
  change Below ((w.alloc (.cells #[.int .i64 7, .int .i64 0, .bool false, .slice fA fs.length fC, .slice dA ds.length dC, .slice (some ⟨bbb, bo, none⟩) 1 bC, .slice (some ⟨nb, nO, none⟩) ns.length nC] 28)).alloc (.cells (by8 [7]).toArray 5)).heap.size ((w.alloc (.cells #[.int .i64 7, .int .i64 0, .bool false, .slice fA fs.length fC, .slice dA ds.length dC, .slice (some ⟨bbb, bo, none⟩) 1 bC, .slice (some ⟨nb, nO, none⟩) ns.length nC] 28)).alloc (.cells (by8 [7]).toArray 5)) w2 at hb2
  obtain ⟨A2, C2, rfl, hby2⟩ := hrow2.byt
  rw [HY3.out] at hby2
  rw [HY3.out]
  have HB2 := Lib.hid hby2
  have HR2 := Lib.hid (HR.out.below hb2)
  have HW2 := Lib.hid (below_more HW1.out hb2)
  have HX2 := Lib.hid (HX1.out.later hb2 (Nat.lt_of_lt_of_le (Nat.lt_succ_self _) HS1.out))
  have HS2 := Lib.hid (Nat.le_trans HS1.out hb2.size)
  clear hrow2 hb2 hby2 HR HW1 HX1 HS1 a0 a1 a2 a3 a4 a5 a6
  go_wp2_with (at_builtin; refine wp_rowb rfl (.tmp 104) (.tmp 109) rfl (w.heap.size + 1) 3 C2 _ [7] y3 A2 _ rfl rfl HR2.out HB2.out (by show 1 + 3 ≤ _; omega) HS2.out ?_; intro V3 w3 hrow3 hb3; refine Hid.out ?_)
  generalize hq3 : [7] ++ y3 = l3 at hrow3 HTO
  have hl3 : l3.length = 4 := by rw [← hq3, List.length_append, HY3.out]; rfl
  have HW3 := Lib.hid (HW2.out.trans (hb3.mono (by omega)))
  have hbx3 := HX2.out.later hb3 (Nat.lt_succ_self _)
  have c6 := hbx3.cell 6
  have HX3 := Lib.hid hbx3
  have HS3 := Lib.hid (Nat.le_trans HS2.out hb3.size)
  have HR3b := Lib.hid (hrow3.below (below_new _ (.cells (by8 [ns.length]).toArray 5)))
  have HB3 := Lib.hid (Byt.lit w3 [ns.length] (by intro x hx; rw [List.mem_singleton] at hx; omega))
  have HS3b := Lib.hid (show w.heap.size + 1 ≤ (w3.alloc (.cells (by8 [ns.length]).toArray 5)).heap.size by rw [size_alloc]; have := HS3.out; omega)
  have HL3 := Lib.hid (show l3.length + 1 ≤ 140737488355328 by omega)
  have HE3 := Lib.hid hl3
  clear hrow3 hb3 hbx3 hq3 hl3 HR2 HB2 HW2 HX2 HS2
  refine go_on ?_
  go_wp2_with (at_builtin; refine wp_rowb rfl (.tmp 111) (.tmp 116) rfl (w.heap.size + 1) 1 1 V3 l3 [ns.length] (some ⟨w3.heap.size, 0, none⟩) _ rfl rfl HR3b.out HB3.out HL3.out HS3b.out ?_; intro V4 w4 hrow4 hb4; refine Hid.out ?_)
  have hb4' : Below (w.heap.size + 1) w3 w4 := ((below_new w3 (.cells (by8 [ns.length]).toArray 5)).mono HS3.out).trans hb4
  have HR4 := Lib.hid hrow4
  have HW4 := Lib.hid (HW3.out.trans (hb4'.mono (by omega)))
  have hX4 := HX3.out.later hb4' (Nat.lt_succ_self _)
  have c6' := hX4.cell 6
  have HX4 := Lib.hid hX4
  have HS4 := Lib.hid (Nat.le_trans HS3.out hb4'.size)
  have hLL : MemLeft b 2000 tot ns (l3 ++ [ns.length]) := by
    refine ⟨⟨[], HM.out⟩, HTO.out, ?_⟩
    rw [← HTO.out, List.length_append, List.length_append, HE3.out]
    show 4 + 1 + _ ≤ _
    omega
  have HLL2 := Lib.hid hLL
  clear hrow4 hb4 hb4' hLL hX4 HR3b HB3 HS3b HW3 HX3 HS3 HL3 c6
  refine go_on ?_
  go_wp2
  go_loopw [3, 7] (fun x i wr => ∃ (k : Nat) (V' : Value) (ys : List Nat), k ≤ ns.length ∧ x = V' ∧ i = .int .i64 k ∧ MemLeft b 2000 tot (ns.drop k) ys ∧ RowB wr (w.heap.size + 1) V' ys ∧ Below w.heap.size w wr ∧ w.heap.size + 1 ≤ wr.heap.size ∧
      Bx wr w.heap.size 28 #[.int .i64 7, .int .i64 0, .bool false, .slice fA fs.length fC, .slice dA ds.length dC, .slice (some ⟨bbb, bo, none⟩) 1 bC, .slice (some ⟨nb, nO, none⟩) ns.length nC]) (fun _ i _ => ns.length - (intOf i).toNat)
  case atStart => exact ⟨0, V4, _, Nat.zero_le _, rfl, rfl, HLL2.out, HR4.out, HW4.out, HS4.out, HX4.out⟩
  case round =>
    clear HLL2 HR4 HW4 HS4 HX4 c6'
    obtain ⟨k, V', ys, hk, rfl, rfl, hcl, hrow, hW, hsw, hB⟩ := hrel
    have c6 := hB.cell 6
    have HCL := Lib.hid hcl
    have HROW := Lib.hid hrow
    have HW := Lib.hid hW
    have HSW := Lib.hid hsw
    have HB := Lib.hid hB
    clear hcl hrow hW hB
    by_cases hlt3 : k < ns.length
    · have g0 := (HW.out.cell (p := ⟨nb, nO + k * 2, none⟩) hnd).trans (HN0.out k hlt3)
      have hrr := HNR.out ns[k] (List.getElem_mem hlt3)
      have hr0 := hrr.1
      have hr1 := hrr.2
      have hcl := HCL.out
      rw [List.drop_eq_getElem_cons hlt3] at hcl
      obtain ⟨⟨k2, k3⟩, k4, k7⟩ := hcl.step
      have K7 := Lib.hid k7
      clear hcl k7 HCL hrr
      obtain ⟨wc, Cc, hcv, hby, hbw, hszc⟩ := conv_string wr ns[k].1
      have hm1 : ys.length ≤ 140737488000000 := by omega
      have hm2 : ns[k].1.size ≤ 65536 := by omega
      have hrc := HROW.out.below hbw
      obtain ⟨A2, C2, rfl, hbyr⟩ := hrc.byt
      have HBc := Lib.hid hbyr
      have HBn := Lib.hid (hby.up (show wr.heap.size + 1 ≤ wc.heap.size by omega))
      have HWc := Lib.hid (HW.out.trans (hbw.mono (by omega)))
      have HXc := Lib.hid (HB.out.later hbw HB.out.lt)
      have HSC := Lib.hid (show w.heap.size + 1 ≤ wc.heap.size by omega)
      clear hby hbw hszc hrc hbyr HW HB HROW
      go_wp2_with (go_at_call 59; refine (rputBytes_ok ys.length C2 ns[k].1.size Cc A2 (some ⟨wr.heap.size, 0, none⟩) ys (sbytes ns[k].1) wc hm2 hm1 HBc.out HBn.out).mono ?_)
      rintro _ w4 ⟨V4, rfl, hrow4, hb4⟩
      have hl4 : (ys ++ digs 4 true ns[k].1.size ++ sbytes ns[k].1).length = ys.length + 4 + ns[k].1.size := by simp only [List.length_append, digs_len, sbytes_len]
      have HL4 := Lib.hid (show (ys ++ digs 4 true ns[k].1.size ++ sbytes ns[k].1).length + 8 ≤ 140737488355328 by omega)
      have hx4 := HXc.out.later hb4 HXc.out.lt
      have hw4 := below_more HWc.out hb4
      have c6b := hx4.cell 6
      have g1 := (hw4.cell (p := ⟨nb, nO + k * 2 + 1, none⟩) hnd).trans (HN1.out k hlt3)
      generalize hq4 : ys ++ digs 4 true ns[k].1.size ++ sbytes ns[k].1 = l4 at hrow4 HL4 K7
      have HR4 := Lib.hid (hrow4.up HSC.out)
      have HW4 := Lib.hid hw4
      have HX4 := Lib.hid hx4
      have HS4 := Lib.hid (Nat.le_trans HSC.out hb4.size)
      have hux := bits64_wrap ns[k].2
      have HUX := Lib.hid hux
      have hd8 := digs_len 8 true (bits64 ns[k].2)
      have HD8 := Lib.hid hd8
      clear hl4 hrow4 hb4 hx4 hw4 HWc HXc HBn HBc hcv hq4 g0 c6 hux hd8
      go_wp2_with fail
      rw [HUX.out]
      refine (digits_any true 8 (bits64 ns[k].2) w4 (by omega) (bits64_le _)).mono ?_
      first
        | rintro _ w5 V5 rfl hrow5 hb5
        | rintro _ w5 ⟨V5, rfl, hrow5, hb5⟩
      obtain ⟨A5, C5, rfl, hby5⟩ := hrow5.byt
      rw [HD8.out] at hby5
      rw [HD8.out]
      have HB5 := Lib.hid hby5
      have HR5 := Lib.hid (HR4.out.below hb5)
      have HW5 := Lib.hid (below_more HW4.out hb5)
      have HX5 := Lib.hid (HX4.out.later hb5 HX4.out.lt)
      have HS5 := Lib.hid (Nat.le_trans HS4.out hb5.size)
      clear hrow5 hb5 hby5 HR4 HW4 HX4 g1 c6b
      go_wp2_with (at_builtin; refine wp_rowb rfl (.tmp 137) (.tmp 145) rfl (w.heap.size + 1) 8 C5 V4 l4 (digs 8 true (bits64 ns[k].2)) A5 _ rfl rfl HR5.out HB5.out HL4.out HS5.out ?_; intro V6 w6 hrow6 hb6; refine Hid.out ?_)
      have HR6 := Lib.hid hrow6
      have HW6 := Lib.hid (HW5.out.trans (hb6.mono (by omega)))
      have HX6 := Lib.hid (HX5.out.later hb6 (Nat.lt_succ_self _))
      have HS6 := Lib.hid (Nat.le_trans HS5.out hb6.size)
      clear hrow6 hb6
      refine go_on ?_
      go_wp2
      go_roundw
      case rel => exact ⟨k + 1, V6, _, by omega, rfl, by go_num, K7.out, HR6.out, HW6.out, HS6.out, HX6.out⟩
      case measure => simp [intOf]; omega
    · obtain rfl : k = ns.length := by omega
      have hcl := HCL.out
      rw [List.drop_length] at hcl
      have ha := hcl.all
      rw [show lbm ([] : List (ByteArray × Int)) = [] from rfl, List.append_nil] at ha
      have HA := Lib.hid ha
      clear hcl ha
      go_wp2
      go_ret
      exact ⟨_, rfl, by rw [← HA.out]; exact HROW.out.up (by omega), HW.out⟩
end Go.Proofs.Ytbdhihgokkcmfaa.Ty9
