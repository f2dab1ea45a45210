/- lay at an enum; lay; Bytes. -/
import Derived.Test.YtbdhihgokkcmfaaLc
namespace Go.Proofs.Ytbdhihgokkcmfaa.Ty9
set_option linter.unusedVariables false
set_option linter.unusedSimpArgs false
open Go.RowKit Wd

attribute [local go_sem ↓] Go.wp_at_zero Go.wp_at_succ

theorem lbm_cons (m : ByteArray × Int) (ns : List (ByteArray × Int)) : lbm (m :: ns) = digs 4 true m.1.size ++ sbytes m.1 ++ digs 8 true (bits64 m.2) ++ lbm ns := rfl
/-- What holds of the members that are still to be laid down. -/
structure MemLeft (b : Ty) (n : Nat) (tot : List Nat) (ms : List (ByteArray × Int)) (ys : List Nat) : Prop where
  ex : ∃ pre, mems b ms pre ≠ 0
  all : ys ++ lbm ms = tot
  len : tot.length ≤ n
theorem MemLeft.step {b : Ty} {n : Nat} {tot : List Nat} {m : ByteArray × Int} {ms : List (ByteArray × Int)} {ys : List Nat} (h : MemLeft b n tot (m :: ms) ys) :
    (1 ≤ m.1.size ∧ m.1.size ≤ 64) ∧ ys.length + m.1.size + 12 ≤ n ∧ MemLeft b n tot ms (ys ++ digs 4 true m.1.size ++ sbytes m.1 ++ digs 8 true (bits64 m.2)) := by
  obtain ⟨pre, hm⟩ := h.ex
  obtain ⟨h1, h2, h3, h4⟩ := mems_cons hm
  have ha := h.all
  have hn := h.len
  rw [lbm_cons] at ha
  refine ⟨nameB_len h1, ?_, ⟨_, h4⟩, ?_, hn⟩
  · rw [← ha] at hn
    simp only [List.length_append, digs_len, sbytes_len] at hn
    omega
  · rw [← ha]; simp only [List.append_assoc]

set_option maxHeartbeats 4000000 in
set_option maxRecDepth 100000 in
theorem lay_enum (d : Nat) (hd : d ≤ 3) (base B : Nat) (t : Ty) (v V : Value) (bs : List Nat) (w : World) (hc : t.c = 7) (hz : sz (d + 1) t ≠ 0) (ht : TyAt w B t v) (hB : B ≤ base) (hbase : base ≤ w.heap.size)
    (ho : w.ownsRow base 5 1 V bs.length (by8 bs)) (hlt : ∀ y ∈ bs, y < 256) (hl : bs.length + 7000000 * (d + 1) ≤ 140737000000000) :
    Calls Try.prog 37 #[V, v] w (LP base V (bs ++ lb t) w) := by
  obtain ⟨b, hbs, hbc, hnum, e, hd1, hbig, hw0, hfn, hn1, hn2, hm⟩ := sz_enum hc hz
  have hi := (numB_iff b).mp hnum
  have hlm := lbm_len _ _ hm
  have hbw : 1 ≤ b.w ∧ b.w ≤ 8 := by omega
  rw [lb_enum hc hbs, lb_num (t := b) (by omega) (by omega) (by omega)]
  obtain ⟨cb, hcb⟩ : ∃ cb : Nat, b.c = cb := ⟨b.c.toNat, by omega⟩
  obtain ⟨wb, hwb⟩ : ∃ wb : Nat, b.w = wb := ⟨b.w.toNat, by omega⟩
  rw [hcb, hwb, Int.toNat_natCast, Int.toNat_natCast]
  clear e hz hd1 hi hnum
  revert hc; revert hbs; revert hbig; revert hw0; revert hfn; revert hn1; revert hn2; revert hm; revert hlm
  cases ht with
  | mk c wd bb fs ds bs' ns fA dA bA nA fC dC bC nC fb fo db dO bbb bo nb nO fv bv hf hd' hb' hn hfz hnz hnr hcap hfA hdA hbA hnA hf0 hf1' hf2' hft hd0 hb0' hbt hn0' hn1' =>
  intro hlm hm hn2 hn1 hfn hw0 hbig hbs hc
  obtain rfl : c = 7 := hc
  obtain rfl : bb = false := hbig
  obtain rfl : bs' = [b] := hbs
  obtain rfl : wd = 0 := hw0
  change fs.length + ds.length = 0 at hfn
  change 1 ≤ ns.length at hn1
  change ns.length ≤ 16 at hn2
  change (lbm ns).length ≤ ns.length * 76 at hlm
  change mems b ns [] ≠ 0 at hm
  show Calls _ _ _ _ (LP base V (bs ++ 7 :: ([cb, wb, if b.big = true then 1 else 0] ++ digs 1 true (bits64 ns.length) ++ lbm ns)) w)
  generalize hY : [cb, wb, if b.big = true then 1 else 0] = y3
  have HY := Lib.hid hY
  have hy3 : y3.length = 3 := by rw [← hY]; rfl
  clear hY
  clear hfz hfA hdA hf0 hf1' hf2' hft hd0
  have HN0 := Lib.hid hn0'
  have HN1 := Lib.hid hn1'
  have HB0 := Lib.hid hb0'
  have HBT := Lib.hid hbt
  have HM := Lib.hid hm
  clear hn0' hn1' hb0' hbt hm
  obtain ⟨rfl, hnb⟩ := hbA (by simp)
  obtain ⟨rfl, hnd⟩ := hnA (by omega)
  obtain ⟨A, C, rfl⟩ := own_form ho
  have HBN := Lib.hid (below_new w (.cells #[.int .i64 7, .int .i64 0, .bool false, .slice fA fs.length fC, .slice dA ds.length dC, .slice (some ⟨bbb, bo, none⟩) 1 bC, .slice (some ⟨nb, nO, none⟩) ns.length nC] 28))
  have HBX := Lib.hid (Bx.new w 28 #[.int .i64 7, .int .i64 0, .bool false, .slice fA fs.length fC, .slice dA ds.length dC, .slice (some ⟨bbb, bo, none⟩) 1 bC, .slice (some ⟨nb, nO, none⟩) ns.length nC])
  have HNE := Lib.hid (show some w.heap.size ≠ (Value.slice A bs.length C).ownBlock from fun e => absurd (ho.lt _ e.symm).2 (Nat.lt_irrefl _))
  have HOB := Lib.hid (fun k hk => (ho.lt k hk).1)
  have HR0 := Lib.hid ((Rl.refl ho hlt).below HBN.out)
  have HLT := Lib.hid hlt
  clear ho hlt
  have hsz := size_alloc w (.cells #[.int .i64 7, .int .i64 0, .bool false, .slice fA fs.length fC, .slice dA ds.length dC, .slice (some ⟨bbb, bo, none⟩) 1 bC, .slice (some ⟨nb, nO, none⟩) ns.length nC] 28)
  have HSZ := Lib.hid hsz
  generalize hW0 : w.alloc (.cells #[.int .i64 7, .int .i64 0, .bool false, .slice fA fs.length fC, .slice dA ds.length dC, .slice (some ⟨bbb, bo, none⟩) 1 bC, .slice (some ⟨nb, nO, none⟩) ns.length nC] 28) = w0 at *
  have HR1 := Lib.hid (HR0.out.below (below_new _ (.cells (by8 [7]).toArray 5)))
  have hby := Byt.lit w0 [7] (by intro x hx; rw [List.mem_singleton] at hx; omega)
  rw [hsz] at hby
  have HBY := Lib.hid hby
  have HBB := Lib.hid (show base ≤ (w0.alloc (.cells (by8 [7]).toArray 5)).heap.size by rw [size_alloc, hsz]; omega)
  have HBX1 := Lib.hid (HBX.out.later (below_new _ (.cells (by8 [7]).toArray 5)) (by rw [hsz]; exact Nat.lt_succ_self _))
  have HLL := Lib.hid (show bs.length + 1 ≤ 140737488355328 by omega)
  subst hW0
  generalize hTT : bs ++ 7 :: (y3 ++ digs 1 true (bits64 ns.length) ++ lbm ns) = tt
  have HTT := Lib.hid hTT
  clear hTT
  have HNR := Lib.hid hnr
  have HY3 := Lib.hid hy3
  clear hy3
  have HCB := Lib.hid hcb
  have HWB := Lib.hid hwb
  have HBC := Lib.hid hbc
  have HBW := Lib.hid hbw
  clear hsz hby hnr hcb hwb hbc hbw
  go_enter Try.func37, Try.ntmps37
  go_wp2_with (at_builtin; refine wp_app rfl (.tmp 11) (.tmp 15) rfl base 1 1 (.slice A bs.length C) bs [7] (some ⟨w.heap.size + 1, 0, none⟩) _ rfl rfl HR1.out.own HLT.out HBY.out HLL.out HBB.out ?_; intro V1 w1 hr1; refine Hid.out ?_)
  have HB1 := Lib.hid (show base ≤ w1.drew.heap.size from Nat.le_trans HBB.out hr1.gr.size)
  have hbx1 := hr1.bx HBX1.out HNE.out
  have b0 := hbx1.cell 0
  have b5 := hbx1.cell 5
  have b6 := hbx1.cell 6
  have HNE1 := Lib.hid (hr1.ne (by rw [size_alloc, HSZ.out]; omega) HNE.out)
  have HBXd := Lib.hid hbx1.drew
  have hl1 : (bs ++ [7]).length ≤ 140737488000000 := by rw [List.length_append]; show bs.length + 1 ≤ _; omega
  have hlen1 : (bs ++ [7]).length = bs.length + 1 := by simp
  generalize hqq : bs ++ [7] = l1 at hr1 hl1 hlen1
  have HQ1 := Lib.hid hqq.symm
  have HL1 := Lib.hid hl1
  have HE1 := Lib.hid hlen1
  have HR2 := Lib.hid (HR1.out.trans hr1)
  have HR2d := Lib.hid (HR2.out.below (Below.refl _ _).drew)
  obtain ⟨A1, C1, rfl⟩ := own_form hr1.own
  have HU2 := Lib.hid (show bits64 (ns.length : Int) < 256 ^ 1 by unfold bits64; omega)
  have n11 : 1 ≤ 1 := by omega
  have n18 : 1 ≤ 8 := by omega
  have n88 : 8 ≤ 8 := by omega
  have hns1 : -9223372036854775808 ≤ (ns.length : Int) := by omega
  have hns2 : (ns.length : Int) ≤ 9223372036854775807 := by omega
  have HW1 := Lib.hid (HR2.out.keep (B := B) (by omega) (fun k hk => Nat.le_trans hB (HOB.out k hk)))
  have hc := fun o : Nat => HW1.out.cell (p := ⟨bbb, o, none⟩) hnb
  have a0 := (hc bo).trans (HB0.out 0 (by simp) 0 (by omega))
  have a1 := (hc (bo + 1)).trans (HB0.out 0 (by simp) 1 (by omega))
  have a2 := (hc (bo + 2)).trans (HB0.out 0 (by simp) 2 (by omega))
  have a3 := (hc (bo + 3)).trans (HB0.out 0 (by simp) 3 (by omega))
  have a4 := (hc (bo + 4)).trans (HB0.out 0 (by simp) 4 (by omega))
  have a5 := (hc (bo + 5)).trans (HB0.out 0 (by simp) 5 (by omega))
  have a6 := (hc (bo + 6)).trans (HB0.out 0 (by simp) 6 (by omega))
  have hbt := HBT.out 0 (by simp)
  rw [show [b][0] = b from rfl] at hbt
  obtain ⟨fA', dA', bA', nA', fC', dC', bC', nC', e0, e1, e2, e3, e4, e5, e6⟩ := hbt.cells
  rw [e0, HCB.out] at a0
  rw [e1, HWB.out] at a1
  rw [e2] at a2
  rw [e3] at a3
  rw [e4] at a4
  rw [e5] at a5
  rw [e6] at a6
  have HKB := Lib.hid (show ∀ (V' : Value) (w' : World) (ys : List Nat), Rl base (.slice A1 l1.length C1) w1.drew V' ys w' → ∀ o : Nat, w'.cell? ⟨bbb, o, none⟩ = w1.cell? ⟨bbb, o, none⟩ from
    fun V' w' ys h o => (h.keep (B := B) (by have := HB1.out; omega) (fun k hk => by have := (HR2.out.own.lt k hk).1; omega)).cell (p := ⟨bbb, o, none⟩) hnb)
  have hcb1 : 1 ≤ cb := by have := HCB.out; have := HBC.out; omega
  have hcb4 : cb ≤ 4 := by have := HCB.out; have := HBC.out; omega
  have hwb8 : wb ≤ 8 := by have := HWB.out; have := HBW.out; omega
  have HTOT := Lib.hid (show l1 ++ y3 ++ digs 1 true (bits64 ns.length) ++ lbm ns = tt by
    rw [← HTT.out, HQ1.out]; simp only [List.append_assoc, List.cons_append, List.nil_append])
  have hy3 := HY3.out
  have HL2 := Lib.hid (show (l1 ++ y3).length ≤ 140737488000000 by rw [List.length_append, hy3, HE1.out]; omega)
  have HE2 := Lib.hid (show (l1 ++ y3 ++ digs 1 true (bits64 ns.length)).length = bs.length + 5 by rw [List.length_append, List.length_append, hy3, HE1.out, digs_len])
  clear hr1 hbx1 hqq hl1 hlen1 hc e0 e1 e2 e3 e4 e5 e6 hbt hy3 HTT
  refine go_on ?_
  go_wp2
  go_region_held3 (fun w' => w'.cell? ⟨w.heap.size, 5, none⟩ = some (.slice (some ⟨bbb, bo, none⟩) 1 bC) ∧ w'.cell? ⟨w.heap.size, 6, none⟩ = some (.slice (some ⟨nb, nO, none⟩) ns.length nC) ∧
      w'.cell? ⟨bbb, bo, none⟩ = some (.int .i64 cb) ∧ w'.cell? ⟨bbb, bo + 1, none⟩ = some (.int .i64 wb) ∧ w'.cell? ⟨bbb, bo + 2, none⟩ = some (.bool b.big) ∧ w'.cell? ⟨bbb, bo + 3, none⟩ = some (.slice fA' b.fs.length fC') ∧
      w'.cell? ⟨bbb, bo + 4, none⟩ = some (.slice dA' b.ds.length dC') ∧ w'.cell? ⟨bbb, bo + 5, none⟩ = some (.slice bA' b.bs.length bC') ∧ w'.cell? ⟨bbb, bo + 6, none⟩ = some (.slice nA' b.ns.length nC'))
    (first
      | (exact ⟨hbx3.cell 5, hbx3.cell 6, (hk3 _).trans a0, (hk3 _).trans a1, (hk3 _).trans a2, (hk3 _).trans a3, (hk3 _).trans a4, (hk3 _).trans a5, (hk3 _).trans a6⟩)
      | (exact ⟨hbx2.cell 5, hbx2.cell 6, (hk2 _).trans a0, (hk2 _).trans a1, (hk2 _).trans a2, (hk2 _).trans a3, (hk2 _).trans a4, (hk2 _).trans a5, (hk2 _).trans a6⟩)
      | go_keep)
    (first
      | (go_at_call 37; refine (lay_num base cb wb b.big _ _ _ _ (.slice A1 l1.length C1) l1 _ hcb1 hcb4 hwb8 HL1.out HB1.out HR2d.out.own HR2d.out.lt ⟨_, _, _, rfl⟩ ⟨_, _, _, rfl⟩ ⟨_, _, _, rfl⟩ ⟨_, _, _, rfl⟩).mono ?_; rintro _ w2 ⟨V2, rfl, hr2⟩; rw [HY.out] at hr2; have hbx2 := hr2.bx HBXd.out HNE1.out; have hk2 := HKB.out _ _ _ hr2; have HNE2 := Lib.hid (hr2.ne HBXd.out.lt HNE1.out); have HB2 := Lib.hid (show base ≤ w2.heap.size from Nat.le_trans HB1.out hr2.gr.size); have HRa := Lib.hid hr2; clear hr2)
      | (go_at_call 56; refine (dput_any base 1 ns.length V2 (l1 ++ y3) _ n11 n18 hns1 hns2 HU2.out HL2.out HB2.out HRa.out.own HRa.out.lt).mono ?_; rintro _ w3 ⟨V3, rfl, hr3⟩; have hbx3 := hr3.bx hbx2 HNE2.out; have hk3 := HKB.out _ _ _ (HRa.out.trans hr3)))
  have HR3 := Lib.hid (HR2d.out.trans (HRa.out.trans hr3))
  have HB3 := Lib.hid (Nat.le_trans HB2.out hr3.gr.size)
  have c6 := hbx3.cell 6
  have hLL : MemLeft b (bs.length + 2000) tt ns (l1 ++ y3 ++ digs 1 true (bits64 ns.length)) := by
    refine ⟨⟨[], HM.out⟩, HTOT.out, ?_⟩
    rw [← HTOT.out, List.length_append, HE2.out]
    omega
  clear HTOT
  generalize l1 ++ y3 ++ digs 1 true (bits64 ns.length) = l3 at *
  have HLL2 := Lib.hid hLL
  clear hr3 hbx3 hbx2 hk2 hk3 hLL a0 a1 a2 a3 a4 a5 a6 b0 b5 b6
  clear HKB HRa HR2d HR2 HR1 HR0 HBXd HBX1 HBX HBY HBB HBN HSZ HLT HLL HNE1 HNE2 HB1 HB2 HL1 HL2 HU2
  go_wp2
  go_loopw [0, 104] (fun x i wr => ∃ (k : Nat) (V' : Value) (ys : List Nat), k ≤ ns.length ∧ x = V' ∧ i = .int .i64 k ∧ MemLeft b (bs.length + 2000) tt (ns.drop k) ys ∧ Rl base (.slice A bs.length C) w V' ys wr) (fun _ i _ => ns.length - (intOf i).toNat)
  case atStart => exact ⟨0, V3, l3, Nat.zero_le _, rfl, rfl, HLL2.out, HR3.out⟩
  case round =>
    clear c6 HR3 HLL2
    obtain ⟨k, V', ys, hk, rfl, rfl, hcl, hr⟩ := hrel
    have HCL := Lib.hid hcl
    have HR := Lib.hid hr
    clear hcl hr
    by_cases hlt3 : k < ns.length
    · have HW := Lib.hid (HR.out.keep (B := B) (by omega) (fun k hk => Nat.le_trans hB (HOB.out k hk)))
      have g0 := (HW.out.cell (p := ⟨nb, nO + k * 2, none⟩) hnd).trans (HN0.out k hlt3)
      have g1 := (HW.out.cell (p := ⟨nb, nO + k * 2 + 1, none⟩) hnd).trans (HN1.out k hlt3)
      have hrr := HNR.out ns[k] (List.getElem_mem hlt3)
      have hr0 := hrr.1
      have hr1 := hrr.2
      have hcl := HCL.out
      rw [List.drop_eq_getElem_cons hlt3] at hcl
      obtain ⟨⟨k2, k3⟩, k4, k7⟩ := hcl.step
      have K7 := Lib.hid k7
      clear hcl k7 HCL hrr
      obtain ⟨A2, C2, rfl⟩ := own_form HR.out.own
      have hwm := below_new wr (.cells (#[.string ns[k].1, .int .i64 ns[k].2]) 68)
      have hbx := Bx.new wr 68 #[.string ns[k].1, .int .i64 ns[k].2]
      have hsm := size_alloc wr (.cells (#[.string ns[k].1, .int .i64 ns[k].2]) 68)
      obtain ⟨wc, Cc, hcv, hby, hbw, hsz⟩ := conv_string (wr.alloc (.cells (#[.string ns[k].1, .int .i64 ns[k].2]) 68)) ns[k].1
      rw [hsm] at hcv hby hsz
      have hszr := HR.out.gr.size
      have hm1 : ys.length ≤ 140737488000000 := by omega
      have hm2 : ns[k].1.size ≤ 65536 := by omega
      have hrc := (HR.out.below hwm).below hbw
      have HRc := Lib.hid hrc
      have HBc := Lib.hid (Byt.of_own hrc.own hrc.lt)
      have HBn := Lib.hid (hby.up (show wr.heap.size + 1 + 1 ≤ wc.heap.size by omega))
      have HFc := Lib.hid (hbx.later hbw (by rw [hsm]; exact Nat.lt_succ_self _))
      have HSC := Lib.hid hsz
      clear hwm hbx hsm hby hbw hsz hrc
      go_wp2_with (go_at_call 57; refine (putBytes_ok ys.length C2 ns[k].1.size Cc A2 (some ⟨wr.heap.size + 1, 0, none⟩) ys (sbytes ns[k].1) wc hm2 hm1 HBc.out HBn.out).mono ?_)
      rintro _ w4 ⟨V4, rfl, ho4, hb4⟩
      have hl4 : (ys ++ digs 4 true ns[k].1.size ++ sbytes ns[k].1).length = ys.length + 4 + ns[k].1.size := by simp only [List.length_append, digs_len, sbytes_len]
      have HL4 := Lib.hid (show (ys ++ digs 4 true ns[k].1.size ++ sbytes ns[k].1).length ≤ 140737488000000 by omega)
      rw [← hl4] at ho4
      have hr4 := HRc.out.new hb4 ho4 (lt_app (lt_app HRc.out.lt (digs_lt _ _ _)) (sbytes_lt _)) (by have := HSC.out; omega) (by omega)
      have hf4 := HFc.out.later hb4 HFc.out.lt
      have hs4 := hb4.size
      generalize hq4 : ys ++ digs 4 true ns[k].1.size ++ sbytes ns[k].1 = l4 at hr4 HL4 K7
      have HR4 := Lib.hid hr4
      have f1 := hf4.cell 1
      have HB4 := Lib.hid (show base ≤ w4.heap.size by have := HSC.out; omega)
      have HUp := Lib.hid (show bits64 ns[k].2 < 256 ^ 8 by unfold bits64; omega)
      clear hl4 ho4 hb4 hr4 hf4 HFc HBn HBc hcv hq4 g0 g1
      go_wp2_with (go_at_call 56; refine (dput_any base 8 ns[k].2 V4 l4 w4 n18 n88 hr0 hr1 HUp.out HL4.out HB4.out HR4.out.own HR4.out.lt).mono ?_)
      rintro _ w5 ⟨V5, rfl, hr5⟩
      have HR5 := Lib.hid (HR4.out.trans hr5)
      clear hr5
      go_wp2
      go_roundw
      case rel => exact ⟨k + 1, V5, _, by omega, rfl, by go_num, K7.out, HR5.out⟩
      case measure => simp [intOf]; omega
    · obtain rfl : k = ns.length := by omega
      have hcl := HCL.out
      rw [List.drop_length] at hcl
      have ha := hcl.all
      rw [show lbm ([] : List (ByteArray × Int)) = [] from rfl, List.append_nil] at ha
      have HA := Lib.hid ha
      clear hcl ha
      go_wp2
      go_ret
      exact ⟨_, rfl, by rw [← HA.out]; exact HR.out⟩

theorem lay_any (d : Nat) : d ≤ 4 → LayOk d := by
  induction d with
  | zero => intro _ base B t v V bs w hz; exact absurd rfl hz
  | succ d ih =>
    intro hd base B t v V bs w hz ht hB hbase ho hlt hl
    have ih := ih (by omega)
    by_cases h5 : t.c = 5
    · exact lay_comp d (by omega) ih base B t v V bs w h5 hz ht hB hbase ho hlt hl
    by_cases h6 : t.c = 6
    · exact lay_arr d (by omega) ih base B t v V bs w h6 hz ht hB hbase ho hlt hl
    by_cases h7 : t.c = 7
    · exact lay_enum d (by omega) base B t v V bs w h7 hz ht hB hbase ho hlt hl
    obtain ⟨hn, e⟩ := sz_nums h5 h6 h7 hz
    have hi := (numB_iff t).mp hn
    obtain ⟨fA, dA, bA, nA, fC, dC, bC, nC, rfl⟩ := ht.shape
    rw [lb_num h5 h6 h7]
    have e1 : t.c = ((t.c.toNat : Nat) : Int) := by omega
    have e2 : t.w = ((t.w.toNat : Nat) : Int) := by omega
    have h := lay_num base t.c.toNat t.w.toNat t.big (.slice fA t.fs.length fC) (.slice dA t.ds.length dC) (.slice bA t.bs.length bC) (.slice nA t.ns.length nC) V bs w (by omega) (by omega) (by omega) (by omega) hbase ho hlt ⟨_, _, _, rfl⟩ ⟨_, _, _, rfl⟩ ⟨_, _, _, rfl⟩ ⟨_, _, _, rfl⟩
    rw [← e1, ← e2] at h
    exact h
end Go.Proofs.Ytbdhihgokkcmfaa.Ty9
