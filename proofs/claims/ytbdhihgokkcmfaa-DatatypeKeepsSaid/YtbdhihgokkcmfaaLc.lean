/- lay at an array. -/
import Derived.Test.YtbdhihgokkcmfaaLb
namespace Go.Proofs.Ytbdhihgokkcmfaa.Ty9
set_option linter.unusedVariables false
set_option linter.unusedSimpArgs false
open Go.RowKit Wd

attribute [local go_sem ↓] Go.wp_at_zero Go.wp_at_succ

theorem dims_each : ∀ (ds : List Int) (n : Int), dims ds n ≠ 0 → ∀ d ∈ ds, 1 ≤ d ∧ d ≤ 256
  | [], _, _, d, hd => absurd hd (List.not_mem_nil)
  | x :: ds, n, h, d, hd => by
    rw [dims] at h
    split at h
    · exact absurd rfl h
    rename_i hg
    rcases List.mem_cons.mp hd with rfl | hd
    · omega
    · exact dims_each ds _ h d hd
theorem lbd_cons (d : Int) (ds : List Int) : lbd (d :: ds) = digs 2 true (bits64 d) ++ lbd ds := rfl

set_option maxHeartbeats 4000000 in
set_option maxRecDepth 100000 in
theorem lay_arr (d : Nat) (hd : d ≤ 3) (ih : LayOk d) (base B : Nat) (t : Ty) (v V : Value) (bs : List Nat) (w : World) (hc : t.c = 6) (hz : sz (d + 1) t ≠ 0) (ht : TyAt w B t v) (hB : B ≤ base) (hbase : base ≤ w.heap.size)
    (ho : w.ownsRow base 5 1 V bs.length (by8 bs)) (hlt : ∀ y ∈ bs, y < 256) (hl : bs.length + 7000000 * (d + 1) ≤ 140737000000000) :
    Calls Try.prog 37 #[V, v] w (LP base V (bs ++ lb t) w) := by
  obtain ⟨b, hbs, hb0, e, hpr, hbig, hw0, hfn, hd1, hd2, hdm⟩ := sz_arr hc hz
  have hde := dims_each _ _ hdm
  rw [lb_arr hc hbs]
  clear e hz hpr hdm
  revert hc; revert hbs; revert hbig; revert hw0; revert hfn; revert hd1; revert hd2; revert hde
  cases ht with
  | mk c wd bb fs ds bs' ns fA dA bA nA fC dC bC nC fb fo db dO bbb bo nb nO fv bv hf hd' hb' hn hfz hnz hnr hcap hfA hdA hbA hnA hf0 hf1' hf2' hft hd0 hb0' hbt hn0' hn1' =>
  intro hde hd2 hd1 hfn hw0 hbig hbs hc
  obtain rfl : c = 6 := hc
  obtain rfl : bb = false := hbig
  obtain rfl : bs' = [b] := hbs
  obtain rfl : wd = 0 := hw0
  change fs.length + ns.length = 0 at hfn
  change 1 ≤ ds.length at hd1
  change ds.length ≤ 4 at hd2
  change ∀ d ∈ ds, 1 ≤ d ∧ d ≤ 256 at hde
  show Calls _ _ _ _ (LP base V (bs ++ 6 :: (digs 1 true (bits64 ds.length) ++ lbd ds ++ lb b)) w)
  clear hfz hnz hnr hfA hnA hf0 hf1' hf2' hft hn0' hn1'
  have HD0 := Lib.hid hd0
  have HDE := Lib.hid hde
  have HB0 := Lib.hid hb0'
  have HBT := Lib.hid hbt
  have IH := Lib.hid ih
  have HZB := Lib.hid hb0
  clear hd0 hde hb0' hbt ih hb0
  obtain ⟨rfl, hnb⟩ := hbA (by simp)
  obtain ⟨rfl, hnd⟩ := hdA (by omega)
  obtain ⟨A, C, rfl⟩ := own_form ho
  have HBN := Lib.hid (below_new w (.cells #[.int .i64 6, .int .i64 0, .bool false, .slice fA fs.length fC, .slice (some ⟨db, dO, none⟩) ds.length dC, .slice (some ⟨bbb, bo, none⟩) 1 bC, .slice nA ns.length nC] 28))
  have HBX := Lib.hid (Bx.new w 28 #[.int .i64 6, .int .i64 0, .bool false, .slice fA fs.length fC, .slice (some ⟨db, dO, none⟩) ds.length dC, .slice (some ⟨bbb, bo, none⟩) 1 bC, .slice nA ns.length nC])
  have HNE := Lib.hid (show some w.heap.size ≠ (Value.slice A bs.length C).ownBlock from fun e => absurd (ho.lt _ e.symm).2 (Nat.lt_irrefl _))
  have HOB := Lib.hid (fun k hk => (ho.lt k hk).1)
  have HR0 := Lib.hid ((Rl.refl ho hlt).below HBN.out)
  have HLT := Lib.hid hlt
  clear ho hlt
  have hsz := size_alloc w (.cells #[.int .i64 6, .int .i64 0, .bool false, .slice fA fs.length fC, .slice (some ⟨db, dO, none⟩) ds.length dC, .slice (some ⟨bbb, bo, none⟩) 1 bC, .slice nA ns.length nC] 28)
  have HSZ := Lib.hid hsz
  generalize hW0 : w.alloc (.cells #[.int .i64 6, .int .i64 0, .bool false, .slice fA fs.length fC, .slice (some ⟨db, dO, none⟩) ds.length dC, .slice (some ⟨bbb, bo, none⟩) 1 bC, .slice nA ns.length nC] 28) = w0 at *
  have HR1 := Lib.hid (HR0.out.below (below_new _ (.cells (by8 [6]).toArray 5)))
  have hby := Byt.lit w0 [6] (by intro x hx; rw [List.mem_singleton] at hx; omega)
  rw [hsz] at hby
  have HBY := Lib.hid hby
  have HBB := Lib.hid (show base ≤ (w0.alloc (.cells (by8 [6]).toArray 5)).heap.size by rw [size_alloc, hsz]; omega)
  have HBX1 := Lib.hid (HBX.out.later (below_new _ (.cells (by8 [6]).toArray 5)) (by rw [hsz]; exact Nat.lt_succ_self _))
  have HLL := Lib.hid (show bs.length + 1 ≤ 140737488355328 by omega)
  subst hW0
  clear hsz hby
  go_enter Try.func37, Try.ntmps37
  go_wp2_with (at_builtin; refine wp_app rfl (.tmp 11) (.tmp 15) rfl base 1 1 (.slice A bs.length C) bs [6] (some ⟨w.heap.size + 1, 0, none⟩) _ rfl rfl HR1.out.own HLT.out HBY.out HLL.out HBB.out ?_; intro V1 w1 hr1; refine Hid.out ?_)
  have HB1 := Lib.hid (show base ≤ w1.heap.size from Nat.le_trans HBB.out hr1.gr.size)
  have hbx1 := hr1.bx HBX1.out HNE.out
  have b0 := hbx1.cell 0
  have b4 := hbx1.cell 4
  have HNE1 := Lib.hid (hr1.ne (by rw [size_alloc, HSZ.out]; omega) HNE.out)
  have HBXa := Lib.hid hbx1
  have hl1 : (bs ++ [6]).length ≤ 140737488000000 := by rw [List.length_append]; show bs.length + 1 ≤ _; omega
  have hlen1 : (bs ++ [6]).length = bs.length + 1 := by simp
  generalize hqq : bs ++ [6] = l1 at hr1 hl1 hlen1
  have HQ1 := Lib.hid hqq.symm
  have HL1 := Lib.hid hl1
  have HE1 := Lib.hid hlen1
  have HR2 := Lib.hid (HR1.out.trans hr1)
  obtain ⟨A1, C1, rfl⟩ := own_form hr1.own
  have HU2 := Lib.hid (show bits64 (ds.length : Int) < 256 ^ 1 by unfold bits64; omega)
  have n11 : 1 ≤ 1 := by omega
  have n18 : 1 ≤ 8 := by omega
  have n12 : 1 ≤ 2 := by omega
  have n28 : 2 ≤ 8 := by omega
  clear hr1 hbx1 hqq hl1 hlen1
  refine go_on ?_
  go_wp2_with (go_at_call 56; refine (dput_any base 1 ds.length (.slice A1 l1.length C1) l1 w1 n11 n18 (by omega) (by omega) HU2.out HL1.out HB1.out HR2.out.own HR2.out.lt).mono ?_)
  rintro _ w3 ⟨V3, rfl, hr3⟩
  have HWx := Lib.hid (show w.heap.size + 1 ≤ w3.heap.size from (hr3.bx HBXa.out HNE1.out).lt)
  have HR3 := Lib.hid (HR2.out.trans hr3)
  have HB3 := Lib.hid (Nat.le_trans HB1.out hr3.gr.size)
  have HNE3 := Lib.hid (hr3.ne HBXa.out.lt HNE1.out)
  have hbx3 := hr3.bx HBXa.out HNE1.out
  have c4 := hbx3.cell 4
  have HBX3 := Lib.hid hbx3
  have hel : (l1 ++ digs 1 true (bits64 ds.length)).length = bs.length + 2 := by rw [List.length_append, digs_len, HE1.out]
  have HEL := Lib.hid hel
  have hto : (l1 ++ digs 1 true (bits64 ds.length)) ++ lbd ds ++ lb b = bs ++ 6 :: (digs 1 true (bits64 ds.length) ++ lbd ds ++ lb b) := by
    rw [HQ1.out]; simp only [List.append_assoc, List.cons_append, List.nil_append]
  generalize bs ++ 6 :: (digs 1 true (bits64 ds.length) ++ lbd ds ++ lb b) = tot at *
  generalize l1 ++ digs 1 true (bits64 ds.length) = l3 at *
  have HTO := Lib.hid hto
  clear hr3 hbx3 hel hto
  clear HR0 HR1 HR2 HBY HBB HBX1 HBX HBN HSZ HLT HLL HBXa HNE1 HB1 HL1 HU2
  go_wp2
  go_loopw [0, 75] (fun x i wr => ∃ (k : Nat) (V' : Value) (ys : List Nat), k ≤ ds.length ∧ x = V' ∧ i = .int .i64 k ∧ ys ++ lbd (ds.drop k) = l3 ++ lbd ds ∧ ys.length = bs.length + 2 + 2 * k ∧ Rl base V3 w3 V' ys wr) (fun _ i _ => ds.length - (intOf i).toNat)
  case atStart => exact ⟨0, V3, l3, Nat.zero_le _, rfl, rfl, rfl, HEL.out, Rl.refl HR3.out.own HR3.out.lt⟩
  case round =>
    clear c4 b0 b4
    obtain ⟨k, V', ys, hk, rfl, rfl, hall, hlen, hr⟩ := hrel
    have HALL := Lib.hid hall
    have HLEN := Lib.hid hlen
    have HR := Lib.hid hr
    clear hall hr
    by_cases hlt3 : k < ds.length
    · have HW := Lib.hid ((HR3.out.trans HR.out).keep (B := B) (by omega) (fun k hk => Nat.le_trans hB (HOB.out k hk)))
      have g0 := (HW.out.cell (p := ⟨db, dO + k, none⟩) hnd).trans (HD0.out k hlt3)
      have hd := HDE.out ds[k] (List.getElem_mem hlt3)
      have hda := hd.1
      have hdb := hd.2
      have HU := Lib.hid (show bits64 ds[k] < 256 ^ 2 by unfold bits64; omega)
      have HLy := Lib.hid (show ys.length ≤ 140737488000000 by omega)
      have HBy := Lib.hid (Nat.le_trans HB3.out HR.out.gr.size)
      have hall := HALL.out
      rw [List.drop_eq_getElem_cons hlt3, lbd_cons, ← List.append_assoc] at hall
      have HALL2 := Lib.hid hall
      clear hall hd HALL hlen
      go_wp2_with (go_at_call 56; refine (dput_any base 2 ds[k] _ ys wr n12 n28 (by omega) (by omega) HU.out HLy.out HBy.out HR.out.own HR.out.lt).mono ?_)
      rintro _ w4 ⟨V4, rfl, hr4⟩
      have HR4 := Lib.hid (HR.out.trans hr4)
      clear hr4
      go_wp2
      go_roundw
      case rel => exact ⟨k + 1, V4, _, by omega, rfl, by go_num, HALL2.out, by rw [List.length_append, digs_len, HLEN.out]; omega, HR4.out⟩
      case measure => simp [intOf]; omega
    · obtain rfl : k = ds.length := by omega
      have hall := HALL.out
      rw [List.drop_length, show lbd ([] : List Int) = [] from rfl, List.append_nil] at hall
      have HTOT := Lib.hid (show ys ++ lb b = tot by rw [hall]; exact HTO.out)
      have HW := Lib.hid ((HR3.out.trans HR.out).keep (B := B) (by omega) (fun k hk => Nat.le_trans hB (HOB.out k hk)))
      have hc := fun o : Nat => HW.out.cell (p := ⟨bbb, o, none⟩) hnb
      have a0 := (hc bo).trans (HB0.out 0 (by simp) 0 (by omega))
      have a1 := (hc (bo + 1)).trans (HB0.out 0 (by simp) 1 (by omega))
      have a2 := (hc (bo + 2)).trans (HB0.out 0 (by simp) 2 (by omega))
      have a3 := (hc (bo + 3)).trans (HB0.out 0 (by simp) 3 (by omega))
      have a4 := (hc (bo + 4)).trans (HB0.out 0 (by simp) 4 (by omega))
      have a5 := (hc (bo + 5)).trans (HB0.out 0 (by simp) 5 (by omega))
      have a6 := (hc (bo + 6)).trans (HB0.out 0 (by simp) 6 (by omega))
      have c5 := (HR.out.bx HBX3.out HNE3.out).cell 5
      have HBT1 := Lib.hid ((HBT.out 0 (by simp)).later HW.out)
      have HLy := Lib.hid (show ys.length + 7000000 * d ≤ 140737000000000 by omega)
      have HBy := Lib.hid (Nat.le_trans HB3.out HR.out.gr.size)
      clear hc hall hlen
      go_wp2_with (go_at_call 37; refine (IH.out base B b _ _ ys wr HZB.out HBT1.out hB HBy.out HR.out.own HR.out.lt HLy.out).mono ?_)
      rintro _ w5 ⟨V5, rfl, hr5⟩
      have HR5 := Lib.hid (HR3.out.trans (HR.out.trans hr5))
      clear hr5
      go_wp2
      go_ret
      exact ⟨_, rfl, by rw [← HTOT.out]; exact HR5.out⟩
end Go.Proofs.Ytbdhihgokkcmfaa.Ty9
