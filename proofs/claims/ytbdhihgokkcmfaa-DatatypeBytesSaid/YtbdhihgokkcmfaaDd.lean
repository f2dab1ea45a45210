/- The reference's laid: arrays. -/
import Derived.Test.YtbdhihgokkcmfaaDc
namespace Go.Proofs.Ytbdhihgokkcmfaa.Ty9
set_option linter.unusedVariables false
set_option linter.unusedSimpArgs false
open Go.RowKit Wd

set_option maxHeartbeats 4000000 in
set_option maxRecDepth 100000 in
theorem laid_arr (d : Nat) (hd : d ≤ 3) (ih : LaidOk d) (t : Ty) (v : Value) (w : World) (hc : t.c = 6) (hz : sz (d + 1) t ≠ 0) (ht : TyAt w w.heap.size t v) :
    Calls Try.prog 38 #[v] w fun e w' => ∃ V, e = .returned V ∧ RowB w' w.heap.size V (lb t) ∧ Below w.heap.size w w' := by
  obtain ⟨b, hbs, hb0, -, -, hbig, hw0, hfn, hd1, hd2, hdm⟩ := sz_arr hc hz
  have hde := dims_each _ _ hdm
  rw [lb_arr hc hbs]
  have hlb := lb_len d b hb0
  have hLb := Lb_le (show d ≤ 4 by omega)
  have HLB := Lib.hid (show (lb b).length ≤ 6200000 by omega)
  clear hz hdm hlb hLb
  revert hc; revert hbs; revert hbig; revert hw0; revert hfn; revert hd1; revert hd2; revert hde
  cases ht with
  | mk c wd bb fs ds bs' ns fA dA bA nA fC dC bC nC fb fo db dO bbb bo nb nO fv bv hf hd' hb' hn hfz hnz hnr hcap hfA hdA hbA hnA hf0 hf1' hf2' hft hd0 hb0' hbt hn0' hn1' =>
  intro hde hd2 hd1 hfn hw0 hbig hbs hc
  obtain rfl : c = 6 := hc
  obtain rfl : bb = false := hbig
  obtain rfl : bs' = [b] := hbs
  obtain rfl : wd = 0 := hw0
  change fs.length + ns.length = 0 at hfn
  change 1 ≤ ds.length at hd1
  change ds.length ≤ 4 at hd2
  change ∀ d ∈ ds, 1 ≤ d ∧ d ≤ 256 at hde
  show Calls _ _ _ _ (fun e w' => ∃ V, e = .returned V ∧ RowB w' w.heap.size V (6 :: (digs 1 true (bits64 ds.length) ++ lbd ds ++ lb b)) ∧ Below w.heap.size w w')
  clear hfz hnz hnr hfA hnA hf0 hf1' hf2' hft hn0' hn1'
  have HD0 := Lib.hid hd0
  have HDE := Lib.hid hde
  have HB0 := Lib.hid hb0'
  have HBT := Lib.hid hbt
  have IH := Lib.hid ih
  have HZB := Lib.hid hb0
  clear hd0 hde hb0' hbt ih hb0
  obtain ⟨rfl, hnb⟩ := hbA (by simp)
  obtain ⟨rfl, hnd⟩ := hdA (by omega)
  have HBN := Lib.hid (below_new w (.cells #[.int .i64 6, .int .i64 0, .bool false, .slice fA fs.length fC, .slice (some ⟨db, dO, none⟩) ds.length dC, .slice (some ⟨bbb, bo, none⟩) 1 bC, .slice nA ns.length nC] 28))
  have hbx := Bx.new w 28 #[.int .i64 6, .int .i64 0, .bool false, .slice fA fs.length fC, .slice (some ⟨db, dO, none⟩) ds.length dC, .slice (some ⟨bbb, bo, none⟩) 1 bC, .slice nA ns.length nC]
  have hsz := size_alloc w (.cells #[.int .i64 6, .int .i64 0, .bool false, .slice fA fs.length fC, .slice (some ⟨db, dO, none⟩) ds.length dC, .slice (some ⟨bbb, bo, none⟩) 1 bC, .slice nA ns.length nC] 28)
  have hr := RowB.lit (w.alloc (.cells #[.int .i64 6, .int .i64 0, .bool false, .slice fA fs.length fC, .slice (some ⟨db, dO, none⟩) ds.length dC, .slice (some ⟨bbb, bo, none⟩) 1 bC, .slice nA ns.length nC] 28)) [6] (by intro x hx; rw [List.mem_singleton] at hx; omega) (by simp) (base := w.heap.size + 1) (by rw [hsz]; omega)
  rw [hsz] at hr
  have hW1 := below_more HBN.out (below_new (w.alloc (.cells #[.int .i64 6, .int .i64 0, .bool false, .slice fA fs.length fC, .slice (some ⟨db, dO, none⟩) ds.length dC, .slice (some ⟨bbb, bo, none⟩) 1 bC, .slice nA ns.length nC] 28)) (.cells (by8 [6]).toArray 5))
  have hX1 := hbx.later (below_new _ (.cells (by8 [6]).toArray 5)) (by rw [hsz]; exact Nat.lt_succ_self _)
  have hsz2 := size_alloc (w.alloc (.cells #[.int .i64 6, .int .i64 0, .bool false, .slice fA fs.length fC, .slice (some ⟨db, dO, none⟩) ds.length dC, .slice (some ⟨bbb, bo, none⟩) 1 bC, .slice nA ns.length nC] 28)) (.cells (by8 [6]).toArray 5)
  rw [hsz] at hsz2
  have hby := Byt.lit ((w.alloc (.cells #[.int .i64 6, .int .i64 0, .bool false, .slice fA fs.length fC, .slice (some ⟨db, dO, none⟩) ds.length dC, .slice (some ⟨bbb, bo, none⟩) 1 bC, .slice nA ns.length nC] 28)).alloc (.cells (by8 [6]).toArray 5)) [ds.length] (by intro x hx; rw [List.mem_singleton] at hx; omega)
  rw [hsz2] at hby
  have HB1 := Lib.hid hby
  have HR1 := Lib.hid (hr.below (below_new _ (.cells (by8 [ds.length]).toArray 5)))
  have hn2 := below_new ((w.alloc (.cells #[.int .i64 6, .int .i64 0, .bool false, .slice fA fs.length fC, .slice (some ⟨db, dO, none⟩) ds.length dC, .slice (some ⟨bbb, bo, none⟩) 1 bC, .slice nA ns.length nC] 28)).alloc (.cells (by8 [6]).toArray 5)) (.cells (by8 [ds.length]).toArray 5)
  have HW1 := Lib.hid (below_more hW1 hn2)
  have HX1 := Lib.hid (hX1.later hn2 (by rw [hsz2]; omega))
  have HS1 := Lib.hid (show w.heap.size + 1 ≤ (((w.alloc (.cells #[.int .i64 6, .int .i64 0, .bool false, .slice fA fs.length fC, .slice (some ⟨db, dO, none⟩) ds.length dC, .slice (some ⟨bbb, bo, none⟩) 1 bC, .slice nA ns.length nC] 28)).alloc (.cells (by8 [6]).toArray 5)).alloc (.cells (by8 [ds.length]).toArray 5)).heap.size by rw [size_alloc, hsz2]; omega)
  have hone : digs 1 true (bits64 ds.length) = [ds.length] := by rw [bits64_nat (by omega), digs_one (by omega)]
  have hto : ([6] ++ [ds.length]) ++ lbd ds ++ lb b = 6 :: (digs 1 true (bits64 ds.length) ++ lbd ds ++ lb b) := by
    rw [hone]; simp only [List.append_assoc, List.cons_append, List.nil_append]
  generalize 6 :: (digs 1 true (bits64 ds.length) ++ lbd ds ++ lb b) = tot at *
  have HTO := Lib.hid hto
  clear hr hbx hsz hsz2 hby hone hto hn2 hW1 hX1 HBN
  go_enter Try.func38, Try.ntmps38
  go_wp2_with (at_builtin; refine wp_rowb rfl (.tmp 72) (.tmp 77) rfl (w.heap.size + 1) 1 1 _ [6] [ds.length] (some ⟨w.heap.size + 1 + 1, 0, none⟩) _ rfl rfl HR1.out HB1.out (by show 1 + 1 ≤ _; omega) HS1.out ?_; intro V3 w3 hrow3 hb3; refine Hid.out ?_)
  have hl3 : ([6] ++ [ds.length]).length = 2 := rfl
  generalize hq3 : [6] ++ [ds.length] = l3 at hrow3 HTO hl3
  have HL3 := Lib.hid hl3
  have HR3 := Lib.hid hrow3
  have HW3 := Lib.hid (HW1.out.trans (hb3.mono (by omega)))
  have hbx3 := HX1.out.later hb3 (Nat.lt_succ_self _)
  have c4 := hbx3.cell 4
  have HX3 := Lib.hid hbx3
  have HS3 := Lib.hid (Nat.le_trans HS1.out hb3.size)
  clear hrow3 hb3 hbx3 hq3 hl3 HR1 HB1 HW1 HX1 HS1
  refine go_on ?_
  go_wp2
  go_loopw [3, 6] (fun x i wr => ∃ (k : Nat) (V' : Value) (ys : List Nat), k ≤ ds.length ∧ x = V' ∧ i = .int .i64 k ∧ ys ++ lbd (ds.drop k) = l3 ++ lbd ds ∧ ys.length = 2 + 2 * k ∧ RowB wr (w.heap.size + 1) V' ys ∧ Below w.heap.size w wr ∧ w.heap.size + 1 ≤ wr.heap.size ∧
      Bx wr w.heap.size 28 #[.int .i64 6, .int .i64 0, .bool false, .slice fA fs.length fC, .slice (some ⟨db, dO, none⟩) ds.length dC, .slice (some ⟨bbb, bo, none⟩) 1 bC, .slice nA ns.length nC]) (fun _ i _ => ds.length - (intOf i).toNat)
  case atStart => exact ⟨0, V3, l3, Nat.zero_le _, rfl, rfl, rfl, HL3.out, HR3.out, HW3.out, HS3.out, HX3.out⟩
  case round =>
    clear HL3 HR3 HW3 HS3 HX3 c4
    obtain ⟨k, V', ys, hk, rfl, rfl, hall, hlen, hrow, hW, hsw, hB⟩ := hrel
    have c4 := hB.cell 4
    have HALL := Lib.hid hall
    have HLEN := Lib.hid hlen
    have HROW := Lib.hid hrow
    have HW := Lib.hid hW
    have HSW := Lib.hid hsw
    have HB := Lib.hid hB
    clear hall hrow hW
    by_cases hlt3 : k < ds.length
    · have g0 := (HW.out.cell (p := ⟨db, dO + k, none⟩) hnd).trans (HD0.out k hlt3)
      have hdd := HDE.out ds[k] (List.getElem_mem hlt3)
      have hda := hdd.1
      have hdb := hdd.2
      have hall := HALL.out
      rw [List.drop_eq_getElem_cons hlt3, lbd_cons, ← List.append_assoc] at hall
      have HALL2 := Lib.hid hall
      have hd2' := digs_len 2 true (bits64 ds[k])
      have HD2 := Lib.hid hd2'
      have HLy := Lib.hid (show ys.length + 2 ≤ 140737488355328 by omega)
      clear hall hdd HALL hlen hd2' hB
      go_wp2_with (go_at_call 58; refine (digits_pos 2 ds[k] wr (by omega) (by omega) (by omega)).mono ?_)
      first
        | rintro _ w4 V4 rfl hrow4 hb4
        | rintro _ w4 ⟨V4, rfl, hrow4, hb4⟩
      obtain ⟨A4, C4, rfl, hby4⟩ := hrow4.byt
      rw [HD2.out] at hby4
      rw [HD2.out]
      have HB4 := Lib.hid hby4
      have HR4 := Lib.hid (HROW.out.below hb4)
      have HW4 := Lib.hid (below_more HW.out hb4)
      have HX4 := Lib.hid (HB.out.later hb4 HB.out.lt)
      have HS4 := Lib.hid (Nat.le_trans HSW.out hb4.size)
      clear hrow4 hb4 hby4 HROW HW HB
      go_wp2_with (at_builtin; refine wp_rowb rfl (.tmp 86) (.tmp 93) rfl (w.heap.size + 1) 2 C4 _ ys (digs 2 true (bits64 ds[k])) A4 _ rfl rfl HR4.out HB4.out HLy.out HS4.out ?_; intro V5 w5 hrow5 hb5; refine Hid.out ?_)
      have HR5 := Lib.hid hrow5
      have HW5 := Lib.hid (HW4.out.trans (hb5.mono (by omega)))
      have HX5 := Lib.hid (HX4.out.later hb5 (Nat.lt_succ_self _))
      have HS5 := Lib.hid (Nat.le_trans HS4.out hb5.size)
      clear hrow5 hb5
      refine go_on ?_
      go_wp2
      go_roundw
      case rel => exact ⟨k + 1, V5, _, by omega, rfl, by go_num, HALL2.out, by rw [List.length_append, HD2.out, HLEN.out]; omega, HR5.out, HW5.out, HS5.out, HX5.out⟩
      case measure => simp [intOf]; omega
    · obtain rfl : k = ds.length := by omega
      have hall := HALL.out
      rw [List.drop_length, show lbd ([] : List Int) = [] from rfl, List.append_nil] at hall
      have HTOT := Lib.hid (show ys ++ lb b = tot by rw [hall]; exact HTO.out)
      have hc := fun o : Nat => HW.out.cell (p := ⟨bbb, o, none⟩) hnb
      have a0 := (hc bo).trans (HB0.out 0 (by simp) 0 (by omega))
      have a1 := (hc (bo + 1)).trans (HB0.out 0 (by simp) 1 (by omega))
      have a2 := (hc (bo + 2)).trans (HB0.out 0 (by simp) 2 (by omega))
      have a3 := (hc (bo + 3)).trans (HB0.out 0 (by simp) 3 (by omega))
      have a4 := (hc (bo + 4)).trans (HB0.out 0 (by simp) 4 (by omega))
      have a5 := (hc (bo + 5)).trans (HB0.out 0 (by simp) 5 (by omega))
      have a6 := (hc (bo + 6)).trans (HB0.out 0 (by simp) 6 (by omega))
      have c5 := hB.cell 5
      have HBT1 := Lib.hid (((HBT.out 0 (by simp)).later HW.out).up HW.out.size)
      have HLy := Lib.hid (show ys.length + (lb b).length ≤ 140737488355328 by have := HLB.out; omega)
      clear hc hall hlen hB
      go_wp2_with (go_at_call 38; refine (IH.out b _ wr HZB.out HBT1.out).mono ?_)
      first
        | rintro _ w7 V7 rfl hrow7 hb7
        | rintro _ w7 ⟨V7, rfl, hrow7, hb7⟩
      obtain ⟨A7, C7, rfl, hby7⟩ := hrow7.byt
      have HB7 := Lib.hid hby7
      have HR7 := Lib.hid (HROW.out.below hb7)
      have HW7 := Lib.hid (below_more HW.out hb7)
      have HS7 := Lib.hid (Nat.le_trans HSW.out hb7.size)
      clear hrow7 hb7 hby7 a0 a1 a2 a3 a4 a5 a6 c4 c5
      go_wp2_with (at_builtin; refine wp_rowb rfl (.tmp 95) (.tmp 100) rfl (w.heap.size + 1) _ C7 _ ys (lb b) A7 _ rfl rfl HR7.out HB7.out HLy.out HS7.out ?_; intro V8 w8 hrow8 hb8; refine Hid.out ?_)
      have HR8 := Lib.hid hrow8
      have HW8 := Lib.hid (HW7.out.trans (hb8.mono (by omega)))
      clear hrow8 hb8
      refine go_on ?_
      go_wp2
      go_ret
      exact ⟨_, rfl, by rw [← HTOT.out]; exact HR8.out.up (by omega), HW8.out⟩
end Go.Proofs.Ytbdhihgokkcmfaa.Ty9
