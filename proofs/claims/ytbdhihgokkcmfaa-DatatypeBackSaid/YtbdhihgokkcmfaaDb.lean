/- Bytes of the reference. -/
import Derived.Test.YtbdhihgokkcmfaaDa
import Derived.Test.YtbdhihgokkcmfaaLb
namespace Go.Proofs.Ytbdhihgokkcmfaa.Ty9
set_option linter.unusedVariables false
set_option linter.unusedSimpArgs false
open Go.RowKit Wd

theorem bits64_nat {n : Nat} (h : n ≤ 1000000) : bits64 (n : Int) = n := by unfold bits64; omega
theorem bits64_pos {x : Int} (h0 : 0 ≤ x) (h1 : x ≤ 9223372036854775807) : ((bits64 x : Nat) : Int) = x := by unfold bits64; omega
theorem bits64_wrap (x : Int) : IntKind.u64.wrap x = ((bits64 x : Nat) : Int) := by unfold bits64; simp [IntKind.wrap, IntKind.bits, IntKind.signed]; omega
theorem bits64_le (x : Int) : ((bits64 x : Nat) : Int) ≤ 18446744073709551615 := by unfold bits64; omega
theorem digs_one {n : Nat} (h : n < 256) : digs 1 true n = [n] := by
  simp [digs, dig, pos, List.range_succ]; omega
theorem digits_pos (n : Nat) (x : Int) (w : World) (hn : n ≤ 8) (h0 : 0 ≤ x) (h1 : x ≤ 9223372036854775807) :
    Calls Try.prog 58 #[.int .i64 n, .bool true, .int .u64 x] w fun e w' => ∃ V, e = .returned V ∧ RowB w' w.heap.size V (digs n true (bits64 x)) ∧ Below w.heap.size w w' := by
  have h := digits_any true n (bits64 x) w hn (bits64_le x)
  rw [bits64_pos h0 h1] at h
  exact h
def LaidOk (d : Nat) : Prop := ∀ (t : Ty) (v : Value) (w : World), sz d t ≠ 0 → TyAt w w.heap.size t v →
  Calls Try.prog 38 #[v] w fun e w' => ∃ V, e = .returned V ∧ RowB w' w.heap.size V (lb t) ∧ Below w.heap.size w w'

set_option maxHeartbeats 2000000 in
set_option maxRecDepth 100000 in
theorem laid_num (c wd : Nat) (bg : Bool) (f d b n : Value) (w : World) (hc1 : 1 ≤ c) (hc4 : c ≤ 4) (hw : wd ≤ 8) (hf : ∃ a l c, f = .slice a l c) (hd : ∃ a l c, d = .slice a l c) (hbb : ∃ a l c, b = .slice a l c) (hn : ∃ a l c, n = .slice a l c) :
    Calls Try.prog 38 #[.agg #[.int .i64 c, .int .i64 wd, .bool bg, f, d, b, n]] w fun e w' => ∃ V, e = .returned V ∧ RowB w' w.heap.size V [c, wd, if bg then 1 else 0] ∧ Below w.heap.size w w' := by
  obtain ⟨fa, fl, fc, rfl⟩ := hf
  obtain ⟨da, dl, dc, rfl⟩ := hd
  obtain ⟨ba, bl, bc, rfl⟩ := hbb
  obtain ⟨na, nl, nc, rfl⟩ := hn
  have c5 : ((c : Int) == 5) = false := beq_eq_false_iff_ne.mpr (by omega)
  have c6 : ((c : Int) == 6) = false := beq_eq_false_iff_ne.mpr (by omega)
  have c7 : ((c : Int) == 7) = false := beq_eq_false_iff_ne.mpr (by omega)
  have HBN := Lib.hid (below_new w (.cells #[.int .i64 c, .int .i64 wd, .bool bg, .slice fa fl fc, .slice da dl dc, .slice ba bl bc, .slice na nl nc] 28))
  have hsz := size_alloc w (.cells #[.int .i64 c, .int .i64 wd, .bool bg, .slice fa fl fc, .slice da dl dc, .slice ba bl bc, .slice na nl nc] 28)
  have hr := RowB.lit (w.alloc (.cells #[.int .i64 c, .int .i64 wd, .bool bg, .slice fa fl fc, .slice da dl dc, .slice ba bl bc, .slice na nl nc] 28)) [c] (by intro x hx; rw [List.mem_singleton] at hx; omega) (by simp) (base := w.heap.size) (by rw [hsz]; omega)
  rw [hsz] at hr
  have HR := Lib.hid hr
  have HBN2 := Lib.hid (below_more HBN.out (below_new (w.alloc (.cells #[.int .i64 c, .int .i64 wd, .bool bg, .slice fa fl fc, .slice da dl dc, .slice ba bl bc, .slice na nl nc] 28)) (.cells (by8 [c]).toArray 5)))
  have HSZ := Lib.hid hsz
  clear hr hsz
  have HR2 := Lib.hid fun b => HR.out.below (below_new _ (.cells (by8 [wd, b]).toArray 5))
  have hby := fun (b : Nat) (hb : b ≤ 1) => Byt.lit ((w.alloc (.cells #[.int .i64 c, .int .i64 wd, .bool bg, .slice fa fl fc, .slice da dl dc, .slice ba bl bc, .slice na nl nc] 28)).alloc (.cells (by8 [c]).toArray 5)) [wd, b] (by intro x hx; simp at hx; omega)
  rw [size_alloc, HSZ.out] at hby
  have HBY := Lib.hid hby
  clear hby
  cases bg
  all_goals
    go_enter Try.func38, Try.ntmps38
  · go_wp2_with (at_builtin; refine wp_rowb rfl (.tmp 17) (.tmp 22) rfl w.heap.size 2 2 _ [c] [wd, 0] (some ⟨w.heap.size + 1 + 1, 0, none⟩) _ rfl rfl (HR2.out 0) (HBY.out 0 (by omega)) (by show 1 + 2 ≤ _; omega) (by rw [size_alloc, size_alloc, HSZ.out]; omega) ?_; intro V2 w2 hrow2 hb2; refine Hid.out ?_)
    have HR3 := Lib.hid hrow2
    have HW3 := Lib.hid (HBN2.out.trans (((below_new _ (.cells (by8 [wd, 0]).toArray 5)).mono (by rw [size_alloc, HSZ.out]; omega)).trans hb2))
    clear hrow2 hb2
    refine go_on ?_
    go_wp2
    go_ret
    exact ⟨_, rfl, HR3.out, HW3.out⟩
  · go_wp2_with (at_builtin; refine wp_rowb rfl (.tmp 17) (.tmp 22) rfl w.heap.size 2 2 _ [c] [wd, 1] (some ⟨w.heap.size + 1 + 1, 0, none⟩) _ rfl rfl (HR2.out 1) (HBY.out 1 (by omega)) (by show 1 + 2 ≤ _; omega) (by rw [size_alloc, size_alloc, HSZ.out]; omega) ?_; intro V2 w2 hrow2 hb2; refine Hid.out ?_)
    have HR3 := Lib.hid hrow2
    have HW3 := Lib.hid (HBN2.out.trans (((below_new _ (.cells (by8 [wd, 1]).toArray 5)).mono (by rw [size_alloc, HSZ.out]; omega)).trans hb2))
    clear hrow2 hb2
    refine go_on ?_
    go_wp2
    go_ret
    exact ⟨_, rfl, HR3.out, HW3.out⟩

theorem below_succ2 {w w2 : World} {o o2 : Obj} (h : Below (w.heap.size + 1 + 1) ((w.alloc o).alloc o2) w2) : Below ((w.alloc o).alloc o2).heap.size ((w.alloc o).alloc o2) w2 := by rwa [size_alloc, size_alloc]

set_option maxHeartbeats 4000000 in
set_option maxRecDepth 100000 in
theorem laid_comp (d : Nat) (hd : d ≤ 3) (ih : LaidOk d) (t : Ty) (v : Value) (w : World) (hc : t.c = 5) (hz : sz (d + 1) t ≠ 0) (ht : TyAt w w.heap.size t v) :
    Calls Try.prog 38 #[v] w fun e w' => ∃ V, e = .returned V ∧ RowB w' w.heap.size V (lb t) ∧ Below w.heap.size w w' := by
  obtain ⟨e, hw1, hw2, hbig, hll, hf1, hf2, hfl⟩ := sz_comp hc hz
  have hlb := lb_len (d + 1) t hz
  have hLb := Lb_le (show d + 1 ≤ 4 by omega)
  rw [lb_comp hc] at hlb ⊢
  clear e hz
  revert hc; revert hw1; revert hw2; revert hbig; revert hll; revert hf1; revert hf2; revert hfl; revert hlb
  cases ht with
  | mk c wd bb fs ds bs' ns fA dA bA nA fC dC bC nC fb fo db dO bbb bo nb nO fv bv hf hd' hb' hn hfz hnz hnr hcap hfA hdA hbA hnA hf0 hf1' hf2' hft hd0 hb0 hbt hn0' hn1' =>
  intro hlb hfl hf2 hf1 hll hbig hw2 hw1 hc
  obtain rfl : c = 5 := hc
  obtain rfl : bb = false := hbig
  simp only [Ty.w, Ty.fs, Ty.ds, Ty.bs, Ty.ns] at *
  clear hnz hnr hdA hbA hnA hd0 hb0 hbt hn0' hn1'
  have HF0 := Lib.hid hf0
  have HF1 := Lib.hid hf1'
  have HF2 := Lib.hid hf2'
  have HFT := Lib.hid hft
  have IH := Lib.hid ih
  clear hf0 hf1' hf2' hft ih
  obtain ⟨rfl, hnf⟩ := hfA (by omega)
  have HBN := Lib.hid (below_new w (.cells #[.int .i64 5, .int .i64 wd, .bool false, .slice (some ⟨fb, fo, none⟩) fs.length fC, .slice dA ds.length dC, .slice bA bs'.length bC, .slice nA ns.length nC] 28))
  have hbx := Bx.new w 28 #[.int .i64 5, .int .i64 wd, .bool false, .slice (some ⟨fb, fo, none⟩) fs.length fC, .slice dA ds.length dC, .slice bA bs'.length bC, .slice nA ns.length nC]
  have hsz := size_alloc w (.cells #[.int .i64 5, .int .i64 wd, .bool false, .slice (some ⟨fb, fo, none⟩) fs.length fC, .slice dA ds.length dC, .slice bA bs'.length bC, .slice nA ns.length nC] 28)
  have hr := RowB.lit (w.alloc (.cells #[.int .i64 5, .int .i64 wd, .bool false, .slice (some ⟨fb, fo, none⟩) fs.length fC, .slice dA ds.length dC, .slice bA bs'.length bC, .slice nA ns.length nC] 28)) [5] (by intro x hx; rw [List.mem_singleton] at hx; omega) (by simp) (base := w.heap.size + 1) (by rw [hsz]; omega)
  rw [hsz] at hr
  have HR := Lib.hid hr
  have HW1 := Lib.hid (below_more HBN.out (below_new (w.alloc (.cells #[.int .i64 5, .int .i64 wd, .bool false, .slice (some ⟨fb, fo, none⟩) fs.length fC, .slice dA ds.length dC, .slice bA bs'.length bC, .slice nA ns.length nC] 28)) (.cells (by8 [5]).toArray 5)))
  have HX1 := Lib.hid (hbx.later (below_new _ (.cells (by8 [5]).toArray 5)) (by rw [hsz]; exact Nat.lt_succ_self _))
  have HS1 := Lib.hid (show w.heap.size + 1 ≤ ((w.alloc (.cells #[.int .i64 5, .int .i64 wd, .bool false, .slice (some ⟨fb, fo, none⟩) fs.length fC, .slice dA ds.length dC, .slice bA bs'.length bC, .slice nA ns.length nC] 28)).alloc (.cells (by8 [5]).toArray 5)).heap.size by rw [size_alloc, hsz]; omega)
  generalize htot : 5 :: (digs 2 true (bits64 wd) ++ digs 1 true (bits64 ↑fs.length) ++ lbf fs) = tot at *
  have HTOT := Lib.hid htot
  have hone : digs 1 true (bits64 fs.length) = [fs.length] := by rw [bits64_nat (by omega), digs_one (by omega)]
  have HONE := Lib.hid hone
  have hd2 := digs_len 2 true (bits64 wd)
  have HD2 := Lib.hid hd2
  clear hr hbx hsz htot hone HBN hd2
  go_enter Try.func38, Try.ntmps38
  go_wp2_with (go_at_call 58; refine (digits_pos 2 wd _ (by omega) (by omega) (by omega)).mono ?_)
  first
    | rintro _ w2 V2 rfl hrow2 hb2
    | rintro _ w2 ⟨V2, rfl, hrow2, hb2⟩
  have hb2 := below_succ2 hb2
  change Below ((w.alloc (.cells #[.int .i64 5, .int .i64 wd, .bool false, .slice (some ⟨fb, fo, none⟩) fs.length fC, .slice dA ds.length dC, .slice bA bs'.length bC, .slice nA ns.length nC] 28)).alloc (.cells (by8 [5]).toArray 5)).heap.size ((w.alloc (.cells #[.int .i64 5, .int .i64 wd, .bool false, .slice (some ⟨fb, fo, none⟩) fs.length fC, .slice dA ds.length dC, .slice bA bs'.length bC, .slice nA ns.length nC] 28)).alloc (.cells (by8 [5]).toArray 5)) w2 at hb2
  obtain ⟨A2, C2, rfl, hby2⟩ := hrow2.byt
  rw [HD2.out] at hby2
  rw [HD2.out]
  have HB2 := Lib.hid hby2
  have HR2 := Lib.hid (HR.out.below hb2)
  have HW2 := Lib.hid (below_more HW1.out hb2)
  have HX2 := Lib.hid (HX1.out.later hb2 (Nat.lt_of_lt_of_le (Nat.lt_succ_self _) HS1.out))
  have HS2 := Lib.hid (Nat.le_trans HS1.out hb2.size)
  clear hrow2 hb2 hby2 HR HW1 HX1 HS1
  go_wp2_with (at_builtin; refine wp_rowb rfl (.tmp 26) (.tmp 30) rfl (w.heap.size + 1) 2 C2 _ [5] (digs 2 true (bits64 wd)) A2 _ rfl rfl HR2.out HB2.out (by show 1 + 2 ≤ _; omega) HS2.out ?_; intro V3 w3 hrow3 hb3; refine Hid.out ?_)
  generalize hq3 : [5] ++ digs 2 true (bits64 wd) = l3 at hrow3
  have HQ3 := Lib.hid hq3
  have hl3 : l3.length = 3 := by rw [← hq3, List.length_append, HD2.out]; rfl
  have HR3 := Lib.hid hrow3
  have HW3 := Lib.hid (HW2.out.trans (hb3.mono (by omega)))
  have hbx3 := HX2.out.later hb3 (Nat.lt_succ_self _)
  have c3 := hbx3.cell 3
  have HX3 := Lib.hid hbx3
  have HS3 := Lib.hid (Nat.le_trans HS2.out hb3.size)
  have HR3b := Lib.hid (hrow3.below (below_new _ (.cells (by8 [fs.length]).toArray 5)))
  have HB3 := Lib.hid (Byt.lit w3 [fs.length] (by intro x hx; rw [List.mem_singleton] at hx; omega))
  have HS3b := Lib.hid (show w.heap.size + 1 ≤ (w3.alloc (.cells (by8 [fs.length]).toArray 5)).heap.size by rw [size_alloc]; have := HS3.out; omega)
  have HL3 := Lib.hid (show l3.length + 1 ≤ 140737488355328 by omega)
  clear hrow3 hb3 hbx3 hq3 HR2 HB2 HW2 HX2 HS2
  refine go_on ?_
  go_wp2_with (at_builtin; refine wp_rowb rfl (.tmp 32) (.tmp 37) rfl (w.heap.size + 1) 1 1 V3 l3 [fs.length] (some ⟨w3.heap.size, 0, none⟩) _ rfl rfl HR3b.out HB3.out HL3.out HS3b.out ?_; intro V4 w4 hrow4 hb4; refine Hid.out ?_)
  have hb4' : Below (w.heap.size + 1) w3 w4 := ((below_new w3 (.cells (by8 [fs.length]).toArray 5)).mono HS3.out).trans hb4
  have HR4 := Lib.hid hrow4
  have HW4 := Lib.hid (HW3.out.trans (hb4'.mono (by omega)))
  have HX4 := Lib.hid (HX3.out.later hb4' (Nat.lt_succ_self _))
  have HS4 := Lib.hid (Nat.le_trans HS3.out hb4'.size)
  have hLL : LayLeft d wd 6200000 tot fs (l3 ++ [fs.length]) := by
    refine ⟨⟨[], 0, by rw [hfl]; omega, Int.le_refl _⟩, ?_, by omega⟩
    rw [← HTOT.out, ← HQ3.out, HONE.out]
    simp only [List.append_assoc, List.cons_append, List.nil_append]
  have HLL2 := Lib.hid hLL
  clear hrow4 hb4 hb4' hLL hfl HR3b HB3 HS3b HW3 HX3 HS3 HR3 c3
  refine go_on ?_
  go_wp2
  go_loopw [3, 4] (fun x i wr => ∃ (k : Nat) (V' : Value) (ys : List Nat), k ≤ fs.length ∧ x = V' ∧ i = .int .i64 k ∧ LayLeft d wd 6200000 tot (fs.drop k) ys ∧ RowB wr (w.heap.size + 1) V' ys ∧ Below w.heap.size w wr ∧ w.heap.size + 1 ≤ wr.heap.size ∧
      Bx wr w.heap.size 28 #[.int .i64 5, .int .i64 wd, .bool false, .slice (some ⟨fb, fo, none⟩) fs.length fC, .slice dA ds.length dC, .slice bA bs'.length bC, .slice nA ns.length nC]) (fun _ i _ => fs.length - (intOf i).toNat)
  case atStart => exact ⟨0, V4, _, Nat.zero_le _, rfl, rfl, HLL2.out, HR4.out, HW4.out, HS4.out, HX4.out⟩
  case round =>
    clear HLL2 HR4 HW4 HS4 HX4
    obtain ⟨k, V', ys, hk, rfl, rfl, hcl, hrow, hW, hsw, hB⟩ := hrel
    have c3 := hB.cell 3
    have HCL := Lib.hid hcl
    have HROW := Lib.hid hrow
    have HW := Lib.hid hW
    have HSW := Lib.hid hsw
    have HB := Lib.hid hB
    clear hcl hrow hW hB
    by_cases hlt3 : k < fs.length
    · have hc := fun o : Nat => HW.out.cell (p := ⟨fb, o, none⟩) hnf
      have g0 := (hc (fo + k * 9)).trans (HF0.out k hlt3)
      have g1 := (hc (fo + k * 9 + 1)).trans (HF1.out k hlt3)
      have a0 : wr.cell? ⟨fb, fo + k * 9 + 2, none⟩ = some (fv k 0) := (hc _).trans (HF2.out k hlt3 0 (by omega))
      have a1 := (hc (fo + k * 9 + 2 + 1)).trans (HF2.out k hlt3 1 (by omega))
      have a2 := (hc (fo + k * 9 + 2 + 2)).trans (HF2.out k hlt3 2 (by omega))
      have a3 := (hc (fo + k * 9 + 2 + 3)).trans (HF2.out k hlt3 3 (by omega))
      have a4 := (hc (fo + k * 9 + 2 + 4)).trans (HF2.out k hlt3 4 (by omega))
      have a5 := (hc (fo + k * 9 + 2 + 5)).trans (HF2.out k hlt3 5 (by omega))
      have a6 := (hc (fo + k * 9 + 2 + 6)).trans (HF2.out k hlt3 6 (by omega))
      clear hc
      have hbt := HFT.out k hlt3
      obtain ⟨fA', dA', bA', nA', fC', dC', bC', nC', e0, e1, e2, e3, e4, e5, e6⟩ := hbt.cells
      have hln := hbt.lens
      rw [e0] at a0 hbt
      rw [e1] at a1 hbt
      rw [e2] at a2 hbt
      rw [e3] at a3 hbt
      rw [e4] at a4 hbt
      rw [e5] at a5 hbt
      rw [e6] at a6 hbt
      have HBT1 := Lib.hid hbt
      clear e0 e1 e2 e3 e4 e5 e6 hbt
      have hcl := HCL.out
      rw [List.drop_eq_getElem_cons hlt3] at hcl
      obtain ⟨k1, ⟨k2, k3⟩, k4, k5, k6, k7⟩ := hcl.step
      have K1 := Lib.hid k1
      have K7 := Lib.hid k7
      have hd2 := digs_len 2 true (bits64 fs[k].pos)
      have HD2 := Lib.hid hd2
      have hlbk := lb_len d fs[k].ty k1
      have hLbk := Lb_le (show d ≤ 4 by omega)
      clear hcl k1 k7 HCL hd2
      have hwm := below_new wr (.cells (#[.string fs[k].name, .int .i64 fs[k].pos, .int .i64 fs[k].ty.c, .int .i64 fs[k].ty.w, .bool fs[k].ty.big, .slice fA' fs[k].ty.fs.length fC', .slice dA' fs[k].ty.ds.length dC', .slice bA' fs[k].ty.bs.length bC', .slice nA' fs[k].ty.ns.length nC']) 66)
      have hbx := Bx.new wr 66 #[.string fs[k].name, .int .i64 fs[k].pos, .int .i64 fs[k].ty.c, .int .i64 fs[k].ty.w, .bool fs[k].ty.big, .slice fA' fs[k].ty.fs.length fC', .slice dA' fs[k].ty.ds.length dC', .slice bA' fs[k].ty.bs.length bC', .slice nA' fs[k].ty.ns.length nC']
      have hsm := size_alloc wr (.cells (#[.string fs[k].name, .int .i64 fs[k].pos, .int .i64 fs[k].ty.c, .int .i64 fs[k].ty.w, .bool fs[k].ty.big, .slice fA' fs[k].ty.fs.length fC', .slice dA' fs[k].ty.ds.length dC', .slice bA' fs[k].ty.bs.length bC', .slice nA' fs[k].ty.ns.length nC']) 66)
      obtain ⟨wc, Cc, hcv, hby, hbw, hszc⟩ := conv_string (wr.alloc (.cells (#[.string fs[k].name, .int .i64 fs[k].pos, .int .i64 fs[k].ty.c, .int .i64 fs[k].ty.w, .bool fs[k].ty.big, .slice fA' fs[k].ty.fs.length fC', .slice dA' fs[k].ty.ds.length dC', .slice bA' fs[k].ty.bs.length bC', .slice nA' fs[k].ty.ns.length nC']) 66)) fs[k].name
      rw [hsm] at hcv hby hszc
      have hm1 : ys.length ≤ 140737488000000 := by omega
      have hm2 : fs[k].name.size ≤ 65536 := by omega
      have hrc := (HROW.out.below hwm).below hbw
      obtain ⟨A2, C2, rfl, hbyr⟩ := hrc.byt
      have HBc := Lib.hid hbyr
      have HBn := Lib.hid (hby.up (show wr.heap.size + 1 + 1 ≤ wc.heap.size by omega))
      have HFc := Lib.hid (hbx.later hbw (by rw [hsm]; exact Nat.lt_succ_self _))
      have HWc := Lib.hid (HW.out.trans ((hwm.trans (hbw.mono (by rw [hsm]; omega))).mono (by omega)))
      have HXc := Lib.hid ((HB.out.later hwm HB.out.lt).later hbw (by rw [hsm]; have := HB.out.lt; omega))
      have HSC := Lib.hid hszc
      clear hwm hbx hsm hby hbw hszc hrc hbyr HW HB HROW
      go_wp2_with (go_at_call 59; refine (rputBytes_ok ys.length C2 fs[k].name.size Cc A2 (some ⟨wr.heap.size + 1, 0, none⟩) ys (sbytes fs[k].name) wc hm2 hm1 HBc.out HBn.out).mono ?_)
      rintro _ w4 ⟨V4, rfl, hrow4, hb4⟩
      have hl4 : (ys ++ digs 4 true fs[k].name.size ++ sbytes fs[k].name).length = ys.length + 4 + fs[k].name.size := by simp only [List.length_append, digs_len, sbytes_len]
      generalize hq4 : ys ++ digs 4 true fs[k].name.size ++ sbytes fs[k].name = l4 at hrow4 hl4 K7
      have HNE4 := Lib.hid (show some wr.heap.size ≠ V4.ownBlock from fun e => by have := (hrow4.own.lt _ e.symm).1; have := HSC.out; omega)
      have hf4 := HFc.out.later hb4 HFc.out.lt
      have f1 := hf4.cell 1
      have HF4 := Lib.hid hf4
      have HR4 := Lib.hid (hrow4.up (show w.heap.size + 1 ≤ wc.heap.size by have := HSC.out; omega))
      have HW4 := Lib.hid (below_more HWc.out hb4)
      have HX4 := Lib.hid (HXc.out.later hb4 HXc.out.lt)
      have HS4 := Lib.hid (show wr.heap.size + 1 ≤ w4.heap.size by have := hb4.size; have := HSC.out; omega)
      clear hrow4 hb4 hf4 HFc HBn HBc HWc HXc hcv hq4 a0 a1 a2 a3 a4 a5 a6 g0 g1 c3
      go_wp2_with (go_at_call 58; refine (digits_pos 2 fs[k].pos w4 (by omega) (by omega) (by omega)).mono ?_)
      rintro _ w5 ⟨V5, rfl, hrow5, hb5⟩
      obtain ⟨A5, C5, rfl, hby5⟩ := hrow5.byt
      rw [HD2.out] at hby5
      rw [HD2.out]
      have HB5 := Lib.hid hby5
      have HR5 := Lib.hid (HR4.out.below hb5)
      have HW5 := Lib.hid (below_more HW4.out hb5)
      have HX5 := Lib.hid (HX4.out.later hb5 HX4.out.lt)
      have HF5 := Lib.hid (HF4.out.later hb5 HF4.out.lt)
      have HS5 := Lib.hid (Nat.le_trans HS4.out hb5.size)
      have HT5 := Lib.hid (show w.heap.size + 1 ≤ w5.heap.size by have := HS5.out; omega)
      have HL5 := Lib.hid (show l4.length + 2 ≤ 140737488355328 by omega)
      clear hrow5 hb5 hby5 HR4 HW4 HX4 HF4 HS4
      go_wp2_with (at_builtin; refine wp_app rfl (.tmp 59) (.tmp 63) rfl (w.heap.size + 1) 2 C5 V4 l4 (digs 2 true (bits64 fs[k].pos)) A5 _ rfl rfl HR5.out.own HR5.out.lt HB5.out HL5.out HT5.out ?_; intro V6 w6 hr6; refine Hid.out ?_)
      have hl6 : (l4 ++ digs 2 true (bits64 fs[k].pos)).length = l4.length + 2 := by rw [List.length_append, HD2.out]
      generalize hq6 : l4 ++ digs 2 true (bits64 fs[k].pos) = l6 at hr6 hl6 K7
      have hf6 := hr6.bx HF5.out HNE4.out
      have hb6 : Below (w.heap.size + 1) w5 w6 := hr6.keep HT5.out (fun k hk => (HR5.out.own.lt k hk).1)
      have f2 := hf6.cell 2
      have f3 := hf6.cell 3
      have f4 := hf6.cell 4
      have f5 := hf6.cell 5
      have f6 := hf6.cell 6
      have f7 := hf6.cell 7
      have f8 := hf6.cell 8
      have HR6 := Lib.hid (show RowB w6 (w.heap.size + 1) V6 l6 from ⟨hr6.own, hr6.lt⟩)
      have HW6 := Lib.hid (HW5.out.trans (hb6.mono (by omega)))
      have HX6 := Lib.hid (HX5.out.later hb6 (Nat.lt_succ_self _))
      have HS6 := Lib.hid (Nat.le_trans HT5.out hb6.size)
      have HBT6 := Lib.hid ((HBT1.out.later HW6.out).up HW6.out.size)
      clear hr6 hf6 hb6 hq6 f1 HR5 HB5 HW5 HX5 HF5 HS5 HL5 HNE4
      refine go_on ?_
      go_wp2_with (go_at_call 38; refine (IH.out fs[k].ty _ w6 K1.out HBT6.out).mono ?_)
      first
        | rintro _ w7 V7 rfl hrow7 hb7
        | rintro _ w7 ⟨V7, rfl, hrow7, hb7⟩
      obtain ⟨A7, C7, rfl, hby7⟩ := hrow7.byt
      have HB7 := Lib.hid hby7
      have HR7 := Lib.hid (HR6.out.below hb7)
      have HW7 := Lib.hid (below_more HW6.out hb7)
      have HX7 := Lib.hid (HX6.out.later hb7 HX6.out.lt)
      have HS7 := Lib.hid (Nat.le_trans HS6.out hb7.size)
      have HL7 := Lib.hid (show l6.length + (lb fs[k].ty).length ≤ 140737488355328 by omega)
      clear hrow7 hb7 hby7 f2 f3 f4 f5 f6 f7 f8 HR6 HW6 HX6 HS6 HBT6
      go_wp2_with (at_builtin; refine wp_rowb rfl (.tmp 65) (.tmp 68) rfl (w.heap.size + 1) _ C7 V6 l6 (lb fs[k].ty) A7 _ rfl rfl HR7.out HB7.out HL7.out HS7.out ?_; intro V8 w8 hrow8 hb8; refine Hid.out ?_)
      have HR8 := Lib.hid hrow8
      have HW8 := Lib.hid (HW7.out.trans (hb8.mono (by omega)))
      have HX8 := Lib.hid (HX7.out.later hb8 (Nat.lt_succ_self _))
      have HS8 := Lib.hid (Nat.le_trans HS7.out hb8.size)
      clear hrow8 hb8
      refine go_on ?_
      go_wp2
      go_roundw
      case rel => exact ⟨k + 1, V8, _, by omega, rfl, by go_num, K7.out, HR8.out, HW8.out, HS8.out, HX8.out⟩
      case measure => simp [intOf]; omega
    · obtain rfl : k = fs.length := by omega
      have hcl := HCL.out
      rw [List.drop_length] at hcl
      have ha := hcl.all
      rw [lbf, List.append_nil] at ha
      have HA := Lib.hid ha
      clear hcl ha
      go_wp2
      go_ret
      exact ⟨_, rfl, by rw [← HA.out]; exact HROW.out.up (by omega), HW.out⟩

set_option maxHeartbeats 4000000 in
set_option maxRecDepth 100000 in
theorem laid_arr (d : Nat) (hd : d ≤ 3) (ih : LaidOk d) (t : Ty) (v : Value) (w : World) (hc : t.c = 6) (hz : sz (d + 1) t ≠ 0) (ht : TyAt w w.heap.size t v) :
    Calls Try.prog 38 #[v] w fun e w' => ∃ V, e = .returned V ∧ RowB w' w.heap.size V (lb t) ∧ Below w.heap.size w w' := by
  obtain ⟨b, hbs, hb0, -, -, hbig, hw0, hfn, hd1, hd2, hdm⟩ := sz_arr hc hz
  have hde := dims_each _ _ hdm
  rw [lb_arr hc hbs]
  have hlb := lb_len d b hb0
  have hLb := Lb_le (show d ≤ 4 by omega)
  have HLB := Lib.hid (show (lb b).length ≤ 6200000 by omega)
  clear hz hdm hlb hLb
  revert hc; revert hbs; revert hbig; revert hw0; revert hfn; revert hd1; revert hd2; revert hde
  cases ht with
  | mk c wd bb fs ds bs' ns fA dA bA nA fC dC bC nC fb fo db dO bbb bo nb nO fv bv hf hd' hb' hn hfz hnz hnr hcap hfA hdA hbA hnA hf0 hf1' hf2' hft hd0 hb0' hbt hn0' hn1' =>
  intro hde hd2 hd1 hfn hw0 hbig hbs hc
  obtain rfl : c = 6 := hc
  obtain rfl : bb = false := hbig
  obtain rfl : bs' = [b] := hbs
  obtain rfl : wd = 0 := hw0
  change fs.length + ns.length = 0 at hfn
  change 1 ≤ ds.length at hd1
  change ds.length ≤ 4 at hd2
  change ∀ d ∈ ds, 1 ≤ d ∧ d ≤ 256 at hde
  show Calls _ _ _ _ (fun e w' => ∃ V, e = .returned V ∧ RowB w' w.heap.size V (6 :: (digs 1 true (bits64 ds.length) ++ lbd ds ++ lb b)) ∧ Below w.heap.size w w')
  clear hfz hnz hnr hfA hnA hf0 hf1' hf2' hft hn0' hn1'
  have HD0 := Lib.hid hd0
  have HDE := Lib.hid hde
  have HB0 := Lib.hid hb0'
  have HBT := Lib.hid hbt
  have IH := Lib.hid ih
  have HZB := Lib.hid hb0
  clear hd0 hde hb0' hbt ih hb0
  obtain ⟨rfl, hnb⟩ := hbA (by simp)
  obtain ⟨rfl, hnd⟩ := hdA (by omega)
  have HBN := Lib.hid (below_new w (.cells #[.int .i64 6, .int .i64 0, .bool false, .slice fA fs.length fC, .slice (some ⟨db, dO, none⟩) ds.length dC, .slice (some ⟨bbb, bo, none⟩) 1 bC, .slice nA ns.length nC] 28))
  have hbx := Bx.new w 28 #[.int .i64 6, .int .i64 0, .bool false, .slice fA fs.length fC, .slice (some ⟨db, dO, none⟩) ds.length dC, .slice (some ⟨bbb, bo, none⟩) 1 bC, .slice nA ns.length nC]
  have hsz := size_alloc w (.cells #[.int .i64 6, .int .i64 0, .bool false, .slice fA fs.length fC, .slice (some ⟨db, dO, none⟩) ds.length dC, .slice (some ⟨bbb, bo, none⟩) 1 bC, .slice nA ns.length nC] 28)
  have hr := RowB.lit (w.alloc (.cells #[.int .i64 6, .int .i64 0, .bool false, .slice fA fs.length fC, .slice (some ⟨db, dO, none⟩) ds.length dC, .slice (some ⟨bbb, bo, none⟩) 1 bC, .slice nA ns.length nC] 28)) [6] (by intro x hx; rw [List.mem_singleton] at hx; omega) (by simp) (base := w.heap.size + 1) (by rw [hsz]; omega)
  rw [hsz] at hr
  have hW1 := below_more HBN.out (below_new (w.alloc (.cells #[.int .i64 6, .int .i64 0, .bool false, .slice fA fs.length fC, .slice (some ⟨db, dO, none⟩) ds.length dC, .slice (some ⟨bbb, bo, none⟩) 1 bC, .slice nA ns.length nC] 28)) (.cells (by8 [6]).toArray 5))
  have hX1 := hbx.later (below_new _ (.cells (by8 [6]).toArray 5)) (by rw [hsz]; exact Nat.lt_succ_self _)
  have hsz2 := size_alloc (w.alloc (.cells #[.int .i64 6, .int .i64 0, .bool false, .slice fA fs.length fC, .slice (some ⟨db, dO, none⟩) ds.length dC, .slice (some ⟨bbb, bo, none⟩) 1 bC, .slice nA ns.length nC] 28)) (.cells (by8 [6]).toArray 5)
  rw [hsz] at hsz2
  have hby := Byt.lit ((w.alloc (.cells #[.int .i64 6, .int .i64 0, .bool false, .slice fA fs.length fC, .slice (some ⟨db, dO, none⟩) ds.length dC, .slice (some ⟨bbb, bo, none⟩) 1 bC, .slice nA ns.length nC] 28)).alloc (.cells (by8 [6]).toArray 5)) [ds.length] (by intro x hx; rw [List.mem_singleton] at hx; omega)
  rw [hsz2] at hby
  have HB1 := Lib.hid hby
  have HR1 := Lib.hid (hr.below (below_new _ (.cells (by8 [ds.length]).toArray 5)))
  have hn2 := below_new ((w.alloc (.cells #[.int .i64 6, .int .i64 0, .bool false, .slice fA fs.length fC, .slice (some ⟨db, dO, none⟩) ds.length dC, .slice (some ⟨bbb, bo, none⟩) 1 bC, .slice nA ns.length nC] 28)).alloc (.cells (by8 [6]).toArray 5)) (.cells (by8 [ds.length]).toArray 5)
  have HW1 := Lib.hid (below_more hW1 hn2)
  have HX1 := Lib.hid (hX1.later hn2 (by rw [hsz2]; omega))
  have HS1 := Lib.hid (show w.heap.size + 1 ≤ (((w.alloc (.cells #[.int .i64 6, .int .i64 0, .bool false, .slice fA fs.length fC, .slice (some ⟨db, dO, none⟩) ds.length dC, .slice (some ⟨bbb, bo, none⟩) 1 bC, .slice nA ns.length nC] 28)).alloc (.cells (by8 [6]).toArray 5)).alloc (.cells (by8 [ds.length]).toArray 5)).heap.size by rw [size_alloc, hsz2]; omega)
  have hone : digs 1 true (bits64 ds.length) = [ds.length] := by rw [bits64_nat (by omega), digs_one (by omega)]
  have hto : ([6] ++ [ds.length]) ++ lbd ds ++ lb b = 6 :: (digs 1 true (bits64 ds.length) ++ lbd ds ++ lb b) := by
    rw [hone]; simp only [List.append_assoc, List.cons_append, List.nil_append]
  generalize 6 :: (digs 1 true (bits64 ds.length) ++ lbd ds ++ lb b) = tot at *
  have HTO := Lib.hid hto
  clear hr hbx hsz hsz2 hby hone hto hn2 hW1 hX1 HBN
  go_enter Try.func38, Try.ntmps38
  go_wp2_with (at_builtin; refine wp_rowb rfl (.tmp 72) (.tmp 77) rfl (w.heap.size + 1) 1 1 _ [6] [ds.length] (some ⟨w.heap.size + 1 + 1, 0, none⟩) _ rfl rfl HR1.out HB1.out (by show 1 + 1 ≤ _; omega) HS1.out ?_; intro V3 w3 hrow3 hb3; refine Hid.out ?_)
  have hl3 : ([6] ++ [ds.length]).length = 2 := rfl
  generalize hq3 : [6] ++ [ds.length] = l3 at hrow3 HTO hl3
  have HL3 := Lib.hid hl3
  have HR3 := Lib.hid hrow3
  have HW3 := Lib.hid (HW1.out.trans (hb3.mono (by omega)))
  have hbx3 := HX1.out.later hb3 (Nat.lt_succ_self _)
  have c4 := hbx3.cell 4
  have HX3 := Lib.hid hbx3
  have HS3 := Lib.hid (Nat.le_trans HS1.out hb3.size)
  clear hrow3 hb3 hbx3 hq3 hl3 HR1 HB1 HW1 HX1 HS1
  refine go_on ?_
  go_wp2
  go_loopw [3, 6] (fun x i wr => ∃ (k : Nat) (V' : Value) (ys : List Nat), k ≤ ds.length ∧ x = V' ∧ i = .int .i64 k ∧ ys ++ lbd (ds.drop k) = l3 ++ lbd ds ∧ ys.length = 2 + 2 * k ∧ RowB wr (w.heap.size + 1) V' ys ∧ Below w.heap.size w wr ∧ w.heap.size + 1 ≤ wr.heap.size ∧
      Bx wr w.heap.size 28 #[.int .i64 6, .int .i64 0, .bool false, .slice fA fs.length fC, .slice (some ⟨db, dO, none⟩) ds.length dC, .slice (some ⟨bbb, bo, none⟩) 1 bC, .slice nA ns.length nC]) (fun _ i _ => ds.length - (intOf i).toNat)
  case atStart => exact ⟨0, V3, l3, Nat.zero_le _, rfl, rfl, rfl, HL3.out, HR3.out, HW3.out, HS3.out, HX3.out⟩
  case round =>
    clear HL3 HR3 HW3 HS3 HX3 c4
    obtain ⟨k, V', ys, hk, rfl, rfl, hall, hlen, hrow, hW, hsw, hB⟩ := hrel
    have c4 := hB.cell 4
    have HALL := Lib.hid hall
    have HLEN := Lib.hid hlen
    have HROW := Lib.hid hrow
    have HW := Lib.hid hW
    have HSW := Lib.hid hsw
    have HB := Lib.hid hB
    clear hall hrow hW
    by_cases hlt3 : k < ds.length
    · have g0 := (HW.out.cell (p := ⟨db, dO + k, none⟩) hnd).trans (HD0.out k hlt3)
      have hdd := HDE.out ds[k] (List.getElem_mem hlt3)
      have hda := hdd.1
      have hdb := hdd.2
      have hall := HALL.out
      rw [List.drop_eq_getElem_cons hlt3, lbd_cons, ← List.append_assoc] at hall
      have HALL2 := Lib.hid hall
      have hd2' := digs_len 2 true (bits64 ds[k])
      have HD2 := Lib.hid hd2'
      have HLy := Lib.hid (show ys.length + 2 ≤ 140737488355328 by omega)
      clear hall hdd HALL hlen hd2' hB
      go_wp2_with (go_at_call 58; refine (digits_pos 2 ds[k] wr (by omega) (by omega) (by omega)).mono ?_)
      first
        | rintro _ w4 V4 rfl hrow4 hb4
        | rintro _ w4 ⟨V4, rfl, hrow4, hb4⟩
      obtain ⟨A4, C4, rfl, hby4⟩ := hrow4.byt
      rw [HD2.out] at hby4
      rw [HD2.out]
      have HB4 := Lib.hid hby4
      have HR4 := Lib.hid (HROW.out.below hb4)
      have HW4 := Lib.hid (below_more HW.out hb4)
      have HX4 := Lib.hid (HB.out.later hb4 HB.out.lt)
      have HS4 := Lib.hid (Nat.le_trans HSW.out hb4.size)
      clear hrow4 hb4 hby4 HROW HW HB
      go_wp2_with (at_builtin; refine wp_rowb rfl (.tmp 86) (.tmp 93) rfl (w.heap.size + 1) 2 C4 _ ys (digs 2 true (bits64 ds[k])) A4 _ rfl rfl HR4.out HB4.out HLy.out HS4.out ?_; intro V5 w5 hrow5 hb5; refine Hid.out ?_)
      have HR5 := Lib.hid hrow5
      have HW5 := Lib.hid (HW4.out.trans (hb5.mono (by omega)))
      have HX5 := Lib.hid (HX4.out.later hb5 (Nat.lt_succ_self _))
      have HS5 := Lib.hid (Nat.le_trans HS4.out hb5.size)
      clear hrow5 hb5
      refine go_on ?_
      go_wp2
      go_roundw
      case rel => exact ⟨k + 1, V5, _, by omega, rfl, by go_num, HALL2.out, by rw [List.length_append, HD2.out, HLEN.out]; omega, HR5.out, HW5.out, HS5.out, HX5.out⟩
      case measure => simp [intOf]; omega
    · obtain rfl : k = ds.length := by omega
      have hall := HALL.out
      rw [List.drop_length, show lbd ([] : List Int) = [] from rfl, List.append_nil] at hall
      have HTOT := Lib.hid (show ys ++ lb b = tot by rw [hall]; exact HTO.out)
      have hc := fun o : Nat => HW.out.cell (p := ⟨bbb, o, none⟩) hnb
      have a0 := (hc bo).trans (HB0.out 0 (by simp) 0 (by omega))
      have a1 := (hc (bo + 1)).trans (HB0.out 0 (by simp) 1 (by omega))
      have a2 := (hc (bo + 2)).trans (HB0.out 0 (by simp) 2 (by omega))
      have a3 := (hc (bo + 3)).trans (HB0.out 0 (by simp) 3 (by omega))
      have a4 := (hc (bo + 4)).trans (HB0.out 0 (by simp) 4 (by omega))
      have a5 := (hc (bo + 5)).trans (HB0.out 0 (by simp) 5 (by omega))
      have a6 := (hc (bo + 6)).trans (HB0.out 0 (by simp) 6 (by omega))
      have c5 := hB.cell 5
      have HBT1 := Lib.hid (((HBT.out 0 (by simp)).later HW.out).up HW.out.size)
      have HLy := Lib.hid (show ys.length + (lb b).length ≤ 140737488355328 by have := HLB.out; omega)
      clear hc hall hlen hB
      go_wp2_with (go_at_call 38; refine (IH.out b _ wr HZB.out HBT1.out).mono ?_)
      first
        | rintro _ w7 V7 rfl hrow7 hb7
        | rintro _ w7 ⟨V7, rfl, hrow7, hb7⟩
      obtain ⟨A7, C7, rfl, hby7⟩ := hrow7.byt
      have HB7 := Lib.hid hby7
      have HR7 := Lib.hid (HROW.out.below hb7)
      have HW7 := Lib.hid (below_more HW.out hb7)
      have HS7 := Lib.hid (Nat.le_trans HSW.out hb7.size)
      clear hrow7 hb7 hby7 a0 a1 a2 a3 a4 a5 a6 c4 c5
      go_wp2_with (at_builtin; refine wp_rowb rfl (.tmp 95) (.tmp 100) rfl (w.heap.size + 1) _ C7 _ ys (lb b) A7 _ rfl rfl HR7.out HB7.out HLy.out HS7.out ?_; intro V8 w8 hrow8 hb8; refine Hid.out ?_)
      have HR8 := Lib.hid hrow8
      have HW8 := Lib.hid (HW7.out.trans (hb8.mono (by omega)))
      clear hrow8 hb8
      refine go_on ?_
      go_wp2
      go_ret
      exact ⟨_, rfl, by rw [← HTOT.out]; exact HR8.out.up (by omega), HW8.out⟩

theorem laid_num2 (c wd : Nat) (bg : Bool) (f d b n : Value) (w : World) (hc1 : 1 ≤ c) (hc4 : c ≤ 4) (hw : wd ≤ 8) (hf : ∃ a l c, f = .slice a l c) (hd : ∃ a l c, d = .slice a l c) (hbb : ∃ a l c, b = .slice a l c) (hn : ∃ a l c, n = .slice a l c)
    (y : List Nat) (hy : [c, wd, if bg then 1 else 0] = y) :
    Calls Try.prog 38 #[.agg #[.int .i64 c, .int .i64 wd, .bool bg, f, d, b, n]] w fun e w' => ∃ V, e = .returned V ∧ RowB w' w.heap.size V y ∧ Below w.heap.size w w' :=
  hy ▸ laid_num c wd bg f d b n w hc1 hc4 hw hf hd hbb hn

set_option maxHeartbeats 4000000 in
set_option maxRecDepth 100000 in
theorem laid_enum (d : Nat) (hd : d ≤ 3) (t : Ty) (v : Value) (w : World) (hc : t.c = 7) (hz : sz (d + 1) t ≠ 0) (ht : TyAt w w.heap.size t v) :
    Calls Try.prog 38 #[v] w fun e w' => ∃ V, e = .returned V ∧ RowB w' w.heap.size V (lb t) ∧ Below w.heap.size w w' := by
  obtain ⟨b, hbs, hbc, hnum, -, hd1, hbig, hw0, hfn, hn1, hn2, hm⟩ := sz_enum hc hz
  have hi := (numB_iff b).mp hnum
  have hlm := lbm_len _ _ hm
  have hbw : 1 ≤ b.w ∧ b.w ≤ 8 := by omega
  rw [lb_enum hc hbs, lb_num (t := b) (by omega) (by omega) (by omega)]
  obtain ⟨cb, hcb⟩ : ∃ cb : Nat, b.c = cb := ⟨b.c.toNat, by omega⟩
  obtain ⟨wb, hwb⟩ : ∃ wb : Nat, b.w = wb := ⟨b.w.toNat, by omega⟩
  rw [hcb, hwb, Int.toNat_natCast, Int.toNat_natCast]
  clear hz hd1 hi hnum
  revert hc; revert hbs; revert hbig; revert hw0; revert hfn; revert hn1; revert hn2; revert hm; revert hlm
  cases ht with
  | mk c wd bb fs ds bs' ns fA dA bA nA fC dC bC nC fb fo db dO bbb bo nb nO fv bv hf hd' hb' hn hfz hnz hnr hcap hfA hdA hbA hnA hf0 hf1' hf2' hft hd0 hb0' hbt hn0' hn1' =>
  intro hlm hm hn2 hn1 hfn hw0 hbig hbs hc
  obtain rfl : c = 7 := hc
  obtain rfl : bb = false := hbig
  obtain rfl : bs' = [b] := hbs
  obtain rfl : wd = 0 := hw0
  change fs.length + ds.length = 0 at hfn
  change 1 ≤ ns.length at hn1
  change ns.length ≤ 16 at hn2
  change (lbm ns).length ≤ ns.length * 76 at hlm
  change mems b ns [] ≠ 0 at hm
  show Calls _ _ _ _ (fun e w' => ∃ V, e = .returned V ∧ RowB w' w.heap.size V (7 :: ([cb, wb, if b.big = true then 1 else 0] ++ digs 1 true (bits64 ns.length) ++ lbm ns)) ∧ Below w.heap.size w w')
  generalize hY : [cb, wb, if b.big = true then 1 else 0] = y3
  have HY := Lib.hid hY
  have hy3 : y3.length = 3 := by rw [← hY]; rfl
  clear hY
  clear hfz hfA hdA hf0 hf1' hf2' hft hd0
  have HN0 := Lib.hid hn0'
  have HN1 := Lib.hid hn1'
  have HB0 := Lib.hid hb0'
  have HBT := Lib.hid hbt
  have HM := Lib.hid hm
  have HNR := Lib.hid hnr
  clear hn0' hn1' hb0' hm hnr
  obtain ⟨rfl, hnb⟩ := hbA (by simp)
  obtain ⟨rfl, hnd⟩ := hnA (by omega)
  have hT := hbt 0 (by simp)
  rw [show [b][0] = b from rfl] at hT
  obtain ⟨fA', dA', bA', nA', fC', dC', bC', nC', e0, e1, e2, e3, e4, e5, e6⟩ := hT.cells
  have HBN := Lib.hid (below_new w (.cells #[.int .i64 7, .int .i64 0, .bool false, .slice fA fs.length fC, .slice dA ds.length dC, .slice (some ⟨bbb, bo, none⟩) 1 bC, .slice (some ⟨nb, nO, none⟩) ns.length nC] 28))
  have hbx := Bx.new w 28 #[.int .i64 7, .int .i64 0, .bool false, .slice fA fs.length fC, .slice dA ds.length dC, .slice (some ⟨bbb, bo, none⟩) 1 bC, .slice (some ⟨nb, nO, none⟩) ns.length nC]
  have hsz := size_alloc w (.cells #[.int .i64 7, .int .i64 0, .bool false, .slice fA fs.length fC, .slice dA ds.length dC, .slice (some ⟨bbb, bo, none⟩) 1 bC, .slice (some ⟨nb, nO, none⟩) ns.length nC] 28)
  have hr := RowB.lit (w.alloc (.cells #[.int .i64 7, .int .i64 0, .bool false, .slice fA fs.length fC, .slice dA ds.length dC, .slice (some ⟨bbb, bo, none⟩) 1 bC, .slice (some ⟨nb, nO, none⟩) ns.length nC] 28)) [7] (by intro x hx; rw [List.mem_singleton] at hx; omega) (by simp) (base := w.heap.size + 1) (by rw [hsz]; omega)
  rw [hsz] at hr
  have HR := Lib.hid hr
  have hW1 := below_more HBN.out (below_new (w.alloc (.cells #[.int .i64 7, .int .i64 0, .bool false, .slice fA fs.length fC, .slice dA ds.length dC, .slice (some ⟨bbb, bo, none⟩) 1 bC, .slice (some ⟨nb, nO, none⟩) ns.length nC] 28)) (.cells (by8 [7]).toArray 5))
  have HW1 := Lib.hid hW1
  have HX1 := Lib.hid (hbx.later (below_new _ (.cells (by8 [7]).toArray 5)) (by rw [hsz]; exact Nat.lt_succ_self _))
  have HS1 := Lib.hid (show w.heap.size + 1 ≤ ((w.alloc (.cells #[.int .i64 7, .int .i64 0, .bool false, .slice fA fs.length fC, .slice dA ds.length dC, .slice (some ⟨bbb, bo, none⟩) 1 bC, .slice (some ⟨nb, nO, none⟩) ns.length nC] 28)).alloc (.cells (by8 [7]).toArray 5)).heap.size by rw [size_alloc, hsz]; omega)
  have hc : ∀ o : Nat, ((w.alloc (.cells #[.int .i64 7, .int .i64 0, .bool false, .slice fA fs.length fC, .slice dA ds.length dC, .slice (some ⟨bbb, bo, none⟩) 1 bC, .slice (some ⟨nb, nO, none⟩) ns.length nC] 28)).alloc (.cells #[.int .u8 7] 5)).cell? ⟨bbb, o, none⟩ = w.cell? ⟨bbb, o, none⟩ := fun o : Nat => hW1.cell (p := ⟨bbb, o, none⟩) hnb
  have a0 := (hc bo).trans (HB0.out 0 (by simp) 0 (by omega))
  have a1 := (hc (bo + 1)).trans (HB0.out 0 (by simp) 1 (by omega))
  have a2 := (hc (bo + 2)).trans (HB0.out 0 (by simp) 2 (by omega))
  have a3 := (hc (bo + 3)).trans (HB0.out 0 (by simp) 3 (by omega))
  have a4 := (hc (bo + 4)).trans (HB0.out 0 (by simp) 4 (by omega))
  have a5 := (hc (bo + 5)).trans (HB0.out 0 (by simp) 5 (by omega))
  have a6 := (hc (bo + 6)).trans (HB0.out 0 (by simp) 6 (by omega))
  rw [e0, hcb] at a0
  rw [e1, hwb] at a1
  rw [e2] at a2
  rw [e3] at a3
  rw [e4] at a4
  rw [e5] at a5
  rw [e6] at a6
  have hcb1 : 1 ≤ cb := by omega
  have hcb4 : cb ≤ 4 := by omega
  have hwb8 : wb ≤ 8 := by omega
  have hone : digs 1 true (bits64 ns.length) = [ns.length] := by rw [bits64_nat (by omega), digs_one (by omega)]
  have hto : ([7] ++ y3) ++ [ns.length] ++ lbm ns = 7 :: (y3 ++ digs 1 true (bits64 ns.length) ++ lbm ns) := by
    rw [hone]; simp only [List.append_assoc, List.cons_append, List.nil_append]
  generalize 7 :: (y3 ++ digs 1 true (bits64 ns.length) ++ lbm ns) = tot at *
  have HTO := Lib.hid hto
  have HY3 := Lib.hid hy3
  clear hr hbx hsz hone hto hW1 hc HBN e0 e1 e2 e3 e4 e5 e6 hT hbt hcb hwb hbc hbw hy3
  go_enter Try.func38, Try.ntmps38
  go_wp2_with (go_at_call 38; refine (laid_num2 cb wb b.big _ _ _ _ _ hcb1 hcb4 hwb8 ⟨_, _, _, rfl⟩ ⟨_, _, _, rfl⟩ ⟨_, _, _, rfl⟩ ⟨_, _, _, rfl⟩ y3 HY.out).mono ?_)
  first
    | rintro _ w2 V2 rfl hrow2 hb2
    | rintro _ w2 ⟨V2, rfl, hrow2, hb2⟩
  have hb2 := below_succ2 hb2
  change Below ((w.alloc (.cells #[.int .i64 7, .int .i64 0, .bool false, .slice fA fs.length fC, .slice dA ds.length dC, .slice (some ⟨bbb, bo, none⟩) 1 bC, .slice (some ⟨nb, nO, none⟩) ns.length nC] 28)).alloc (.cells (by8 [7]).toArray 5)).heap.size ((w.alloc (.cells #[.int .i64 7, .int .i64 0, .bool false, .slice fA fs.length fC, .slice dA ds.length dC, .slice (some ⟨bbb, bo, none⟩) 1 bC, .slice (some ⟨nb, nO, none⟩) ns.length nC] 28)).alloc (.cells (by8 [7]).toArray 5)) w2 at hb2
  obtain ⟨A2, C2, rfl, hby2⟩ := hrow2.byt
  rw [HY3.out] at hby2
  rw [HY3.out]
  have HB2 := Lib.hid hby2
  have HR2 := Lib.hid (HR.out.below hb2)
  have HW2 := Lib.hid (below_more HW1.out hb2)
  have HX2 := Lib.hid (HX1.out.later hb2 (Nat.lt_of_lt_of_le (Nat.lt_succ_self _) HS1.out))
  have HS2 := Lib.hid (Nat.le_trans HS1.out hb2.size)
  clear hrow2 hb2 hby2 HR HW1 HX1 HS1 a0 a1 a2 a3 a4 a5 a6
  go_wp2_with (at_builtin; refine wp_rowb rfl (.tmp 104) (.tmp 109) rfl (w.heap.size + 1) 3 C2 _ [7] y3 A2 _ rfl rfl HR2.out HB2.out (by show 1 + 3 ≤ _; omega) HS2.out ?_; intro V3 w3 hrow3 hb3; refine Hid.out ?_)
  generalize hq3 : [7] ++ y3 = l3 at hrow3 HTO
  have hl3 : l3.length = 4 := by rw [← hq3, List.length_append, HY3.out]; rfl
  have HW3 := Lib.hid (HW2.out.trans (hb3.mono (by omega)))
  have hbx3 := HX2.out.later hb3 (Nat.lt_succ_self _)
  have c6 := hbx3.cell 6
  have HX3 := Lib.hid hbx3
  have HS3 := Lib.hid (Nat.le_trans HS2.out hb3.size)
  have HR3b := Lib.hid (hrow3.below (below_new _ (.cells (by8 [ns.length]).toArray 5)))
  have HB3 := Lib.hid (Byt.lit w3 [ns.length] (by intro x hx; rw [List.mem_singleton] at hx; omega))
  have HS3b := Lib.hid (show w.heap.size + 1 ≤ (w3.alloc (.cells (by8 [ns.length]).toArray 5)).heap.size by rw [size_alloc]; have := HS3.out; omega)
  have HL3 := Lib.hid (show l3.length + 1 ≤ 140737488355328 by omega)
  have HE3 := Lib.hid hl3
  clear hrow3 hb3 hbx3 hq3 hl3 HR2 HB2 HW2 HX2 HS2
  refine go_on ?_
  go_wp2_with (at_builtin; refine wp_rowb rfl (.tmp 111) (.tmp 116) rfl (w.heap.size + 1) 1 1 V3 l3 [ns.length] (some ⟨w3.heap.size, 0, none⟩) _ rfl rfl HR3b.out HB3.out HL3.out HS3b.out ?_; intro V4 w4 hrow4 hb4; refine Hid.out ?_)
  have hb4' : Below (w.heap.size + 1) w3 w4 := ((below_new w3 (.cells (by8 [ns.length]).toArray 5)).mono HS3.out).trans hb4
  have HR4 := Lib.hid hrow4
  have HW4 := Lib.hid (HW3.out.trans (hb4'.mono (by omega)))
  have hX4 := HX3.out.later hb4' (Nat.lt_succ_self _)
  have c6' := hX4.cell 6
  have HX4 := Lib.hid hX4
  have HS4 := Lib.hid (Nat.le_trans HS3.out hb4'.size)
  have hLL : MemLeft b 2000 tot ns (l3 ++ [ns.length]) := by
    refine ⟨⟨[], HM.out⟩, HTO.out, ?_⟩
    rw [← HTO.out, List.length_append, List.length_append, HE3.out]
    show 4 + 1 + _ ≤ _
    omega
  have HLL2 := Lib.hid hLL
  clear hrow4 hb4 hb4' hLL hX4 HR3b HB3 HS3b HW3 HX3 HS3 HL3 c6
  refine go_on ?_
  go_wp2
  go_loopw [3, 7] (fun x i wr => ∃ (k : Nat) (V' : Value) (ys : List Nat), k ≤ ns.length ∧ x = V' ∧ i = .int .i64 k ∧ MemLeft b 2000 tot (ns.drop k) ys ∧ RowB wr (w.heap.size + 1) V' ys ∧ Below w.heap.size w wr ∧ w.heap.size + 1 ≤ wr.heap.size ∧
      Bx wr w.heap.size 28 #[.int .i64 7, .int .i64 0, .bool false, .slice fA fs.length fC, .slice dA ds.length dC, .slice (some ⟨bbb, bo, none⟩) 1 bC, .slice (some ⟨nb, nO, none⟩) ns.length nC]) (fun _ i _ => ns.length - (intOf i).toNat)
  case atStart => exact ⟨0, V4, _, Nat.zero_le _, rfl, rfl, HLL2.out, HR4.out, HW4.out, HS4.out, HX4.out⟩
  case round =>
    clear HLL2 HR4 HW4 HS4 HX4 c6'
    obtain ⟨k, V', ys, hk, rfl, rfl, hcl, hrow, hW, hsw, hB⟩ := hrel
    have c6 := hB.cell 6
    have HCL := Lib.hid hcl
    have HROW := Lib.hid hrow
    have HW := Lib.hid hW
    have HSW := Lib.hid hsw
    have HB := Lib.hid hB
    clear hcl hrow hW hB
    by_cases hlt3 : k < ns.length
    · have g0 := (HW.out.cell (p := ⟨nb, nO + k * 2, none⟩) hnd).trans (HN0.out k hlt3)
      have hrr := HNR.out ns[k] (List.getElem_mem hlt3)
      have hr0 := hrr.1
      have hr1 := hrr.2
      have hcl := HCL.out
      rw [List.drop_eq_getElem_cons hlt3] at hcl
      obtain ⟨⟨k2, k3⟩, k4, k7⟩ := hcl.step
      have K7 := Lib.hid k7
      clear hcl k7 HCL hrr
      obtain ⟨wc, Cc, hcv, hby, hbw, hszc⟩ := conv_string wr ns[k].1
      have hm1 : ys.length ≤ 140737488000000 := by omega
      have hm2 : ns[k].1.size ≤ 65536 := by omega
      have hrc := HROW.out.below hbw
      obtain ⟨A2, C2, rfl, hbyr⟩ := hrc.byt
      have HBc := Lib.hid hbyr
      have HBn := Lib.hid (hby.up (show wr.heap.size + 1 ≤ wc.heap.size by omega))
      have HWc := Lib.hid (HW.out.trans (hbw.mono (by omega)))
      have HXc := Lib.hid (HB.out.later hbw HB.out.lt)
      have HSC := Lib.hid (show w.heap.size + 1 ≤ wc.heap.size by omega)
      clear hby hbw hszc hrc hbyr HW HB HROW
      go_wp2_with (go_at_call 59; refine (rputBytes_ok ys.length C2 ns[k].1.size Cc A2 (some ⟨wr.heap.size, 0, none⟩) ys (sbytes ns[k].1) wc hm2 hm1 HBc.out HBn.out).mono ?_)
      rintro _ w4 ⟨V4, rfl, hrow4, hb4⟩
      have hl4 : (ys ++ digs 4 true ns[k].1.size ++ sbytes ns[k].1).length = ys.length + 4 + ns[k].1.size := by simp only [List.length_append, digs_len, sbytes_len]
      have HL4 := Lib.hid (show (ys ++ digs 4 true ns[k].1.size ++ sbytes ns[k].1).length + 8 ≤ 140737488355328 by omega)
      have hx4 := HXc.out.later hb4 HXc.out.lt
      have hw4 := below_more HWc.out hb4
      have c6b := hx4.cell 6
      have g1 := (hw4.cell (p := ⟨nb, nO + k * 2 + 1, none⟩) hnd).trans (HN1.out k hlt3)
      generalize hq4 : ys ++ digs 4 true ns[k].1.size ++ sbytes ns[k].1 = l4 at hrow4 HL4 K7
      have HR4 := Lib.hid (hrow4.up HSC.out)
      have HW4 := Lib.hid hw4
      have HX4 := Lib.hid hx4
      have HS4 := Lib.hid (Nat.le_trans HSC.out hb4.size)
      have hux := bits64_wrap ns[k].2
      have HUX := Lib.hid hux
      have hd8 := digs_len 8 true (bits64 ns[k].2)
      have HD8 := Lib.hid hd8
      clear hl4 hrow4 hb4 hx4 hw4 HWc HXc HBn HBc hcv hq4 g0 c6 hux hd8
      go_wp2_with fail
      rw [HUX.out]
      refine (digits_any true 8 (bits64 ns[k].2) w4 (by omega) (bits64_le _)).mono ?_
      first
        | rintro _ w5 V5 rfl hrow5 hb5
        | rintro _ w5 ⟨V5, rfl, hrow5, hb5⟩
      obtain ⟨A5, C5, rfl, hby5⟩ := hrow5.byt
      rw [HD8.out] at hby5
      rw [HD8.out]
      have HB5 := Lib.hid hby5
      have HR5 := Lib.hid (HR4.out.below hb5)
      have HW5 := Lib.hid (below_more HW4.out hb5)
      have HX5 := Lib.hid (HX4.out.later hb5 HX4.out.lt)
      have HS5 := Lib.hid (Nat.le_trans HS4.out hb5.size)
      clear hrow5 hb5 hby5 HR4 HW4 HX4 g1 c6b
      go_wp2_with (at_builtin; refine wp_rowb rfl (.tmp 137) (.tmp 145) rfl (w.heap.size + 1) 8 C5 V4 l4 (digs 8 true (bits64 ns[k].2)) A5 _ rfl rfl HR5.out HB5.out HL4.out HS5.out ?_; intro V6 w6 hrow6 hb6; refine Hid.out ?_)
      have HR6 := Lib.hid hrow6
      have HW6 := Lib.hid (HW5.out.trans (hb6.mono (by omega)))
      have HX6 := Lib.hid (HX5.out.later hb6 (Nat.lt_succ_self _))
      have HS6 := Lib.hid (Nat.le_trans HS5.out hb6.size)
      clear hrow6 hb6
      refine go_on ?_
      go_wp2
      go_roundw
      case rel => exact ⟨k + 1, V6, _, by omega, rfl, by go_num, K7.out, HR6.out, HW6.out, HS6.out, HX6.out⟩
      case measure => simp [intOf]; omega
    · obtain rfl : k = ns.length := by omega
      have hcl := HCL.out
      rw [List.drop_length] at hcl
      have ha := hcl.all
      rw [show lbm ([] : List (ByteArray × Int)) = [] from rfl, List.append_nil] at ha
      have HA := Lib.hid ha
      clear hcl ha
      go_wp2
      go_ret
      exact ⟨_, rfl, by rw [← HA.out]; exact HROW.out.up (by omega), HW.out⟩
end Go.Proofs.Ytbdhihgokkcmfaa.Ty9
