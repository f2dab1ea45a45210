/- The reference's Places; the law DatatypePlaces. -/
import Derived.Test.YtbdhihgokkcmfaaWi
namespace Go.Proofs.Ytbdhihgokkcmfaa.Ty9
set_option linter.unusedVariables false
set_option linter.unusedSimpArgs false
open Go.RowKit Wd

set_option maxHeartbeats 2000000 in
set_option maxRecDepth 100000 in
theorem win_num (c wd : Int) (bg : Bool) (f d b n : Value) (p : Int) (w : World) (hc : c ≠ 4 ∧ c ≠ 5 ∧ c ≠ 6 ∧ c ≠ 7) (hf : ∃ a l c, f = .slice a l c) (hd : ∃ a l c, d = .slice a l c) (hbb : ∃ a l c, b = .slice a l c) (hn : ∃ a l c, n = .slice a l c) :
    Calls Try.prog 36 #[.agg #[.int .i64 c, .int .i64 wd, .bool bg, f, d, b, n], .int .i64 p] w fun e w' => ∃ V, e = .returned V ∧ RowP w' w.heap.size V [⟨p, c, wd, bg⟩] ∧ Below w.heap.size w w' := by
  obtain ⟨fa, fl, fc, rfl⟩ := hf
  obtain ⟨da, dl, dc, rfl⟩ := hd
  obtain ⟨ba, bl, bc, rfl⟩ := hbb
  obtain ⟨na, nl, nc, rfl⟩ := hn
  have c4 : (c == 4) = false := beq_eq_false_iff_ne.mpr hc.1
  have c5 : (c == 5) = false := beq_eq_false_iff_ne.mpr hc.2.1
  have c6 : (c == 6) = false := beq_eq_false_iff_ne.mpr hc.2.2.1
  have c7 : (c == 7) = false := beq_eq_false_iff_ne.mpr hc.2.2.2
  clear hc
  go_enter Try.func36, Try.ntmps36
  go_wp2
  go_ret
  refine ⟨_, rfl, ?_, below_more (below_new _ _) (below_new _ _)⟩
  have h := World.ownsRow_lit (base := w.heap.size) (e := 48) (size := 4) (w.alloc (.cells #[.int .i64 c, .int .i64 wd, .bool bg, .slice fa fl fc, .slice da dl dc, .slice ba bl bc, .slice na nl nc] 28)) #[.int .i64 p, .int .i64 c, .int .i64 wd, .bool bg] 1 (by rw [size_alloc]; omega) (by unfold maxLen; omega) rfl
  rw [size_alloc] at h
  exact h

set_option maxHeartbeats 2000000 in
set_option maxRecDepth 100000 in
theorem win_cplx (wd : Int) (bg : Bool) (f d b n : Value) (p : Int) (w : World) (hp0 : 0 ≤ p) (hp1 : p ≤ 100000) (hw0 : 0 ≤ wd) (hw1 : wd ≤ 100000) (hf : ∃ a l c, f = .slice a l c) (hd : ∃ a l c, d = .slice a l c) (hbb : ∃ a l c, b = .slice a l c) (hn : ∃ a l c, n = .slice a l c) :
    Calls Try.prog 36 #[.agg #[.int .i64 4, .int .i64 wd, .bool bg, f, d, b, n], .int .i64 p] w fun e w' => ∃ V, e = .returned V ∧ RowP w' w.heap.size V [⟨p, 3, wd, bg⟩, ⟨p + wd, 3, wd, bg⟩] ∧ Below w.heap.size w w' := by
  obtain ⟨fa, fl, fc, rfl⟩ := hf
  obtain ⟨da, dl, dc, rfl⟩ := hd
  obtain ⟨ba, bl, bc, rfl⟩ := hbb
  obtain ⟨na, nl, nc, rfl⟩ := hn
  go_enter Try.func36, Try.ntmps36
  go_wp2
  go_ret
  refine ⟨_, rfl, ?_, below_more (below_new _ _) (below_new _ _)⟩
  have h := World.ownsRow_lit (base := w.heap.size) (e := 48) (size := 4) (w.alloc (.cells #[.int .i64 4, .int .i64 wd, .bool bg, .slice fa fl fc, .slice da dl dc, .slice ba bl bc, .slice na nl nc] 28)) #[.int .i64 p, .int .i64 3, .int .i64 wd, .bool bg, .int .i64 (p + wd), .int .i64 3, .int .i64 wd, .bool bg] 2 (by rw [size_alloc]; omega) (by unfold maxLen; omega) rfl
  rw [size_alloc] at h
  exact h

set_option maxHeartbeats 2000000 in
set_option maxRecDepth 100000 in
theorem win_enum (d : Nat) (t : Ty) (v : Value) (p : Int) (w : World) (hc : t.c = 7) (hz : sz (d + 1) t ≠ 0) (ht : TyAt w w.heap.size t v) :
    Calls Try.prog 36 #[v, .int .i64 p] w fun e w' => ∃ V, e = .returned V ∧ RowP w' w.heap.size V (pls t p) ∧ Below w.heap.size w w' := by
  obtain ⟨b, hbs, hbc, hn, e, hd1, hbig, hw0, hfn, hn1, hn2, hm⟩ := sz_enum hc hz
  have hpl : pls t p = [⟨p, b.c, b.w, b.big⟩] := by rw [pls_enum hc hbs, num_len (by omega) (by omega) (by omega), if_neg (by omega)]
  rw [hpl]
  clear hpl hz e hm hn
  revert hc; revert hbs; revert hbig; revert hw0; revert hfn; revert hn1; revert hn2
  cases ht with
  | mk c wd bb fs ds bs ns fA dA bA nA fC dC bC nC fb fo db dO bbb bo nb nO fv bv hf hd' hb' hn hfz hnz hnr hcap hfA hdA hbA hnA hf0 hf1' hf2' hft hd0 hb0' hbt hn0' hn1' =>
  intro hn2 hn1 hfn hw0 hbig hbs hc
  obtain rfl : c = 7 := hc
  obtain rfl : bb = false := hbig
  obtain rfl : bs = [b] := hbs
  obtain rfl : wd = 0 := hw0
  clear hfz hnz hnr hfA hdA hnA hf0 hf1' hf2' hft hd0 hn0' hn1'
  have HB0 := Lib.hid hb0'
  have HBT := Lib.hid hbt
  clear hb0' hbt
  obtain ⟨rfl, hnb⟩ := hbA (by simp)
  have HBN := Lib.hid (below_new w (.cells #[.int .i64 7, .int .i64 0, .bool false, .slice fA fs.length fC, .slice dA ds.length dC, .slice (some ⟨bbb, bo, none⟩) 1 bC, .slice nA ns.length nC] 28))
  have hc := fun o : Nat => HBN.out.cell (p := ⟨bbb, o, none⟩) hnb
  have a0 := (hc bo).trans (HB0.out 0 (by simp) 0 (by omega))
  have a1 := (hc (bo + 1)).trans (HB0.out 0 (by simp) 1 (by omega))
  have a2 := (hc (bo + 2)).trans (HB0.out 0 (by simp) 2 (by omega))
  have a3 := (hc (bo + 3)).trans (HB0.out 0 (by simp) 3 (by omega))
  have a4 := (hc (bo + 4)).trans (HB0.out 0 (by simp) 4 (by omega))
  have a5 := (hc (bo + 5)).trans (HB0.out 0 (by simp) 5 (by omega))
  have a6 := (hc (bo + 6)).trans (HB0.out 0 (by simp) 6 (by omega))
  clear hc
  have hbt := HBT.out 0 (by simp)
  rw [show [b][0] = b from rfl] at hbt
  obtain ⟨fA', dA', bA', nA', fC', dC', bC', nC', e0, e1, e2, e3, e4, e5, e6⟩ := hbt.cells
  rw [e0] at a0
  rw [e1] at a1
  rw [e2] at a2
  rw [e3] at a3
  rw [e4] at a4
  rw [e5] at a5
  rw [e6] at a6
  clear e0 e1 e2 e3 e4 e5 e6 hbt HBT HB0
  have hc1 : b.c ≠ 4 ∧ b.c ≠ 5 ∧ b.c ≠ 6 ∧ b.c ≠ 7 := by omega
  have HC1 := Lib.hid hc1
  clear hc1 hbc
  go_enter Try.func36, Try.ntmps36
  go_wp2_with (fail)
  refine (win_num b.c b.w b.big _ _ _ _ p _ HC1.out ⟨_, _, _, rfl⟩ ⟨_, _, _, rfl⟩ ⟨_, _, _, rfl⟩ ⟨_, _, _, rfl⟩).mono ?_
  rintro _ w2 ⟨V, rfl, hrow, hb2⟩
  have HROW := Lib.hid hrow
  have HW := Lib.hid (below_more HBN.out hb2)
  clear hrow hb2 a0 a1 a2 a3 a4 a5 a6
  go_wp2
  go_ret
  exact ⟨V, rfl, own_base HROW.out (by rw [size_alloc]; omega), HW.out⟩

theorem win_any (d : Nat) : d ≤ 4 → WinOk d := by
  induction d with
  | zero => intro _ t v p w hz; exact absurd rfl hz
  | succ d ih =>
    intro hd t v p w hz ht hp0 hp1
    have ih := ih (by omega)
    by_cases h5 : t.c = 5
    · exact win_comp d (by omega) ih t v p w h5 hz ht hp0 hp1
    by_cases h6 : t.c = 6
    · exact win_arr d (by omega) ih t v p w h6 hz ht hp0 hp1
    by_cases h7 : t.c = 7
    · exact win_enum d t v p w h7 hz ht
    obtain ⟨hn, e⟩ := sz_nums h5 h6 h7 hz
    have hi := (numB_iff t).mp hn
    have hg := sz_ge (d + 1) t
    obtain ⟨fA, dA, bA, nA, fC, dC, bC, nC, rfl⟩ := ht.shape
    rw [num_len h5 h6 h7]
    by_cases h4 : t.c = 4
    · rw [if_pos h4, h4]
      exact win_cplx t.w t.big _ _ _ _ p w hp0 (by omega) (by omega) (by omega) ⟨_, _, _, rfl⟩ ⟨_, _, _, rfl⟩ ⟨_, _, _, rfl⟩ ⟨_, _, _, rfl⟩
    · rw [if_neg h4]
      exact win_num t.c t.w t.big _ _ _ _ p w ⟨h4, h5, h6, h7⟩ ⟨_, _, _, rfl⟩ ⟨_, _, _, rfl⟩ ⟨_, _, _, rfl⟩ ⟨_, _, _, rfl⟩

set_option maxHeartbeats 2000000 in
set_option maxRecDepth 100000 in
theorem rplaces_no (t : Ty) (v : Value) (w : World) (ht : TyAt w w.heap.size t v) (hz : sz 4 t = 0) :
    Calls Try.prog 20 #[v] w fun e w' => e = .returned (.tuple #[.slice none 0 0, .int .i64 15]) ∧ Below w.heap.size w w' := by
  obtain ⟨fA, dA, bA, nA, fC, dC, bC, nC, rfl⟩ := ht.shape
  have HT := Lib.hid ((ht.later (below_new w (.cells #[.int .i64 t.c, .int .i64 t.w, .bool t.big, .slice fA t.fs.length fC, .slice dA t.ds.length dC, .slice bA t.bs.length bC, .slice nA t.ns.length nC] 28))).up (below_new w (.cells #[.int .i64 t.c, .int .i64 t.w, .bool t.big, .slice fA t.fs.length fC, .slice dA t.ds.length dC, .slice bA t.bs.length bC, .slice nA t.ns.length nC] 28)).size)
  have HSV := Lib.hid (show sizeV t = .tuple #[.int .i64 0, .int .i64 15] from if_pos hz)
  clear ht hz
  go_enter Try.func20, Try.ntmps20
  go_wp2_with (go_at_call 16; refine (rsize_any t _ _ ?_).mono ?_)
  · exact HT.out
  rintro _ w2 ⟨he, hb2⟩
  rw [HSV.out] at he
  subst he
  have HW := Lib.hid (below_more (below_new _ _) hb2)
  clear hb2
  go_wp2
  go_ret2
  exact ⟨rfl, HW.out⟩

set_option maxHeartbeats 2000000 in
set_option maxRecDepth 100000 in
theorem rplaces_yes (t : Ty) (v : Value) (w : World) (ht : TyAt w w.heap.size t v) (hz : sz 4 t ≠ 0) :
    Calls Try.prog 20 #[v] w fun e w' => ∃ V, e = .returned (.tuple #[V, .int .i64 0]) ∧ RowP w' w.heap.size V (pls t 0) ∧ Below w.heap.size w w' := by
  obtain ⟨fA, dA, bA, nA, fC, dC, bC, nC, rfl⟩ := ht.shape
  have HT0 := Lib.hid ht
  have HT := Lib.hid ((ht.later (below_new w (.cells #[.int .i64 t.c, .int .i64 t.w, .bool t.big, .slice fA t.fs.length fC, .slice dA t.ds.length dC, .slice bA t.bs.length bC, .slice nA t.ns.length nC] 28))).up (below_new w (.cells #[.int .i64 t.c, .int .i64 t.w, .bool t.big, .slice fA t.fs.length fC, .slice dA t.ds.length dC, .slice bA t.bs.length bC, .slice nA t.ns.length nC] 28)).size)
  have HBX := Lib.hid (Bx.new w 28 #[.int .i64 t.c, .int .i64 t.w, .bool t.big, .slice fA t.fs.length fC, .slice dA t.ds.length dC, .slice bA t.bs.length bC, .slice nA t.ns.length nC])
  have HSV := Lib.hid (show sizeV t = .tuple #[.int .i64 (sz 4 t), .int .i64 0] from if_neg hz)
  have HZ := Lib.hid hz
  have hle := sz_le 4 t
  clear ht hz
  go_enter Try.func20, Try.ntmps20
  go_wp2_with (go_at_call 16; refine (rsize_any t _ _ ?_).mono ?_)
  · exact HT.out
  rintro _ w2 ⟨he, hb2⟩
  rw [HSV.out] at he
  subst he
  have HW := Lib.hid (below_more (below_new _ _) hb2)
  have HBX2 := Lib.hid (HBX.out.later hb2 (by simp))
  have c0 := HBX2.out.cell 0
  have c1 := HBX2.out.cell 1
  have c2 := HBX2.out.cell 2
  have c3 := HBX2.out.cell 3
  have c4 := HBX2.out.cell 4
  have c5 := HBX2.out.cell 5
  have c6 := HBX2.out.cell 6
  have HT2 := Lib.hid ((HT0.out.later HW.out).up HW.out.size)
  clear hb2 HBX HT
  go_wp2_with (fail)
  refine (win_any 4 (by omega) t _ 0 w2 HZ.out HT2.out (Int.le_refl _) (by omega)).mono ?_
  rintro _ w3 ⟨V, rfl, hrow, hb3⟩
  have HROW := Lib.hid hrow
  have HW3 := Lib.hid (below_more HW.out hb3)
  clear hrow hb3
  go_wp2
  go_ret2
  exact ⟨V, rfl, own_base HROW.out HW.out.size, HW3.out⟩
end Go.Proofs.Ytbdhihgokkcmfaa.Ty9
