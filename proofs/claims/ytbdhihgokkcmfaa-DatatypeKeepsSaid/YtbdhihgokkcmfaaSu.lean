/- The reference's Sized and Size. -/
import Derived.Test.YtbdhihgokkcmfaaSs
import Derived.Test.YtbdhihgokkcmfaaSt
namespace Go.Proofs.Ytbdhihgokkcmfaa.Ty9
set_option linter.unusedVariables false
set_option linter.unusedSimpArgs false
open Go.RowKit Wd

set_option maxHeartbeats 2000000 in
set_option maxRecDepth 100000 in
theorem sized_zero : SizedOk 0 := by
  intro t v w ht
  obtain ⟨fA, dA, bA, nA, fC, dC, bC, nC, rfl⟩ := ht.shape
  go_enter Try.func34, Try.ntmps34
  go_wp2
  go_ret
  exact ⟨rfl, below_new _ _⟩

set_option maxHeartbeats 2000000 in
set_option maxRecDepth 100000 in
theorem sized_succ (d : Nat) (hd4 : d ≤ 1000) (ih : SizedOk d) : SizedOk (d + 1) := by
  intro t v w ht
  obtain ⟨fA, dA, bA, nA, fC, dC, bC, nC, rfl⟩ := ht.shape
  have hln := ht.lens
  have HT := Lib.hid ((ht.later (below_new w (.cells #[.int .i64 t.c, .int .i64 t.w, .bool t.big, .slice fA t.fs.length fC, .slice dA t.ds.length dC, .slice bA t.bs.length bC, .slice nA t.ns.length nC] 28))).up (below_new w (.cells #[.int .i64 t.c, .int .i64 t.w, .bool t.big, .slice fA t.fs.length fC, .slice dA t.ds.length dC, .slice bA t.bs.length bC, .slice nA t.ns.length nC] 28)).size)
  have HBX := Lib.hid (Bx.new w 28 #[.int .i64 t.c, .int .i64 t.w, .bool t.big, .slice fA t.fs.length fC, .slice dA t.ds.length dC, .slice bA t.bs.length bC, .slice nA t.ns.length nC])
  have IH := Lib.hid ih
  clear ih ht
  have hsz : sz (d + 1) t = cap256 (if t.c = 5 then compS (sz d) t else if t.c = 6 then arrS (sz d) t else if t.c = 7 then enumS d t else numS t) := rfl
  have HSZ := Lib.hid hsz
  clear hsz
  go_enter Try.func34, Try.ntmps34
  by_cases h5 : t.c = 5
  · have hz := HSZ.out
    rw [if_pos h5] at hz
    generalize hr : compS (sz d) t = r at hz
    have HR := Lib.hid hr
    have HZ := Lib.hid hz
    have ht5 := HT.out
    rw [h5] at ht5
    have HT5 := Lib.hid ht5
    clear hr hz ht5 HT HBX HSZ
    go_wp2_with (go_at_call 52; refine (rcompound_any d hd4 IH.out t _ _ ?_).mono ?_)
    · exact HT5.out
    rintro _ w2 ⟨he, hb2⟩
    rw [HR.out] at he
    subst he
    have HW := Lib.hid (below_more (below_new _ _) hb2)
    clear hb2
    by_cases hr : 256 < r
    · go_wp2
      go_ret
      exact ⟨by rw [HZ.out, cap256, if_pos (by omega)]; rfl, HW.out⟩
    · go_wp2
      go_ret
      exact ⟨by rw [HZ.out, cap256, if_neg (by omega)]; rfl, HW.out⟩
  by_cases h6 : t.c = 6
  · have hz := HSZ.out
    rw [if_neg h5, if_pos h6] at hz
    generalize hr : arrS (sz d) t = r at hz
    have HR := Lib.hid hr
    have HZ := Lib.hid hz
    have ht5 := HT.out
    rw [h6] at ht5
    have HT5 := Lib.hid ht5
    clear hr hz ht5 HT HBX HSZ
    go_wp2_with (go_at_call 53; refine (rarray_any d hd4 IH.out t _ _ ?_).mono ?_)
    · exact HT5.out
    rintro _ w2 ⟨he, hb2⟩
    rw [HR.out] at he
    subst he
    have HW := Lib.hid (below_more (below_new _ _) hb2)
    clear hb2
    by_cases hr : 256 < r
    · go_wp2
      go_ret
      exact ⟨by rw [HZ.out, cap256, if_pos (by omega)]; rfl, HW.out⟩
    · go_wp2
      go_ret
      exact ⟨by rw [HZ.out, cap256, if_neg (by omega)]; rfl, HW.out⟩
  by_cases h7 : t.c = 7
  · have hz := HSZ.out
    rw [if_neg h5, if_neg h6, if_pos h7] at hz
    generalize hr : enumS d t = r at hz
    have HR := Lib.hid hr
    have HZ := Lib.hid hz
    have ht5 := HT.out
    rw [h7] at ht5
    have HT5 := Lib.hid ht5
    clear hr hz ht5 HT HBX HSZ
    go_wp2_with (go_at_call 54; refine (renum_any d hd4 t _ _ ?_).mono ?_)
    · exact HT5.out
    rintro _ w2 ⟨he, hb2⟩
    rw [HR.out] at he
    subst he
    have HW := Lib.hid (below_more (below_new _ _) hb2)
    clear hb2
    by_cases hr : 256 < r
    · go_wp2
      go_ret
      exact ⟨by rw [HZ.out, cap256, if_pos (by omega)]; rfl, HW.out⟩
    · go_wp2
      go_ret
      exact ⟨by rw [HZ.out, cap256, if_neg (by omega)]; rfl, HW.out⟩
  have hz := HSZ.out
  rw [if_neg h5, if_neg h6, if_neg h7] at hz
  have HZ := Lib.hid hz
  clear hz HSZ
  have b5 : (t.c == 5) = false := beq_eq_false_iff_ne.mpr h5
  have b6 : (t.c == 6) = false := beq_eq_false_iff_ne.mpr h6
  have b7 : (t.c == 7) = false := beq_eq_false_iff_ne.mpr h7
  go_wp2_with (go_at_call 55; refine (number_any t _ _ ?_).mono ?_)
  · exact HT.out
  rintro _ w2 ⟨rfl, hb2⟩
  have HW := Lib.hid (below_more (below_new _ _) hb2)
  have hB := HBX.out.later hb2 (by simp)
  have c0 := hB.cell 0
  have c1 := hB.cell 1
  clear hB hb2 HBX HT
  by_cases hnum : numB t = true
  · have hni := (numB_iff t).mp hnum
    have w1 : 1 ≤ t.w := by omega
    have w2 : t.w ≤ 8 := by omega
    rw [hnum]
    by_cases h4 : t.c = 4
    · have hr : sz (d + 1) t = 2 * t.w := by rw [HZ.out, numS, if_pos hnum, if_pos h4, cap256, if_neg (by omega)]
      have HR := Lib.hid hr
      clear hr hni
      go_wp2
      go_ret
      exact ⟨by rw [HR.out]; rfl, HW.out⟩
    · have hr : sz (d + 1) t = t.w := by rw [HZ.out, numS, if_pos hnum, if_neg h4, cap256, if_neg (by omega)]
      have HR := Lib.hid hr
      have b4 : (t.c == 4) = false := beq_eq_false_iff_ne.mpr h4
      clear hr hni
      go_wp2
      go_ret
      exact ⟨by rw [HR.out]; rfl, HW.out⟩
  · have hr : sz (d + 1) t = 0 := by rw [HZ.out, numS, if_neg hnum]; rfl
    have HR := Lib.hid hr
    clear hr
    rw [Bool.not_eq_true] at hnum
    rw [hnum]
    go_wp2
    all_goals
      go_ret
      exact ⟨by rw [HR.out]; rfl, HW.out⟩

theorem sized_any (d : Nat) (h : d ≤ 1000) : SizedOk d := by
  induction d with
  | zero => exact sized_zero
  | succ d ih => exact sized_succ d (by omega) (ih (by omega))

/-- The size of a type, and the error's number. -/
noncomputable def sizeV (t : Ty) : Value := if sz 4 t = 0 then .tuple #[.int .i64 0, .int .i64 15] else .tuple #[.int .i64 (sz 4 t), .int .i64 0]
set_option maxHeartbeats 2000000 in
theorem rsize_any (t : Ty) (v : Value) (w : World) (ht : TyAt w w.heap.size t v) :
    Calls Try.prog 16 #[v] w fun e w' => e = .returned (sizeV t) ∧ Below w.heap.size w w' := by
  obtain ⟨fA, dA, bA, nA, fC, dC, bC, nC, rfl⟩ := ht.shape
  have HT := Lib.hid ((ht.later (below_new w (.cells #[.int .i64 t.c, .int .i64 t.w, .bool t.big, .slice fA t.fs.length fC, .slice dA t.ds.length dC, .slice bA t.bs.length bC, .slice nA t.ns.length nC] 28))).up (below_new w (.cells #[.int .i64 t.c, .int .i64 t.w, .bool t.big, .slice fA t.fs.length fC, .slice dA t.ds.length dC, .slice bA t.bs.length bC, .slice nA t.ns.length nC] 28)).size)
  clear ht
  generalize hr : sz 4 t = r
  have HR := Lib.hid hr
  have hv : sizeV t = if r = 0 then .tuple #[.int .i64 0, .int .i64 15] else .tuple #[.int .i64 r, .int .i64 0] := by rw [sizeV, hr]
  rw [hv]
  clear hr hv
  go_enter Try.func16, Try.ntmps16
  go_wp2_with (go_at_call 34; refine (sized_any 4 (by omega) t _ _ ?_).mono ?_)
  · exact HT.out
  rintro _ w2 ⟨he, hb2⟩
  rw [HR.out] at he
  subst he
  have HW := Lib.hid (below_more (below_new _ _) hb2)
  clear hb2
  by_cases hz : r = 0
  · subst hz
    go_wp2
    go_ret2
    exact ⟨rfl, HW.out⟩
  · have hb : (r == 0) = false := beq_eq_false_iff_ne.mpr hz
    have hif : (if r = 0 then Value.tuple #[.int .i64 0, .int .i64 15] else .tuple #[.int .i64 r, .int .i64 0]) = .tuple #[.int .i64 r, .int .i64 0] := if_neg hz
    have HIF := Lib.hid hif
    clear hif
    go_wp2
    go_ret2
    exact ⟨by first | rfl | (rw [HIF.out]; rfl), HW.out⟩
end Go.Proofs.Ytbdhihgokkcmfaa.Ty9
