/- size, Size, Check. -/
import Derived.Test.YtbdhihgokkcmfaaPc
namespace Go.Proofs.Ytbdhihgokkcmfaa.Ty9
set_option linter.unusedVariables false
set_option linter.unusedSimpArgs false
open Go.RowKit Wd

theorem sz_big {d : Nat} {t : Ty} (hc : 4 < t.c) (hb : t.big = true) : sz d t = 0 := by
  cases d with
  | zero => rfl
  | succ d =>
    have h1 : compS (sz d) t = 0 := by unfold compS; exact if_pos (.inl hb)
    have h2 : arrS (sz d) t = 0 := by unfold arrS; exact if_pos (.inl hb)
    have h3 : enumS d t = 0 := by unfold enumS; exact if_pos (.inl hb)
    have h4 : numB t = true → False := fun h => by have := (numB_iff t).mp h; omega
    rw [sz, h1, h2, h3, numS, if_neg h4]
    simp [cap256]
theorem sz_num {d : Nat} {t : Ty} (h5 : t.c ≠ 5) (h6 : t.c ≠ 6) (h7 : t.c ≠ 7) : sz (d + 1) t = numS t := by
  rw [sz, if_neg h5, if_neg h6, if_neg h7, cap256, if_neg]
  unfold numS
  split
  · rename_i h
    have := (numB_iff t).mp h
    split <;> omega
  · omega

set_option maxHeartbeats 2000000 in
set_option maxRecDepth 100000 in
theorem psize_zero : PSizeOk 0 := by
  intro t v w ht
  obtain ⟨fA, dA, bA, nA, fC, dC, bC, nC, rfl⟩ := ht.shape
  go_enter Try.func33, Try.ntmps33
  go_wp2
  go_ret
  exact ⟨rfl, below_new _ _⟩

set_option maxHeartbeats 4000000 in
set_option maxRecDepth 100000 in
theorem psize_succ (d : Nat) (hd4 : d ≤ 1000) (ih : PSizeOk d) : PSizeOk (d + 1) := by
  intro t v w ht
  obtain ⟨fA, dA, bA, nA, fC, dC, bC, nC, rfl⟩ := ht.shape
  have hln := ht.lens
  have HT := Lib.hid ((ht.later (below_new w (.cells #[.int .i64 t.c, .int .i64 t.w, .bool t.big, .slice fA t.fs.length fC, .slice dA t.ds.length dC, .slice bA t.bs.length bC, .slice nA t.ns.length nC] 28))).up (below_new w (.cells #[.int .i64 t.c, .int .i64 t.w, .bool t.big, .slice fA t.fs.length fC, .slice dA t.ds.length dC, .slice bA t.bs.length bC, .slice nA t.ns.length nC] 28)).size)
  have HBX := Lib.hid (Bx.new w 28 #[.int .i64 t.c, .int .i64 t.w, .bool t.big, .slice fA t.fs.length fC, .slice dA t.ds.length dC, .slice bA t.bs.length bC, .slice nA t.ns.length nC])
  have IH := Lib.hid ih
  clear ih ht
  have hsz : sz (d + 1) t = cap256 (if t.c = 5 then compS (sz d) t else if t.c = 6 then arrS (sz d) t else if t.c = 7 then enumS d t else numS t) := rfl
  have HSZ := Lib.hid hsz
  clear hsz
  generalize hr0 : sz (d + 1) t = R at *
  have HR0 := Lib.hid hr0
  clear hr0
  have hd0 : ((d : Int) + 1 == 0) = false := by rw [beq_eq_false_iff_ne]; omega
  have hg1 : t.w ≤ 9223372036854775807 ∨ 8 < t.w := by omega
  clear hg1
  go_enter Try.func33, Try.ntmps33
  by_cases hcb : 4 < t.c ∧ t.big = true
  · obtain ⟨hc4, hbg⟩ := hcb
    have HZ := Lib.hid ((sz_big (d := d + 1) hc4 hbg).symm.trans HR0.out)
    clear HSZ HR0 IH HT
    go_wp2
    go_ret
    exact ⟨by rw [← HZ.out]; rfl, below_new _ _⟩
  by_cases h5 : t.c = 5
  · have hbg : t.big = false := by
      cases hb : t.big
      · rfl
      · exact absurd ⟨by omega, hb⟩ hcb
    have HBG := Lib.hid hbg
    have hz := HSZ.out
    rw [if_pos h5] at hz
    generalize hr : compS (sz d) t = r at hz
    have HR := Lib.hid hr
    have HZ := Lib.hid hz
    have ht5 := HT.out
    rw [h5] at ht5
    have HT5 := Lib.hid ht5
    clear hr hz ht5 HT HBX HSZ HR0 hcb hbg
    have hbg := HBG.out
    rw [hbg] at HT5
    go_wp2_with (go_at_call 49; refine (pcompound_any d hd4 IH.out t _ _ ?_ HBG.out).mono ?_)
    · exact HT5.out
    rintro _ w2 ⟨he, hb2⟩
    rw [HR.out] at he
    subst he
    have HW := Lib.hid (below_more (below_new _ _) hb2)
    clear hb2 hbg
    by_cases hr : 256 < r
    · go_wp2
      go_ret
      exact ⟨by rw [HZ.out, cap256, if_pos (by omega)]; rfl, HW.out⟩
    · go_wp2
      go_ret
      exact ⟨by rw [HZ.out, cap256, if_neg (by omega)]; rfl, HW.out⟩
  by_cases h6 : t.c = 6
  · have hbg : t.big = false := by
      cases hb : t.big
      · rfl
      · exact absurd ⟨by omega, hb⟩ hcb
    have HBG := Lib.hid hbg
    have hz := HSZ.out
    rw [if_neg h5, if_pos h6] at hz
    generalize hr : arrS (sz d) t = r at hz
    have HR := Lib.hid hr
    have HZ := Lib.hid hz
    have ht5 := HT.out
    rw [h6] at ht5
    have HT5 := Lib.hid ht5
    clear hr hz ht5 HT HBX HSZ HR0 hcb hbg
    have hbg := HBG.out
    rw [hbg] at HT5
    go_wp2_with (go_at_call 50; refine (parray_any d hd4 IH.out t _ _ ?_ HBG.out).mono ?_)
    · exact HT5.out
    rintro _ w2 ⟨he, hb2⟩
    rw [HR.out] at he
    subst he
    have HW := Lib.hid (below_more (below_new _ _) hb2)
    clear hb2 hbg
    by_cases hr : 256 < r
    · go_wp2
      go_ret
      exact ⟨by rw [HZ.out, cap256, if_pos (by omega)]; rfl, HW.out⟩
    · go_wp2
      go_ret
      exact ⟨by rw [HZ.out, cap256, if_neg (by omega)]; rfl, HW.out⟩
  by_cases h7 : t.c = 7
  · have hbg : t.big = false := by
      cases hb : t.big
      · rfl
      · exact absurd ⟨by omega, hb⟩ hcb
    have HBG := Lib.hid hbg
    have hz := HSZ.out
    rw [if_neg h5, if_neg h6, if_pos h7] at hz
    generalize hr : enumS d t = r at hz
    have HR := Lib.hid hr
    have HZ := Lib.hid hz
    have ht5 := HT.out
    rw [h7] at ht5
    have HT5 := Lib.hid ht5
    clear hr hz ht5 HT HBX HSZ HR0 hcb hbg
    have hbg := HBG.out
    rw [hbg] at HT5
    go_wp2_with (go_at_call 51; refine (penum_any d hd4 IH.out t _ _ ?_ HBG.out).mono ?_)
    · exact HT5.out
    rintro _ w2 ⟨he, hb2⟩
    rw [HR.out] at he
    subst he
    have HW := Lib.hid (below_more (below_new _ _) hb2)
    clear hb2 hbg
    by_cases hr : 256 < r
    · go_wp2
      go_ret
      exact ⟨by rw [HZ.out, cap256, if_pos (by omega)]; rfl, HW.out⟩
    · go_wp2
      go_ret
      exact ⟨by rw [HZ.out, cap256, if_neg (by omega)]; rfl, HW.out⟩
  have HZ := Lib.hid (HR0.out.symm.trans (sz_num (d := d) h5 h6 h7))
  clear HSZ HR0
  have b5 : (t.c == 5) = false := beq_eq_false_iff_ne.mpr h5
  have b6 : (t.c == 6) = false := beq_eq_false_iff_ne.mpr h6
  have b7 : (t.c == 7) = false := beq_eq_false_iff_ne.mpr h7
  by_cases h04 : t.c < 1 ∨ 4 < t.c
  · have hz : R = 0 := by
      rw [HZ.out, numS, if_neg]
      intro h
      have := (numB_iff t).mp h
      omega
    have HZ0 := Lib.hid hz
    have b1 : (t.c == 1) = false := beq_eq_false_iff_ne.mpr (by omega)
    have b2 : (t.c == 2) = false := beq_eq_false_iff_ne.mpr (by omega)
    have b3 : (t.c == 3) = false := beq_eq_false_iff_ne.mpr (by omega)
    have b4 : (t.c == 4) = false := beq_eq_false_iff_ne.mpr (by omega)
    clear HZ hz IH HT
    rcases h04 with h04 | h04
    · go_wp2
      go_ret
      exact ⟨by rw [HZ0.out]; rfl, below_new _ _⟩
    · have hbg : t.big = false := by
        cases hb : t.big
        · rfl
        · exact absurd ⟨h04, hb⟩ hcb
      clear hcb
      go_wp2
      go_ret
      exact ⟨by rw [HZ0.out]; rfl, below_new _ _⟩
  have hc4 : t.c ≤ 4 := by omega
  have hc1 : 1 ≤ t.c := by omega
  clear hcb h04
  by_cases hw : 1 ≤ t.w ∧ t.w ≤ 8
  rotate_left
  · have hz : R = 0 := by
      rw [HZ.out, numS, if_neg]
      intro h
      have := (numB_iff t).mp h
      omega
    have HZ0 := Lib.hid hz
    clear HZ hz IH HT
    have hc : t.c = 1 ∨ t.c = 2 ∨ t.c = 3 ∨ t.c = 4 := by omega
    have hw48 : t.w ≠ 4 ∧ t.w ≠ 8 := by omega
    have w4 : (t.w != 4) = true := by simp; omega
    have w8 : (t.w != 8) = true := by simp; omega
    by_cases hw1 : t.w < 1
    all_goals
      rcases hc with hc | hc | hc | hc
      all_goals
        go_wp2
        go_ret
        exact ⟨by rw [HZ0.out]; rfl, below_new _ _⟩
  obtain ⟨w1, w8⟩ := hw
  by_cases hfl : (t.c = 3 ∨ t.c = 4) ∧ t.w ≠ 4 ∧ t.w ≠ 8
  · have hz : R = 0 := by
      rw [HZ.out, numS, if_neg]
      intro h
      have := (numB_iff t).mp h
      omega
    have HZ0 := Lib.hid hz
    clear HZ hz IH HT
    obtain ⟨hc, n4, n8⟩ := hfl
    have w4b : (t.w != 4) = true := by simp; omega
    have w8b : (t.w != 8) = true := by simp; omega
    rcases hc with hc | hc
    all_goals
      go_wp2
      go_ret
      exact ⟨by rw [HZ0.out]; rfl, below_new _ _⟩
  have hff : ((false || decide (t.fs.length = 0)) && (false || decide (t.ds.length = 0)) && (false || decide (t.bs.length = 0)) && (false || decide (t.ns.length = 0))) = decide (t.fs.length + t.ds.length + t.bs.length + t.ns.length = 0) := by
    rw [Bool.eq_iff_iff]
    simp only [Bool.false_or, Bool.and_eq_true, decide_eq_true_eq]
    omega
  have HFF := Lib.hid hff
  have HFL := Lib.hid hfl
  clear hff hfl
  have hc : t.c = 1 ∨ t.c = 2 ∨ t.c = 3 ∨ t.c = 4 := by omega
  have hw4 : (t.c = 3 ∨ t.c = 4) → t.w = 4 ∨ t.w = 8 := by have := HFL.out; omega
  have HW4 := Lib.hid hw4
  clear hw4
  by_cases hnum : t.fs.length + t.ds.length + t.bs.length + t.ns.length = 0
  · have hnb : numB t = true := (numB_iff t).mpr ⟨hnum, by have := HW4.out; omega⟩
    have HNB := Lib.hid hnb
    have HFF2 := Lib.hid (HFF.out.trans (decide_eq_true hnum))
    clear hnb HFF hnum
    rcases hc with hc | hc | hc | hc
    · have ht1 := HT.out
      have hbx1 := HBX.out
      rw [hc] at ht1 hbx1
      have HT1 := Lib.hid ht1
      have HBX1 := Lib.hid hbx1
      clear ht1 hbx1 HT HBX IH
      go_wp2_with (go_at_call 48; refine (bare_any t _ _ _ _ _ _ ?_).mono ?_)
      · exact HT1.out
      rintro _ w2 ⟨he, hb2⟩
      rw [HFF2.out] at he
      subst he
      have HW := Lib.hid (below_more (below_new _ _) hb2)
      have hB := HBX1.out.later hb2 (by simp)
      have c0 := hB.cell 0
      have c1 := hB.cell 1
      clear hB hb2 HBX1 HT1
      have hr : R = t.w := by rw [HZ.out, numS, if_pos HNB.out, if_neg (by omega)]
      have HR := Lib.hid hr
      clear hr
      go_wp2
      go_ret
      exact ⟨by rw [HR.out]; rfl, HW.out⟩
    · have ht1 := HT.out
      have hbx1 := HBX.out
      rw [hc] at ht1 hbx1
      have HT1 := Lib.hid ht1
      have HBX1 := Lib.hid hbx1
      clear ht1 hbx1 HT HBX IH
      go_wp2_with (go_at_call 48; refine (bare_any t _ _ _ _ _ _ ?_).mono ?_)
      · exact HT1.out
      rintro _ w2 ⟨he, hb2⟩
      rw [HFF2.out] at he
      subst he
      have HW := Lib.hid (below_more (below_new _ _) hb2)
      have hB := HBX1.out.later hb2 (by simp)
      have c0 := hB.cell 0
      have c1 := hB.cell 1
      clear hB hb2 HBX1 HT1
      have hr : R = t.w := by rw [HZ.out, numS, if_pos HNB.out, if_neg (by omega)]
      have HR := Lib.hid hr
      clear hr
      go_wp2
      go_ret
      exact ⟨by rw [HR.out]; rfl, HW.out⟩
    · rcases HW4.out (by omega) with hw | hw
      · have ht1 := HT.out
        have hbx1 := HBX.out
        rw [hc] at ht1 hbx1
        rw [hw] at ht1 hbx1
        have HT1 := Lib.hid ht1
        have HBX1 := Lib.hid hbx1
        clear ht1 hbx1 HT HBX IH
        go_wp2_with (go_at_call 48; refine (bare_any t _ _ _ _ _ _ ?_).mono ?_)
        · exact HT1.out
        rintro _ w2 ⟨he, hb2⟩
        rw [HFF2.out] at he
        subst he
        have HW := Lib.hid (below_more (below_new _ _) hb2)
        have hB := HBX1.out.later hb2 (by simp)
        have c0 := hB.cell 0
        have c1 := hB.cell 1
        clear hB hb2 HBX1 HT1
        have hr : R = 4 := by rw [HZ.out, numS, if_pos HNB.out, if_neg (by omega), hw]
        have HR := Lib.hid hr
        clear hr
        go_wp2
        go_ret
        exact ⟨by rw [HR.out]; rfl, HW.out⟩
      · have ht1 := HT.out
        have hbx1 := HBX.out
        rw [hc] at ht1 hbx1
        rw [hw] at ht1 hbx1
        have HT1 := Lib.hid ht1
        have HBX1 := Lib.hid hbx1
        clear ht1 hbx1 HT HBX IH
        go_wp2_with (go_at_call 48; refine (bare_any t _ _ _ _ _ _ ?_).mono ?_)
        · exact HT1.out
        rintro _ w2 ⟨he, hb2⟩
        rw [HFF2.out] at he
        subst he
        have HW := Lib.hid (below_more (below_new _ _) hb2)
        have hB := HBX1.out.later hb2 (by simp)
        have c0 := hB.cell 0
        have c1 := hB.cell 1
        clear hB hb2 HBX1 HT1
        have hr : R = 8 := by rw [HZ.out, numS, if_pos HNB.out, if_neg (by omega), hw]
        have HR := Lib.hid hr
        clear hr
        go_wp2
        go_ret
        exact ⟨by rw [HR.out]; rfl, HW.out⟩
    · rcases HW4.out (by omega) with hw | hw
      · have ht1 := HT.out
        have hbx1 := HBX.out
        rw [hc] at ht1 hbx1
        rw [hw] at ht1 hbx1
        have HT1 := Lib.hid ht1
        have HBX1 := Lib.hid hbx1
        clear ht1 hbx1 HT HBX IH
        go_wp2_with (go_at_call 48; refine (bare_any t _ _ _ _ _ _ ?_).mono ?_)
        · exact HT1.out
        rintro _ w2 ⟨he, hb2⟩
        rw [HFF2.out] at he
        subst he
        have HW := Lib.hid (below_more (below_new _ _) hb2)
        have hB := HBX1.out.later hb2 (by simp)
        have c0 := hB.cell 0
        have c1 := hB.cell 1
        clear hB hb2 HBX1 HT1
        have hr : R = 8 := by rw [HZ.out, numS, if_pos HNB.out, if_pos hc, hw]; rfl
        have HR := Lib.hid hr
        clear hr
        go_wp2
        go_ret
        exact ⟨by rw [HR.out]; rfl, HW.out⟩
      · have ht1 := HT.out
        have hbx1 := HBX.out
        rw [hc] at ht1 hbx1
        rw [hw] at ht1 hbx1
        have HT1 := Lib.hid ht1
        have HBX1 := Lib.hid hbx1
        clear ht1 hbx1 HT HBX IH
        go_wp2_with (go_at_call 48; refine (bare_any t _ _ _ _ _ _ ?_).mono ?_)
        · exact HT1.out
        rintro _ w2 ⟨he, hb2⟩
        rw [HFF2.out] at he
        subst he
        have HW := Lib.hid (below_more (below_new _ _) hb2)
        have hB := HBX1.out.later hb2 (by simp)
        have c0 := hB.cell 0
        have c1 := hB.cell 1
        clear hB hb2 HBX1 HT1
        have hr : R = 16 := by rw [HZ.out, numS, if_pos HNB.out, if_pos hc, hw]; rfl
        have HR := Lib.hid hr
        clear hr
        go_wp2
        go_ret
        exact ⟨by rw [HR.out]; rfl, HW.out⟩
  · have hz : R = 0 := by
      rw [HZ.out, numS, if_neg]
      intro h
      have := (numB_iff t).mp h
      omega
    have HZ0 := Lib.hid hz
    have HFF2 := Lib.hid (HFF.out.trans (decide_eq_false hnum))
    clear HFF hnum HZ hz
    rcases hc with hc | hc | hc | hc
    · have ht1 := HT.out
      have hbx1 := HBX.out
      rw [hc] at ht1 hbx1
      have HT1 := Lib.hid ht1
      have HBX1 := Lib.hid hbx1
      clear ht1 hbx1 HT HBX IH
      go_wp2_with (go_at_call 48; refine (bare_any t _ _ _ _ _ _ ?_).mono ?_)
      · exact HT1.out
      rintro _ w2 ⟨he, hb2⟩
      rw [HFF2.out] at he
      subst he
      have HW := Lib.hid (below_more (below_new _ _) hb2)
      have hB := HBX1.out.later hb2 (by simp)
      have c0 := hB.cell 0
      have c1 := hB.cell 1
      clear hB hb2 HBX1 HT1
      go_wp2
      go_ret
      exact ⟨by rw [HZ0.out]; rfl, HW.out⟩
    · have ht1 := HT.out
      have hbx1 := HBX.out
      rw [hc] at ht1 hbx1
      have HT1 := Lib.hid ht1
      have HBX1 := Lib.hid hbx1
      clear ht1 hbx1 HT HBX IH
      go_wp2_with (go_at_call 48; refine (bare_any t _ _ _ _ _ _ ?_).mono ?_)
      · exact HT1.out
      rintro _ w2 ⟨he, hb2⟩
      rw [HFF2.out] at he
      subst he
      have HW := Lib.hid (below_more (below_new _ _) hb2)
      have hB := HBX1.out.later hb2 (by simp)
      have c0 := hB.cell 0
      have c1 := hB.cell 1
      clear hB hb2 HBX1 HT1
      go_wp2
      go_ret
      exact ⟨by rw [HZ0.out]; rfl, HW.out⟩
    · rcases HW4.out (by omega) with hw | hw
      · have ht1 := HT.out
        have hbx1 := HBX.out
        rw [hc] at ht1 hbx1
        rw [hw] at ht1 hbx1
        have HT1 := Lib.hid ht1
        have HBX1 := Lib.hid hbx1
        clear ht1 hbx1 HT HBX IH
        go_wp2_with (go_at_call 48; refine (bare_any t _ _ _ _ _ _ ?_).mono ?_)
        · exact HT1.out
        rintro _ w2 ⟨he, hb2⟩
        rw [HFF2.out] at he
        subst he
        have HW := Lib.hid (below_more (below_new _ _) hb2)
        have hB := HBX1.out.later hb2 (by simp)
        have c0 := hB.cell 0
        have c1 := hB.cell 1
        clear hB hb2 HBX1 HT1
        go_wp2
        go_ret
        exact ⟨by rw [HZ0.out]; rfl, HW.out⟩
      · have ht1 := HT.out
        have hbx1 := HBX.out
        rw [hc] at ht1 hbx1
        rw [hw] at ht1 hbx1
        have HT1 := Lib.hid ht1
        have HBX1 := Lib.hid hbx1
        clear ht1 hbx1 HT HBX IH
        go_wp2_with (go_at_call 48; refine (bare_any t _ _ _ _ _ _ ?_).mono ?_)
        · exact HT1.out
        rintro _ w2 ⟨he, hb2⟩
        rw [HFF2.out] at he
        subst he
        have HW := Lib.hid (below_more (below_new _ _) hb2)
        have hB := HBX1.out.later hb2 (by simp)
        have c0 := hB.cell 0
        have c1 := hB.cell 1
        clear hB hb2 HBX1 HT1
        go_wp2
        go_ret
        exact ⟨by rw [HZ0.out]; rfl, HW.out⟩
    · rcases HW4.out (by omega) with hw | hw
      · have ht1 := HT.out
        have hbx1 := HBX.out
        rw [hc] at ht1 hbx1
        rw [hw] at ht1 hbx1
        have HT1 := Lib.hid ht1
        have HBX1 := Lib.hid hbx1
        clear ht1 hbx1 HT HBX IH
        go_wp2_with (go_at_call 48; refine (bare_any t _ _ _ _ _ _ ?_).mono ?_)
        · exact HT1.out
        rintro _ w2 ⟨he, hb2⟩
        rw [HFF2.out] at he
        subst he
        have HW := Lib.hid (below_more (below_new _ _) hb2)
        have hB := HBX1.out.later hb2 (by simp)
        have c0 := hB.cell 0
        have c1 := hB.cell 1
        clear hB hb2 HBX1 HT1
        go_wp2
        go_ret
        exact ⟨by rw [HZ0.out]; rfl, HW.out⟩
      · have ht1 := HT.out
        have hbx1 := HBX.out
        rw [hc] at ht1 hbx1
        rw [hw] at ht1 hbx1
        have HT1 := Lib.hid ht1
        have HBX1 := Lib.hid hbx1
        clear ht1 hbx1 HT HBX IH
        go_wp2_with (go_at_call 48; refine (bare_any t _ _ _ _ _ _ ?_).mono ?_)
        · exact HT1.out
        rintro _ w2 ⟨he, hb2⟩
        rw [HFF2.out] at he
        subst he
        have HW := Lib.hid (below_more (below_new _ _) hb2)
        have hB := HBX1.out.later hb2 (by simp)
        have c0 := hB.cell 0
        have c1 := hB.cell 1
        clear hB hb2 HBX1 HT1
        go_wp2
        go_ret
        exact ⟨by rw [HZ0.out]; rfl, HW.out⟩

theorem psize_any (d : Nat) (h : d ≤ 1000) : PSizeOk d := by
  induction d with
  | zero => exact psize_zero
  | succ d ih => exact psize_succ d (by omega) (ih (by omega))

set_option maxHeartbeats 2000000 in
theorem psizeV_any (t : Ty) (v : Value) (w : World) (ht : TyAt w w.heap.size t v) :
    Calls Try.prog 15 #[v] w fun e w' => e = .returned (sizeV t) ∧ Below w.heap.size w w' := by
  obtain ⟨fA, dA, bA, nA, fC, dC, bC, nC, rfl⟩ := ht.shape
  have HT := Lib.hid ((ht.later (below_new w (.cells #[.int .i64 t.c, .int .i64 t.w, .bool t.big, .slice fA t.fs.length fC, .slice dA t.ds.length dC, .slice bA t.bs.length bC, .slice nA t.ns.length nC] 28))).up (below_new w (.cells #[.int .i64 t.c, .int .i64 t.w, .bool t.big, .slice fA t.fs.length fC, .slice dA t.ds.length dC, .slice bA t.bs.length bC, .slice nA t.ns.length nC] 28)).size)
  clear ht
  have hrg := sz_ge 4 t
  generalize hr : sz 4 t = r at *
  have HR := Lib.hid hr
  have hv : sizeV t = if r = 0 then .tuple #[.int .i64 0, .int .i64 15] else .tuple #[.int .i64 r, .int .i64 0] := by rw [sizeV, hr]
  rw [hv]
  clear hr hv
  go_enter Try.func15, Try.ntmps15
  go_wp2_with (go_at_call 33; refine (psize_any 4 (by omega) t _ _ ?_).mono ?_)
  · exact HT.out
  rintro _ w2 ⟨he, hb2⟩
  rw [HR.out] at he
  subst he
  have HW := Lib.hid (below_more (below_new _ _) hb2)
  clear hb2
  by_cases hz : r = 0
  · subst hz
    go_wp2
    go_ret2
    exact ⟨rfl, HW.out⟩
  · have hb : (r == 0) = false := beq_eq_false_iff_ne.mpr hz
    have hpos : 0 < r := by omega
    have hif : (if r = 0 then Value.tuple #[.int .i64 0, .int .i64 15] else .tuple #[.int .i64 r, .int .i64 0]) = .tuple #[.int .i64 r, .int .i64 0] := if_neg hz
    have HIF := Lib.hid hif
    clear hif
    go_wp2
    go_ret2
    exact ⟨by first | rfl | (rw [HIF.out]; rfl), HW.out⟩

def errOf (t : Ty) : Prop := sz 4 t = 0
/-- The error's number of a type. -/
noncomputable def errV (t : Ty) : Int := if sz 4 t = 0 then 15 else 0
set_option maxHeartbeats 2000000 in
theorem check_any (t : Ty) (v : Value) (w : World) (ht : TyAt w w.heap.size t v) :
    Calls Try.prog 17 #[v] w fun e w' => e = .returned (.int .i64 (errV t)) ∧ Below w.heap.size w w' := by
  obtain ⟨fA, dA, bA, nA, fC, dC, bC, nC, rfl⟩ := ht.shape
  have HT := Lib.hid ((ht.later (below_new w (.cells #[.int .i64 t.c, .int .i64 t.w, .bool t.big, .slice fA t.fs.length fC, .slice dA t.ds.length dC, .slice bA t.bs.length bC, .slice nA t.ns.length nC] 28))).up (below_new w (.cells #[.int .i64 t.c, .int .i64 t.w, .bool t.big, .slice fA t.fs.length fC, .slice dA t.ds.length dC, .slice bA t.bs.length bC, .slice nA t.ns.length nC] 28)).size)
  clear ht
  have hrg := sz_ge 4 t
  have hv : sizeV t = if sz 4 t = 0 then .tuple #[.int .i64 0, .int .i64 15] else .tuple #[.int .i64 (sz 4 t), .int .i64 0] := rfl
  have HV := Lib.hid hv
  generalize he : errV t = E
  have HE := Lib.hid (show E = if sz 4 t = 0 then 15 else 0 from he.symm)
  clear hv he
  go_enter Try.func17, Try.ntmps17
  go_wp2_with (go_at_call 15; refine (psizeV_any t _ _ ?_).mono ?_)
  · exact HT.out
  rintro _ w2 ⟨he, hb2⟩
  have HW := Lib.hid (below_more (below_new _ _) hb2)
  clear hb2
  by_cases hz : sz 4 t = 0
  · have h1 := HV.out
    rw [if_pos hz] at h1
    rw [h1] at he
    have HE2 := Lib.hid (HE.out.trans (if_pos hz))
    subst he
    clear HV HE h1 hz hrg
    go_wp2
    go_ret
    exact ⟨by rw [HE2.out]; rfl, HW.out⟩
  · have h1 := HV.out
    rw [if_neg hz] at h1
    rw [h1] at he
    have HE2 := Lib.hid (HE.out.trans (if_neg hz))
    subst he
    clear HV HE h1 hz hrg
    go_wp2
    go_ret
    exact ⟨by rw [HE2.out]; rfl, HW.out⟩
end Go.Proofs.Ytbdhihgokkcmfaa.Ty9
