/- The law ExtentCovers. -/
import Derived.Test.YtkdfafaiabidgaaKaa
namespace Go.Proofs.Ytkdfafaiabidgaa.X5
set_option linter.unusedVariables false
set_option linter.unusedSimpArgs false
open Go.RowKit Wd Ty9

/-- A row is appended by an operation that is wanted. -/
theorem wp_appN_g {t e : TypeId} (ht : Try.prog.underlying t = some (.slice e)) (hinf : (Try.prog.info? e).map (fun i => (i.zero, i.size, i.bytes)) = some (some (.agg #[.int .i64 0, .int .i64 0]), 2, 16))
    {ops : Array Oper} {rest : List Oper} {o : Oper} {a : Act} {w : World} {Q : Exit → Act → World → Prop} (hw : Region.wanted o (yielded ops a.tmps) = true) (s x : Operand)
    (ho : o.op = .call { callee := .builtin .append, args := #[s, x], argTypes := #[t, t] })
    (w0 : World) (V : Value) (ou ys : List Xt) (A : Option Addr) (m c lo hi : Nat) (hs : a.eval s = V) (hx : a.eval x = .slice A m c) (hA : A = none → c = 0) (h : Ow e w0 V ou w) (hb : Ex w lo hi A m ys) (hl : (ou.length + m) * 16 ≤ 140737488355328)
    (hK : ∀ V' w', Ow e w0 V' (ou ++ ys) w' → wpList Try.prog ops Q rest (a.put o.dst V') w') :
    wpList Try.prog ops Q (o :: rest) a w := by
  obtain ⟨i0, hi0, hz, hs0, hbt⟩ := info_parts hinf
  rw [wpList, if_pos hw]
  left
  rcases A with _ | ad
  · obtain rfl := hA rfl
    have hm : m = 0 := by
      rcases Nat.eq_zero_or_pos m with h0 | h0
      · exact h0
      · obtain ⟨b, o, e, _⟩ := hb.at_ h0; cases e
    subst hm
    obtain rfl : ys = [] := List.eq_nil_of_length_eq_zero hb.len
    have hrun := run_append_owned_none (P := Try.prog) (w := w) w0.heap.size t o.type e i0 2 ht hi0 V ou.length (cl ou) h.own
    unfold Oper.wp
    simp [execOp, ho, resolve, invoke, builtin, hs, hx, hrun, Result.andThen]
    exact hK V w (by rw [List.append_nil]; exact h)
  · refine wp_append_own w s x t ho w0.heap.size e i0 _ 2 16 ht hi0 hz hs0 hbt (by rfl) (by decide) V ou.length (cl ou) hs h.own ad m c (cl ys) hx (by rw [cl_len, hb.len]) ?_ (cl_one ys) (by unfold maxLen; omega) hl h.be.size ?_
    · intro j u hu
      obtain ⟨i, hi, _⟩ := cl_at hu
      obtain ⟨b, o, e, _, _, h3⟩ := hb.at_ (by have := hb.len; omega)
      cases e
      have hadd : (⟨b, o, none⟩ : Addr).add j = ⟨b, o + j, none⟩ := by unfold Addr.add; split <;> simp_all
      rw [hadd]
      exact h3 j u hu
    · intro V2 w4 hown2 hgr2 _
      refine hK V2 w4 (h.grown hgr2 ?_)
      rw [List.length_append, cl_app, hb.len]
      exact hown2

set_option maxHeartbeats 600000 in
set_option maxRecDepth 100000 in
theorem covers_walk (w : World) (A : Option Addr) (n C : Nat) (xs : List Xt) (hn : (n + 1) * 16 ≤ 140737488355328) (hA : A = none → C = 0) (h : Ex w 0 w.heap.size A n xs) (size : Int) (hr : -9223372036854775808 ≤ size ∧ size ≤ 9223372036854775807) :
    Calls Try.prog 9 #[.slice A n C, .int .i64 size] w fun e w' => e = .returned (.bool true) ∧ Below w.heap.size w w' := by
  have hl := h.len
  have HX := Lib.hid h
  by_cases h1 : 50 < n
  · have s1 : (50 : Int) < (n : Int) := by omega
    clear h hr h1
    go_enter Try.func9, Try.ntmps9
    go_wp2_with (go_at_call 11; refine (lives_any _).mono ?_; rintro _ w2 ⟨rfl, hb⟩; have HB2 := Lib.hid hb; clear hb)
    go_ret
    exact ⟨rfl, HB2.out⟩
  by_cases h2 : 300 < size
  · have s1 : ¬ (50 : Int) < (n : Int) := by omega
    clear h hr h1
    go_enter Try.func9, Try.ntmps9
    go_wp2_with (go_at_call 11; refine (lives_any _).mono ?_; rintro _ w2 ⟨rfl, hb⟩; have HB2 := Lib.hid hb; clear hb)
    go_ret
    exact ⟨rfl, HB2.out⟩
  have s1 : ¬ (50 : Int) < (n : Int) := by omega
  have HRE := Lib.hid (rest_any A n C 0 w.heap.size xs size w (by omega) h (Nat.le_refl _))
  have hn50 : n ≤ 50 := by omega
  clear h hr h1
  go_enter Try.func9, Try.ntmps9
  go_wp2_with (go_at_call 27; refine HRE.out.mono ?_; rintro _ w3 ⟨A3, C3, m3, z3, o3, rfl, hrs, hl3, hown3, hb⟩; refine Hid.out ?_)
  have HB3 := Lib.hid hb
  by_cases hz : z3 = 0
  · subst hz
    obtain ⟨j, hs, hnm, hle, ho⟩ : ∃ j, (0 ≤ size ∧ size ≤ 4194304) ∧ IsNormal xs 0 j ∧ (∀ x ∈ j, x.1 + x.2 ≤ size) ∧ o3 = restL j size := by
      rcases hrs with ⟨_, h, _⟩ | ⟨hs, z, j, hnm, ⟨h1, h2, _⟩ | ⟨_, _, h2, _⟩ | ⟨h1, h2, ⟨_, h3, _⟩ | ⟨_, _, h4⟩⟩⟩
      · omega
      · omega
      · omega
      · omega
      · subst h1; exact ⟨j, hs, hnm, h2, h4⟩
    obtain ⟨hlen, hmay, hjoin, hjlen⟩ : xs.length ≤ 65536 ∧ (∀ x ∈ xs, mayP x) ∧ IsJoin xs j ∧ j.length ≤ xs.length := by
      rcases hnm with ⟨_, h1, h2, h3, h4⟩ | ⟨h1, h2, _⟩
      · exact ⟨h1, h2, h3, h4⟩
      · split at h2 <;> omega
    have hjm := joined_may hjoin hmay
    obtain ⟨r1, r2, r3, r4, r5⟩ := rest_ok hjoin.1 (fun x hx => (hjm x hx).1.1) hs.1 hle
    subst ho
    have hrm : ∀ x ∈ restL j size, mayP x := fun x hx => by
      have h1 := r3 x hx
      have h2 := r1.2 x hx
      unfold mayP
      omega
    have hjl50 : j.length ≤ 50 := by omega
    have hgr : goodP (restL j size) size := (goodP_iff _ _).mpr ⟨hs.1, hs.2, by omega, r1, fun x hx => ⟨hrm x hx, (r3 x hx).2⟩⟩
    have hgj : goodP j size := (goodP_iff _ _).mpr ⟨hs.1, hs.2, by omega, hjoin.1, fun x hx => ⟨(hjm x hx).1, hle x hx⟩⟩
    have htr : sumL (restL j size) = tot (restL j size) := sumL_tot _ hrm (by omega)
    have htj : sumL j = tot j := sumL_tot _ (fun x hx => (hjm x hx).1) (by omega)
    have htot : sumL j + sumL (restL j size) = size := by rw [htr, htj]; exact r4
    have hbj := sumL_bound j
    have hbr := sumL_bound (restL j size)
    have hnoc : noMeet (j ++ restL j size) := noMeet_two hjoin.1 r1 fun p hp hq => ((r2 p).mp hq).2.2 hp
    have hcnt : ∀ p, 0 ≤ p → p < size → (0 < cnt xs p ↔ cnt j p = 1) ∧ cnt j p + cnt (restL j size) p = 1 := fun p hp0 hp1 => by
      have a1 := cnt_pos xs p
      have a2 := cnt_pos j p
      have a3 := cnt_pos (restL j size) p
      have a4 := hjoin.2 p
      have a5 := r2 p
      have a6 := cnt_le j p hjoin.1
      have a7 := cnt_le _ p r1
      have a8 := cnt_nn j p
      have a9 := cnt_nn (restL j size) p
      by_cases hc : cov j p
      · have b1 := a2.mpr hc
        have b2 : ¬ cov (restL j size) p := fun h => (a5.mp h).2.2 hc
        have b3 : ¬ 0 < cnt (restL j size) p := fun h => b2 (a3.mp h)
        have b4 := a1.mpr (a4.mp hc)
        exact ⟨⟨fun _ => by omega, fun _ => b4⟩, by omega⟩
      · have b1 : ¬ 0 < cnt j p := fun h => hc (a2.mp h)
        have b2 := a3.mpr (a5.mpr ⟨hp0, hp1, hc⟩)
        have b4 : ¬ 0 < cnt xs p := fun h => hc (a4.mpr (a1.mp h))
        exact ⟨⟨fun h => absurd h b4, fun h => by omega⟩, by omega⟩
    generalize restL j size = o at *
    obtain ⟨_, _, ev, -, hex3, -⟩ := own_ex hown3
    cases ev
    have HE3 := Lib.hid hex3
    have hA3 := own_none hown3
    have HN := Lib.hid (normal_any A n C 0 w.heap.size xs w3 (by omega) (HX.out.later hb (Nat.le_refl _)) hb.size)
    have HNM := Lib.hid hnm
    have HGR := Lib.hid hgr
    have HGJ := Lib.hid hgj
    have HTOT := Lib.hid htot
    have HNOC := Lib.hid hnoc
    have HCNT := Lib.hid hcnt
    have HMAY := Lib.hid hmay
    have HJM := Lib.hid (fun x hx => (hjm x hx).1)
    have HRM := Lib.hid hrm
    have HBJ := Lib.hid hbj
    have HBR := Lib.hid hbr
    have hol : o.length ≤ 51 := by omega
    obtain ⟨hs1, hs2⟩ := hs
    clear hrs hown3 hb HRE hnm hlen hmay hjoin hjm r1 r2 r3 r4 r5 hrm hgr hgj htr htj htot hbj hbr hnoc hcnt hex3 hle
    refine go_on ?_
    go_wp2_with (go_at_call 13; refine HN.out.mono ?_; rintro _ w5 ⟨A5, C5, m5, z5, o5, rfl, hn5, hl5, hown5, hb⟩; refine Hid.out ?_)
    obtain ⟨hz, ho⟩ := hn5.uniq HNM.out
    subst hz ho
    obtain ⟨_, _, ev, -, hex5, -⟩ := own_ex hown5
    cases ev
    have HE5 := Lib.hid hex5
    have hA5 := own_none hown5
    have HE3b := Lib.hid (HE3.out.later hb (Nat.le_refl _))
    have HB5 := Lib.hid (below_more HB3.out hb)
    have HS35 := Lib.hid hb.size
    have hm5 : m5 ≤ 50 := by omega
    have hm3 : m3 ≤ 51 := by omega
    have HG1 := Lib.hid (good_any A3 m3 C3 w.heap.size w3.heap.size o size w5 (by omega) HE3b.out HS35.out)
    clear hn5 hown5 hex5 hb HN hl5
    refine go_on ?_
    go_wp2_with (go_at_call 21; refine HG1.out.mono ?_; rintro _ w6 ⟨he, hb⟩; rw [decide_eq_true HGR.out] at he; subst he; refine Hid.out ?_)
    have HB6 := Lib.hid (below_more HB5.out hb)
    have HB56 := Lib.hid hb
    have HG2 := Lib.hid (good_any A5 m5 C5 w3.heap.size w5.heap.size o5 size w6 (by omega) (HE5.out.later hb (Nat.le_refl _)) hb.size)
    clear hb HG1
    refine go_on ?_
    go_wp2_with (go_at_call 21; refine HG2.out.mono ?_; rintro _ w7 ⟨he, hb⟩; rw [decide_eq_true HGJ.out] at he; subst he; refine Hid.out ?_)
    have HB7 := Lib.hid (below_more HB6.out hb)
    have HB57 := Lib.hid (below_more HB56.out hb)
    have HT1 := Lib.hid (total_any A5 m5 C5 w3.heap.size w5.heap.size o5 w7 (by omega) (HE5.out.later HB57.out (Nat.le_refl _)) HB57.out.size)
    clear hb HG2
    refine go_on ?_
    go_wp2_with (go_at_call 23; refine HT1.out.mono ?_; rintro _ w8 ⟨rfl, hb⟩; refine Hid.out ?_)
    have HB8 := Lib.hid (below_more HB7.out hb)
    have HB58 := Lib.hid (below_more HB57.out hb)
    have HT2 := Lib.hid (total_any A3 m3 C3 w.heap.size w3.heap.size o w8 (by omega) (HE3b.out.later HB58.out HS35.out) (Nat.le_trans HS35.out HB58.out.size))
    clear hb HT1
    refine go_on ?_
    generalize hsj : sumL o5 = sj at *
    generalize hsr : sumL o = sr at *
    have t1 : wrap64 (sj + sr) = size := by have h1 := HTOT.out; rw [h1]; unfold wrap64; omega
    have t2 : (size != size) = false := by simp
    go_wp2_with (go_at_call 23; refine HT2.out.mono ?_; rintro _ w9 ⟨rfl, hb⟩; refine Hid.out ?_)
    have HB9 := Lib.hid (below_more HB8.out hb)
    have HB59 := Lib.hid (below_more HB58.out hb)
    clear hb HT2
    have HOW := Lib.hid (show Ow 48 w9 (.slice (some ⟨w9.heap.size, 0, none⟩) 0 0) [] (w9.alloc (.cells #[] 48)) from ⟨World.ownsRow_made w9 #[] 0 (Nat.le_refl _) (Nat.zero_le _) (by simp), below_new w9 _⟩)
    have HE5x := Lib.hid ((HE5.out.later HB59.out (Nat.le_refl _)).later (below_new w9 (.cells #[] 48)) HB59.out.size)
    refine go_on ?_
    go_wp2_with (at_builtin; refine wp_appN_g Try.underlying22 ext_info (by rfl) (.tmp 65) (.tmp 66) (by rfl) w9 _ [] o5 A5 m5 C5 _ _ (by rfl) (by rfl) hA5 HOW.out HE5x.out (by simp; omega) ?_; intro V2 w10 how2; refine Hid.out ?_)
    rw [List.nil_append] at how2
    obtain ⟨A10, C10, hV⟩ := own_form how2.own
    subst hV
    have HO2 := Lib.hid how2
    have HB10 := Lib.hid (below_more HB9.out how2.be)
    have HE3x := Lib.hid ((HE3b.out.later HB59.out HS35.out).later how2.be (Nat.le_trans HS35.out HB59.out.size))
    clear how2
    refine go_on ?_
    go_wp2_with (at_builtin; refine wp_appN_g Try.underlying22 ext_info (by rfl) (.tmp 67) (.tmp 68) (by rfl) w9 _ o5 o A3 m3 C3 _ _ (by rfl) (by rfl) hA3 HO2.out HE3x.out (by omega) ?_; intro V3 w11 how3; refine Hid.out ?_)
    obtain ⟨A11, C11, hV, -, hex11, -⟩ := own_ex how3.own
    subst hV
    have HB11 := Lib.hid (below_more HB9.out how3.be)
    have HB511 := Lib.hid (below_more HB59.out how3.be)
    have hqb : (o5 ++ o).length ≤ 1000000 := by rw [List.length_append]; omega
    generalize (o5 ++ o).length = q at *
    have HME := Lib.hid (meets_any A11 q C11 _ _ (o5 ++ o) w11 hqb hex11 (Nat.le_refl _))
    clear how3 hex11
    refine go_on ?_
    go_wp2_with (go_at_call 25; refine HME.out.mono ?_; rintro _ w12 ⟨rb, rfl, hiff, hb⟩; refine Hid.out ?_)
    obtain rfl : rb = false := hiff.out.mpr HNOC.out
    have HB12 := Lib.hid (below_more HB11.out hb)
    have HB512 := Lib.hid (below_more HB511.out hb)
    clear hb hiff HME
    refine go_on ?_
    go_wp2
    go_loopw [9] (fun i wr => ∃ (p : Int), i = .int .i64 p ∧ 0 ≤ p ∧ p ≤ size ∧ Below w12.heap.size w12 wr) (fun i _ => (size - intOf i).toNat)
    case atStart => exact ⟨0, rfl, by omega, by omega, Below.refl _ _⟩
    case round =>
      obtain ⟨p, rfl, hp0, hp1, hbe⟩ := hrel
      have HBE := Lib.hid hbe
      have HBW := Lib.hid (below_more HB12.out hbe)
      have HB5W := Lib.hid (below_more HB512.out hbe)
      clear hbe
      by_cases hlt : p < size
      · obtain ⟨k1, k2⟩ := HCNT.out p hp0 hlt
        have hj0 := cnt_nn o5 p
        have hj1 := cnt_nn o p
        have hx0 := cnt_nn xs p
        have HI1 := Lib.hid (in_any A n C 0 w.heap.size xs p wr (by omega) (HX.out.later HBW.out (Nat.le_refl _)) HBW.out.size HMAY.out hp0 (by omega))
        have HI2 := Lib.hid (fun (W : World) (hb : Below wr.heap.size wr W) => in_any A5 m5 C5 _ _ o5 p W (by omega) ((HE5.out.later HB5W.out (Nat.le_refl _)).later hb HB5W.out.size) (Nat.le_trans HB5W.out.size hb.size) HJM.out hp0 (by omega))
        have HI3 := Lib.hid (fun (W : World) (hb : Below wr.heap.size wr W) => in_any A3 m3 C3 _ _ o p W (by omega) ((HE3b.out.later HB5W.out HS35.out).later hb (Nat.le_trans HS35.out HB5W.out.size)) (Nat.le_trans (Nat.le_trans HS35.out HB5W.out.size) hb.size) HRM.out hp0 (by omega))
        generalize cnt xs p = cx at *
        generalize cnt o5 p = cj at *
        generalize cnt o p = cr at *
        have hc : (0 < cx ∧ cj = 1 ∧ cr = 0) ∨ (cx = 0 ∧ cj = 0 ∧ cr = 1) := by
          by_cases hq : 0 < cx
          · have := k1.mp hq; exact .inl ⟨hq, this, by omega⟩
          · have hne : ¬ cj = 1 := fun h => hq (k1.mpr h)
            exact .inr ⟨by omega, by omega, by omega⟩
        have s9 : wrap64 (p + 1) = p + 1 := by unfold wrap64; omega
        clear k1 k2 hj0 hj1 hx0
        rcases hc with ⟨hcx, rfl, rfl⟩ | ⟨rfl, rfl, rfl⟩
        · have hd : decide (0 < cx) = true := by simp; exact hcx
          go_wp2_with (go_at_call 31; refine HI1.out.mono ?_; rintro _ w13 ⟨rfl, hb13⟩; refine Hid.out ?_)
          have HB13 := Lib.hid hb13
          have HI2a := Lib.hid (HI2.out w13 hb13)
          clear hb13 HI1
          refine go_on ?_
          go_wp2_with (go_at_call 31; refine HI2a.out.mono ?_; rintro _ w14 ⟨rfl, hb14⟩; refine Hid.out ?_)
          have HB14 := Lib.hid (below_more HB13.out hb14)
          have HI2b := Lib.hid (HI2.out w14 HB14.out)
          clear hb14 HI2a
          refine go_on ?_
          go_wp2_with (go_at_call 31; refine HI2b.out.mono ?_; rintro _ w15 ⟨rfl, hb15⟩; refine Hid.out ?_)
          have HB15 := Lib.hid (below_more HB14.out hb15)
          have HI3a := Lib.hid (HI3.out w15 HB15.out)
          clear hb15 HI2b
          refine go_on ?_
          go_wp2_with (go_at_call 31; refine HI3a.out.mono ?_; rintro _ w16 ⟨rfl, hb16⟩; refine Hid.out ?_)
          have HB16 := Lib.hid (below_more HBE.out (below_more HB15.out hb16))
          clear hb16 HI3a
          refine go_on ?_
          go_wp2
          go_roundw
          case rel => exact ⟨p + 1, by go_num, by omega, by omega, HB16.out⟩
          case measure => (try simp [intOf]) <;> omega
        · skip
          go_wp2_with (go_at_call 31; refine HI1.out.mono ?_; rintro _ w13 ⟨rfl, hb13⟩; refine Hid.out ?_)
          have HB13 := Lib.hid hb13
          have HI2a := Lib.hid (HI2.out w13 hb13)
          clear hb13 HI1
          refine go_on ?_
          go_wp2_with (go_at_call 31; refine HI2a.out.mono ?_; rintro _ w14 ⟨rfl, hb14⟩; refine Hid.out ?_)
          have HB14 := Lib.hid (below_more HB13.out hb14)
          have HI2b := Lib.hid (HI2.out w14 HB14.out)
          clear hb14 HI2a
          refine go_on ?_
          go_wp2_with (go_at_call 31; refine HI2b.out.mono ?_; rintro _ w15 ⟨rfl, hb15⟩; refine Hid.out ?_)
          have HB15 := Lib.hid (below_more HB14.out hb15)
          have HI3a := Lib.hid (HI3.out w15 HB15.out)
          clear hb15 HI2b
          refine go_on ?_
          go_wp2_with (go_at_call 31; refine HI3a.out.mono ?_; rintro _ w16 ⟨rfl, hb16⟩; refine Hid.out ?_)
          have HB16 := Lib.hid (below_more HBE.out (below_more HB15.out hb16))
          clear hb16 HI3a
          refine go_on ?_
          go_wp2
          go_roundw
          case rel => exact ⟨p + 1, by go_num, by omega, by omega, HB16.out⟩
          case measure => (try simp [intOf]) <;> omega
      · have hps : ¬ p < size := hlt
        clear hlt
        go_wp2_with (go_at_call 11; refine (lives_any _).mono ?_; rintro _ w13 ⟨rfl, hb⟩; have HB13 := Lib.hid (below_more HBW.out hb); clear hb)
        go_ret
        exact ⟨rfl, HB13.out⟩
  · have hz2 : z3 = 2 ∧ o3 = [] := by
      rcases hrs with ⟨_, h, h'⟩ | ⟨hs, z, j, hnm, ⟨h1, h2, h'⟩ | ⟨_, _, h2, h'⟩ | ⟨h1, h2, ⟨h3, h4, h'⟩ | ⟨_, h3, _⟩⟩⟩
      · exact ⟨h, h'⟩
      · rcases hnm with ⟨h4, _⟩ | ⟨_, h5, _⟩
        · omega
        · rw [if_neg (by omega)] at h5; exact ⟨by omega, h'⟩
      · exact ⟨h2, h'⟩
      · exfalso
        subst h1
        rcases hnm with ⟨_, _, hmay, hjoin, hjlen⟩ | ⟨_, h5, _⟩
        · have hjm := joined_may hjoin hmay
          have := (rest_ok hjoin.1 (fun x hx => (hjm x hx).1.1) hs.1 h2).2.2.2.2
          omega
        · rw [if_neg (by omega)] at h5; omega
      · exact absurd h3 hz
    obtain ⟨rfl, rfl⟩ := hz2
    obtain rfl : m3 = 0 := by simpa using hl3.symm
    clear hrs hown3 hb HRE hz hl3
    refine go_on ?_
    go_wp2_with (go_at_call 11; refine (lives_any _).mono ?_; rintro _ w4 ⟨rfl, hb⟩; have HB4 := Lib.hid (below_more HB3.out hb); clear hb)
    go_ret
    exact ⟨rfl, HB4.out⟩
end Go.Proofs.Ytkdfafaiabidgaa.X5
