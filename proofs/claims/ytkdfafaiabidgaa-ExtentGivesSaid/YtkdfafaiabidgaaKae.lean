/- The law ExtentBack. -/
import Derived.Test.YtkdfafaiabidgaaKab
import Derived.Test.YtkdfafaiabidgaaKad
namespace Go.Proofs.Ytkdfafaiabidgaa.X5
set_option linter.unusedVariables false
set_option linter.unusedSimpArgs false
open Go.RowKit Wd Ty9

/-- Region's step: a row is appended by an operation that is wanted. -/
theorem step_appN_g {t e : TypeId} (ht : Try.prog.underlying t = some (.slice e)) (hinf : (Try.prog.info? e).map (fun i => (i.zero, i.size, i.bytes)) = some (some (.agg #[.int .i64 0, .int .i64 0]), 2, 16))
    {ops : Array Oper} {o : Oper} {a : Act} {w : World} {K : Act → World → Prop} {Q : Exit → Act → World → Prop} {E : Prop} (W : World) (hW : w = W) (hw : Region.wanted o (yielded ops a.tmps) = true) (s x : Operand)
    (ho : o.op = .call { callee := .builtin .append, args := #[s, x], argTypes := #[t, t] })
    (w0 : World) (V : Value) (ou ys : List Xt) (A : Option Addr) (m c lo hi : Nat) (hs : a.eval s = V) (hx : a.eval x = .slice A m c) (hA : A = none → c = 0) (h : Ow e w0 V ou W) (hb : Ex W lo hi A m ys) (hl : (ou.length + m) * 16 ≤ 140737488355328)
    (hK : ∀ V' w', Ow e w0 V' (ou ++ ys) w' → W.grownBy w' V.ownBlock → K (a.put o.dst V') w') :
    if Region.wanted o (yielded ops a.tmps) = true then Oper.wp Try.prog o a w K Q else E := by
  subst hW
  rw [if_pos hw]
  obtain ⟨i0, hi0, hz, hs0, hbt⟩ := info_parts hinf
  rcases A with _ | ad
  · obtain rfl := hA rfl
    have hm : m = 0 := by
      rcases Nat.eq_zero_or_pos m with h0 | h0
      · exact h0
      · obtain ⟨b, o, e, _⟩ := hb.at_ h0; cases e
    subst hm
    obtain rfl : ys = [] := List.eq_nil_of_length_eq_zero hb.len
    have hrun := run_append_owned_none (P := Try.prog) (w := w) w0.heap.size t o.type e i0 2 ht hi0 V ou.length (cl ou) h.own
    unfold Oper.wp
    simp [execOp, ho, resolve, invoke, builtin, hs, hx, hrun, Result.andThen]
    exact hK V w (by rw [List.append_nil]; exact h) (World.grownBy.refl _ _)
  · refine wp_append_own w s x t ho w0.heap.size e i0 _ 2 16 ht hi0 hz hs0 hbt (by rfl) (by decide) V ou.length (cl ou) hs h.own ad m c (cl ys) hx (by rw [cl_len, hb.len]) ?_ (cl_one ys) (by unfold maxLen; omega) hl h.be.size ?_
    · intro j u hu
      obtain ⟨i, hi, _⟩ := cl_at hu
      obtain ⟨b, o, e, _, _, h3⟩ := hb.at_ (by have := hb.len; omega)
      cases e
      have hadd : (⟨b, o, none⟩ : Addr).add j = ⟨b, o + j, none⟩ := by unfold Addr.add; split <;> simp_all
      rw [hadd]
      exact h3 j u hu
    · intro V2 w4 hown2 hgr2 _
      refine hK V2 w4 (h.grown hgr2 ?_) hgr2
      rw [List.length_append, cl_app, hb.len]
      exact hown2
theorem step_app1_g {t e : TypeId} (ht : Try.prog.underlying t = some (.slice e)) (hinf : (Try.prog.info? e).map (fun i => (i.zero, i.size, i.bytes)) = some (some (.agg #[.int .i64 0, .int .i64 0]), 2, 16))
    {ops : Array Oper} {o : Oper} {a : Act} {w : World} {K : Act → World → Prop} {Q : Exit → Act → World → Prop} {E : Prop} (W : World) (hW : w = W) (hw : Region.wanted o (yielded ops a.tmps) = true) (s x : Operand)
    (ho : o.op = .call { callee := .builtin .append, args := #[s, x], argTypes := #[t, t] })
    (w0 : World) (V : Value) (ou : List Xt) (y : Xt) (g : Nat) (hs : a.eval s = V) (hx : a.eval x = .slice (some ⟨g, 0, none⟩) 1 1) (h : Ow e w0 V ou W) (hb : Bx W g e #[.int .i64 y.1, .int .i64 y.2]) (hl : (ou.length + 1) * 16 ≤ 140737488355328)
    (hK : ∀ V' w', Ow e w0 V' (ou ++ [y]) w' → K (a.put o.dst V') w') :
    if Region.wanted o (yielded ops a.tmps) = true then Oper.wp Try.prog o a w K Q else E := by
  subst hW
  rw [if_pos hw]
  obtain ⟨i0, hi0, hz, hs0, hbt⟩ := info_parts hinf
  refine wp_append_own w s x t ho w0.heap.size e i0 _ 2 16 ht hi0 hz hs0 hbt (by rfl) (by decide) V ou.length (cl ou) hs h.own ⟨g, 0, none⟩ 1 1 [.int .i64 y.1, .int .i64 y.2] hx (by rfl) (World.news_of_block hb) (by simp [Value.oneCell']) (by unfold maxLen; omega) hl h.be.size ?_
  intro V2 w4 hown2 hgr2 _
  refine hK V2 w4 (h.grown hgr2 ?_)
  rw [List.length_append, cl_app]
  exact hown2

set_option maxHeartbeats 20000000 in
set_option maxRecDepth 100000 in
theorem back_walk (w : World) (A : Option Addr) (n C : Nat) (xs : List Xt) (hn : (n + 1) * 16 ≤ 140737488355328) (hA : A = none → C = 0) (h : Ex w 0 w.heap.size A n xs) (z : Int) (hr : -9223372036854775808 ≤ z ∧ z ≤ 9223372036854775807) :
    Calls Try.prog 8 #[.slice A n C, .int .i64 z] w fun e w' => e = .returned (.bool true) ∧ Below w.heap.size w w' := by
  have hl := h.len
  have HX := Lib.hid h
  by_cases h1 : 300 < n
  · have s1 : (300 : Int) < (n : Int) := by omega
    clear h hr h1
    go_enter Try.func8, Try.ntmps8
    go_wp2_with (go_at_call 11; refine (lives_any _).mono ?_; rintro _ w2 ⟨rfl, hb⟩; have HB2 := Lib.hid hb; clear hb)
    go_ret
    exact ⟨rfl, HB2.out⟩
  have s1 : ¬ (300 : Int) < (n : Int) := by omega
  by_cases hbad : z < 1 ∨ ¬ goodP xs 4194304
  · have HT := Lib.hid (take_bad A n C 0 w.heap.size xs z w (by omega) h (Nat.le_refl _) hbad)
    clear h hr h1 hbad
    go_enter Try.func8, Try.ntmps8
    go_wp2_with (first
      | (go_at_call 19; refine HT.out.mono ?_; rintro _ w2 ⟨rfl, hb⟩; have HB2 := Lib.hid hb; clear hb)
      | (go_at_call 11; refine (lives_any _).mono ?_; rintro _ w3 ⟨rfl, hb⟩; have HB3 := Lib.hid (below_more HB2.out hb); clear hb))
    go_ret
    exact ⟨rfl, HB3.out⟩
  have hz : 1 ≤ z := by omega
  have hg : goodP xs 4194304 := Classical.not_not.mp fun h => hbad (.inr h)
  clear hbad
  rcases first_or xs z with hno | ⟨i, hi, hyes, hno⟩
  · have HT := Lib.hid (take_full A n C 0 w.heap.size xs z w (by omega) h (Nat.le_refl _) hz hg hno)
    clear h hr h1 hg hno
    go_enter Try.func8, Try.ntmps8
    go_wp2_with (first
      | (go_at_call 19; refine HT.out.mono ?_; rintro _ w2 ⟨rfl, hb⟩; have HB2 := Lib.hid hb; clear hb)
      | (go_at_call 11; refine (lives_any _).mono ?_; rintro _ w3 ⟨rfl, hb⟩; have HB3 := Lib.hid (below_more HB2.out hb); clear hb))
    go_ret
    exact ⟨rfl, HB3.out⟩
  have HT := Lib.hid (take_yes A n C 0 w.heap.size xs z i w (by omega) h (Nat.le_refl _) hz hg hi hyes hno)
  obtain ⟨b1, b2, b3, b4, b5, b6, b7⟩ := back_ok hg hz hi hyes
  generalize takeK xs z i = r at *
  generalize xs[i].1 = at0 at *
  have HG1 := Lib.hid b1
  have HMX := Lib.hid b2
  have HNM := Lib.hid b3
  have HJ := Lib.hid b4
  have HTOT := Lib.hid b5
  have HMR := Lib.hid b7
  have hrl : r.length ≤ 300 := by omega
  clear h hr h1 hg hno b1 b2 b3 b4 b5 b7 hyes
  go_enter Try.func8, Try.ntmps8
  go_wp2_with (go_at_call 19; refine HT.out.mono ?_; rintro _ w2 ⟨A2, m2, C2, rfl, hex, -, hb, hA2⟩; refine Hid.out ?_)
  have hl2 := hex.len
  have HE2 := Lib.hid hex
  have HB2 := Lib.hid hb
  have HS2 := Lib.hid hb.size
  have hm2 : m2 ≤ 300 := by omega
  clear hex hb HT
  refine go_on ?_
  obtain ⟨ys, hys⟩ : ∃ ys, ys = r ++ [(at0, z)] := ⟨_, rfl⟩
  obtain ⟨q, hq⟩ : ∃ q, ys.length = q := ⟨_, rfl⟩
  have HQ := Lib.hid (show q ≤ 1000000 by rw [← hq, hys]; simp; omega)
  have HYS := Lib.hid hys
  have HLY := Lib.hid hq
  have HL2 := Lib.hid hl2
  have HLL := Lib.hid (show (r.length + 1) * 16 ≤ 140737488355328 by omega)
  have HLL0 := Lib.hid (show (([] : List Xt).length + m2) * 16 ≤ 140737488355328 by simp; omega)
  clear hys hq
  have HD := Lib.hid (show Below w2.heap.size w2 (w2.alloc (.cells #[.int .i64 at0, .int .i64 z] 48)).drew from (below_new w2 _).drew)
  have HBX := Lib.hid (show Bx (w2.alloc (.cells #[.int .i64 at0, .int .i64 z] 48)).drew w2.heap.size 48 #[.int .i64 at0, .int .i64 z] from Bx.new w2 _ _)
  have HG := Lib.hid (good_any A2 m2 C2 w.heap.size w2.heap.size r 4194304 (w2.alloc (.cells #[.int .i64 at0, .int .i64 z] 48)).drew (by omega) (HE2.out.later HD.out (Nat.le_refl _)) HD.out.size)
  have hb1 := sumL_bound r
  have hb2 := sumL_bound xs
  have HTR := Lib.hid (fun (W : World) (hb : Below w2.heap.size w2 W) => total_any A2 m2 C2 w.heap.size w2.heap.size r W (by omega) (HE2.out.later hb (Nat.le_refl _)) hb.size)
  have HTX := Lib.hid (fun (W : World) (hb : Below w2.heap.size w2 W) => total_any A n C 0 w.heap.size xs W (by omega) ((HX.out.later HB2.out (Nat.le_refl _)).later hb HS2.out) (Nat.le_trans HS2.out hb.size))
  generalize hsr : sumL r = sr at *
  generalize hsx : sumL xs = sx at *
  have t1 : wrap64 (sr + z) = sx := by have h1 := HTOT.out; rw [h1]; unfold wrap64; omega
  have t2 : IntKind.i64.wrap (sr + z) = sx := by have h1 := HTOT.out; rw [h1]; exact IntWalk.i64_in _ (by omega)
  clear hb1 hb2 hsr hsx
  go_upto_region 7 with fail
  go_region_law (first
    | (have hgate := HG.out; clear hgate; go_simp; go_at_call 21; refine HG.out.mono ?_; rintro _ w3 ⟨he, hb⟩; rw [decide_eq_true HG1.out] at he; subst he; have HBX3 := Lib.hid (HBX.out.later hb HBX.out.lt); have HB3 := Lib.hid (below_more HD.out hb); have x0 : w3.cell? ⟨w2.heap.size, 0, none⟩ = some (.int .i64 at0) := HBX3.out.cell 0; have x1 : w3.cell? ⟨w2.heap.size, 1, none⟩ = some (.int .i64 z) := HBX3.out.cell 1; have x0a : (w3.alloc (.cells #[] 48)).cell? ⟨w2.heap.size, 0, none⟩ = some (.int .i64 at0) := (HBX3.out.later (below_new w3 (.cells #[] 48)) HBX3.out.lt).cell 0; have x1a : (w3.alloc (.cells #[] 48)).cell? ⟨w2.heap.size, 1, none⟩ = some (.int .i64 z) := (HBX3.out.later (below_new w3 (.cells #[] 48)) HBX3.out.lt).cell 1; have hltx := HBX3.out.lt; have HE3 := Lib.hid (fun (W : World) (hb : Below w3.heap.size w3 W) => HE2.out.later (below_more HB3.out hb) (Nat.le_refl _)); have HO3 := Lib.hid (fun (W : World) (hb : Below w3.heap.size w3 W) => (show Ow 48 w3 (.slice (some ⟨W.heap.size, 0, none⟩) 0 0) [] (W.alloc (.cells #[] 48)) from ⟨World.ownsRow_made W #[] 0 hb.size (Nat.zero_le _) (by simp), below_more hb (below_new W _)⟩)); clear hb HG)
    | (have hgate := HO3.out; clear hgate; refine step_appN_g Try.underlying22 ext_info (w3.alloc (.cells #[] 48)) (by with_reducible rfl) (by rfl) (.tmp 41) (.tmp 42) (by rfl) w3 (.slice (some ⟨w3.heap.size, 0, none⟩) 0 0) [] r A2 m2 C2 w.heap.size w2.heap.size (by rfl) (by rfl) hA2 (HO3.out _ (Below.refl _ _)) (HE3.out _ (below_new _ _)) HLL0.out ?_; intro V4 w4 how4 hgr; rw [List.nil_append] at how4; obtain ⟨A4, C4, hV⟩ := own_form how4.own; rw [HL2.out] at hV; subst hV; have hbw := how4.be; have x0 := (hbw.cell (p := ⟨w2.heap.size, 0, none⟩) HBX3.out.lt).trans x0; have x1 := (hbw.cell (p := ⟨w2.heap.size, 1, none⟩) HBX3.out.lt).trans x1; have HO4 := Lib.hid (how4.below (below_new w4 (.cells #[.int .i64 at0, .int .i64 z] 48))); clear how4 hbw hgr HO3)
    | (have hgate := HO3.out; clear hgate; refine step_appN_g Try.underlying22 ext_info ((w3.alloc (.cells #[] 48)).alloc (.cells #[.int .i64 at0, .int .i64 z] 48)) (by with_reducible rfl) (by rfl) (.tmp 41) (.tmp 42) (by rfl) w3 (.slice (some ⟨w3.heap.size, 0, none⟩) 0 0) [] r A2 m2 C2 w.heap.size w2.heap.size (by rfl) (by rfl) hA2 ((HO3.out _ (Below.refl _ _)).below (below_new _ (.cells #[.int .i64 at0, .int .i64 z] 48))) (HE3.out _ (below_more (below_new _ _) (below_new _ _))) HLL0.out ?_; intro V4 w4 how4 hgr; rw [List.nil_append] at how4; obtain ⟨A4, C4, hV⟩ := own_form how4.own; rw [HL2.out] at hV; subst hV; have HO5 := Lib.hid how4; have HLT1 := Lib.hid (show Bx w4 (w3.heap.size + 1) 48 #[.int .i64 at0, .int .i64 z] from (hgr.block (w3.heap.size + 1) (by simp) (fun e => by have := Option.some.inj (show some (w3.heap.size + 1) = some w3.heap.size from e); omega)).trans (Bx.new2 w3 _ _ _)); clear how4 hgr HO3)
    | (have hgate := HO3.out; clear hgate; refine step_appN_g Try.underlying22 ext_info ((w3.alloc (.cells #[.int .i64 at0, .int .i64 z] 48)).alloc (.cells #[] 48)) (by with_reducible rfl) (by rfl) (.tmp 41) (.tmp 42) (by rfl) w3 (.slice (some ⟨w3.heap.size + 1, 0, none⟩) 0 0) [] r A2 m2 C2 w.heap.size w2.heap.size (by rfl) (by rfl) hA2 (show Ow 48 w3 (.slice (some ⟨w3.heap.size + 1, 0, none⟩) 0 0) [] ((w3.alloc (.cells #[.int .i64 at0, .int .i64 z] 48)).alloc (.cells #[] 48)) by have h := HO3.out (w3.alloc (.cells #[.int .i64 at0, .int .i64 z] 48)) (below_new w3 _); rwa [size_alloc] at h) (HE3.out _ (below_more (below_new _ _) (below_new _ _))) HLL0.out ?_; intro V4 w4 how4 hgr; rw [List.nil_append] at how4; obtain ⟨A4, C4, hV⟩ := own_form how4.own; rw [HL2.out] at hV; subst hV; have HO5 := Lib.hid how4; have HLT0 := Lib.hid (show Bx w4 w3.heap.size 48 #[.int .i64 at0, .int .i64 z] from (hgr.block w3.heap.size (by simp; omega) (fun e => by have := Option.some.inj (show some w3.heap.size = some (w3.heap.size + 1) from e); omega)).trans ((Bx.new w3 48 #[.int .i64 at0, .int .i64 z]).later (below_new (w3.alloc (.cells #[.int .i64 at0, .int .i64 z] 48)) (.cells #[] 48)) (by simp))); clear how4 hgr HO3)
    | (have hgate := HO4.out; clear hgate; refine step_app1_g Try.underlying22 ext_info (w4.alloc (.cells #[.int .i64 at0, .int .i64 z] 48)) (by with_reducible rfl) (by rfl) (.tmp 43) (.tmp 45) (by rfl) w3 (.slice A4 m2 C4) r (at0, z) w4.heap.size (by rfl) (by rfl) HO4.out (Bx.new w4 _ _) HLL.out ?_; intro V5 w5 how5; rw [← HYS.out] at how5; have hown5 := how5.own; rw [HLY.out] at hown5; obtain ⟨A5, C5, hV, -, hex5, -⟩ := own_ex hown5; subst hV; have HB5 := Lib.hid (below_more HB3.out how5.be); have HME := Lib.hid (meets_any A5 q C5 _ _ ys w5 HQ.out hex5 (Nat.le_refl _)); have HB35 := Lib.hid how5.be; clear how5 hown5 hex5 HO4)
    | (have hgate := HLT1.out; clear hgate; refine step_app1_g Try.underlying22 ext_info w4 (by with_reducible rfl) (by rfl) (.tmp 43) (.tmp 45) (by rfl) w3 (.slice A4 m2 C4) r (at0, z) (w3.heap.size + 1) (by rfl) (by rfl) HO5.out HLT1.out HLL.out ?_; intro V5 w5 how5; rw [← HYS.out] at how5; have hown5 := how5.own; rw [HLY.out] at hown5; obtain ⟨A5, C5, hV, -, hex5, -⟩ := own_ex hown5; subst hV; have HB5 := Lib.hid (below_more HB3.out how5.be); have HME := Lib.hid (meets_any A5 q C5 _ _ ys w5 HQ.out hex5 (Nat.le_refl _)); have HB35 := Lib.hid how5.be; clear how5 hown5 hex5 HLT1)
    | (have hgate := HLT0.out; clear hgate; refine step_app1_g Try.underlying22 ext_info w4 (by with_reducible rfl) (by rfl) (.tmp 43) (.tmp 45) (by rfl) w3 (.slice A4 m2 C4) r (at0, z) w3.heap.size (by rfl) (by rfl) HO5.out HLT0.out HLL.out ?_; intro V5 w5 how5; rw [← HYS.out] at how5; have hown5 := how5.own; rw [HLY.out] at hown5; obtain ⟨A5, C5, hV, -, hex5, -⟩ := own_ex hown5; subst hV; have HB5 := Lib.hid (below_more HB3.out how5.be); have HME := Lib.hid (meets_any A5 q C5 _ _ ys w5 HQ.out hex5 (Nat.le_refl _)); have HB35 := Lib.hid how5.be; clear how5 hown5 hex5 HLT0)
    | (have hgate := HME.out; clear hgate; go_simp; go_at_call 25; refine HME.out.mono ?_; rintro _ w6 ⟨r6, rfl, hr6, hb⟩; obtain rfl : r6 = false := hr6.out.mpr (HYS.out ▸ HNM.out); have HB6 := Lib.hid (below_more HB5.out hb); have HB36 := Lib.hid (below_more HB35.out hb); have HT1 := Lib.hid (HTR.out w6 HB6.out); clear hr6 hb HME)
    | (have hgate := HT1.out; clear hgate; go_simp; go_at_call 23; refine HT1.out.mono ?_; rintro _ w7 ⟨rfl, hb⟩; have HB7 := Lib.hid (below_more HB6.out hb); have HB37 := Lib.hid (below_more HB36.out hb); have HT2 := Lib.hid (HTX.out w7 HB7.out); clear hb HT1)
    | (have hgate := HT2.out; clear hgate; go_simp; go_at_call 23; refine HT2.out.mono ?_; rintro _ w8 ⟨rfl, hb⟩; have HB8 := Lib.hid (below_more HB7.out hb); have HB38 := Lib.hid (below_more HB37.out hb); clear hb HT2))
  all_goals
    clear x0 x1 x0a x1a
    have HBX8 := Lib.hid (HBX3.out.later HB38.out HBX3.out.lt)
    have x0 : w8.cell? ⟨w2.heap.size, 0, none⟩ = some (.int .i64 at0) := HBX8.out.cell 0
    have x1 : w8.cell? ⟨w2.heap.size, 1, none⟩ = some (.int .i64 z) := HBX8.out.cell 1
    have HGV := Lib.hid (give_any A2 m2 C2 w.heap.size w2.heap.size r (at0, z) w8 (by omega) (HE2.out.later HB8.out (Nat.le_refl _)) HB8.out.size)
    go_wp2_with (go_at_call 29; refine HGV.out.mono ?_; rintro _ w9 ⟨A9, C9, m9, z9, o9, rfl, hgv, hl9, hown9, hb⟩; refine Hid.out ?_)
    obtain ⟨hz9, ho9⟩ := give_back HG1.out HMX.out HNM.out HJ.out (by omega) hgv
    subst hz9
    rw [ho9] at hl9 hown9
    clear ho9 hgv o9 x0 x1
    obtain rfl : m9 = n := by omega
    obtain ⟨_, _, ev, -, hex9, -⟩ := own_ex hown9
    cases ev
    have HB9 := Lib.hid (below_more HB2.out (below_more HB8.out hb))
    have HE9 := Lib.hid hex9
    have HP := Lib.hid (plain_any A m9 C 0 w.heap.size xs w9 (by omega) (HX.out.later HB9.out (Nat.le_refl _)) HB9.out.size)
    have HS9 := Lib.hid (fun (B : Option Addr) (k D lo hi : Nat) (W : World) (hb : Below w9.heap.size w9 W) (h2 : Ex W lo hi B k xs) (hhi2 : hi ≤ W.heap.size) => same_any A9 B m9 k C9 D _ _ lo hi xs xs W (by omega) (hex9.later hb (Nat.le_refl _)) hb.size h2 hhi2)
    clear hown9 hex9 hb HGV hl9
    refine go_on ?_
    go_wp2_with (go_at_call 15; refine HP.out.mono ?_; rintro _ w10 ⟨V10, rfl, how10⟩; refine Hid.out ?_)
    obtain ⟨B, D, hV, -, hex10, -⟩ := own_ex how10.own
    have hk10 := hex10.len
    rw [hl] at hV hex10 hk10
    subst hV
    have HB10 := Lib.hid (below_more HB9.out how10.be)
    have HQ := Lib.hid ((HS9.out B m9 D _ _ w10 how10.be hex10 (Nat.le_refl _)).mono (R' := fun e w' => e = .returned (.bool true) ∧ Below w10.heap.size w10 w') fun e w' h => ⟨by rw [h.1]; simp, h.2⟩)
    clear how10 hex10 HP HS9 hk10
    refine go_on ?_
    go_wp2_with (go_at_call 16; refine HQ.out.mono ?_; rintro _ w11 ⟨rfl, hb⟩; refine Hid.out ?_)
    have HB11 := Lib.hid (below_more HB10.out hb)
    clear hb HQ
    refine go_on ?_
    go_wp2_with (go_at_call 11; refine (lives_any w11).mono ?_; rintro _ w12 ⟨rfl, hb⟩; refine Hid.out ?_)
    have HB12 := Lib.hid (below_more HB11.out hb)
    clear hb
    refine go_on ?_
    go_wp2
    go_ret
    exact ⟨rfl, HB12.out⟩
end Go.Proofs.Ytkdfafaiabidgaa.X5
