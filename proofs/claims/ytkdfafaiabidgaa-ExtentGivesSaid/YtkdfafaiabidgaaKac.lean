/- extent.Give. -/
import Derived.Test.YtkdfafaiabidgaaKaa
namespace Go.Proofs.Ytkdfafaiabidgaa.X5
set_option linter.unusedVariables false
set_option linter.unusedSimpArgs false
open Go.RowKit Wd Ty9

/-- What Give tells. -/
def IsGive (xs : List Xt) (x : Xt) (e : Int) (out : List Xt) : Prop :=
  (¬ (goodP xs 4194304 ∧ mayP x) ∧ e = 2 ∧ out = []) ∨
  ((goodP xs 4194304 ∧ mayP x) ∧ ((¬ noMeet (xs ++ [x]) ∧ e = 11 ∧ out = []) ∨
    (noMeet (xs ++ [x]) ∧ ∃ j, IsJoin (xs ++ [x]) j ∧ ((65536 < j.length ∧ e = 3 ∧ out = []) ∨ (j.length ≤ 65536 ∧ e = 0 ∧ out = j)))))
theorem IsGive.uniq {xs : List Xt} {x : Xt} {e1 e2 : Int} {o1 o2 : List Xt} (h1 : IsGive xs x e1 o1) (h2 : IsGive xs x e2 o2) : e1 = e2 ∧ o1 = o2 := by
  rcases h1 with ⟨a1, a2, a3⟩ | ⟨a1, a⟩ <;> rcases h2 with ⟨b1, b2, b3⟩ | ⟨b1, b⟩
  · exact ⟨a2.trans b2.symm, a3.trans b3.symm⟩
  · exact absurd b1 a1
  · exact absurd a1 b1
  · rcases a with ⟨p1, p2, p3⟩ | ⟨p1, j, pj, p⟩ <;> rcases b with ⟨q1, q2, q3⟩ | ⟨q1, k, qk, q⟩
    · exact ⟨p2.trans q2.symm, p3.trans q3.symm⟩
    · exact absurd q1 p1
    · exact absurd p1 q1
    · obtain rfl := pj.uniq qk
      rcases p with ⟨r1, r2, r3⟩ | ⟨r1, r2, r3⟩ <;> rcases q with ⟨s1, s2, s3⟩ | ⟨s1, s2, s3⟩
      · exact ⟨r2.trans s2.symm, r3.trans s3.symm⟩
      · omega
      · omega
      · exact ⟨r2.trans s2.symm, r3.trans s3.symm⟩
theorem IsGive.len {xs : List Xt} {x : Xt} {e : Int} {out : List Xt} (h : IsGive xs x e out) : out.length ≤ 65536 := by
  rcases h with ⟨_, _, h⟩ | ⟨_, ⟨_, _, h⟩ | ⟨_, j, _, ⟨_, _, h⟩ | ⟨h1, _, h⟩⟩⟩
  all_goals rw [h]
  all_goals first | exact h1 | simp

set_option maxHeartbeats 1000000 in
set_option maxRecDepth 100000 in
theorem give_any (A : Option Addr) (n C lo hi : Nat) (xs : List Xt) (x : Xt) (w : World) (hn : n ≤ 140737488355328) (h : Ex w lo hi A n xs) (hhi : hi ≤ w.heap.size) :
    Calls Try.prog 29 #[.slice A n C, av x] w fun e w' => ∃ A' C' m z out, e = .returned (.tuple #[.slice A' m C', .int .i64 z]) ∧ IsGive xs x z out ∧ out.length = m ∧ w'.ownsRow w.heap.size 48 2 (.slice A' m C') m (cl out) ∧ Below w.heap.size w w' := by
  have hl := h.len
  have HX := Lib.hid h
  have HX0 := Lib.hid (h.later (below_new w (.cells #[.int .i64 x.1, .int .i64 x.2] 48)) hhi)
  have HGD := Lib.hid (good_any A n C lo hi xs 4194304 (w.alloc (.cells #[.int .i64 x.1, .int .i64 x.2] 48)) hn HX0.out (by simp; omega))
  have HBX := Lib.hid (Bx.new w 48 #[.int .i64 x.1, .int .i64 x.2])
  have HW := Lib.hid (below_new w (.cells #[.int .i64 x.1, .int .i64 x.2] 48))
  clear h
  by_cases hg : goodP xs 4194304
  · have HG := Lib.hid hg
    have hnb : n ≤ 65536 := by have := hg.2.2.1; omega
    by_cases hm : mayP x
    · have HM := Lib.hid hm
      clear hg hm
      go_enter Try.func29, Try.ntmps29
      go_wp2_with (go_at_call 21; refine HGD.out.mono ?_; rintro _ w1 ⟨he, hb⟩; rw [decide_eq_true HG.out] at he; subst he; refine Hid.out ?_)
      have hbx := HBX.out.later hb HBX.out.lt
      have x0 := hbx.cell 0
      have x1 := hbx.cell 1
      have HBX1 := Lib.hid hbx
      have HW1 := Lib.hid (below_more HW.out hb)
      clear hbx hb
      refine go_on ?_
      go_wp2_with (go_at_call 34; refine (may_any x _).mono ?_; rintro _ w2 ⟨he, hb⟩; rw [decide_eq_true HM.out] at he; subst he; refine Hid.out ?_)
      have hbx := HBX1.out.later hb HBX1.out.lt
      clear x0 x1
      have x0 : w2.cell? ⟨w.heap.size, 0, none⟩ = some (.int .i64 x.1) := hbx.cell 0
      have x1 : w2.cell? ⟨w.heap.size, 1, none⟩ = some (.int .i64 x.2) := hbx.cell 1
      have HBX2 := Lib.hid hbx
      have HW2 := Lib.hid (below_more HW1.out hb)
      clear hbx hb
      have HBd := Lib.hid (show Below w.heap.size w w2.drew from HW2.out.drew)
      have HBda := Lib.hid (show Below w.heap.size w (w2.drew.alloc (.cells #[.int .i64 x.1, .int .i64 x.2] 48)) from below_more HW2.out ((Below.refl _ w2).drew.alloc (Nat.le_refl _) _))
      have HCL := Lib.hid (fun (W : World) (hb : Below w.heap.size w W) (hd : Below w2.heap.size w2 W) => (clone_any A n C lo hi xs W (by omega) (HX.out.later hb hhi)).mono (R' := fun e w' => ∃ A' C', e = .returned (.slice A' n C') ∧ Ow 48 w (.slice A' n C') xs w' ∧ Below W.heap.size W w' ∧ Below w2.heap.size w2 w') fun e w' ⟨A', C', h1, _, h3, h4⟩ => ⟨A', C', h1, ⟨by rw [hl]; exact own_base h3 hb.size, below_more hb h4⟩, h4, below_more hd h4⟩)
      refine go_on ?_
      have HDD := Lib.hid (show Below w2.heap.size w2 w2.drew from (Below.refl _ w2).drew)
      have HDA := Lib.hid (show Below w2.heap.size w2 (w2.drew.alloc (.cells #[.int .i64 x.1, .int .i64 x.2] 48)) from (Below.refl _ w2).drew.alloc (Nat.le_refl _) _)
      obtain ⟨ys, hys⟩ : ∃ ys, ys = xs ++ [x] := ⟨_, rfl⟩
      obtain ⟨m, hm⟩ : ∃ m, ys.length = m := ⟨_, rfl⟩
      have hm6 : m ≤ 1000000 := by rw [← hm, hys]; simp; omega
      have hmy : ∀ y ∈ ys, mayP y := by
        intro y hy
        rw [hys] at hy
        rcases List.mem_append.mp hy with hy | hy
        · exact (((goodP_iff _ _).mp HG.out).2.2.2.2 y hy).1
        · rw [List.mem_singleton.mp hy]; exact HM.out
      have HLL := Lib.hid (show (xs.length + 1) * 16 ≤ 140737488355328 by omega)
      have HYS := Lib.hid hys
      have HLY := Lib.hid hm
      have HM6 := Lib.hid hm6
      have HMY := Lib.hid hmy
      clear hys hm hm6 hmy
      go_upto_region 3 with fail
      go_region_law (first
        | (go_simp; go_at_call 40; first
            | (refine (HCL.out _ HBd.out HDD.out).mono ?_; rintro _ w3 ⟨A3, C3, rfl, ho, -, hb2⟩; have x0 := (hb2.cell (p := ⟨w.heap.size, 0, none⟩) HBX2.out.lt).trans x0; have x1 := (hb2.cell (p := ⟨w.heap.size, 1, none⟩) HBX2.out.lt).trans x1; have HOA := Lib.hid (ho.below ((Below.refl _ w3).alloc (Nat.le_refl _) (.cells #[.int .i64 x.1, .int .i64 x.2] 48))); clear ho hb2)
            | (refine (HCL.out _ HBda.out HDA.out).mono ?_; rintro _ w3 ⟨A3, C3, rfl, ho, hb1, -⟩; have HO3 := Lib.hid ho; have HLT := Lib.hid ((Bx.new w2.drew 48 #[.int .i64 x.1, .int .i64 x.2]).later hb1 (Bx.new w2.drew _ _).lt); clear ho hb1))
        | (refine step_app1 Try.underlying22 ext_info (by rfl) (.tmp 17) (.tmp 19) (by rfl) w (.slice A3 n C3) xs x w3.heap.size (by rfl) (by rfl) HOA.out (Bx.new w3 _ _) HLL.out ?_; intro V2 w4 how4; rw [← HYS.out] at how4; have hown4 := how4.own; rw [HLY.out] at hown4; obtain ⟨A4, C4, hV, -, hex4, -⟩ := own_ex hown4; subst hV; have HB4 := Lib.hid how4.be; have HMT := Lib.hid (meets_any A4 m C4 _ _ ys w4 HM6.out hex4 (Nat.le_refl _)); have HJN := Lib.hid (fun (W : World) (hb : Below w4.heap.size w4 W) => join_any A4 m C4 _ _ ys W HM6.out (hex4.later hb (Nat.le_refl _)) hb.size HMY.out); clear how4 hown4 hex4)
        | (refine step_app1 Try.underlying22 ext_info (by rfl) (.tmp 17) (.tmp 19) (by rfl) w (.slice A3 n C3) xs x w2.drew.heap.size (by rfl) (by rfl) HO3.out HLT.out HLL.out ?_; intro V2 w4 how4; rw [← HYS.out] at how4; have hown4 := how4.own; rw [HLY.out] at hown4; obtain ⟨A4, C4, hV, -, hex4, -⟩ := own_ex hown4; subst hV; have HB4 := Lib.hid how4.be; have HMT := Lib.hid (meets_any A4 m C4 _ _ ys w4 HM6.out hex4 (Nat.le_refl _)); have HJN := Lib.hid (fun (W : World) (hb : Below w4.heap.size w4 W) => join_any A4 m C4 _ _ ys W HM6.out (hex4.later hb (Nat.le_refl _)) hb.size HMY.out); clear how4 hown4 hex4))
      all_goals
        go_wp2_with (go_at_call 25; refine HMT.out.mono ?_; rintro _ w5 ⟨r, rfl, hr, hb⟩; refine Hid.out ?_)
        by_cases hnm : noMeet ys
        · obtain rfl : r = false := hr.out.mpr hnm
          have HJ5 := Lib.hid (HJN.out w5 hb)
          have HB5 := Lib.hid (below_more HB4.out hb)
          have HNM := Lib.hid (show noMeet (xs ++ [x]) from HYS.out ▸ hnm)
          clear hr hnm hb HJN HMT
          refine go_on ?_
          go_wp2_with (go_at_call 35; refine HJ5.out.mono ?_; rintro _ w6 ⟨V6, j, rfl, hj, hjl, hown, hb⟩; refine Hid.out ?_)
          obtain ⟨L, hL⟩ : ∃ L, j.length = L := ⟨_, rfl⟩
          rw [hL] at hown hjl
          have hown6 := own_base hown HB5.out.size
          obtain ⟨A6, C6, rfl⟩ := own_form hown6
          have HB6 := Lib.hid (below_more HB5.out hb)
          have HOW6 := Lib.hid hown6
          have HJ := Lib.hid (show IsJoin (xs ++ [x]) j from HYS.out ▸ hj)
          have HL := Lib.hid hL
          clear hown hown6 hj hL hb HJ5
          by_cases hbig : 65536 < L
          · have hbz : (65536 : Int) < (L : Int) := by omega
            refine go_on ?_
            go_wp2
            go_ret2
            exact ⟨none, 0, 0, 3, [], rfl, .inr ⟨⟨HG.out, HM.out⟩, .inr ⟨HNM.out, j, HJ.out, .inl ⟨by rw [HL.out]; exact hbig, rfl, rfl⟩⟩⟩, rfl, World.ownsRow_nil _ _ _ _, HB6.out⟩
          · have hbz : ¬ ((65536 : Int) < (L : Int)) := by omega
            refine go_on ?_
            go_wp2
            go_ret2
            have hgv : IsGive xs x 0 j := .inr ⟨⟨HG.out, HM.out⟩, .inr ⟨HNM.out, j, HJ.out, .inr ⟨by rw [HL.out]; omega, rfl, rfl⟩⟩⟩
            first
              | exact ⟨A6, C6, L, 0, j, rfl, hgv, HL.out, HOW6.out, HB6.out⟩
              | exact ⟨A6, C6, L, 0, rfl, j, hgv, HL.out, HOW6.out, HB6.out⟩
        · obtain rfl : r = true := by
            cases r with
            | true => rfl
            | false => exact absurd (hr.out.mp rfl) hnm
          have HB5 := Lib.hid (below_more HB4.out hb)
          have HNM := Lib.hid (show ¬ noMeet (xs ++ [x]) from HYS.out ▸ hnm)
          clear hr hnm hb HJN HMT
          refine go_on ?_
          go_wp2
          go_ret2
          exact ⟨none, 0, 0, 11, [], rfl, .inr ⟨⟨HG.out, HM.out⟩, .inl ⟨HNM.out, rfl, rfl⟩⟩, rfl, World.ownsRow_nil _ _ _ _, HB5.out⟩
    · have HM := Lib.hid hm
      clear hg hm
      go_enter Try.func29, Try.ntmps29
      go_wp2_with (go_at_call 21; refine HGD.out.mono ?_; rintro _ w1 ⟨he, hb⟩; rw [decide_eq_true HG.out] at he; subst he; refine Hid.out ?_)
      have hbx := HBX.out.later hb HBX.out.lt
      have x0 := hbx.cell 0
      have x1 := hbx.cell 1
      have HW1 := Lib.hid (below_more HW.out hb)
      clear hbx hb
      refine go_on ?_
      go_wp2_with (go_at_call 34; refine (may_any x _).mono ?_; rintro _ w2 ⟨he, hb⟩; rw [decide_eq_false HM.out] at he; subst he; have HW2 := Lib.hid (below_more HW1.out hb); clear hb)
      go_ret2
      exact ⟨none, 0, 0, 2, [], rfl, .inl ⟨fun h => HM.out h.2, rfl, rfl⟩, rfl, World.ownsRow_nil _ _ _ _, HW2.out⟩
  · have HG := Lib.hid hg
    clear hg
    go_enter Try.func29, Try.ntmps29
    go_wp2_with (go_at_call 21; refine HGD.out.mono ?_; rintro _ w1 ⟨he, hb⟩; rw [decide_eq_false HG.out] at he; subst he; have HW1 := Lib.hid (below_more HW.out hb); clear hb)
    go_ret2
    exact ⟨none, 0, 0, 2, [], rfl, .inl ⟨fun h => HG.out h.1, rfl, rfl⟩, rfl, World.ownsRow_nil _ _ _ _, HW1.out⟩
end Go.Proofs.Ytkdfafaiabidgaa.X5
