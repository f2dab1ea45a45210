/- The reference's Good. -/
import Derived.Test.YtkdfafaiabidgaaDoorKwm
namespace Go.Proofs.YtkdfafaiabidgaaDoor.X5
set_option linter.unusedVariables false
set_option linter.unusedSimpArgs false
open Go.RowKit Wd Ty9

set_option maxHeartbeats 8000000 in
set_option maxRecDepth 100000 in
theorem rgood_any (A : Option Addr) (n C lo hi : Nat) (xs : List Xt) (size : Int) (w : World) (hn : n ≤ 140737488355328) (h : Ex w lo hi A n xs) (hhi : hi ≤ w.heap.size) :
    Calls Tryd.prog 20 #[.slice A n C, .int .i64 size] w fun e w' => e = .returned (.bool (decide (goodP xs size))) ∧ Below w.heap.size w w' := by
  have hl := h.len
  have HX := Lib.hid h
  have hd : (decide (goodP xs size) = true) ↔ (0 ≤ size ∧ size ≤ 4194304 ∧ n ≤ 65536 ∧ goodFrom size (-1) xs) := by rw [decide_eq_true_eq, ← hl]; exact Iff.rfl
  have HD := Lib.hid hd
  generalize decide (goodP xs size) = r at *
  clear hd h
  by_cases h1 : 0 ≤ size ∧ size ≤ 4194304 ∧ n ≤ 65536
  · obtain ⟨h1, h2, h3⟩ := h1
    go_enter Tryd.func20, Tryd.ntmps20
    go_wp2
    go_loopw [5] (fun i wr => ∃ (k : Nat) (bh : Int), i = .int .i64 k ∧ k ≤ n ∧ Below w.heap.size w wr ∧ Hid (goodFrom size (-1) xs ↔ goodFrom size bh (xs.drop k)) ∧ Hid ((k = 0 ∧ bh = -1) ∨ (0 < k ∧ ∃ p, xs[k - 1]? = some p ∧ mayP p ∧ bh = p.1 + p.2))) (fun i _ => n - (intOf i).toNat)
    case atStart => exact ⟨0, -1, rfl, Nat.zero_le _, Below.refl _ _, Lib.hid Iff.rfl, Lib.hid (.inl ⟨rfl, rfl⟩)⟩
    case round =>
      obtain ⟨k, bh, rfl, hk, hbe, HG, HPV⟩ := hrel
      have HBE := Lib.hid hbe
      clear hbe
      by_cases hlt : k < n
      · have hltz : (k : Int) < (n : Int) := by omega
        obtain ⟨b, o, rfl, hb1, hb2', -⟩ := HX.out.at_ (by omega)
        obtain ⟨c0, c1⟩ := HX.out.get rfl (i := k) (by omega)
        have hbw : b < wr.heap.size := Nat.lt_of_lt_of_le (Nat.lt_of_lt_of_le hb2' hhi) HBE.out.size
        rw [← HBE.out.cell (p := ⟨b, o + k * 2, none⟩) (Nat.lt_of_lt_of_le hb2' hhi)] at c0
        rw [← HBE.out.cell (p := ⟨b, o + k * 2 + 1, none⟩) (Nat.lt_of_lt_of_le hb2' hhi)] at c1
        have hg := HG.out
        rw [List.drop_eq_getElem_cons (by omega)] at hg
        have HXK := Lib.hid (show xs[k + 1 - 1]? = some xs[k] from List.getElem?_eq_getElem _)
        generalize xs[k] = x at c0 c1 hg HXK
        have HG2 := Lib.hid (show goodFrom size (-1) xs ↔ (stepP size bh x ∧ goodFrom size (x.1 + x.2) (xs.drop (k + 1))) from hg)
        clear hg
        by_cases hm : mayP x
        · have HM := Lib.hid hm
          unfold mayP at hm
          have t1 : IntKind.i64.wrap (x.1 + x.2) = x.1 + x.2 := IntWalk.i64_in _ (by omega)
          have t2 : wrap64 (x.1 + x.2) = x.1 + x.2 := by unfold wrap64; omega
          by_cases hz : x.2 < 1
          · have HNS := Lib.hid (show ¬ goodFrom size (-1) xs from fun h => by have := (HG2.out.mp h).1.2.1; omega)
            clear hm
            · have z1 : decide (x.2 < 1) = true := by simp; omega
              go_upto_region 6 with fail
              obtain ⟨G, hGd⟩ : ∃ G : World → Prop, G = fun w' => Below wr.heap.size wr w' := ⟨_, rfl⟩
              have hG0 : G { wr with drawn := wr.drawn + 1 } := by rw [hGd]; exact (Below.refl _ wr).drew
              have hG1 : Hid (∀ (s : Wof G) w2, Below s.val.heap.size s.val w2 → G w2) := Lib.hid (by subst hGd; exact fun s w2 hb2 => below_more s.is hb2)
              have hG2 : Hid (∀ s : Wof G, Below wr.heap.size wr s.val) := Lib.hid (by subst hGd; exact fun s => s.is)
              have c0 : ∀ s : Wof G, s.val.cell? ⟨b, o + k * 2, none⟩ = some (.int .i64 x.1) := fun s => ((hG2.out s).cell (p := ⟨b, o + k * 2, none⟩) hbw).trans c0
              have c1 : ∀ s : Wof G, s.val.cell? ⟨b, o + k * 2 + 1, none⟩ = some (.int .i64 x.2) := fun s => ((hG2.out s).cell (p := ⟨b, o + k * 2 + 1, none⟩) hbw).trans c1
              have hne : Nonempty (Wof G) := ⟨⟨_, hG0⟩⟩
              clear hGd
              refine wp_region_kept (G := G) (by kernel_rfl) (by kernel_rfl) hG0 ?_
              clear hG0
              repeat (go_big_quiet_step ((go_at_call 40; refine (rmay_any x _).mono ?_; rintro _ w2 ⟨he, hb2⟩; rw [decide_eq_true HM.out] at he; exact ⟨he, ⟨w2, hG1.out _ _ hb2⟩, rfl⟩)))
              refine wpQuiet_nil ?_
              rintro _ ⟨s, rfl⟩
              have HW := Lib.hid (hG2.out s)
              obtain ⟨w2, hw2⟩ := s
              change Hid (Below wr.heap.size wr w2) at HW
              clear hG1 hG2 c0 c1 hne
              simp only
              all_goals
                go_wp2
                go_ret
                exact ⟨congrArg (fun b => Ending.returned (Value.bool b)) (Bool.eq_iff_iff.mpr (by rw [HD.out]; simp [HNS.out])), below_more HBE.out HW.out⟩
          by_cases he : size < x.1 + x.2
          · have HNS := Lib.hid (show ¬ goodFrom size (-1) xs from fun h => by have := (HG2.out.mp h).1.2.2.2; omega)
            clear hm
            · have z1 : decide (x.2 < 1) = false := by simp; omega
              have z2 : decide (size < x.1 + x.2) = true := by simp; omega
              go_upto_region 6 with fail
              obtain ⟨G, hGd⟩ : ∃ G : World → Prop, G = fun w' => Below wr.heap.size wr w' := ⟨_, rfl⟩
              have hG0 : G { wr with drawn := wr.drawn + 1 } := by rw [hGd]; exact (Below.refl _ wr).drew
              have hG1 : Hid (∀ (s : Wof G) w2, Below s.val.heap.size s.val w2 → G w2) := Lib.hid (by subst hGd; exact fun s w2 hb2 => below_more s.is hb2)
              have hG2 : Hid (∀ s : Wof G, Below wr.heap.size wr s.val) := Lib.hid (by subst hGd; exact fun s => s.is)
              have c0 : ∀ s : Wof G, s.val.cell? ⟨b, o + k * 2, none⟩ = some (.int .i64 x.1) := fun s => ((hG2.out s).cell (p := ⟨b, o + k * 2, none⟩) hbw).trans c0
              have c1 : ∀ s : Wof G, s.val.cell? ⟨b, o + k * 2 + 1, none⟩ = some (.int .i64 x.2) := fun s => ((hG2.out s).cell (p := ⟨b, o + k * 2 + 1, none⟩) hbw).trans c1
              have hne : Nonempty (Wof G) := ⟨⟨_, hG0⟩⟩
              clear hGd
              refine wp_region_kept (G := G) (by kernel_rfl) (by kernel_rfl) hG0 ?_
              clear hG0
              repeat (go_big_quiet_step ((go_at_call 40; refine (rmay_any x _).mono ?_; rintro _ w2 ⟨he, hb2⟩; rw [decide_eq_true HM.out] at he; exact ⟨he, ⟨w2, hG1.out _ _ hb2⟩, rfl⟩)))
              refine wpQuiet_nil ?_
              rintro _ ⟨s, rfl⟩
              have HW := Lib.hid (hG2.out s)
              obtain ⟨w2, hw2⟩ := s
              change Hid (Below wr.heap.size wr w2) at HW
              clear hG1 hG2 c0 c1 hne
              simp only
              all_goals
                go_wp2
                go_ret
                exact ⟨congrArg (fun b => Ending.returned (Value.bool b)) (Bool.eq_iff_iff.mpr (by rw [HD.out]; simp [HNS.out])), below_more HBE.out HW.out⟩
          have z1 : decide (x.2 < 1) = false := by simp; omega
          have z2 : decide (size < x.1 + x.2) = false := by simp; omega
          rcases Nat.eq_zero_or_pos k with hk0 | hkp
          · have hbh : bh = -1 := by
              rcases HPV.out with ⟨_, h⟩ | ⟨h, _⟩
              · exact h
              · omega
            have s3 : ¬ (0 : Int) < (k : Int) := by omega
            have s6 : decide (0 < k) = false := by simp; omega
            have s7 : decide ((0 : Int) < (k : Int)) = false := by simp; omega
            clear hk0
            have HS := Lib.hid (show stepP size bh x from ⟨HM.out, by omega, by omega, by omega⟩)
            clear hm
            · skip
              go_upto_region 6 with fail
              obtain ⟨G, hGd⟩ : ∃ G : World → Prop, G = fun w' => Below wr.heap.size wr w' := ⟨_, rfl⟩
              have hG0 : G { wr with drawn := wr.drawn + 1 } := by rw [hGd]; exact (Below.refl _ wr).drew
              have hG1 : Hid (∀ (s : Wof G) w2, Below s.val.heap.size s.val w2 → G w2) := Lib.hid (by subst hGd; exact fun s w2 hb2 => below_more s.is hb2)
              have hG2 : Hid (∀ s : Wof G, Below wr.heap.size wr s.val) := Lib.hid (by subst hGd; exact fun s => s.is)
              have c0 : ∀ s : Wof G, s.val.cell? ⟨b, o + k * 2, none⟩ = some (.int .i64 x.1) := fun s => ((hG2.out s).cell (p := ⟨b, o + k * 2, none⟩) hbw).trans c0
              have c1 : ∀ s : Wof G, s.val.cell? ⟨b, o + k * 2 + 1, none⟩ = some (.int .i64 x.2) := fun s => ((hG2.out s).cell (p := ⟨b, o + k * 2 + 1, none⟩) hbw).trans c1
              have hne : Nonempty (Wof G) := ⟨⟨_, hG0⟩⟩
              clear hGd
              refine wp_region_kept (G := G) (by kernel_rfl) (by kernel_rfl) hG0 ?_
              clear hG0
              repeat (go_big_quiet_step ((go_at_call 40; refine (rmay_any x _).mono ?_; rintro _ w2 ⟨he, hb2⟩; rw [decide_eq_true HM.out] at he; exact ⟨he, ⟨w2, hG1.out _ _ hb2⟩, rfl⟩)))
              refine wpQuiet_nil ?_
              rintro _ ⟨s, rfl⟩
              have HW := Lib.hid (hG2.out s)
              obtain ⟨w2, hw2⟩ := s
              change Hid (Below wr.heap.size wr w2) at HW
              clear hG1 hG2 c0 c1 hne
              simp only
              all_goals
                go_wp2
                go_roundw
                (case rel => exact ⟨k + 1, x.1 + x.2, by go_num, by omega, below_more HBE.out HW.out, Lib.hid (HG2.out.trans ⟨fun h => h.2, fun h => ⟨HS.out, h⟩⟩), Lib.hid (.inr ⟨Nat.succ_pos _, x, HXK.out, HM.out, rfl⟩)⟩)
                (case measure => simp [intOf]; omega)
          · obtain ⟨-, p, hp, hpm, hbp⟩ := HPV.out.resolve_left (fun h => by omega)
            obtain ⟨hpl, hpe⟩ := List.getElem?_eq_some_iff.mp hp
            obtain ⟨L, hL⟩ : ∃ L, L + 1 = k := ⟨k - 1, by omega⟩
            obtain ⟨d0, d1⟩ := HX.out.get rfl (i := L) (by omega)
            rw [← HBE.out.cell (p := ⟨b, o + L * 2, none⟩) (Nat.lt_of_lt_of_le hb2' hhi)] at d0
            rw [← HBE.out.cell (p := ⟨b, o + L * 2 + 1, none⟩) (Nat.lt_of_lt_of_le hb2' hhi)] at d1
            have hpe2 : xs[L]'(by omega) = p := by rw [← hpe]; congr 1; omega
            rw [hpe2] at d0 d1
            unfold mayP at hpm
            have t3 : IntKind.i64.wrap (p.1 + p.2) = p.1 + p.2 := IntWalk.i64_in _ (by omega)
            have t4 : wrap64 (p.1 + p.2) = p.1 + p.2 := by unfold wrap64; omega
            have s1 : IntKind.i64.wrap ((k : Int) - 1) = L := by rw [show (k : Int) - 1 = L by omega]; exact IntWalk.i64_in _ (by omega)
            have s2 : wrap64 ((k : Int) - 1) = L := by unfold wrap64; omega
            have s3 : (0 : Int) < (k : Int) := by omega
            have s4 : (L : Int) < (n : Int) := by omega
            have s5 : (0 : Int) ≤ (L : Int) := by omega
            have s6 : decide (0 < k) = true := by simp; omega
            by_cases hq : x.1 ≤ p.1 + p.2
            · have HNS := Lib.hid (show ¬ goodFrom size (-1) xs from fun h => by have := (HG2.out.mp h).1.2.2.1; omega)
              have z3 : decide (x.1 ≤ p.1 + p.2) = true := by simp; omega
              clear hm hpm hp hpl hpe hpe2 hL hkp hbp
              · skip
                go_upto_region 6 with fail
                obtain ⟨G, hGd⟩ : ∃ G : World → Prop, G = fun w' => Below wr.heap.size wr w' := ⟨_, rfl⟩
                have hG0 : G { wr with drawn := wr.drawn + 1 } := by rw [hGd]; exact (Below.refl _ wr).drew
                have hG1 : Hid (∀ (s : Wof G) w2, Below s.val.heap.size s.val w2 → G w2) := Lib.hid (by subst hGd; exact fun s w2 hb2 => below_more s.is hb2)
                have hG2 : Hid (∀ s : Wof G, Below wr.heap.size wr s.val) := Lib.hid (by subst hGd; exact fun s => s.is)
                have c0 : ∀ s : Wof G, s.val.cell? ⟨b, o + k * 2, none⟩ = some (.int .i64 x.1) := fun s => ((hG2.out s).cell (p := ⟨b, o + k * 2, none⟩) hbw).trans c0
                have c1 : ∀ s : Wof G, s.val.cell? ⟨b, o + k * 2 + 1, none⟩ = some (.int .i64 x.2) := fun s => ((hG2.out s).cell (p := ⟨b, o + k * 2 + 1, none⟩) hbw).trans c1
                have d0 : ∀ s : Wof G, s.val.cell? ⟨b, o + L * 2, none⟩ = some (.int .i64 p.1) := fun s => ((hG2.out s).cell (p := ⟨b, o + L * 2, none⟩) hbw).trans d0
                have d1 : ∀ s : Wof G, s.val.cell? ⟨b, o + L * 2 + 1, none⟩ = some (.int .i64 p.2) := fun s => ((hG2.out s).cell (p := ⟨b, o + L * 2 + 1, none⟩) hbw).trans d1
                have hne : Nonempty (Wof G) := ⟨⟨_, hG0⟩⟩
                clear hGd
                refine wp_region_kept (G := G) (by kernel_rfl) (by kernel_rfl) hG0 ?_
                clear hG0
                repeat (go_big_quiet_step ((go_at_call 40; refine (rmay_any x _).mono ?_; rintro _ w2 ⟨he, hb2⟩; rw [decide_eq_true HM.out] at he; exact ⟨he, ⟨w2, hG1.out _ _ hb2⟩, rfl⟩)))
                refine wpQuiet_nil ?_
                rintro _ ⟨s, rfl⟩
                have HW := Lib.hid (hG2.out s)
                obtain ⟨w2, hw2⟩ := s
                change Hid (Below wr.heap.size wr w2) at HW
                clear hG1 hG2 c0 c1 hne d0 d1
                simp only
                all_goals
                  go_wp2
                  go_ret
                  exact ⟨congrArg (fun b => Ending.returned (Value.bool b)) (Bool.eq_iff_iff.mpr (by rw [HD.out]; simp [HNS.out])), below_more HBE.out HW.out⟩
            · have HS := Lib.hid (show stepP size bh x from ⟨HM.out, by omega, by omega, by omega⟩)
              have z3 : decide (x.1 ≤ p.1 + p.2) = false := by simp; omega
              clear hm hpm hp hpl hpe hpe2 hL hkp hbp
              · skip
                go_upto_region 6 with fail
                obtain ⟨G, hGd⟩ : ∃ G : World → Prop, G = fun w' => Below wr.heap.size wr w' := ⟨_, rfl⟩
                have hG0 : G { wr with drawn := wr.drawn + 1 } := by rw [hGd]; exact (Below.refl _ wr).drew
                have hG1 : Hid (∀ (s : Wof G) w2, Below s.val.heap.size s.val w2 → G w2) := Lib.hid (by subst hGd; exact fun s w2 hb2 => below_more s.is hb2)
                have hG2 : Hid (∀ s : Wof G, Below wr.heap.size wr s.val) := Lib.hid (by subst hGd; exact fun s => s.is)
                have c0 : ∀ s : Wof G, s.val.cell? ⟨b, o + k * 2, none⟩ = some (.int .i64 x.1) := fun s => ((hG2.out s).cell (p := ⟨b, o + k * 2, none⟩) hbw).trans c0
                have c1 : ∀ s : Wof G, s.val.cell? ⟨b, o + k * 2 + 1, none⟩ = some (.int .i64 x.2) := fun s => ((hG2.out s).cell (p := ⟨b, o + k * 2 + 1, none⟩) hbw).trans c1
                have d0 : ∀ s : Wof G, s.val.cell? ⟨b, o + L * 2, none⟩ = some (.int .i64 p.1) := fun s => ((hG2.out s).cell (p := ⟨b, o + L * 2, none⟩) hbw).trans d0
                have d1 : ∀ s : Wof G, s.val.cell? ⟨b, o + L * 2 + 1, none⟩ = some (.int .i64 p.2) := fun s => ((hG2.out s).cell (p := ⟨b, o + L * 2 + 1, none⟩) hbw).trans d1
                have hne : Nonempty (Wof G) := ⟨⟨_, hG0⟩⟩
                clear hGd
                refine wp_region_kept (G := G) (by kernel_rfl) (by kernel_rfl) hG0 ?_
                clear hG0
                repeat (go_big_quiet_step ((go_at_call 40; refine (rmay_any x _).mono ?_; rintro _ w2 ⟨he, hb2⟩; rw [decide_eq_true HM.out] at he; exact ⟨he, ⟨w2, hG1.out _ _ hb2⟩, rfl⟩)))
                refine wpQuiet_nil ?_
                rintro _ ⟨s, rfl⟩
                have HW := Lib.hid (hG2.out s)
                obtain ⟨w2, hw2⟩ := s
                change Hid (Below wr.heap.size wr w2) at HW
                clear hG1 hG2 c0 c1 hne d0 d1
                simp only
                all_goals
                  go_wp2
                  go_roundw
                  (case rel => exact ⟨k + 1, x.1 + x.2, by go_num, by omega, below_more HBE.out HW.out, Lib.hid (HG2.out.trans ⟨fun h => h.2, fun h => ⟨HS.out, h⟩⟩), Lib.hid (.inr ⟨Nat.succ_pos _, x, HXK.out, HM.out, rfl⟩)⟩)
                  (case measure => simp [intOf]; omega)
        · have HM := Lib.hid hm
          have HNS := Lib.hid (show ¬ goodFrom size (-1) xs from fun h => hm (HG2.out.mp h).1.1)
          clear hm
          · · skip
              go_upto_region 6 with fail
              obtain ⟨G, hGd⟩ : ∃ G : World → Prop, G = fun w' => Below wr.heap.size wr w' := ⟨_, rfl⟩
              have hG0 : G { wr with drawn := wr.drawn + 1 } := by rw [hGd]; exact (Below.refl _ wr).drew
              have hG1 : Hid (∀ (s : Wof G) w2, Below s.val.heap.size s.val w2 → G w2) := Lib.hid (by subst hGd; exact fun s w2 hb2 => below_more s.is hb2)
              have hG2 : Hid (∀ s : Wof G, Below wr.heap.size wr s.val) := Lib.hid (by subst hGd; exact fun s => s.is)
              have c0 : ∀ s : Wof G, s.val.cell? ⟨b, o + k * 2, none⟩ = some (.int .i64 x.1) := fun s => ((hG2.out s).cell (p := ⟨b, o + k * 2, none⟩) hbw).trans c0
              have c1 : ∀ s : Wof G, s.val.cell? ⟨b, o + k * 2 + 1, none⟩ = some (.int .i64 x.2) := fun s => ((hG2.out s).cell (p := ⟨b, o + k * 2 + 1, none⟩) hbw).trans c1
              have hne : Nonempty (Wof G) := ⟨⟨_, hG0⟩⟩
              clear hGd
              refine wp_region_kept (G := G) (by kernel_rfl) (by kernel_rfl) hG0 ?_
              clear hG0
              repeat (go_big_quiet_step ((go_at_call 40; refine (rmay_any x _).mono ?_; rintro _ w2 ⟨he, hb2⟩; rw [decide_eq_false HM.out] at he; exact ⟨he, ⟨w2, hG1.out _ _ hb2⟩, rfl⟩)))
              refine wpQuiet_nil ?_
              rintro _ ⟨s, rfl⟩
              have HW := Lib.hid (hG2.out s)
              obtain ⟨w2, hw2⟩ := s
              change Hid (Below wr.heap.size wr w2) at HW
              clear hG1 hG2 c0 c1 hne
              simp only
              all_goals
                go_wp2
                go_ret
                exact ⟨congrArg (fun b => Ending.returned (Value.bool b)) (Bool.eq_iff_iff.mpr (by rw [HD.out]; simp [HNS.out])), below_more HBE.out HW.out⟩
      · obtain rfl : k = n := by omega
        have hg := HG.out
        rw [List.drop_eq_nil_of_le (by omega)] at hg
        have HG2 := Lib.hid (hg.mpr trivial)
        clear hg
        go_wp2
        go_ret
        exact ⟨congrArg (fun b => Ending.returned (Value.bool b)) (Bool.eq_iff_iff.mpr (by rw [HD.out]; simp only [true_iff]; exact ⟨h1, h2, h3, HG2.out⟩)), HBE.out⟩
  · have hcase : size < 0 ∨ (0 ≤ size ∧ 4194304 < size) ∨ (0 ≤ size ∧ size ≤ 4194304 ∧ 65536 < n) := by omega
    have hr : r = false := by
      rcases hr : r with _ | _
      · rfl
      · exact absurd (HD.out.mp hr) (fun h => h1 ⟨h.1, h.2.1, h.2.2.1⟩)
    subst hr
    clear h1 HD
    rcases hcase with q | ⟨q1, q2⟩ | ⟨q1, q2, q3⟩
    all_goals
      go_enter Tryd.func20, Tryd.ntmps20
      go_wp2
      go_ret
      exact ⟨rfl, Below.refl _ _⟩
end Go.Proofs.YtkdfafaiabidgaaDoor.X5
