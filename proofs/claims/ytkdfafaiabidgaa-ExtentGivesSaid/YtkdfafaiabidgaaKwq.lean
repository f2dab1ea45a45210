/- The reference's Give. -/
import Derived.Test.YtkdfafaiabidgaaKwp
namespace Go.Proofs.Ytkdfafaiabidgaa.X5
set_option linter.unusedVariables false
set_option linter.unusedSimpArgs false
open Go.RowKit Wd Ty9

theorem noMeet_more {xs : List Xt} {x : Xt} (h : noMeet xs) (hx : ∀ y ∈ xs, ¬ com y x) : noMeet (xs ++ [x]) := by
  unfold noMeet at *
  refine List.pairwise_append.mpr ⟨h, List.pairwise_singleton _ _, fun a ha c hc hac => ?_⟩
  rw [List.mem_singleton] at hc
  subst hc
  exact hx a ha hac.2.2
theorem noMeet_not {xs : List Xt} {x y : Xt} (hy : y ∈ xs) (h1 : mayP y) (h2 : mayP x) (hc : com y x) : ¬ noMeet (xs ++ [x]) := by
  intro h
  unfold noMeet at h
  exact (List.pairwise_append.mp h).2.2 y hy x (by simp) ⟨h1, h2, hc⟩

set_option maxHeartbeats 8000000 in
set_option maxRecDepth 100000 in
theorem rgive_any (A : Option Addr) (n C lo hi : Nat) (xs : List Xt) (x : Xt) (w : World) (hn : n ≤ 140737488355328) (hA : A = none → C = 0) (h : Ex w lo hi A n xs) (hhi : hi ≤ w.heap.size) :
    Calls Try.prog 30 #[.slice A n C, av x] w fun e w' => ∃ A' C' m z out, e = .returned (.tuple #[.slice A' m C', .int .i64 z]) ∧ IsGive xs x z out ∧ out.length = m ∧ w'.ownsRow w.heap.size 51 2 (.slice A' m C') m (cl out) ∧ Below w.heap.size w w' := by
  have hl := h.len
  have HX := Lib.hid h
  have HX0 := Lib.hid (h.later (below_new w (.cells #[.int .i64 x.1, .int .i64 x.2] 51)) hhi)
  have HGD := Lib.hid (rgood_any A n C lo hi xs 4194304 (w.alloc (.cells #[.int .i64 x.1, .int .i64 x.2] 51)) hn HX0.out (by simp; omega))
  have HBX0 := Lib.hid (Bx.new w 51 #[.int .i64 x.1, .int .i64 x.2])
  have HW := Lib.hid (below_new w (.cells #[.int .i64 x.1, .int .i64 x.2] 51))
  clear h
  by_cases hg : goodP xs 4194304
  · have HG := Lib.hid hg
    have hnb : n ≤ 65536 := by have := hg.2.2.1; omega
    by_cases hm : mayP x
    · have HM := Lib.hid hm
      have HALL := Lib.hid ((goodP_iff xs 4194304).mp hg).2.2.2
      clear hg hm
      go_enter Try.func30, Try.ntmps30
      go_wp2_with (go_at_call 22; refine HGD.out.mono ?_; rintro _ w1 ⟨he, hb⟩; rw [decide_eq_true HG.out] at he; subst he; refine Hid.out ?_)
      have hbx := HBX0.out.later hb HBX0.out.lt
      have x0 := hbx.cell 0
      have x1 := hbx.cell 1
      have HBX1 := Lib.hid hbx
      have HW1 := Lib.hid (below_more HW.out hb)
      clear hbx hb
      refine go_on ?_
      go_wp2_with (go_at_call 36; refine (rmay_any x _).mono ?_; rintro _ w0 ⟨he, hb⟩; rw [decide_eq_true HM.out] at he; subst he; refine Hid.out ?_)
      have HBX := Lib.hid (HBX1.out.later hb HBX1.out.lt)
      have HW0 := Lib.hid (below_more HW1.out hb)
      clear x0 x1 hb HBX1 HW1 HBX0 HW HGD
      refine go_on ?_
      go_wp2
      go_loopw [6] (fun i wr => ∃ k : Nat, i = .int .i64 k ∧ k ≤ n ∧ Below w0.heap.size w0 wr ∧ Hid (∀ y ∈ xs.take k, ¬ com y x)) (fun i _ => n - (intOf i).toNat)
      case atStart => exact ⟨0, rfl, Nat.zero_le _, Below.refl _ _, Lib.hid (by simp)⟩
      case round =>
        obtain ⟨k, rfl, hk, hbe, HNC⟩ := hrel
        have HBE0 := Lib.hid hbe
        have HBE := Lib.hid (below_more HW0.out hbe)
        clear hbe
        by_cases hlt : k < n
        · have hltz : (k : Int) < (n : Int) := by omega
          obtain ⟨b, o, rfl, hb1, hb2, -⟩ := HX.out.at_ (by omega)
          obtain ⟨c0, c1⟩ := HX.out.get rfl (i := k) (by omega)
          have hbw : b < w.heap.size := Nat.lt_of_lt_of_le hb2 hhi
          have hmy := (HALL.out.2 _ (List.getElem_mem (n := k) (show k < xs.length by omega))).1
          have HKX := Lib.hid (show xs[k]? = some xs[k] from List.getElem?_eq_getElem _)
          generalize xs[k] = y at c0 c1 hmy HKX
          have HMY := Lib.hid hmy
          replace c0 := Lib.hid c0
          replace c1 := Lib.hid c1
          clear hmy
          by_cases hc : com y x
          · have HC := Lib.hid hc
            have HBAD := Lib.hid (noMeet_not (List.mem_of_getElem? HKX.out) HMY.out HM.out hc)
            clear hc
            go_upto_region 6 with fail
            obtain ⟨G, hGd⟩ : ∃ G : World → Prop, G = fun w' => Below w.heap.size w w' ∧ Below w0.heap.size w0 w' := ⟨_, rfl⟩
            have hG0 : G { wr with drawn := wr.drawn + 1 } := by rw [hGd]; exact ⟨HBE.out.drew, HBE0.out.drew⟩
            have hG1 : Hid (∀ (s : Wof G) w2, Below s.val.heap.size s.val w2 → G w2) := Lib.hid (by subst hGd; exact fun s w2 hb2 => ⟨below_more s.is.1 hb2, below_more s.is.2 hb2⟩)
            have hG2 : Hid (∀ s : Wof G, Below w.heap.size w s.val ∧ Below w0.heap.size w0 s.val) := Lib.hid (by subst hGd; exact fun s => s.is)
            have c0 : ∀ s : Wof G, s.val.cell? ⟨b, o + k * 2, none⟩ = some (.int .i64 y.1) := fun s => ((hG2.out s).1.cell (p := ⟨b, o + k * 2, none⟩) hbw).trans c0.out
            have c1 : ∀ s : Wof G, s.val.cell? ⟨b, o + k * 2 + 1, none⟩ = some (.int .i64 y.2) := fun s => ((hG2.out s).1.cell (p := ⟨b, o + k * 2 + 1, none⟩) hbw).trans c1.out
            have x0 : ∀ s : Wof G, s.val.cell? ⟨w.heap.size, 0, none⟩ = some (.int .i64 x.1) := fun s => (HBX.out.later (hG2.out s).2 HBX.out.lt).cell 0
            have x1 : ∀ s : Wof G, s.val.cell? ⟨w.heap.size, 1, none⟩ = some (.int .i64 x.2) := fun s => (HBX.out.later (hG2.out s).2 HBX.out.lt).cell 1
            have hne : Nonempty (Wof G) := ⟨⟨_, hG0⟩⟩
            clear hGd
            refine wp_region_kept (G := G) (by kernel_rfl) (by kernel_rfl) hG0 ?_
            clear hG0
            repeat (go_big_quiet_step ((go_at_call 48; refine (common_any y x _ HMY.out HM.out).mono ?_; rintro _ w2 ⟨he, hb2⟩; rw [decide_eq_true HC.out] at he; exact ⟨he, ⟨w2, hG1.out _ _ hb2⟩, rfl⟩)))
            refine wpQuiet_nil ?_
            rintro _ ⟨s, rfl⟩
            have HW := Lib.hid (hG2.out s)
            obtain ⟨w2, hw2⟩ := s
            change Hid (Below w.heap.size w w2 ∧ Below w0.heap.size w0 w2) at HW
            clear hG1 hG2 hne c0 c1 x0 x1
            simp only
            go_wp2
            go_ret2
            exact ⟨none, 0, 0, 11, [], rfl, .inr ⟨⟨HG.out, HM.out⟩, .inl ⟨HBAD.out, rfl, rfl⟩⟩, rfl, World.ownsRow_nil _ _ _ _, HW.out.1⟩
          · have HC := Lib.hid hc
            have HNC2 := Lib.hid (show ∀ y ∈ xs.take (k + 1), ¬ com y x from fun y2 hy => by
              rw [List.take_add_one, HKX.out] at hy
              rcases List.mem_append.mp hy with hy | hy
              · exact HNC.out y2 hy
              · simp at hy; rw [hy]; exact hc)
            clear hc
            go_upto_region 6 with fail
            obtain ⟨G, hGd⟩ : ∃ G : World → Prop, G = fun w' => Below w.heap.size w w' ∧ Below w0.heap.size w0 w' := ⟨_, rfl⟩
            have hG0 : G { wr with drawn := wr.drawn + 1 } := by rw [hGd]; exact ⟨HBE.out.drew, HBE0.out.drew⟩
            have hG1 : Hid (∀ (s : Wof G) w2, Below s.val.heap.size s.val w2 → G w2) := Lib.hid (by subst hGd; exact fun s w2 hb2 => ⟨below_more s.is.1 hb2, below_more s.is.2 hb2⟩)
            have hG2 : Hid (∀ s : Wof G, Below w.heap.size w s.val ∧ Below w0.heap.size w0 s.val) := Lib.hid (by subst hGd; exact fun s => s.is)
            have c0 : ∀ s : Wof G, s.val.cell? ⟨b, o + k * 2, none⟩ = some (.int .i64 y.1) := fun s => ((hG2.out s).1.cell (p := ⟨b, o + k * 2, none⟩) hbw).trans c0.out
            have c1 : ∀ s : Wof G, s.val.cell? ⟨b, o + k * 2 + 1, none⟩ = some (.int .i64 y.2) := fun s => ((hG2.out s).1.cell (p := ⟨b, o + k * 2 + 1, none⟩) hbw).trans c1.out
            have x0 : ∀ s : Wof G, s.val.cell? ⟨w.heap.size, 0, none⟩ = some (.int .i64 x.1) := fun s => (HBX.out.later (hG2.out s).2 HBX.out.lt).cell 0
            have x1 : ∀ s : Wof G, s.val.cell? ⟨w.heap.size, 1, none⟩ = some (.int .i64 x.2) := fun s => (HBX.out.later (hG2.out s).2 HBX.out.lt).cell 1
            have hne : Nonempty (Wof G) := ⟨⟨_, hG0⟩⟩
            clear hGd
            refine wp_region_kept (G := G) (by kernel_rfl) (by kernel_rfl) hG0 ?_
            clear hG0
            repeat (go_big_quiet_step ((go_at_call 48; refine (common_any y x _ HMY.out HM.out).mono ?_; rintro _ w2 ⟨he, hb2⟩; rw [decide_eq_false HC.out] at he; exact ⟨he, ⟨w2, hG1.out _ _ hb2⟩, rfl⟩)))
            refine wpQuiet_nil ?_
            rintro _ ⟨s, rfl⟩
            have HW := Lib.hid (hG2.out s)
            obtain ⟨w2, hw2⟩ := s
            change Hid (Below w.heap.size w w2 ∧ Below w0.heap.size w0 w2) at HW
            clear hG1 hG2 hne c0 c1 x0 x1
            simp only
            go_wp2
            go_roundw
            case rel => exact ⟨k + 1, by go_num, by omega, HW.out.2, HNC2⟩
            case measure => simp [intOf]; omega
        · obtain rfl : k = n := by omega
          have HNM := Lib.hid (noMeet_more ((sep_nocom HALL.out.1).imp fun h1 h2 => h1 h2.2.2) (by have h1 := HNC.out; rwa [List.take_of_length_le (by omega)] at h1))
          obtain ⟨ys, hys⟩ : ∃ ys, ys = xs ++ [x] := ⟨_, rfl⟩
          obtain ⟨q, hq⟩ : ∃ q, ys.length = q := ⟨_, rfl⟩
          have HQ := Lib.hid (show q ≤ 1000000 by rw [← hq, hys]; simp; omega)
          have HYS := Lib.hid hys
          have HLY := Lib.hid hq
          have HYM := Lib.hid (show ∀ y ∈ ys, mayP y from fun y hy => by
            rw [hys] at hy
            rcases List.mem_append.mp hy with hy | hy
            · exact (HALL.out.2 y hy).1
            · rw [List.mem_singleton] at hy; rw [hy]; exact HM.out)
          have HLL := Lib.hid (show (xs.length + 1) * 16 ≤ 140737488355328 by omega)
          have HLL0 := Lib.hid (show (([] : List Xt).length + k) * 16 ≤ 140737488355328 by simp; omega)
          have HLX := Lib.hid (show w.heap.size < wr.heap.size from Nat.lt_of_lt_of_le HBX.out.lt HBE0.out.size)
          have hBXr := HBX.out.later HBE0.out HBX.out.lt
          have x0 : wr.cell? ⟨w.heap.size, 0, none⟩ = some (.int .i64 x.1) := hBXr.cell 0
          have x1 : wr.cell? ⟨w.heap.size, 1, none⟩ = some (.int .i64 x.2) := hBXr.cell 1
          have hltx := HLX.out
          have x0a : (wr.alloc (.cells #[] 51)).drew.cell? ⟨w.heap.size, 0, none⟩ = some (.int .i64 x.1) := (hBXr.later (((Below.refl _ wr).drew).alloc (Nat.le_refl _) (.cells #[] 51)) HLX.out).cell 0
          have x1a : (wr.alloc (.cells #[] 51)).drew.cell? ⟨w.heap.size, 1, none⟩ = some (.int .i64 x.2) := (hBXr.later (((Below.refl _ wr).drew).alloc (Nat.le_refl _) (.cells #[] 51)) HLX.out).cell 1
          have HE3 := Lib.hid (fun (W : World) (hb : Below wr.drew.heap.size wr.drew W) => (HX.out.later (below_more HBE.out.drew hb) hhi))
          have HO3 := Lib.hid (show Ow 51 wr (.slice (some ⟨wr.heap.size, 0, none⟩) 0 0) [] (wr.drew.alloc (.cells #[] 51)) from ⟨World.ownsRow_made wr.drew #[] 0 (Nat.le_refl _) (Nat.zero_le _) (by simp), ((Below.refl _ wr).drew).alloc (Nat.le_refl _) _⟩)
          have HO3b := Lib.hid (show Ow 51 wr (.slice (some ⟨wr.heap.size + 1, 0, none⟩) 0 0) [] ((wr.drew.alloc (.cells #[.int .i64 x.1, .int .i64 x.2] 51)).alloc (.cells #[] 51)) from ⟨by have h := World.ownsRow_made (base := wr.heap.size) (e := 51) (size := 2) (wr.drew.alloc (.cells #[.int .i64 x.1, .int .i64 x.2] 51)) #[] 0 (by simp) (Nat.zero_le _) (by simp); rwa [size_alloc] at h, (((Below.refl _ wr).drew).alloc (Nat.le_refl _) _).alloc (by simp) _⟩)
          clear hys hq hBXr
          go_upto_region 8 with fail
          go_region_law (first
            | (have hgate := HO3.out; clear hgate; refine step_appN_g Try.underlying29 rext_info (wr.alloc (.cells #[] 51)).drew (by with_reducible rfl) (by rfl) (.tmp 28) (.tmp 29) (by rfl) wr (.slice (some ⟨wr.heap.size, 0, none⟩) 0 0) [] xs A k C lo hi (by simp [Act.eval, Act.put]) (by simp [Act.eval, Act.put]) hA HO3.out (HE3.out _ (below_new _ _)) HLL0.out ?_; intro V4 w4 how4 hgr; rw [List.nil_append] at how4; obtain ⟨A4, C4, hV⟩ := own_form how4.own; rw [hl] at hV; subst hV; have hbw := how4.be; have x0 := (hbw.cell (p := ⟨w.heap.size, 0, none⟩) HLX.out).trans x0; have x1 := (hbw.cell (p := ⟨w.heap.size, 1, none⟩) HLX.out).trans x1; have HO4 := Lib.hid (how4.below (below_new w4 (.cells #[.int .i64 x.1, .int .i64 x.2] 51))); clear how4 hbw hgr HO3)
            | (have hgate := HO3.out; clear hgate; refine step_appN_g Try.underlying29 rext_info ((wr.alloc (.cells #[] 51)).alloc (.cells #[.int .i64 x.1, .int .i64 x.2] 51)).drew (by with_reducible rfl) (by rfl) (.tmp 28) (.tmp 29) (by rfl) wr (.slice (some ⟨wr.heap.size, 0, none⟩) 0 0) [] xs A k C lo hi (by simp [Act.eval, Act.put]) (by simp [Act.eval, Act.put]) hA (HO3.out.below (below_new _ (.cells #[.int .i64 x.1, .int .i64 x.2] 51))) (HE3.out _ (below_more (below_new _ _) (below_new _ _))) HLL0.out ?_; intro V4 w4 how4 hgr; rw [List.nil_append] at how4; obtain ⟨A4, C4, hV⟩ := own_form how4.own; rw [hl] at hV; subst hV; have hbw := how4.be; have HO5 := Lib.hid how4; have HLT1 := Lib.hid (show Bx w4 (wr.heap.size + 1) 51 #[.int .i64 x.1, .int .i64 x.2] from (hgr.block (wr.heap.size + 1) (by simp) (fun e => by have := Option.some.inj (show some (wr.heap.size + 1) = some wr.heap.size from e); omega)).trans (Bx.new2 wr.drew _ _ _)); clear how4 hgr HO3 hbw)
            | (have hgate := HO3.out; clear hgate; refine step_appN_g Try.underlying29 rext_info ((wr.alloc (.cells #[.int .i64 x.1, .int .i64 x.2] 51)).alloc (.cells #[] 51)).drew (by with_reducible rfl) (by rfl) (.tmp 28) (.tmp 29) (by rfl) wr (.slice (some ⟨wr.heap.size + 1, 0, none⟩) 0 0) [] xs A k C lo hi (by simp [Act.eval, Act.put]) (by simp [Act.eval, Act.put]) hA HO3b.out (HE3.out _ (below_more (below_new _ _) (below_new _ _))) HLL0.out ?_; intro V4 w4 how4 hgr; rw [List.nil_append] at how4; obtain ⟨A4, C4, hV⟩ := own_form how4.own; rw [hl] at hV; subst hV; have hbw := how4.be; have HO5 := Lib.hid how4; have HLT0 := Lib.hid (show Bx w4 wr.heap.size 51 #[.int .i64 x.1, .int .i64 x.2] from (hgr.block wr.heap.size (by simp; omega) (fun e => by have := Option.some.inj (show some wr.heap.size = some (wr.heap.size + 1) from e); omega)).trans ((Bx.new wr.drew 51 #[.int .i64 x.1, .int .i64 x.2]).later (below_new (wr.drew.alloc (.cells #[.int .i64 x.1, .int .i64 x.2] 51)) (.cells #[] 51)) (by simp))); clear how4 hgr HO3 hbw)
            | (have hgate := HO4.out; clear hgate; refine step_app1_g Try.underlying29 rext_info (w4.alloc (.cells #[.int .i64 x.1, .int .i64 x.2] 51)) (by with_reducible rfl) (by rfl) (.tmp 30) (.tmp 32) (by rfl) wr (.slice A4 k C4) xs x w4.heap.size (by simp [Act.eval, Act.put]) (by simp [Act.eval, Act.put]) HO4.out (Bx.new w4 _ _) HLL.out ?_; intro V5 w5 how5; rw [← HYS.out] at how5; have hown5 := how5.own; rw [HLY.out] at hown5; obtain ⟨A5, C5, hV, -, hex5, -⟩ := own_ex hown5; subst hV; have HB5 := Lib.hid (below_more HBE.out how5.be); have HJN := Lib.hid (rjoin_any A5 q C5 _ _ ys w5 HQ.out hex5 (Nat.le_refl _) HYM.out); clear how5 hown5 hex5 HO4)
            | (have hgate := HLT1.out; clear hgate; refine step_app1_g Try.underlying29 rext_info w4 (by with_reducible rfl) (by rfl) (.tmp 30) (.tmp 32) (by rfl) wr (.slice A4 k C4) xs x (wr.heap.size + 1) (by simp [Act.eval, Act.put]) (by simp [Act.eval, Act.put]) HO5.out HLT1.out HLL.out ?_; intro V5 w5 how5; rw [← HYS.out] at how5; have hown5 := how5.own; rw [HLY.out] at hown5; obtain ⟨A5, C5, hV, -, hex5, -⟩ := own_ex hown5; subst hV; have HB5 := Lib.hid (below_more HBE.out how5.be); have HJN := Lib.hid (rjoin_any A5 q C5 _ _ ys w5 HQ.out hex5 (Nat.le_refl _) HYM.out); clear how5 hown5 hex5 HLT1)
            | (have hgate := HLT0.out; clear hgate; refine step_app1_g Try.underlying29 rext_info w4 (by with_reducible rfl) (by rfl) (.tmp 30) (.tmp 32) (by rfl) wr (.slice A4 k C4) xs x wr.heap.size (by simp [Act.eval, Act.put]) (by simp [Act.eval, Act.put]) HO5.out HLT0.out HLL.out ?_; intro V5 w5 how5; rw [← HYS.out] at how5; have hown5 := how5.own; rw [HLY.out] at hown5; obtain ⟨A5, C5, hV, -, hex5, -⟩ := own_ex hown5; subst hV; have HB5 := Lib.hid (below_more HBE.out how5.be); have HJN := Lib.hid (rjoin_any A5 q C5 _ _ ys w5 HQ.out hex5 (Nat.le_refl _) HYM.out); clear how5 hown5 hex5 HLT0)
            | (have hgate := HJN.out; clear hgate; go_simp; go_at_call 37; refine HJN.out.mono ?_; rintro _ w6 ⟨V6, j, rfl, hj, hjl, hown, hb⟩; obtain ⟨A6, C6, hV⟩ := own_form hown; subst hV; rw [HYS.out] at hj; have HJ6 := Lib.hid hj; have HB6 := Lib.hid (below_more HB5.out hb); have HO6 := Lib.hid (own_base hown HB5.out.size); clear hj hjl hown hb HJN))
          all_goals
            clear x0 x1 x0a x1a
            generalize hm6 : j.length = m6 at *
            have HM6 := Lib.hid hm6
            clear hm6
            by_cases hbig : 65536 < m6
            · have hb3 : (65536 : Int) < (m6 : Int) := by omega
              have HGV := Lib.hid (show IsGive xs x 3 [] from .inr ⟨⟨HG.out, HM.out⟩, .inr ⟨HNM.out, j, HJ6.out, .inl ⟨by rw [HM6.out]; exact hbig, rfl, rfl⟩⟩⟩)
              go_wp2
              go_ret2
              first | exact ⟨none, 0, 0, 3, [], rfl, HGV.out, rfl, World.ownsRow_nil _ _ _ _, HB6.out⟩ | exact ⟨none, 0, 0, 3, rfl, [], HGV.out, rfl, World.ownsRow_nil _ _ _ _, HB6.out⟩
            · have hb3 : ¬ (65536 : Int) < (m6 : Int) := by omega
              have HGV := Lib.hid (show IsGive xs x 0 j from .inr ⟨⟨HG.out, HM.out⟩, .inr ⟨HNM.out, j, HJ6.out, .inr ⟨by rw [HM6.out]; omega, rfl, rfl⟩⟩⟩)
              go_wp2
              go_ret2
              first | exact ⟨A6, C6, m6, 0, j, rfl, HGV.out, HM6.out, HO6.out, HB6.out⟩ | exact ⟨A6, C6, m6, 0, rfl, j, HGV.out, HM6.out, HO6.out, HB6.out⟩
    · have HM := Lib.hid hm
      clear hg hm
      go_enter Try.func30, Try.ntmps30
      go_wp2_with (go_at_call 22; refine HGD.out.mono ?_; rintro _ w1 ⟨he, hb⟩; rw [decide_eq_true HG.out] at he; subst he; refine Hid.out ?_)
      have hbx := HBX0.out.later hb HBX0.out.lt
      have x0 := hbx.cell 0
      have x1 := hbx.cell 1
      have HW1 := Lib.hid (below_more HW.out hb)
      clear hbx hb
      refine go_on ?_
      go_wp2_with (go_at_call 36; refine (rmay_any x _).mono ?_; rintro _ w0 ⟨he, hb⟩; rw [decide_eq_false HM.out] at he; subst he; have HW0 := Lib.hid (below_more HW1.out hb); clear hb)
      go_ret2
      first | exact ⟨none, 0, 0, 2, [], rfl, .inl ⟨fun h => HM.out h.2, rfl, rfl⟩, rfl, World.ownsRow_nil _ _ _ _, HW0.out⟩ | exact ⟨none, 0, 0, 2, rfl, [], .inl ⟨fun h => HM.out h.2, rfl, rfl⟩, rfl, World.ownsRow_nil _ _ _ _, HW0.out⟩
  · have HG := Lib.hid hg
    clear hg
    go_enter Try.func30, Try.ntmps30
    go_wp2_with (go_at_call 22; refine HGD.out.mono ?_; rintro _ w1 ⟨he, hb⟩; rw [decide_eq_false HG.out] at he; subst he; have HW1 := Lib.hid (below_more HW.out hb); clear hb)
    go_ret2
    first | exact ⟨none, 0, 0, 2, [], rfl, .inl ⟨fun h => HG.out h.1, rfl, rfl⟩, rfl, World.ownsRow_nil _ _ _ _, HW1.out⟩ | exact ⟨none, 0, 0, 2, rfl, [], .inl ⟨fun h => HG.out h.1, rfl, rfl⟩, rfl, World.ownsRow_nil _ _ _ _, HW1.out⟩
end Go.Proofs.Ytkdfafaiabidgaa.X5
