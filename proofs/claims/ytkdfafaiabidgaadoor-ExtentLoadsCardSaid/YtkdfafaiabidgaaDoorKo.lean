/- extent.Take. -/
import Derived.Test.YtkdfafaiabidgaaDoorKn
import Derived.Test.YtkdfafaiabidgaaDoorKj
import Derived.BigRegion
namespace Go.Proofs.YtkdfafaiabidgaaDoor.X5
set_option linter.unusedVariables false
set_option linter.unusedSimpArgs false
open Go.RowKit Wd Ty9

theorem index_at (p : Xt → Bool) (g : Nat) (lb : Array Value) (A : Option Addr) (n C lo hi : Nat) (xs : List Xt) (w : World) (hg : PredBelow Tryd.prog g lb (fun x : Xt => av x) p w) (eg : ∀ args w, (callFunc g args).run Tryd.prog w = .ok (.enter g args) w) (hn : n ≤ 140737488355328) (h : Ex w lo hi A n xs) (hhi : hi ≤ w.heap.size) :
    Calls Tryd.prog 32 #[.slice A n C, .func (.func g) #[] lb] w fun e w' => ((e = .returned (.int .i64 (-1)) ∧ ∀ x ∈ xs, p x = false) ∨ ∃ k, ∃ h : k < xs.length, e = .returned (.int .i64 k) ∧ p xs[k] = true ∧ ∀ x ∈ xs.take k, p x = false) ∧ Below w.heap.size w w' := by
  rcases Nat.eq_zero_or_pos n with rfl | h0
  · obtain rfl : xs = [] := List.eq_nil_of_length_eq_zero h.len
    exact (index0 A C _ w).mono fun e w' ⟨h1, h2⟩ => ⟨.inl ⟨h1, by simp⟩, h2⟩
  · obtain ⟨b, o, rfl, hb1, hb2, hc⟩ := h.at_ h0
    have hl := h.len
    refine (AnyQ.slices_IndexFunc Sh.layIF 2 Tryd.isAgg45 Tryd.sizeOf45 (fun x : Xt => [.int .i64 x.1, .int .i64 x.2]) (fun _ => rfl) p g lb eg b o n C xs w hg (by omega) (by omega) (by omega) fun j hj i v hv => ?_).mono fun e w' ⟨h1, h2⟩ => ⟨?_, h2⟩
    · obtain ⟨g1, g2⟩ := cl_get xs j hj
      rw [getElem!_pos xs j hj] at hv
      rcases i with _ | _ | i
      · simp at hv; subst hv; exact hc _ _ g1
      · simp at hv; subst hv; rw [show o + j * 2 + (0 + 1) = o + (j * 2 + 1) by omega]; exact hc _ _ g2
      · simp at hv
    · rw [List.take_of_length_le (by omega)] at h1
      rw [h1]
      rcases idx_spec p xs 0 with ⟨e1, h3⟩ | ⟨k, hk, e1, h3, h4⟩
      · exact .inl ⟨congrArg (fun z => Ending.returned (Value.int .i64 z)) e1, h3⟩
      · exact .inr ⟨k, hk, congrArg (fun z => Ending.returned (Value.int .i64 z)) (by rw [show (k : Int) = ((0 + k : Nat) : Int) by omega]; exact e1), h3, h4⟩

set_option maxHeartbeats 1000000 in
theorem pred_take (B : Nat) (z : Int) (w : World) (hB : Bx w B 3 #[.int .i64 z]) : PredBelow Tryd.prog 33 #[.pointer (some ⟨B, 0, none⟩)] (fun x : Xt => av x) (fun x => decide (z ≤ x.2)) w := by
  intro W x hbe
  have c0 : W.cell? ⟨B, 0, none⟩ = some (.int .i64 z) := (hB.later hbe hB.lt).cell 0
  have HBE := Lib.hid hbe
  have hlt : B < W.heap.size := Nat.lt_of_lt_of_le hB.lt hbe.size
  obtain ⟨a, s⟩ := x
  simp only [av]
  have c1 : (W.alloc (.cells #[.int .i64 a, .int .i64 s] 45)).cell? ⟨B, 0, none⟩ = some (.int .i64 z) := Lib.cell?_alloc_some _ c0
  clear hB hbe
  change Calls Tryd.prog _ #[.agg #[.int .i64 a, .int .i64 s], .pointer (some ⟨B, 0, none⟩)] _ _
  go_enter Tryd.func33, Tryd.ntmps33
  go_wp2
  go_ret
  exact ⟨congrArg (fun b => Ending.returned (Value.bool b)) (by first | rfl | (rw [Bool.eq_iff_iff]; simp)), below_more HBE.out (below_new W _)⟩

set_option maxHeartbeats 4000000 in
set_option maxRecDepth 100000 in
theorem take_bad (A : Option Addr) (n C lo hi : Nat) (xs : List Xt) (z : Int) (w : World) (hn : n ≤ 140737488355328) (h : Ex w lo hi A n xs) (hhi : hi ≤ w.heap.size) (hbad : z < 1 ∨ ¬ goodP xs 4194304) :
    Calls Tryd.prog 17 #[.slice A n C, .int .i64 z] w fun e w' => e = .returned (.tuple #[.int .i64 0, .slice none 0 0, .int .i64 2]) ∧ Below w.heap.size w w' := by
  have HG := Lib.hid (good_any A n C lo hi xs 4194304 (w.alloc (.cells #[.int .i64 z] 3)) hn (h.later (below_new w _) hhi) (by simp; omega))
  clear h
  by_cases hz : z < 1
  · clear hbad
    go_enter Tryd.func17, Tryd.ntmps17
    go_wp2
    go_ret3
    exact ⟨rfl, below_new w _⟩
  · have hng : ¬ goodP xs 4194304 := hbad.resolve_left hz
    have HNG := Lib.hid hng
    clear hbad hng
    go_enter Tryd.func17, Tryd.ntmps17
    go_wp2_with (go_at_call 15; refine HG.out.mono ?_; rintro _ w2 ⟨he, hb2⟩; rw [decide_eq_false HNG.out] at he; subst he; have HB := Lib.hid (below_more (below_new w _) hb2); clear hb2)
    go_ret3
    exact ⟨rfl, HB.out⟩

set_option maxHeartbeats 4000000 in
set_option maxRecDepth 100000 in
theorem take_full (A : Option Addr) (n C lo hi : Nat) (xs : List Xt) (z : Int) (w : World) (hn : n ≤ 140737488355328) (h : Ex w lo hi A n xs) (hhi : hi ≤ w.heap.size) (hz : 1 ≤ z) (hgood : goodP xs 4194304) (hno : ∀ x ∈ xs, x.2 < z) :
    Calls Tryd.prog 17 #[.slice A n C, .int .i64 z] w fun e w' => e = .returned (.tuple #[.int .i64 0, .slice none 0 0, .int .i64 7]) ∧ Below w.heap.size w w' := by
  have eg : ∀ args w, (callFunc 33 args).run Tryd.prog w = .ok (.enter 33 args) w := enters_of Tryd.func33 (by kernel_rfl) rfl
  have HG := Lib.hid (good_any A n C lo hi xs 4194304 (w.alloc (.cells #[.int .i64 z] 3)) hn (h.later (below_new w _) hhi) (by simp; omega))
  have HX := Lib.hid h
  have HGD := Lib.hid hgood
  have HNO := Lib.hid hno
  have HEG := Lib.hid eg
  have HBX := Lib.hid (Bx.new w 3 #[.int .i64 z])
  clear h hgood hno eg
  go_enter Tryd.func17, Tryd.ntmps17
  go_wp2_with (go_at_call 15; refine HG.out.mono ?_; rintro _ w2 ⟨he, hb2⟩; rw [decide_eq_true HGD.out] at he; subst he; refine Hid.out ?_)
  have HB := Lib.hid (below_more (below_new w _) hb2)
  have HI := Lib.hid (index_at (fun x => decide (z ≤ x.2)) 33 #[.pointer (some ⟨w.heap.size, 0, none⟩)] A n C lo hi xs w2 (pred_take w.heap.size z w2 (HBX.out.later hb2 HBX.out.lt)) HEG.out hn (HX.out.later HB.out hhi) (Nat.le_trans hhi HB.out.size))
  clear hb2
  refine go_on ?_
  go_wp2_with (go_at_call 32; refine HI.out.mono ?_; rintro _ w3 ⟨⟨rfl, hq⟩ | ⟨k, hk, rfl, hp, hq⟩, hb3⟩ <;> refine Hid.out ?_)
  · have HB3 := Lib.hid (below_more HB.out hb3)
    clear hb3
    refine go_on ?_
    go_wp2
    go_ret3
    exact ⟨rfl, HB3.out⟩
  · have := HNO.out _ (List.getElem_mem hk)
    simp at hp
    omega

theorem set_del {xs : List Xt} {k : Nat} (hk : k < xs.length) {y : Xt} : (xs.set k y).take k ++ (xs.set k y).drop (k + 1) = xs.take k ++ [] ++ xs.drop (k + 1) := by
  rw [List.take_set_of_le (Nat.le_refl _), List.drop_set_of_lt (by omega), List.append_nil]
set_option maxHeartbeats 4000000 in
set_option maxRecDepth 100000 in
theorem take_yes (A : Option Addr) (n C lo hi : Nat) (xs : List Xt) (z : Int) (i : Nat) (w : World) (hn : n ≤ 140737488355328) (h : Ex w lo hi A n xs) (hhi : hi ≤ w.heap.size) (hz : 1 ≤ z) (hgood : goodP xs 4194304) (hi : i < xs.length) (hyes : z ≤ xs[i].2) (hno : ∀ x ∈ xs.take i, x.2 < z) :
    Calls Tryd.prog 17 #[.slice A n C, .int .i64 z] w fun e w' => ∃ A' m C', e = .returned (.tuple #[.int .i64 xs[i].1, .slice A' m C', .int .i64 0]) ∧ Ex w' w.heap.size w'.heap.size A' m (takeK xs z i) ∧ Thaw w' A' m ∧ Below w.heap.size w w' ∧ (A' = none → C' = 0) := by
  have eg : ∀ args w, (callFunc 33 args).run Tryd.prog w = .ok (.enter 33 args) w := enters_of Tryd.func33 (by kernel_rfl) rfl
  rename_i hiB
  generalize hR : xs[i].1 = R
  have HR := Lib.hid hR
  clear hR
  have HG := Lib.hid (good_any A n C lo hiB xs 4194304 (w.alloc (.cells #[.int .i64 z] 3)) hn (h.later (below_new w _) hhi) (by simp; omega))
  have hnb : n ≤ 65536 := by have := hgood.2.2.1; have := h.len; omega
  have HX := Lib.hid h
  have HGD := Lib.hid hgood
  have HNO := Lib.hid hno
  have HEG := Lib.hid eg
  have HYES := Lib.hid hyes
  have hl := h.len
  have HBX := Lib.hid (Bx.new w 3 #[.int .i64 z])
  clear h hgood hno eg hyes
  go_enter Tryd.func17, Tryd.ntmps17
  go_wp2_with (go_at_call 15; refine HG.out.mono ?_; rintro _ w2 ⟨he, hb2⟩; rw [decide_eq_true HGD.out] at he; subst he; refine Hid.out ?_)
  have HB := Lib.hid (below_more (below_new w _) hb2)
  have HBX2 := Lib.hid (HBX.out.later hb2 HBX.out.lt)
  have HI := Lib.hid (index_at (fun x => decide (z ≤ x.2)) 33 #[.pointer (some ⟨w.heap.size, 0, none⟩)] A n C lo hiB xs w2 (pred_take w.heap.size z w2 HBX2.out) HEG.out hn (HX.out.later HB.out hhi) (Nat.le_trans hhi HB.out.size))
  clear hb2
  refine go_on ?_
  go_wp2_with (go_at_call 32; refine HI.out.mono ?_; rintro _ w3 ⟨⟨rfl, hq⟩ | ⟨k, hk, rfl, hp, hq⟩, hb3⟩ <;> refine Hid.out ?_)
  · have h1 := hq _ (List.getElem_mem hi)
    have h2 := HYES.out
    simp at h1
    omega
  · have hki : k = i := by
      simp at hp
      rcases Nat.lt_trichotomy k i with hlt | he | hgt
      · have h1 := HNO.out xs[k] (List.mem_take_iff_getElem.mpr ⟨k, by omega, rfl⟩)
        omega
      · exact he
      · have h1 := hq xs[i] (List.mem_take_iff_getElem.mpr ⟨i, by omega, rfl⟩)
        have h2 := HYES.out
        simp at h1
        omega
    subst hki
    clear hp hq
    have HB3 := Lib.hid (below_more HB.out hb3)
    have hbx3 := HBX2.out.later hb3 HBX2.out.lt
    have HBX3 := Lib.hid hbx3
    have HC := Lib.hid (clone_any A n C lo hiB xs w3 (by omega) (HX.out.later HB3.out hhi))
    clear hb3 hbx3
    refine go_on ?_
    go_wp2_with (go_at_call 34; refine HC.out.mono ?_; rintro _ w4 ⟨A4, C4, rfl, hC4, hown, hb4⟩; refine Hid.out ?_)
    obtain ⟨g, cap, hV, hg1, hg2⟩ := hown.form (by omega)
    cases hV
    obtain ⟨_, _, ev, -, hex, hth⟩ := own_ex hown
    cases ev
    obtain ⟨c0, c1⟩ := hex.get rfl (i := k) hk
    have hf := hth (by omega) g 0 rfl
    have hbx4 := HBX3.out.later hb4 HBX3.out.lt
    have n0 : w4.cell? ⟨w.heap.size, 0, none⟩ = some (.int .i64 z) := hbx4.cell 0
    have hgne : w.heap.size ≠ g := by have := HB3.out.size; have := HBX3.out.lt; omega
    have hcapb : C4 ≤ 9223372036854775807 := by
      rcases hown.2 with ⟨e, _⟩ | ⟨_, _, _, e, _, _, _, h6, _⟩
      · cases e
      · cases e; unfold maxLen at h6; omega
    have HEX := Lib.hid hex
    have HTH := Lib.hid hth
    have HB4 := Lib.hid (below_more HB3.out hb4)
    have HB43 := Lib.hid hb4
    have f0 := hf (k * 2)
    have f1 := hf (k * 2 + 1)
    simp only [Nat.zero_add] at c0 c1
    have hks : (k : Int) < (n : Int) := by omega
    have hk0 : (0 : Int) ≤ (k : Int) := by omega
    have hxm := ((goodP_iff _ _).mp HGD.out).2.2.2.2 _ (List.getElem_mem hk)
    have hyes := HYES.out
    have hm := hxm.1
    unfold mayP at hm
    have s1 : wrap64 (xs[k].1 + z) = xs[k].1 + z := by unfold wrap64; omega
    have s2 : IntKind.i64.wrap (xs[k].1 + z) = xs[k].1 + z := IntWalk.i64_in _ (by omega)
    have s3 : wrap64 (xs[k].2 - z) = xs[k].2 - z := by unfold wrap64; omega
    have s4 : IntKind.i64.wrap (xs[k].2 - z) = xs[k].2 - z := IntWalk.i64_in _ (by omega)
    clear hex hth hf hb4 hown hxm hyes hm hbx4
    refine go_on ?_
    go_upto_region 8 with fail
    go_still_tail 9, (by kernel_rfl)
    change wpList _ _ _ _ _ w4.drew
    have c0d : w4.drew.cell? ⟨g, k * 2, none⟩ = some (.int .i64 xs[k].1) := c0
    have c1d : w4.drew.cell? ⟨g, k * 2 + 1, none⟩ = some (.int .i64 xs[k].2) := c1
    have n0d : w4.drew.cell? ⟨w.heap.size, 0, none⟩ = some (.int .i64 z) := n0
    have f0d : w4.drew.frozen? ⟨g, k * 2, none⟩ = false := f0
    have f1d : w4.drew.frozen? ⟨g, k * 2 + 1, none⟩ = false := f1
    have HEXd := Lib.hid (show Ex w4.drew w3.heap.size w4.drew.heap.size (some ⟨g, 0, none⟩) n xs from HEX.out.later ((Below.refl w4.heap.size w4).drew) (Nat.le_refl _))
    have HTHd := Lib.hid (show Thaw w4.drew (some ⟨g, 0, none⟩) n from HTH.out)
    have HBd := Lib.hid (show Below w.heap.size w w4.drew from HB4.out.drew)
    clear c0 c1 n0 f0 f1 HEX HTH HB4 HB43
    have hg2d : g < w4.drew.heap.size := hg2
    clear hg2
    generalize w4.drew = w5 at *
    have HS1 := HEXd.out.set0 (i := k) hk (xs[k].1 + z)
    have HT1 := HTHd.out.set ⟨g, k * 2, none⟩ (.int .i64 (xs[k].1 + z))
    have HB1 := HBd.out.setCell (p := ⟨g, k * 2, none⟩) (by show w.heap.size ≤ g; have := HB3.out.size; omega) (.int .i64 (xs[k].1 + z))
    rw [Nat.zero_add] at HS1
    have d1 : (w5.setCell ⟨g, k * 2, none⟩ (.int .i64 (xs[k].1 + z))).drew.cell? ⟨g, k * 2 + 1, none⟩ = some (.int .i64 xs[k].2) := (cell_ne w5 g (k * 2) (k * 2 + 1) _ (by omega)).trans c1d
    have m0 : (w5.setCell ⟨g, k * 2, none⟩ (.int .i64 (xs[k].1 + z))).drew.cell? ⟨w.heap.size, 0, none⟩ = some (.int .i64 z) := (World.cell?_setCell_far w5 ⟨g, k * 2, none⟩ ⟨w.heap.size, 0, none⟩ _ (fun e => hgne e.symm)).trans n0d
    have g1 : (w5.setCell ⟨g, k * 2, none⟩ (.int .i64 (xs[k].1 + z))).drew.frozen? ⟨g, k * 2 + 1, none⟩ = false := (frozen_set w5 _ _ _).trans f1d
    have hsz : (w5.setCell ⟨g, k * 2, none⟩ (.int .i64 (xs[k].1 + z))).drew.heap.size = w5.heap.size := by simp [World.setCell]
    have HS2 := Lib.hid (show Ex (w5.setCell ⟨g, k * 2, none⟩ (.int .i64 (xs[k].1 + z))).drew w3.heap.size w5.heap.size (some ⟨g, 0, none⟩) n (xs.set k (xs[k].1 + z, xs[k].2)) from HS1.keep (fun _ _ _ => rfl))
    have HT2 := Lib.hid (show Thaw (w5.setCell ⟨g, k * 2, none⟩ (.int .i64 (xs[k].1 + z))).drew (some ⟨g, 0, none⟩) n from HT1)
    have HB2 := Lib.hid (show Below w.heap.size w (w5.setCell ⟨g, k * 2, none⟩ (.int .i64 (xs[k].1 + z))).drew from HB1.drew)
    have HSZ := Lib.hid hsz
    have c1e : (w5.setCell ⟨g, k * 2, none⟩ (.int .i64 (xs[k].1 + z))).cell? ⟨g, k * 2 + 1, none⟩ = some (.int .i64 xs[k].2) := d1
    have n0e : (w5.setCell ⟨g, k * 2, none⟩ (.int .i64 (xs[k].1 + z))).cell? ⟨w.heap.size, 0, none⟩ = some (.int .i64 z) := m0
    have f1e : (w5.setCell ⟨g, k * 2, none⟩ (.int .i64 (xs[k].1 + z))).frozen? ⟨g, k * 2 + 1, none⟩ = false := g1
    clear HS1 HT1 HB1 hsz
    go_upto_region 9 with fail
    clear c0d c1d n0d f0d f1d
    generalize hW6 : w5.setCell ⟨g, k * 2, none⟩ (.int .i64 (xs[k].1 + z)) = w6 at *
    clear hW6
    go_still_tail 9, (by kernel_rfl)
    change wpList _ _ _ _ _ w6.drew
    clear c1e n0e f1e
    generalize w6.drew = w7 at *
    have HS3 := HS2.out.set1 (i := k) (by rw [List.length_set]; exact hk) (xs[k].2 - z)
    rw [Nat.zero_add, List.getElem_set_self, List.set_set] at HS3
    have HT3 := Lib.hid (HT2.out.set ⟨g, k * 2 + 1, none⟩ (.int .i64 (xs[k].2 - z)))
    have HB4' := Lib.hid (HB2.out.setCell (p := ⟨g, k * 2 + 1, none⟩) (by show w.heap.size ≤ g; have := HB3.out.size; omega) (.int .i64 (xs[k].2 - z)))
    have HSZ3 := Lib.hid (show (w7.setCell ⟨g, k * 2 + 1, none⟩ (.int .i64 (xs[k].2 - z))).heap.size = w5.heap.size by rw [← HSZ.out]; simp [World.setCell])
    have e1 : (w7.setCell ⟨g, k * 2 + 1, none⟩ (.int .i64 (xs[k].2 - z))).cell? ⟨g, k * 2 + 1, none⟩ = some (.int .i64 (xs[k].2 - z)) := World.cell?_setCell_same' _ _ _ (by rw [d1]; rfl)
    have HS4 := Lib.hid HS3
    have hspl : xs.set k (xs[k].1 + z, xs[k].2 - z) = xs.take k ++ [(xs[k].1 + z, xs[k].2 - z)] ++ xs.drop (k + 1) := by
      rw [List.set_eq_take_append_cons_drop, if_pos hk, List.append_assoc]
      rfl
    have HSPL := Lib.hid hspl
    have hgd : xs.getD k (0, 0) = xs[k] := by simp [List.getD, List.getElem?_eq_getElem hk]
    have HGT := Lib.hid (show takeK xs z k = xs.take k ++ (if z < xs[k].2 then [(xs[k].1 + z, xs[k].2 - z)] else []) ++ xs.drop (k + 1) by unfold takeK; rw [hgd])
    clear HS3 hspl hgd
    generalize hx0 : xs[k].1 = xa at *
    obtain rfl : R = xa := HR.out.symm
    generalize hx1 : xs[k].2 = xb at *
    go_upto_region 10 with fail
    generalize hW8 : w7.setCell ⟨g, k * 2 + 1, none⟩ (.int .i64 (xb - z)) = w8 at *
    clear hW8 d1 m0 g1
    by_cases hzz : xb = z
    · have b1 : (xb - z == 0) = true := beq_iff_eq.2 (by omega)
      have b2 : decide (xb - z = 0) = true := by simp; omega
      have hd := delete1_any g 0 n C4 w3.heap.size w5.heap.size k (k + 1) _ w8 hn hC4 hcapb rfl (by omega) HS4.out HT3.out
      rw [show ((k + 1 : Nat) : Int) = (k : Int) + 1 by omega] at hd
      have HDL := Lib.hid hd
      have s5 : wrap64 ((k : Int) + 1) = (k : Int) + 1 := by unfold wrap64; omega
      have HZZ := Lib.hid (show ¬ z < xb by omega)
      have HKL := Lib.hid hk
      clear hd hzz s1 s2 s3 s4
      go_wp2_with (go_at_call 35; refine HDL.out.mono ?_; rintro _ w9 ⟨rfl, hex9, hth9, hch9⟩; refine Hid.out ?_)
      have HE9 := Lib.hid hex9
      have HT9 := Lib.hid hth9
      have hsz9 := hch9.size
      have HB9 := Lib.hid (HB4'.out.trans (hch9.below (B := w.heap.size) (by have h1 := HSZ3.out; have h2 := HBd.out.size; omega) (fun j hj => by have := hj.1; have h3 := HB3.out.size; omega)))
      have HSZ9 := Lib.hid (show w5.heap.size ≤ w9.heap.size by have h1 := HSZ3.out; omega)
      clear hex9 hth9 hch9 hsz9
      refine go_on ?_
      go_wp2
      go_ret3
      refine ⟨some ⟨g, 0, none⟩, n - 1, C4, rfl, ?_, HT9.out, HB9.out, fun h => by cases h⟩
      have h1 := HE9.out
      rw [set_del (HKL.out)] at h1
      rw [HGT.out, if_neg (Int.not_lt.mpr HZZ.out)]
      exact h1.widen HB3.out.size HSZ9.out
    · have b1 : (xb - z == 0) = false := beq_eq_false_iff_ne.2 (by omega)
      have b2 : decide (xb - z = 0) = false := by simp; omega
      have HZZ := Lib.hid (show z < xb by have := HYES.out; omega)
      clear hzz s1 s2 s3 s4
      go_wp2
      go_ret3
      refine ⟨some ⟨g, 0, none⟩, n, C4, rfl, ?_, HT3.out, HB4'.out, fun h => by cases h⟩
      rw [HGT.out, if_pos HZZ.out, ← HSPL.out]
      exact HS4.out.widen HB3.out.size (Nat.le_of_eq HSZ3.out.symm)
end Go.Proofs.YtkdfafaiabidgaaDoor.X5
