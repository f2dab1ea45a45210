/- The law's lent, kept, spoil; extent.Total. -/
import Derived.Test.YtkdfafaiabidgaaKk
namespace Go.Proofs.Ytkdfafaiabidgaa.X5
set_option linter.unusedVariables false
set_option linter.unusedSimpArgs false
open Go.RowKit Wd Ty9

/-- What was lent: the extents, and one more behind their end. -/
structure Lent (w0 w : World) (g n C : Nat) (xs : List Xt) : Prop where
  own : w.ownsRow w0.heap.size 48 2 (.slice (some ⟨g, 0, none⟩) (n + 1) C) (n + 1) (cl (xs ++ [(-9, -9)]))
  len : xs.length = n
theorem Lent.form {w0 w : World} {g n C : Nat} {xs : List Xt} (h : Lent w0 w g n C xs) : n + 1 ≤ C ∧ w0.heap.size ≤ g ∧ g < w.heap.size ∧ (∀ j, w.frozen? ⟨g, j, none⟩ = false) := by
  obtain ⟨A, C', e, h1, h2, h3⟩ := own_ex h.own
  cases e
  obtain ⟨b, o, e, q1, q2, _⟩ := h2.at_ (Nat.succ_pos _)
  cases e
  exact ⟨h1, q1, q2, h3 (Nat.succ_pos _) g 0 rfl⟩
theorem Lent.ex {w0 w : World} {g n C : Nat} {xs : List Xt} (h : Lent w0 w g n C xs) : Ex w w0.heap.size w.heap.size (some ⟨g, 0, none⟩) n xs := by
  obtain ⟨A, C', e, h1, h2, h3⟩ := own_ex h.own
  cases e
  refine ⟨h.len, fun _ => ?_⟩
  obtain ⟨b, o, e, q1, q2, q3⟩ := h2.at_ (Nat.succ_pos _)
  cases e
  refine ⟨g, 0, rfl, q1, q2, fun j u hu => q3 j u ?_⟩
  rw [cl_app, List.getElem?_append_left (List.getElem?_eq_some_iff.mp hu).1]
  exact hu
theorem Lent.keep {w0 w w2 : World} {g n C : Nat} {xs : List Xt} (h : Lent w0 w g n C xs) (hk : w2.heap[g]? = w.heap[g]?) : Lent w0 w2 g n C xs := by
  refine ⟨⟨h.own.1, ?_⟩, h.len⟩
  rcases h.own.2 with ⟨e, _⟩ | ⟨g', cap, cur, e, h1, h2, h3⟩
  · cases e
  · cases e
    exact .inr ⟨g, C, cur, rfl, h1, hk.trans h2, h3⟩
theorem Lent.later {w0 w w2 : World} {g n C : Nat} {xs : List Xt} (h : Lent w0 w g n C xs) (hb : Below w.heap.size w w2) : Lent w0 w2 g n C xs := h.keep (hb.block g h.form.2.2.1)
theorem Lent.last {w0 w : World} {g n C : Nat} {xs : List Xt} (h : Lent w0 w g n C xs) : w.cell? ⟨g, n * 2, none⟩ = some (.int .i64 (-9)) ∧ w.cell? ⟨g, n * 2 + 1, none⟩ = some (.int .i64 (-9)) := by
  obtain ⟨A, C', e, h1, h2, h3⟩ := own_ex h.own
  cases e
  have hl := h.len
  obtain ⟨c0, c1⟩ := h2.get rfl (i := n) (by simp; omega)
  have e1 : (xs ++ [((-9, -9) : Xt)])[n]'(by simp; omega) = (-9, -9) := by
    rw [List.getElem_append_right (by omega)]
    simp
  rw [e1, Nat.zero_add] at c0 c1
  exact ⟨c0, c1⟩

set_option maxHeartbeats 4000000 in
set_option maxRecDepth 100000 in
theorem lent_any (A : Option Addr) (n C lo hi : Nat) (xs : List Xt) (w : World) (hn : (n + 1) * 16 ≤ 140737488355328) (hA : A = none → C = 0) (h : Ex w lo hi A n xs) (hhi : hi ≤ w.heap.size) :
    Calls Try.prog 12 #[.slice A n C] w fun e w' => ∃ g C', e = .returned (.slice (some ⟨g, 0, none⟩) n C') ∧ Lent w w' g n C' xs ∧ Below w.heap.size w w' := by
  have hl := h.len
  have HX := Lib.hid h
  clear h
  have HO0 := Lib.hid (show Ow 48 w (.slice (some ⟨w.heap.size, 0, none⟩) 0 0) [] (w.alloc (.cells #[] 48)) from ⟨World.ownsRow_made w #[] 0 (Nat.le_refl _) (Nat.zero_le _) (by simp), below_new w _⟩)
  have HX0 := Lib.hid (HX.out.later (below_new w (.cells #[] 48)) hhi)
  go_enter Try.func12, Try.ntmps12
  go_wp2_with (at_builtin; refine wp_appN Try.underlying22 ext_info (by rfl) (.tmp 3) (.tmp 4) (by rfl) w _ [] xs A n C lo hi (by rfl) (by rfl) hA HO0.out HX0.out (by simp; omega) ?_; intro V2 w2 how2; refine Hid.out ?_)
  obtain ⟨Af, Cf, hV⟩ := own_form how2.own
  rw [List.nil_append] at hV how2
  rw [hl] at hV
  subst hV
  have HO2b := Lib.hid (how2.below (below_new w2 (.cells #[.int .i64 (-9), .int .i64 (-9)] 48)))
  clear how2
  refine go_on ?_
  go_wp2_with (at_builtin; refine wp_app2 Try.underlying22 ext_info (by rfl) (.tmp 5) (.tmp 7) (by rfl) w (.slice Af n Cf) xs (-9, -9) w2.heap.size (by rfl) (by rfl) HO2b.out (Bx.new w2 _ _) (by rw [hl]; exact hn) ?_; intro V3 w3 how3; refine Hid.out ?_)
  obtain ⟨g, cap, hV, hg1, hg2⟩ := how3.own.form (by simp)
  have hlen3 : (xs ++ [((-9, -9) : Xt)]).length = n + 1 := by simp [hl]
  rw [hlen3] at hV
  subst hV
  have HL := Lib.hid (show Lent w w3 g n cap xs from ⟨by have h5 := how3.own; rw [hlen3] at h5; exact h5, hl⟩)
  have HB := Lib.hid how3.be
  clear how3 hlen3 hg1 hg2
  have hcap := HL.out.form.1
  refine go_on ?_
  go_wp2
  go_ret
  exact ⟨g, cap, rfl, HL.out, HB.out⟩

set_option maxHeartbeats 4000000 in
set_option maxRecDepth 100000 in
theorem kept_yes (w0 : World) (g C' : Nat) (A : Option Addr) (n C lo hi : Nat) (xs : List Xt) (w : World) (hn : (n + 1) * 16 ≤ 140737488355328) (hL : Lent w0 w g n C' xs) (h : Ex w lo hi A n xs) (hhi : hi ≤ w.heap.size) :
    Calls Try.prog 17 #[.slice (some ⟨g, 0, none⟩) n C', .slice A n C] w fun e w' => e = .returned (.bool true) ∧ Below w.heap.size w w' := by
  have hl := h.len
  have hcap := hL.form.1
  have HP := Lib.hid (plain_any A n C lo hi xs w (by omega) h hhi)
  have HLE := Lib.hid hL
  have s1 : wrap64 ((n : Int) + 1) = (n : Int) + 1 := by unfold wrap64; omega
  have s2 : IntKind.i64.wrap ((n : Int) + 1) = (n : Int) + 1 := IntWalk.i64_in _ (by omega)
  have s3 : ((n : Int) + 1).toNat = n + 1 := by omega
  have s4 : (0 : Int) ≤ (n : Int) + 1 := by omega
  have s5 : (n : Int) + 1 ≤ (C' : Int) := by omega
  have s6 : (n : Int) < (n : Int) + 1 := by omega
  clear h hL
  go_enter Try.func17, Try.ntmps17
  go_wp2_with (go_at_call 15; refine HP.out.mono ?_; rintro _ w2 ⟨V, rfl, how⟩; refine Hid.out ?_)
  obtain ⟨B, D, hV, -, hex2, -⟩ := own_ex how.own
  rw [hl] at hV hex2
  subst hV
  have HL2 := Lib.hid (HLE.out.later how.be)
  have HX2 := Lib.hid hex2
  have HB2 := Lib.hid how.be
  have HQ := Lib.hid (same_any (some ⟨g, 0, none⟩) B n n C' D _ _ _ _ xs xs w2 (by omega) HL2.out.ex (Nat.le_refl _) HX2.out (Nat.le_refl _))
  clear how hex2
  refine go_on ?_
  go_wp2_with (go_at_call 16; refine HQ.out.mono ?_; rintro _ w3 ⟨he, hb3⟩; rw [decide_eq_true rfl] at he; subst he; refine Hid.out ?_)
  obtain ⟨c0, c1⟩ := (HL2.out.later hb3).last
  have HB3 := Lib.hid (below_more HB2.out hb3)
  clear hb3
  refine go_on ?_
  go_wp2
  go_ret
  exact ⟨rfl, HB3.out⟩

theorem Ex.set0 {w : World} {lo hi n b o : Nat} {xs : List Xt} (h : Ex w lo hi (some ⟨b, o, none⟩) n xs) {i : Nat} (hi2 : i < xs.length) (z : Int) :
    Ex (w.setCell ⟨b, o + i * 2, none⟩ (.int .i64 z)) lo hi (some ⟨b, o, none⟩) n (xs.set i (z, xs[i].2)) := by
  refine ⟨by rw [List.length_set]; exact h.len, fun hn => ?_⟩
  obtain ⟨b', o', e, h1, h2, h3⟩ := h.at_ hn
  cases e
  obtain ⟨g1, g2⟩ := cl_get xs i hi2
  have q1 : (w.cell? ⟨b, o + i * 2, none⟩).isSome = true := by rw [h3 _ _ g1]; rfl
  refine ⟨b, o, rfl, h1, h2, fun j u hu => ?_⟩
  rcases cl_set hi2 _ j u hu with ⟨rfl, rfl⟩ | ⟨rfl, rfl⟩ | ⟨n1, n2, hu⟩
  · exact World.cell?_setCell_same' _ _ _ q1
  · rw [cell_ne _ _ _ _ _ (by omega)]
    exact h3 _ _ g2
  · rw [cell_ne _ _ _ _ _ (by omega)]
    exact h3 j u hu
theorem Ex.set1 {w : World} {lo hi n b o : Nat} {xs : List Xt} (h : Ex w lo hi (some ⟨b, o, none⟩) n xs) {i : Nat} (hi2 : i < xs.length) (z : Int) :
    Ex (w.setCell ⟨b, o + i * 2 + 1, none⟩ (.int .i64 z)) lo hi (some ⟨b, o, none⟩) n (xs.set i (xs[i].1, z)) := by
  refine ⟨by rw [List.length_set]; exact h.len, fun hn => ?_⟩
  obtain ⟨b', o', e, h1, h2, h3⟩ := h.at_ hn
  cases e
  obtain ⟨g1, g2⟩ := cl_get xs i hi2
  have q1 : (w.cell? ⟨b, o + (i * 2 + 1), none⟩).isSome = true := by rw [h3 _ _ g2]; rfl
  refine ⟨b, o, rfl, h1, h2, fun j u hu => ?_⟩
  rcases cl_set hi2 _ j u hu with ⟨rfl, rfl⟩ | ⟨rfl, rfl⟩ | ⟨n1, n2, hu⟩
  · rw [cell_ne _ _ _ _ _ (by omega)]
    exact h3 _ _ g1
  · rw [← Nat.add_assoc]
    exact World.cell?_setCell_same' _ _ _ q1
  · rw [cell_ne _ _ _ _ _ (by omega)]
    exact h3 j u hu

set_option maxHeartbeats 4000000 in
set_option maxRecDepth 100000 in
theorem spoil_any (A : Option Addr) (n C lo hi : Nat) (xs : List Xt) (w : World) (hn : n ≤ 140737488355328) (h : Ex w lo hi A n xs) (ht : Thaw w A n) :
    Calls Try.prog 18 #[.slice A n C] w fun e w' => e = .returned (.tuple #[]) ∧ Ch (fun j => lo ≤ j ∧ j < hi) w w' := by
  have HX := Lib.hid h
  have HT := Lib.hid ht
  clear h ht
  go_enter Try.func18, Try.ntmps18
  go_wp2
  go_loopw [2] (fun i wr => ∃ (k : Nat) (ys : List Xt), i = .int .i64 k ∧ k ≤ n ∧ Ex wr lo hi A n ys ∧ Thaw wr A n ∧ Ch (fun j => lo ≤ j ∧ j < hi) w wr) (fun i _ => n - (intOf i).toNat)
  case atStart => exact ⟨0, xs, rfl, Nat.zero_le _, HX.out, HT.out, Ch.refl _ _⟩
  case round =>
    obtain ⟨k, ys, rfl, hk, hex, hth, hch⟩ := hrel
    have HEX := Lib.hid hex
    have HTH := Lib.hid hth
    have HCH := Lib.hid hch
    clear hth hch
    by_cases hlt : k < n
    · have hltz : (k : Int) < (n : Int) := by omega
      have hyl := hex.len
      obtain ⟨b, o, rfl, hb1, hb2, -⟩ := hex.at_ (by omega)
      obtain ⟨c0, c1⟩ := hex.get rfl (i := k) (by omega)
      have f0 := HTH.out (by omega) b o rfl (o + k * 2)
      clear hex
      go_wp2
      go_roundw
      case rel => exact ⟨k + 1, _, by go_num, by omega, HEX.out.set0 (by omega) (-3), HTH.out.set _ _, HCH.out.set _ _ ⟨hb1, hb2⟩⟩
      case measure => simp [intOf]; omega
    · obtain rfl : k = n := by omega
      clear hex
      go_wp2
      go_end0
      exact ⟨rfl, HCH.out⟩

set_option maxHeartbeats 4000000 in
set_option maxRecDepth 100000 in
theorem total_any (A : Option Addr) (n C lo hi : Nat) (xs : List Xt) (w : World) (hn : n ≤ 140737488355328) (h : Ex w lo hi A n xs) (hhi : hi ≤ w.heap.size) :
    Calls Try.prog 23 #[.slice A n C] w fun e w' => e = .returned (.int .i64 (sumL xs)) ∧ Below w.heap.size w w' := by
  have hl := h.len
  have HX := Lib.hid h
  clear h
  go_enter Try.func23, Try.ntmps23
  go_wp2
  go_loopw [3, 8] (fun s i wr => ∃ (k : Nat) (q : Int), s = .int .i64 q ∧ i = .int .i64 k ∧ k ≤ n ∧ Below w.heap.size w wr ∧ Hid (q = sumL (xs.take k))) (fun _ i _ => n - (intOf i).toNat)
  case atStart => exact ⟨0, 0, rfl, rfl, Nat.zero_le _, Below.refl _ _, Lib.hid rfl⟩
  case round =>
    obtain ⟨k, q, rfl, rfl, hk, hbe, HQ⟩ := hrel
    have HBE := Lib.hid hbe
    clear hbe
    by_cases hlt : k < n
    · have hltz : (k : Int) < (n : Int) := by omega
      obtain ⟨b, o, rfl, hb1, hb2, -⟩ := HX.out.at_ (by omega)
      obtain ⟨c0, c1⟩ := HX.out.get rfl (i := k) (by omega)
      rw [← HBE.out.cell (p := ⟨b, o + k * 2, none⟩) (Nat.lt_of_lt_of_le hb2 hhi)] at c0
      rw [← HBE.out.cell (p := ⟨b, o + k * 2 + 1, none⟩) (Nat.lt_of_lt_of_le hb2 hhi)] at c1
      have hbw : b < wr.heap.size := Nat.lt_of_lt_of_le (Nat.lt_of_lt_of_le hb2 hhi) HBE.out.size
      have hbd := sumL_bound (xs.take k)
      rw [← HQ.out] at hbd
      have htk : xs.take (k + 1) = xs.take k ++ [xs[k]] := by rw [List.take_add_one, List.getElem?_eq_getElem (by omega)]; rfl
      have hsn : sumL (xs.take (k + 1)) = sumStep q xs[k] := by rw [htk, sumL_snoc, ← HQ.out]
      have HSN := Lib.hid hsn
      clear htk hsn
      generalize xs[k] = x at c0 c1 HSN
      by_cases hm : mayP x
      · have HM := Lib.hid hm
        unfold mayP at hm
        have s1 : wrap64 (q + x.2) = q + x.2 := by unfold wrap64; omega
        have s2 : IntKind.i64.wrap (q + x.2) = q + x.2 := IntWalk.i64_in _ (by omega)
        clear hm hbd
        have HBX := Lib.hid (Bx.new wr 48 #[.int .i64 x.1, .int .i64 x.2])
        have HW := Lib.hid (below_new wr (.cells #[.int .i64 x.1, .int .i64 x.2] 48))
        go_wp2_with (go_at_call 34; refine (may_any x _).mono ?_; rintro _ w2 ⟨he, hb2'⟩; rw [decide_eq_true HM.out] at he; subst he; have hbx := HBX.out.later hb2' HBX.out.lt; have HW := Lib.hid (below_more HW.out hb2'); have x1 := hbx.cell 1; clear hbx hb2')
        go_roundw
        case rel => exact ⟨k + 1, _, rfl, by go_num, by omega, below_more HBE.out HW.out, Lib.hid (by rw [HSN.out, sumStep, if_pos HM.out])⟩
        case measure => simp [intOf]; omega
      · have HM := Lib.hid hm
        clear hm hbd
        have HBX := Lib.hid (Bx.new wr 48 #[.int .i64 x.1, .int .i64 x.2])
        have HW := Lib.hid (below_new wr (.cells #[.int .i64 x.1, .int .i64 x.2] 48))
        go_wp2_with (go_at_call 34; refine (may_any x _).mono ?_; rintro _ w2 ⟨he, hb2'⟩; rw [decide_eq_false HM.out] at he; subst he; have hbx := HBX.out.later hb2' HBX.out.lt; have HW := Lib.hid (below_more HW.out hb2'); have x1 := hbx.cell 1; clear hbx hb2')
        go_roundw
        case rel => exact ⟨k + 1, _, rfl, by go_num, by omega, below_more HBE.out HW.out, Lib.hid (by rw [HSN.out, sumStep, if_neg HM.out])⟩
        case measure => simp [intOf]; omega
    · obtain rfl : k = n := by omega
      have HF := Lib.hid (show q = sumL xs by have h1 := HQ.out; rwa [List.take_of_length_le (by omega)] at h1)
      go_wp2
      go_ret
      rw [HF.out]
      exact ⟨rfl, HBE.out⟩

set_option maxHeartbeats 4000000 in
set_option maxRecDepth 100000 in
theorem rtotal_any (A : Option Addr) (n C lo hi : Nat) (xs : List Xt) (w : World) (hn : n ≤ 140737488355328) (h : Ex w lo hi A n xs) (hhi : hi ≤ w.heap.size) :
    Calls Try.prog 24 #[.slice A n C] w fun e w' => e = .returned (.int .i64 (sumL xs)) ∧ Below w.heap.size w w' := by
  have hl := h.len
  have HX := Lib.hid h
  clear h
  go_enter Try.func24, Try.ntmps24
  go_wp2
  go_loopw [3, 4] (fun s i wr => ∃ (k : Nat) (q : Int), s = .int .i64 q ∧ i = .int .i64 k ∧ k ≤ n ∧ Below w.heap.size w wr ∧ Hid (q = sumL (xs.take k))) (fun _ i _ => n - (intOf i).toNat)
  case atStart => exact ⟨0, 0, rfl, rfl, Nat.zero_le _, Below.refl _ _, Lib.hid rfl⟩
  case round =>
    obtain ⟨k, q, rfl, rfl, hk, hbe, HQ⟩ := hrel
    have HBE := Lib.hid hbe
    clear hbe
    by_cases hlt : k < n
    · have hltz : (k : Int) < (n : Int) := by omega
      obtain ⟨b, o, rfl, hb1, hb2, -⟩ := HX.out.at_ (by omega)
      obtain ⟨c0, c1⟩ := HX.out.get rfl (i := k) (by omega)
      rw [← HBE.out.cell (p := ⟨b, o + k * 2, none⟩) (Nat.lt_of_lt_of_le hb2 hhi)] at c0
      rw [← HBE.out.cell (p := ⟨b, o + k * 2 + 1, none⟩) (Nat.lt_of_lt_of_le hb2 hhi)] at c1
      have hbw : b < wr.heap.size := Nat.lt_of_lt_of_le (Nat.lt_of_lt_of_le hb2 hhi) HBE.out.size
      have hbd := sumL_bound (xs.take k)
      rw [← HQ.out] at hbd
      have htk : xs.take (k + 1) = xs.take k ++ [xs[k]] := by rw [List.take_add_one, List.getElem?_eq_getElem (by omega)]; rfl
      have hsn : sumL (xs.take (k + 1)) = sumStep q xs[k] := by rw [htk, sumL_snoc, ← HQ.out]
      have HSN := Lib.hid hsn
      clear htk hsn
      generalize xs[k] = x at c0 c1 HSN
      by_cases hm : mayP x
      · have HM := Lib.hid hm
        unfold mayP at hm
        have s1 : wrap64 (q + x.2) = q + x.2 := by unfold wrap64; omega
        have s2 : IntKind.i64.wrap (q + x.2) = q + x.2 := IntWalk.i64_in _ (by omega)
        clear hm hbd
        go_wp2_with (go_at_call 36; refine (rmay_any x _).mono ?_; rintro _ w2 ⟨he, hb2'⟩; rw [decide_eq_true HM.out] at he; subst he; have x1 := (hb2'.cell (p := ⟨b, o + k * 2 + 1, none⟩) hbw).trans c1; have HW := Lib.hid hb2'; clear hb2')
        go_roundw
        case rel => exact ⟨k + 1, _, rfl, by go_num, by omega, below_more HBE.out HW.out, Lib.hid (by rw [HSN.out, sumStep, if_pos HM.out])⟩
        case measure => simp [intOf]; omega
      · have HM := Lib.hid hm
        clear hm hbd
        go_wp2_with (go_at_call 36; refine (rmay_any x _).mono ?_; rintro _ w2 ⟨he, hb2'⟩; rw [decide_eq_false HM.out] at he; subst he; have x1 := (hb2'.cell (p := ⟨b, o + k * 2 + 1, none⟩) hbw).trans c1; have HW := Lib.hid hb2'; clear hb2')
        go_roundw
        case rel => exact ⟨k + 1, _, rfl, by go_num, by omega, below_more HBE.out HW.out, Lib.hid (by rw [HSN.out, sumStep, if_neg HM.out])⟩
        case measure => simp [intOf]; omega
    · obtain rfl : k = n := by omega
      have HF := Lib.hid (show q = sumL xs by have h1 := HQ.out; rwa [List.take_of_length_le (by omega)] at h1)
      go_wp2
      go_ret
      rw [HF.out]
      exact ⟨rfl, HBE.out⟩

end Go.Proofs.Ytkdfafaiabidgaa.X5
