/- The law's lent, kept, spoil; extent.Total. -/
import Derived.Test.YtkdfafaiabidgaaDoorKk
namespace Go.Proofs.YtkdfafaiabidgaaDoor.X5
set_option linter.unusedVariables false
set_option linter.unusedSimpArgs false
open Go.RowKit Wd Ty9

/-- What was lent: the extents, and one more behind their end. -/
structure Lent (w0 w : World) (g n C : Nat) (xs : List Xt) : Prop where
  own : w.ownsRow w0.heap.size 45 2 (.slice (some ⟨g, 0, none⟩) (n + 1) C) (n + 1) (cl (xs ++ [(-9, -9)]))
  len : xs.length = n
theorem Lent.form {w0 w : World} {g n C : Nat} {xs : List Xt} (h : Lent w0 w g n C xs) : n + 1 ≤ C ∧ w0.heap.size ≤ g ∧ g < w.heap.size ∧ (∀ j, w.frozen? ⟨g, j, none⟩ = false) := by
  obtain ⟨A, C', e, h1, h2, h3⟩ := own_ex h.own
  cases e
  obtain ⟨b, o, e, q1, q2, _⟩ := h2.at_ (Nat.succ_pos _)
  cases e
  exact ⟨h1, q1, q2, h3 (Nat.succ_pos _) g 0 rfl⟩
theorem Lent.ex {w0 w : World} {g n C : Nat} {xs : List Xt} (h : Lent w0 w g n C xs) : Ex w w0.heap.size w.heap.size (some ⟨g, 0, none⟩) n xs := by
  obtain ⟨A, C', e, h1, h2, h3⟩ := own_ex h.own
  cases e
  refine ⟨h.len, fun _ => ?_⟩
  obtain ⟨b, o, e, q1, q2, q3⟩ := h2.at_ (Nat.succ_pos _)
  cases e
  refine ⟨g, 0, rfl, q1, q2, fun j u hu => q3 j u ?_⟩
  rw [cl_app, List.getElem?_append_left (List.getElem?_eq_some_iff.mp hu).1]
  exact hu
theorem Lent.keep {w0 w w2 : World} {g n C : Nat} {xs : List Xt} (h : Lent w0 w g n C xs) (hk : w2.heap[g]? = w.heap[g]?) : Lent w0 w2 g n C xs := by
  refine ⟨⟨h.own.1, ?_⟩, h.len⟩
  rcases h.own.2 with ⟨e, _⟩ | ⟨g', cap, cur, e, h1, h2, h3⟩
  · cases e
  · cases e
    exact .inr ⟨g, C, cur, rfl, h1, hk.trans h2, h3⟩
theorem Lent.later {w0 w w2 : World} {g n C : Nat} {xs : List Xt} (h : Lent w0 w g n C xs) (hb : Below w.heap.size w w2) : Lent w0 w2 g n C xs := h.keep (hb.block g h.form.2.2.1)
theorem Lent.last {w0 w : World} {g n C : Nat} {xs : List Xt} (h : Lent w0 w g n C xs) : w.cell? ⟨g, n * 2, none⟩ = some (.int .i64 (-9)) ∧ w.cell? ⟨g, n * 2 + 1, none⟩ = some (.int .i64 (-9)) := by
  obtain ⟨A, C', e, h1, h2, h3⟩ := own_ex h.own
  cases e
  have hl := h.len
  obtain ⟨c0, c1⟩ := h2.get rfl (i := n) (by simp; omega)
  have e1 : (xs ++ [((-9, -9) : Xt)])[n]'(by simp; omega) = (-9, -9) := by
    rw [List.getElem_append_right (by omega)]
    simp
  rw [e1, Nat.zero_add] at c0 c1
  exact ⟨c0, c1⟩

set_option maxHeartbeats 4000000 in
set_option maxRecDepth 100000 in
theorem lent_any (A : Option Addr) (n C lo hi : Nat) (xs : List Xt) (w : World) (hn : (n + 1) * 16 ≤ 140737488355328) (hA : A = none → C = 0) (h : Ex w lo hi A n xs) (hhi : hi ≤ w.heap.size) :
    Calls Tryd.prog 7 #[.slice A n C] w fun e w' => ∃ g C', e = .returned (.slice (some ⟨g, 0, none⟩) n C') ∧ Lent w w' g n C' xs ∧ Below w.heap.size w w' := by
  have hl := h.len
  have HX := Lib.hid h
  clear h
  have HO0 := Lib.hid (show Ow 45 w (.slice (some ⟨w.heap.size, 0, none⟩) 0 0) [] (w.alloc (.cells #[] 45)) from ⟨World.ownsRow_made w #[] 0 (Nat.le_refl _) (Nat.zero_le _) (by simp), below_new w _⟩)
  have HX0 := Lib.hid (HX.out.later (below_new w (.cells #[] 45)) hhi)
  go_enter Tryd.func7, Tryd.ntmps7
  go_wp2_with (at_builtin; refine wp_appN Tryd.underlying22 ext_info (by rfl) (.tmp 3) (.tmp 4) (by rfl) w _ [] xs A n C lo hi (by rfl) (by rfl) hA HO0.out HX0.out (by simp; omega) ?_; intro V2 w2 how2; refine Hid.out ?_)
  obtain ⟨Af, Cf, hV⟩ := own_form how2.own
  rw [List.nil_append] at hV how2
  rw [hl] at hV
  subst hV
  have HO2b := Lib.hid (how2.below (below_new w2 (.cells #[.int .i64 (-9), .int .i64 (-9)] 45)))
  clear how2
  refine go_on ?_
  go_wp2_with (at_builtin; refine wp_app2 Tryd.underlying22 ext_info (by rfl) (.tmp 5) (.tmp 7) (by rfl) w (.slice Af n Cf) xs (-9, -9) w2.heap.size (by rfl) (by rfl) HO2b.out (Bx.new w2 _ _) (by rw [hl]; exact hn) ?_; intro V3 w3 how3; refine Hid.out ?_)
  obtain ⟨g, cap, hV, hg1, hg2⟩ := how3.own.form (by simp)
  have hlen3 : (xs ++ [((-9, -9) : Xt)]).length = n + 1 := by simp [hl]
  rw [hlen3] at hV
  subst hV
  have HL := Lib.hid (show Lent w w3 g n cap xs from ⟨by have h5 := how3.own; rw [hlen3] at h5; exact h5, hl⟩)
  have HB := Lib.hid how3.be
  clear how3 hlen3 hg1 hg2
  have hcap := HL.out.form.1
  refine go_on ?_
  go_wp2
  go_ret
  exact ⟨g, cap, rfl, HL.out, HB.out⟩

set_option maxHeartbeats 4000000 in
set_option maxRecDepth 100000 in
theorem kept_yes (w0 : World) (g C' : Nat) (A : Option Addr) (n C lo hi : Nat) (xs : List Xt) (w : World) (hn : (n + 1) * 16 ≤ 140737488355328) (hL : Lent w0 w g n C' xs) (h : Ex w lo hi A n xs) (hhi : hi ≤ w.heap.size) :
    Calls Tryd.prog 14 #[.slice (some ⟨g, 0, none⟩) n C', .slice A n C] w fun e w' => e = .returned (.bool true) ∧ Below w.heap.size w w' := by
  have hl := h.len
  have hcap := hL.form.1
  have HP := Lib.hid (plain_any A n C lo hi xs w (by omega) h hhi)
  have HLE := Lib.hid hL
  have s1 : wrap64 ((n : Int) + 1) = (n : Int) + 1 := by unfold wrap64; omega
  have s2 : IntKind.i64.wrap ((n : Int) + 1) = (n : Int) + 1 := IntWalk.i64_in _ (by omega)
  have s3 : ((n : Int) + 1).toNat = n + 1 := by omega
  have s4 : (0 : Int) ≤ (n : Int) + 1 := by omega
  have s5 : (n : Int) + 1 ≤ (C' : Int) := by omega
  have s6 : (n : Int) < (n : Int) + 1 := by omega
  clear h hL
  go_enter Tryd.func14, Tryd.ntmps14
  go_wp2_with (go_at_call 10; refine HP.out.mono ?_; rintro _ w2 ⟨V, rfl, how⟩; refine Hid.out ?_)
  obtain ⟨B, D, hV, -, hex2, -⟩ := own_ex how.own
  rw [hl] at hV hex2
  subst hV
  have HL2 := Lib.hid (HLE.out.later how.be)
  have HX2 := Lib.hid hex2
  have HB2 := Lib.hid how.be
  have HQ := Lib.hid (same_any (some ⟨g, 0, none⟩) B n n C' D _ _ _ _ xs xs w2 (by omega) HL2.out.ex (Nat.le_refl _) HX2.out (Nat.le_refl _))
  clear how hex2
  refine go_on ?_
  go_wp2_with (go_at_call 13; refine HQ.out.mono ?_; rintro _ w3 ⟨he, hb3⟩; rw [decide_eq_true rfl] at he; subst he; refine Hid.out ?_)
  obtain ⟨c0, c1⟩ := (HL2.out.later hb3).last
  have HB3 := Lib.hid (below_more HB2.out hb3)
  clear hb3
  refine go_on ?_
  go_wp2
  go_ret
  exact ⟨rfl, HB3.out⟩

theorem Ex.set0 {w : World} {lo hi n b o : Nat} {xs : List Xt} (h : Ex w lo hi (some ⟨b, o, none⟩) n xs) {i : Nat} (hi2 : i < xs.length) (z : Int) :
    Ex (w.setCell ⟨b, o + i * 2, none⟩ (.int .i64 z)) lo hi (some ⟨b, o, none⟩) n (xs.set i (z, xs[i].2)) := by
  refine ⟨by rw [List.length_set]; exact h.len, fun hn => ?_⟩
  obtain ⟨b', o', e, h1, h2, h3⟩ := h.at_ hn
  cases e
  obtain ⟨g1, g2⟩ := cl_get xs i hi2
  have q1 : (w.cell? ⟨b, o + i * 2, none⟩).isSome = true := by rw [h3 _ _ g1]; rfl
  refine ⟨b, o, rfl, h1, h2, fun j u hu => ?_⟩
  rcases cl_set hi2 _ j u hu with ⟨rfl, rfl⟩ | ⟨rfl, rfl⟩ | ⟨n1, n2, hu⟩
  · exact World.cell?_setCell_same' _ _ _ q1
  · rw [cell_ne _ _ _ _ _ (by omega)]
    exact h3 _ _ g2
  · rw [cell_ne _ _ _ _ _ (by omega)]
    exact h3 j u hu
theorem Ex.set1 {w : World} {lo hi n b o : Nat} {xs : List Xt} (h : Ex w lo hi (some ⟨b, o, none⟩) n xs) {i : Nat} (hi2 : i < xs.length) (z : Int) :
    Ex (w.setCell ⟨b, o + i * 2 + 1, none⟩ (.int .i64 z)) lo hi (some ⟨b, o, none⟩) n (xs.set i (xs[i].1, z)) := by
  refine ⟨by rw [List.length_set]; exact h.len, fun hn => ?_⟩
  obtain ⟨b', o', e, h1, h2, h3⟩ := h.at_ hn
  cases e
  obtain ⟨g1, g2⟩ := cl_get xs i hi2
  have q1 : (w.cell? ⟨b, o + (i * 2 + 1), none⟩).isSome = true := by rw [h3 _ _ g2]; rfl
  refine ⟨b, o, rfl, h1, h2, fun j u hu => ?_⟩
  rcases cl_set hi2 _ j u hu with ⟨rfl, rfl⟩ | ⟨rfl, rfl⟩ | ⟨n1, n2, hu⟩
  · rw [cell_ne _ _ _ _ _ (by omega)]
    exact h3 _ _ g1
  · rw [← Nat.add_assoc]
    exact World.cell?_setCell_same' _ _ _ q1
  · rw [cell_ne _ _ _ _ _ (by omega)]
    exact h3 j u hu

end Go.Proofs.YtkdfafaiabidgaaDoor.X5
