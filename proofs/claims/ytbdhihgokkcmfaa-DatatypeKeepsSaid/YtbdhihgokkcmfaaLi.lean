/- lives and big. -/
import Derived.Test.YtbdhihgokkcmfaaLh
import Derived.Test.YtbdhihgokkcmfaaLf
import Derived.Test.YtbdhihgokkcmfaaOg
namespace Go.Proofs.Ytbdhihgokkcmfaa.Ty9
set_option linter.unusedVariables false
set_option linter.unusedSimpArgs false
open Go.RowKit Wd

set_option maxHeartbeats 4000000 in
set_option maxRecDepth 100000 in
theorem lives_any (w : World) : Calls Try.prog 13 #[] w fun e w' => e = .returned (.bool true) ∧ Below w.heap.size w w' := by
  go_enter Try.func13, Try.ntmps13
  go_wp2_with (go_at_call 32; refine (pair_any 12 w).mono ?_)
  rintro _ w1 ⟨v1, rfl, ht1, hb1⟩
  have hz12 : sz 4 (pairT 12) = 12 := by rw [sz_pair 12 (by omega) (by omega)]; rfl
  have HZ12 := Lib.hid hz12
  have hs12 : sizeV (pairT 12) = .tuple #[.int .i64 12, .int .i64 0] := by rw [sizeV, hz12]; rfl
  have HS12 := Lib.hid hs12
  clear hz12 hs12
  have HB1 := Lib.hid hb1
  have HT1 := Lib.hid ht1
  clear hb1 ht1
  go_wp2_with (go_at_call 15; refine (psizeV_any (pairT 12) v1 w1 HT1.out).mono ?_)
  rintro _ w2 ⟨he, hb2⟩
  rw [HS12.out] at he
  subst he
  have HB2 := Lib.hid (below_more HB1.out hb2)
  clear hb2 HB1 HT1 HS12
  go_wp2_with (go_at_call 32; refine (pair_any 12 w2).mono ?_)
  rintro _ w3 ⟨v3, rfl, ht3, hb3⟩
  have HB3 := Lib.hid (below_more HB2.out hb3)
  have HT3 := Lib.hid ht3
  have hnz : sz 4 (pairT 12) ≠ 0 := by rw [HZ12.out]; decide
  have HNZ := Lib.hid hnz
  clear hb3 ht3 HB2 hnz HZ12
  go_wp2_with (go_at_call 19; refine (places_yes (pairT 12) v3 w3 HT3.out HNZ.out).mono ?_)
  rintro _ w4 ⟨V, rfl, ho, hb4⟩
  rw [pls_pair] at ho
  obtain ⟨g, cap, hV, hg1, hg2⟩ := ho.form (by show 0 < 3; omega)
  have hV' : V = .slice (some ⟨g, 0, none⟩) 3 cap := hV
  subst hV'
  have k8 : w4.cell? ⟨g, 8, none⟩ = some (.int .i64 8) := (ho.cellAt 8 (by show 8 < 3 * 4; omega))
  have k9 : w4.cell? ⟨g, 9, none⟩ = some (.int .i64 3) := (ho.cellAt 9 (by show 9 < 3 * 4; omega))
  have k10 : w4.cell? ⟨g, 10, none⟩ = some (.int .i64 4) := (ho.cellAt 10 (by show 10 < 3 * 4; omega))
  have k11 : w4.cell? ⟨g, 11, none⟩ = some (.bool false) := (ho.cellAt 11 (by show 11 < 3 * 4; omega))
  have HB4 := Lib.hid (below_more HB3.out hb4)
  have K8 := Lib.hid k8
  have K9 := Lib.hid k9
  have K10 := Lib.hid k10
  have K11 := Lib.hid k11
  clear ho hb4 hV hg1 HB3 HT3 HNZ k8 k9 k10 k11
  have hz3 : sz 4 (numT 1 3) ≠ 0 := by rw [sz_int3]; decide
  have HZ3 := Lib.hid hz3
  clear hz3
  go_wp2_with (go_at_call 21; refine (bytes_yes (numT 1 3) _ w4 (numT_at 1 3) HZ3.out).mono ?_)
  rintro _ w5 ⟨V5, rfl, ho5, hl5, hb5⟩
  rw [lb_int3] at ho5
  obtain ⟨g5, cap5, hV, hg51, hg52⟩ := ho5.form (by show 0 < 3; omega)
  have hV' : V5 = .slice (some ⟨g5, 0, none⟩) 3 cap5 := hV
  subst hV'
  have q0 : w5.cell? ⟨g5, 0, none⟩ = some (.int .u8 1) := (ho5.cellAt 0 (by show 0 < 3 * 1; omega))
  have q1 : w5.cell? ⟨g5, 1, none⟩ = some (.int .u8 3) := (ho5.cellAt 1 (by show 1 < 3 * 1; omega))
  have q2 : w5.cell? ⟨g5, 2, none⟩ = some (.int .u8 0) := (ho5.cellAt 2 (by show 2 < 3 * 1; omega))
  have k8 := (hb5.cell (p := ⟨g, 8, none⟩) hg2).trans K8.out
  have k9 := (hb5.cell (p := ⟨g, 9, none⟩) hg2).trans K9.out
  have k10 := (hb5.cell (p := ⟨g, 10, none⟩) hg2).trans K10.out
  have k11 := (hb5.cell (p := ⟨g, 11, none⟩) hg2).trans K11.out
  have HB5 := Lib.hid (below_more HB4.out hb5)
  have HY5 := Lib.hid (Byt.of_own (bs := [1, 3, 0]) ho5 (fun x hx => hl5 x (by rw [lb_int3]; exact hx)))
  clear ho5 hb5 hV hg51 HB4 hl5 K8 K9 K10 K11
  have hcv := conv_bytes HY5.out cap5
  rw [show strOf [1, 3, 0] = ⟨#[1, 3, 0]⟩ from rfl] at hcv
  go_wp2_with (go_at_call 32; refine (pair_any 8 _).mono ?_)
  rintro _ w6 ⟨v6, rfl, ht6, hb6⟩
  have HB6 := Lib.hid (below_more HB5.out hb6)
  have HT6 := Lib.hid ht6
  have hz8 : errV (pairT 8) = 15 := if_pos (by rw [sz_pair 8 (by omega) (by omega)]; rfl)
  have HZ8 := Lib.hid hz8
  clear hb6 ht6 HB5 hz8 hcv q0 q1 q2 k8 k9 k10 k11 HY5
  go_wp2_with (go_at_call 17; refine (check_any (pairT 8) v6 w6 HT6.out).mono ?_)
  rintro _ w7 ⟨he, hb7⟩
  rw [HZ8.out] at he
  subst he
  have HB7 := Lib.hid (below_more HB6.out hb7)
  clear hb7 HB6 HT6 HZ8
  go_wp2
  go_ret
  exact ⟨rfl, HB7.out⟩

set_option maxHeartbeats 2000000 in
set_option maxRecDepth 100000 in
theorem big_any (t : Ty) (v : Value) (w : World) (ht : TyAt w w.heap.size t v) :
    Calls Try.prog 12 #[v] w fun e w' => e = .returned (.bool (decide (t.left 2000 ≤ 0))) ∧ Below w.heap.size w w' := by
  obtain ⟨fA, dA, bA, nA, fC, dC, bC, nC, rfl⟩ := ht.shape
  have HT := Lib.hid ((ht.later (below_new w (.cells #[.int .i64 t.c, .int .i64 t.w, .bool t.big, .slice fA t.fs.length fC, .slice dA t.ds.length dC, .slice bA t.bs.length bC, .slice nA t.ns.length nC] 28))).up (below_new w (.cells #[.int .i64 t.c, .int .i64 t.w, .bool t.big, .slice fA t.fs.length fC, .slice dA t.ds.length dC, .slice bA t.bs.length bC, .slice nA t.ns.length nC] 28)).size)
  generalize hq : t.left 2000 = q
  have HQ := Lib.hid hq
  clear ht hq
  go_enter Try.func12, Try.ntmps12
  go_wp2_with (go_at_call 31; refine (left_any t 2000 _ _ (by omega) (by omega) ?_).mono ?_)
  · exact HT.out
  rintro _ w2 ⟨he, hb2⟩
  rw [HQ.out] at he
  subst he
  have HW := Lib.hid (below_more (below_new _ _) hb2)
  clear hb2
  go_wp2
  go_ret
  exact ⟨rfl, HW.out⟩
end Go.Proofs.Ytbdhihgokkcmfaa.Ty9
