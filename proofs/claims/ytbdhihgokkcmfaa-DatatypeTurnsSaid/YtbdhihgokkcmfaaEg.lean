/- The walk of DatatypeChecks. -/
import Derived.Test.YtbdhihgokkcmfaaEf
import Derived.Test.YtbdhihgokkcmfaaEa
import Derived.Test.YtbdhihgokkcmfaaLi
namespace Go.Proofs.Ytbdhihgokkcmfaa.Ty9
set_option linter.unusedVariables false
set_option linter.unusedSimpArgs false
open Go.RowKit Wd

set_option maxHeartbeats 4000000 in
set_option maxRecDepth 100000 in
theorem checks_walk (t : Ty) (v : Value) (w : World) (ht : TyAt w w.heap.size t v) (hfit : Fit t) :
    Calls Try.prog 3 #[v] w fun e w' => e = .returned (.bool true) ∧ Below w.heap.size w w' := by
  obtain ⟨fA, dA, bA, nA, fC, dC, bC, nC, rfl⟩ := ht.shape
  have HT0 := Lib.hid ht
  have HT := Lib.hid ((ht.later (below_new w (.cells #[.int .i64 t.c, .int .i64 t.w, .bool t.big, .slice fA t.fs.length fC, .slice dA t.ds.length dC, .slice bA t.bs.length bC, .slice nA t.ns.length nC] 28))).up (below_new w (.cells #[.int .i64 t.c, .int .i64 t.w, .bool t.big, .slice fA t.fs.length fC, .slice dA t.ds.length dC, .slice bA t.bs.length bC, .slice nA t.ns.length nC] 28)).size)
  have HBX := Lib.hid (Bx.new w 28 #[.int .i64 t.c, .int .i64 t.w, .bool t.big, .slice fA t.fs.length fC, .slice dA t.ds.length dC, .slice bA t.bs.length bC, .slice nA t.ns.length nC])
  have HFIT := Lib.hid hfit
  clear ht hfit
  by_cases hbig : t.left 2000 ≤ 0
  · have HBG := Lib.hid (decide_eq_true hbig)
    clear hbig
    go_enter Try.func3, Try.ntmps3
    go_wp2_with (go_at_call 12; refine (big_any t _ _ ?_).mono ?_)
    · exact HT.out
    rintro _ w2 ⟨he, hb2⟩
    rw [HBG.out] at he
    subst he
    have HW := Lib.hid (below_more (below_new _ _) hb2)
    clear hb2
    go_wp2_with (go_at_call 13; refine (lives_any _).mono ?_)
    rintro _ w3 ⟨rfl, hb3⟩
    have HW3 := Lib.hid (below_more HW.out hb3)
    clear hb3
    go_wp2
    go_ret
    exact ⟨rfl, HW3.out⟩
  have HBG := Lib.hid (decide_eq_false hbig)
  clear hbig
  obtain ⟨r, z, hsv, hev⟩ : ∃ r z, sizeV t = .tuple #[.int .i64 r, .int .i64 z] ∧ errV t = z := by
    by_cases hz : sz 4 t = 0
    · exact ⟨0, 15, if_pos hz, if_pos hz⟩
    · exact ⟨_, 0, if_neg hz, if_neg hz⟩
  have HSV := Lib.hid hsv
  have HEV := Lib.hid hev
  clear hsv hev
  go_enter Try.func3, Try.ntmps3
  go_wp2_with (go_at_call 12; refine (big_any t _ _ ?_).mono ?_)
  · exact HT.out
  rintro _ w2 ⟨he, hb2⟩
  rw [HBG.out] at he
  subst he
  have HW := Lib.hid (below_more (below_new _ _) hb2)
  have hbx := HBX.out.later hb2 (by simp)
  have HBX2 := Lib.hid hbx
  have c0 : w2.cell? ⟨w.heap.size, 0, none⟩ = some (.int .i64 t.c) := hbx.cell 0
  have c1 : w2.cell? ⟨w.heap.size, 1, none⟩ = some (.int .i64 t.w) := hbx.cell 1
  have c2 : w2.cell? ⟨w.heap.size, 2, none⟩ = some (.bool t.big) := hbx.cell 2
  have c3 : w2.cell? ⟨w.heap.size, 3, none⟩ = some (.slice fA t.fs.length fC) := hbx.cell 3
  have c4 : w2.cell? ⟨w.heap.size, 4, none⟩ = some (.slice dA t.ds.length dC) := hbx.cell 4
  have c5 : w2.cell? ⟨w.heap.size, 5, none⟩ = some (.slice bA t.bs.length bC) := hbx.cell 5
  have c6 : w2.cell? ⟨w.heap.size, 6, none⟩ = some (.slice nA t.ns.length nC) := hbx.cell 6
  clear hb2 hbx
  go_wp2_with (go_at_call 14; refine (own_any t HFIT.out _ w2 ((HT0.out.later HW.out).up HW.out.size)).mono ?_)
  first
    | rintro _ w3 u rfl S hL hS hb3
    | rintro _ w3 ⟨u, S, rfl, hL, hS, hb3⟩
  obtain ⟨fA9, dA9, bA9, nA9, fC9, dC9, bC9, nC9, rfl⟩ := hL.here.shape
  have HW3 := Lib.hid (below_more HW.out hb3)
  have HBX3 := Lib.hid (HBX2.out.later hb3 HBX2.out.lt)
  have HL3 := Lib.hid hL
  clear hS hb3 hL c0 c1 c2 c3 c4 c5 c6 HBX HT HW HBX2
  go_upto_region 4 with fail
  have hn := below_new w3 (.cells #[.int .i64 t.c, .int .i64 t.w, .bool t.big, .slice fA9 t.fs.length fC9, .slice dA9 t.ds.length dC9, .slice bA9 t.bs.length bC9, .slice nA9 t.ns.length nC9] 28)
  have hx := Bx.new w3 28 #[.int .i64 t.c, .int .i64 t.w, .bool t.big, .slice fA9 t.fs.length fC9, .slice dA9 t.ds.length dC9, .slice bA9 t.bs.length bC9, .slice nA9 t.ns.length nC9]
  generalize hw4 : (w3.alloc (.cells #[.int .i64 t.c, .int .i64 t.w, .bool t.big, .slice fA9 t.fs.length fC9, .slice dA9 t.ds.length dC9, .slice bA9 t.bs.length bC9, .slice nA9 t.ns.length nC9] 28)) = w4 at hn hx
  clear hw4
  have HW4 := Lib.hid (below_more HW3.out hn)
  have HBX4 := Lib.hid (HBX3.out.later hn HBX3.out.lt)
  have HX4 := Lib.hid hx
  have HL4 := Lib.hid ((HL3.out.here.later hn).up hn.size)
  have x0 : w4.cell? ⟨w3.heap.size, 0, none⟩ = some (.int .i64 t.c) := hx.cell 0
  have x1 : w4.cell? ⟨w3.heap.size, 1, none⟩ = some (.int .i64 t.w) := hx.cell 1
  have x2 : w4.cell? ⟨w3.heap.size, 2, none⟩ = some (.bool t.big) := hx.cell 2
  have x3 : w4.cell? ⟨w3.heap.size, 3, none⟩ = some (.slice fA9 t.fs.length fC9) := hx.cell 3
  have x4 : w4.cell? ⟨w3.heap.size, 4, none⟩ = some (.slice dA9 t.ds.length dC9) := hx.cell 4
  have x5 : w4.cell? ⟨w3.heap.size, 5, none⟩ = some (.slice bA9 t.bs.length bC9) := hx.cell 5
  have x6 : w4.cell? ⟨w3.heap.size, 6, none⟩ = some (.slice nA9 t.ns.length nC9) := hx.cell 6
  clear hn hx HL3 HW3 HBX3
  go_wp2_with (go_at_call 15; refine (psizeV_any t _ w4 HL4.out).mono ?_)
  rintro _ w5 ⟨he, hb5⟩
  rw [HSV.out] at he
  subst he
  have HW5 := Lib.hid (below_more HW4.out hb5)
  have hbx := HBX4.out.later hb5 HBX4.out.lt
  have HBX5 := Lib.hid hbx
  have HX5 := Lib.hid (HX4.out.later hb5 HX4.out.lt)
  have HL5 := Lib.hid ((HL4.out.later hb5).up hb5.size)
  clear x0 x1 x2 x3 x4 x5 x6
  have c0 : w5.cell? ⟨w.heap.size, 0, none⟩ = some (.int .i64 t.c) := hbx.cell 0
  have c1 : w5.cell? ⟨w.heap.size, 1, none⟩ = some (.int .i64 t.w) := hbx.cell 1
  have c2 : w5.cell? ⟨w.heap.size, 2, none⟩ = some (.bool t.big) := hbx.cell 2
  have c3 : w5.cell? ⟨w.heap.size, 3, none⟩ = some (.slice fA t.fs.length fC) := hbx.cell 3
  have c4 : w5.cell? ⟨w.heap.size, 4, none⟩ = some (.slice dA t.ds.length dC) := hbx.cell 4
  have c5 : w5.cell? ⟨w.heap.size, 5, none⟩ = some (.slice bA t.bs.length bC) := hbx.cell 5
  have c6 : w5.cell? ⟨w.heap.size, 6, none⟩ = some (.slice nA t.ns.length nC) := hbx.cell 6
  clear hbx hb5
  go_wp2_with (go_at_call 16; refine (rsize_any t _ w5 ((HT0.out.later HW5.out).up HW5.out.size)).mono ?_)
  rintro _ w6 ⟨he, hb6⟩
  rw [HSV.out] at he
  subst he
  have HW6 := Lib.hid (below_more HW5.out hb6)
  have HBX6 := Lib.hid (HBX5.out.later hb6 HBX5.out.lt)
  have hx := HX5.out.later hb6 HX5.out.lt
  have HX6 := Lib.hid hx
  have HL6 := Lib.hid ((HL5.out.later hb6).up hb6.size)
  clear c0 c1 c2 c3 c4 c5 c6
  have x0 : w6.cell? ⟨w3.heap.size, 0, none⟩ = some (.int .i64 t.c) := hx.cell 0
  have x1 : w6.cell? ⟨w3.heap.size, 1, none⟩ = some (.int .i64 t.w) := hx.cell 1
  have x2 : w6.cell? ⟨w3.heap.size, 2, none⟩ = some (.bool t.big) := hx.cell 2
  have x3 : w6.cell? ⟨w3.heap.size, 3, none⟩ = some (.slice fA9 t.fs.length fC9) := hx.cell 3
  have x4 : w6.cell? ⟨w3.heap.size, 4, none⟩ = some (.slice dA9 t.ds.length dC9) := hx.cell 4
  have x5 : w6.cell? ⟨w3.heap.size, 5, none⟩ = some (.slice bA9 t.bs.length bC9) := hx.cell 5
  have x6 : w6.cell? ⟨w3.heap.size, 6, none⟩ = some (.slice nA9 t.ns.length nC9) := hx.cell 6
  clear hx hb6 HX4 HX5 HL4 HL5 HBX4 HBX5 HW4 HW5
  go_wp2_with (go_at_call 17; refine (check_any t _ w6 HL6.out).mono ?_)
  rintro _ w7 ⟨he, hb7⟩
  rw [HEV.out] at he
  subst he
  have HW7 := Lib.hid (below_more HW6.out hb7)
  have hbx := HBX6.out.later hb7 HBX6.out.lt
  have hx := HX6.out.later hb7 HX6.out.lt
  have HL7 := Lib.hid ((HL6.out.later hb7).up hb7.size)
  clear x0 x1 x2 x3 x4 x5 x6
  have c0 : w7.cell? ⟨w.heap.size, 0, none⟩ = some (.int .i64 t.c) := hbx.cell 0
  have c1 : w7.cell? ⟨w.heap.size, 1, none⟩ = some (.int .i64 t.w) := hbx.cell 1
  have c2 : w7.cell? ⟨w.heap.size, 2, none⟩ = some (.bool t.big) := hbx.cell 2
  have c3 : w7.cell? ⟨w.heap.size, 3, none⟩ = some (.slice fA t.fs.length fC) := hbx.cell 3
  have c4 : w7.cell? ⟨w.heap.size, 4, none⟩ = some (.slice dA t.ds.length dC) := hbx.cell 4
  have c5 : w7.cell? ⟨w.heap.size, 5, none⟩ = some (.slice bA t.bs.length bC) := hbx.cell 5
  have c6 : w7.cell? ⟨w.heap.size, 6, none⟩ = some (.slice nA t.ns.length nC) := hbx.cell 6
  have x0 : w7.cell? ⟨w3.heap.size, 0, none⟩ = some (.int .i64 t.c) := hx.cell 0
  have x1 : w7.cell? ⟨w3.heap.size, 1, none⟩ = some (.int .i64 t.w) := hx.cell 1
  have x2 : w7.cell? ⟨w3.heap.size, 2, none⟩ = some (.bool t.big) := hx.cell 2
  have x3 : w7.cell? ⟨w3.heap.size, 3, none⟩ = some (.slice fA9 t.fs.length fC9) := hx.cell 3
  have x4 : w7.cell? ⟨w3.heap.size, 4, none⟩ = some (.slice dA9 t.ds.length dC9) := hx.cell 4
  have x5 : w7.cell? ⟨w3.heap.size, 5, none⟩ = some (.slice bA9 t.bs.length bC9) := hx.cell 5
  have x6 : w7.cell? ⟨w3.heap.size, 6, none⟩ = some (.slice nA9 t.ns.length nC9) := hx.cell 6
  clear hx hbx hb7 HX6 HL6 HBX6 HW6
  go_wp2_with (go_at_call 18; refine (same_refl t _ _ w7 HL7.out ((HT0.out.later HW7.out).up HW7.out.size)).mono ?_)
  rintro _ w8 ⟨rfl, hb8⟩
  have HW8 := Lib.hid (below_more HW7.out hb8)
  clear c0 c1 c2 c3 c4 c5 c6
  clear x0 x1 x2 x3 x4 x5 x6
  clear hb8
  go_wp2_with (go_at_call 13; refine (lives_any _).mono ?_)
  first
    | rintro _ w9 rfl hb9
    | rintro _ w9 ⟨rfl, hb9⟩
  have HW9 := Lib.hid (below_more HW8.out hb9)
  clear hb9
  go_wp2
  go_ret
  exact ⟨rfl, HW9.out⟩
end Go.Proofs.Ytbdhihgokkcmfaa.Ty9
