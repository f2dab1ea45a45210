/- The walk of DatatypeTurns. -/
import Derived.Test.YtbdhihgokkcmfaaGg
import Derived.Test.YtbdhihgokkcmfaaGi
import Derived.Test.YtbdhihgokkcmfaaEg
namespace Go.Proofs.Ytbdhihgokkcmfaa.Ty9
set_option linter.unusedVariables false
set_option linter.unusedSimpArgs false
open Go.RowKit Wd

set_option maxHeartbeats 4000000 in
set_option maxRecDepth 100000 in
theorem turns_walk (t : Ty) (v : Value) (bg : Bool) (w : World) (ht : TyAt w w.heap.size t v) (hfit : Fit t) :
    Calls Try.prog 7 #[v, .bool bg] w fun e w' => e = .returned (.bool true) ∧ Below w.heap.size w w' := by
  obtain ⟨fA, dA, bA, nA, fC, dC, bC, nC, rfl⟩ := ht.shape
  have HT0 := Lib.hid ht
  have HBW := Lib.hid (below_new w (.cells #[.int .i64 t.c, .int .i64 t.w, .bool t.big, .slice fA t.fs.length fC, .slice dA t.ds.length dC, .slice bA t.bs.length bC, .slice nA t.ns.length nC] 28))
  have HT := Lib.hid ((ht.later (below_new w (.cells #[.int .i64 t.c, .int .i64 t.w, .bool t.big, .slice fA t.fs.length fC, .slice dA t.ds.length dC, .slice bA t.bs.length bC, .slice nA t.ns.length nC] 28))).up (below_new w (.cells #[.int .i64 t.c, .int .i64 t.w, .bool t.big, .slice fA t.fs.length fC, .slice dA t.ds.length dC, .slice bA t.bs.length bC, .slice nA t.ns.length nC] 28)).size)
  have HBX := Lib.hid (Bx.new w 28 #[.int .i64 t.c, .int .i64 t.w, .bool t.big, .slice fA t.fs.length fC, .slice dA t.ds.length dC, .slice bA t.bs.length bC, .slice nA t.ns.length nC])
  have HFIT := Lib.hid hfit
  clear ht hfit
  by_cases hbig : t.left 2000 ≤ 0
  · have HBG := Lib.hid (decide_eq_true hbig)
    clear hbig
    go_enter Try.func7, Try.ntmps7
    go_wp2_with (go_at_call 12; refine (big_any t _ _ ?_).mono ?_)
    · exact HT.out
    rintro _ w2 ⟨he, hb2⟩
    rw [HBG.out] at he
    subst he
    have HW := Lib.hid (below_more (below_new _ _) hb2)
    clear hb2
    go_wp2_with (go_at_call 13; refine (lives_any _).mono ?_)
    rintro _ w3 ⟨rfl, hb3⟩
    have HW3 := Lib.hid (below_more HW.out hb3)
    clear hb3
    go_wp2
    go_ret
    exact ⟨rfl, HW3.out⟩
  have HBG := Lib.hid (decide_eq_false hbig)
  clear hbig
  obtain ⟨z, hz⟩ : ∃ z, errV t = z := ⟨_, rfl⟩
  have HEV := Lib.hid hz
  obtain ⟨T, hT⟩ : ∃ T, tT bg t = T := ⟨_, rfl⟩
  have HTT := Lib.hid hT
  clear hz hT
  go_enter Try.func7, Try.ntmps7
  go_wp2_with (go_at_call 12; refine (big_any t _ _ ?_).mono ?_)
  · exact HT.out
  rintro _ w2 ⟨he, hb2⟩
  rw [HBG.out] at he
  subst he
  have HW2 := Lib.hid (below_more HBW.out hb2)
  have hbx := HBX.out.later hb2 (by simp)
  have HB2 := Lib.hid hbx
  have c0 : w2.cell? ⟨w.heap.size, 0, none⟩ = some (.int .i64 t.c) := hbx.cell 0
  have c1 : w2.cell? ⟨w.heap.size, 1, none⟩ = some (.int .i64 t.w) := hbx.cell 1
  have c2 : w2.cell? ⟨w.heap.size, 2, none⟩ = some (.bool t.big) := hbx.cell 2
  have c3 : w2.cell? ⟨w.heap.size, 3, none⟩ = some (.slice fA t.fs.length fC) := hbx.cell 3
  have c4 : w2.cell? ⟨w.heap.size, 4, none⟩ = some (.slice dA t.ds.length dC) := hbx.cell 4
  have c5 : w2.cell? ⟨w.heap.size, 5, none⟩ = some (.slice bA t.bs.length bC) := hbx.cell 5
  have c6 : w2.cell? ⟨w.heap.size, 6, none⟩ = some (.slice nA t.ns.length nC) := hbx.cell 6
  clear hb2 hbx
  go_wp2_with (go_at_call 14; refine (own_any t HFIT.out _ w2 ((HT0.out.later HW2.out).up HW2.out.size)).mono ?_)
  first
    | rintro _ w3 u rfl S hL hS hb3
    | rintro _ w3 ⟨u, S, rfl, hL, hS, hb3⟩
  obtain ⟨fA9, dA9, bA9, nA9, fC9, dC9, bC9, nC9, rfl⟩ := hL.here.shape
  have HW3 := Lib.hid (below_more HW2.out hb3)
  have HB3 := Lib.hid (HB2.out.later hb3 HB2.out.lt)
  have HL3 := Lib.hid hL.here
  clear hS hb3 hL HBX HT HW2 HB2
  clear c0 c1 c2 c3 c4 c5 c6
  go_upto_region 4 with fail
  have hn := below_new w3 (.cells #[.int .i64 t.c, .int .i64 t.w, .bool t.big, .slice fA9 t.fs.length fC9, .slice dA9 t.ds.length dC9, .slice bA9 t.bs.length bC9, .slice nA9 t.ns.length nC9] 28)
  have hx := Bx.new w3 28 #[.int .i64 t.c, .int .i64 t.w, .bool t.big, .slice fA9 t.fs.length fC9, .slice dA9 t.ds.length dC9, .slice bA9 t.bs.length bC9, .slice nA9 t.ns.length nC9]
  have hs4 := size_alloc w3 (.cells #[.int .i64 t.c, .int .i64 t.w, .bool t.big, .slice fA9 t.fs.length fC9, .slice dA9 t.ds.length dC9, .slice bA9 t.bs.length bC9, .slice nA9 t.ns.length nC9] 28)
  generalize hw4 : (w3.alloc (.cells #[.int .i64 t.c, .int .i64 t.w, .bool t.big, .slice fA9 t.fs.length fC9, .slice dA9 t.ds.length dC9, .slice bA9 t.bs.length bC9, .slice nA9 t.ns.length nC9] 28)) = w4 at hn hx hs4
  clear hw4
  have HS4 := Lib.hid hs4
  have HWL := Lib.hid (show w.heap.size < w4.heap.size by have := HB3.out.lt; omega)
  have HW4 := Lib.hid (below_more HW3.out hn)
  have HB4 := Lib.hid (HB3.out.later hn HB3.out.lt)
  have HX4 := Lib.hid hx
  have HL4 := Lib.hid (HL3.out.later hn)
  have x0 : w4.cell? ⟨w3.heap.size, 0, none⟩ = some (.int .i64 t.c) := hx.cell 0
  have x1 : w4.cell? ⟨w3.heap.size, 1, none⟩ = some (.int .i64 t.w) := hx.cell 1
  have x2 : w4.cell? ⟨w3.heap.size, 2, none⟩ = some (.bool t.big) := hx.cell 2
  have x3 : w4.cell? ⟨w3.heap.size, 3, none⟩ = some (.slice fA9 t.fs.length fC9) := hx.cell 3
  have x4 : w4.cell? ⟨w3.heap.size, 4, none⟩ = some (.slice dA9 t.ds.length dC9) := hx.cell 4
  have x5 : w4.cell? ⟨w3.heap.size, 5, none⟩ = some (.slice bA9 t.bs.length bC9) := hx.cell 5
  have x6 : w4.cell? ⟨w3.heap.size, 6, none⟩ = some (.slice nA9 t.ns.length nC9) := hx.cell 6
  clear hn hx hs4 HL3 HW3 HB3
  go_wp2_with (go_at_call 23; refine (pturn_any bg t HFIT.out _ w4 (HL4.out.up (by have := HS4.out; omega))).mono ?_)
  first
    | rintro _ w5 u rfl hsg hb5
    | rintro _ w5 ⟨u, rfl, hsg, hb5⟩
  rw [HTT.out] at hsg
  rw [HEV.out]
  obtain ⟨fA8, dA8, bA8, nA8, fC8, dC8, bC8, nC8, rfl⟩ := (hsg.ty (Nat.le_refl _)).shape
  have HW5 := Lib.hid (below_more HW4.out hb5)
  have HB5 := Lib.hid (HB4.out.later hb5 HB4.out.lt)
  have HX5 := Lib.hid (HX4.out.later hb5 HX4.out.lt)
  have HL5 := Lib.hid (HL4.out.later (hb5.mono (by have := HS4.out; omega)))
  have HSG5 := Lib.hid hsg
  have HZ5 := Lib.hid hb5.size
  clear hb5 hsg HL4 HB4 HX4 HW4
  clear x0 x1 x2 x3 x4 x5 x6
  go_upto_region 5 with fail
  have hn := below_new w5 (.cells #[.int .i64 T.c, .int .i64 T.w, .bool T.big, .slice fA8 T.fs.length fC8, .slice dA8 T.ds.length dC8, .slice bA8 T.bs.length bC8, .slice nA8 T.ns.length nC8] 28)
  have hx := Bx.new w5 28 #[.int .i64 T.c, .int .i64 T.w, .bool T.big, .slice fA8 T.fs.length fC8, .slice dA8 T.ds.length dC8, .slice bA8 T.bs.length bC8, .slice nA8 T.ns.length nC8]
  have hs6 := size_alloc w5 (.cells #[.int .i64 T.c, .int .i64 T.w, .bool T.big, .slice fA8 T.fs.length fC8, .slice dA8 T.ds.length dC8, .slice bA8 T.bs.length bC8, .slice nA8 T.ns.length nC8] 28)
  generalize hw6 : (w5.alloc (.cells #[.int .i64 T.c, .int .i64 T.w, .bool T.big, .slice fA8 T.fs.length fC8, .slice dA8 T.ds.length dC8, .slice bA8 T.bs.length bC8, .slice nA8 T.ns.length nC8] 28)) = w6 at hn hx hs6
  clear hw6
  have HW6 := Lib.hid (below_more HW5.out hn)
  have hbx := HB5.out.later hn HB5.out.lt
  have HB6 := Lib.hid hbx
  have HX6 := Lib.hid (HX5.out.later hn HX5.out.lt)
  have HU6 := Lib.hid hx
  have HL6 := Lib.hid (HL5.out.later (hn.mono (by have := HS4.out; have := HZ5.out; omega)))
  have HSG6 := Lib.hid (HSG5.out.keep (w2 := w6) fun g h1 h2 => hn.block g h2)
  have HZ6 := Lib.hid hn.size
  have c0 : w6.cell? ⟨w.heap.size, 0, none⟩ = some (.int .i64 t.c) := hbx.cell 0
  have c1 : w6.cell? ⟨w.heap.size, 1, none⟩ = some (.int .i64 t.w) := hbx.cell 1
  have c2 : w6.cell? ⟨w.heap.size, 2, none⟩ = some (.bool t.big) := hbx.cell 2
  have c3 : w6.cell? ⟨w.heap.size, 3, none⟩ = some (.slice fA t.fs.length fC) := hbx.cell 3
  have c4 : w6.cell? ⟨w.heap.size, 4, none⟩ = some (.slice dA t.ds.length dC) := hbx.cell 4
  have c5 : w6.cell? ⟨w.heap.size, 5, none⟩ = some (.slice bA t.bs.length bC) := hbx.cell 5
  have c6 : w6.cell? ⟨w.heap.size, 6, none⟩ = some (.slice nA t.ns.length nC) := hbx.cell 6
  clear hn hx hs6 hbx HL5 HB5 HX5 HW5 HSG5
  go_wp2_with (go_at_call 24; refine (rturn_any bg t HFIT.out _ w6 ((HT0.out.later HW6.out).up HW6.out.size)).mono ?_)
  first
    | rintro _ w7 u rfl hsg hb7
    | rintro _ w7 ⟨u, rfl, hsg, hb7⟩
  rw [HTT.out] at hsg
  rw [HEV.out]
  obtain ⟨fA7, dA7, bA7, nA7, fC7, dC7, bC7, nC7, rfl⟩ := hsg.shape
  have HW7 := Lib.hid (below_more HW6.out hb7)
  have HB7 := Lib.hid (HB6.out.later hb7 HB6.out.lt)
  have HX7 := Lib.hid (HX6.out.later hb7 HX6.out.lt)
  have HU7 := Lib.hid (HU6.out.later hb7 HU6.out.lt)
  have HL7 := Lib.hid (HL6.out.later (hb7.mono (by have := HS4.out; have := HZ5.out; have := HZ6.out; omega)))
  have HSG7 := Lib.hid (HSG6.out.keep (w2 := w7) fun g h1 h2 => hb7.block g (Nat.lt_of_lt_of_le h2 HZ6.out))
  have HR7 := Lib.hid hsg
  have HZ7 := Lib.hid hb7.size
  clear hb7 hsg HL6 HB6 HX6 HU6 HW6 HSG6
  clear c0 c1 c2 c3 c4 c5 c6
  go_upto_region 6 with fail
  have hn := below_new w7 (.cells #[.int .i64 T.c, .int .i64 T.w, .bool T.big, .slice fA7 T.fs.length fC7, .slice dA7 T.ds.length dC7, .slice bA7 T.bs.length bC7, .slice nA7 T.ns.length nC7] 28)
  have hx := Bx.new w7 28 #[.int .i64 T.c, .int .i64 T.w, .bool T.big, .slice fA7 T.fs.length fC7, .slice dA7 T.ds.length dC7, .slice bA7 T.bs.length bC7, .slice nA7 T.ns.length nC7]
  have hs8 := size_alloc w7 (.cells #[.int .i64 T.c, .int .i64 T.w, .bool T.big, .slice fA7 T.fs.length fC7, .slice dA7 T.ds.length dC7, .slice bA7 T.bs.length bC7, .slice nA7 T.ns.length nC7] 28)
  generalize hw8 : (w7.alloc (.cells #[.int .i64 T.c, .int .i64 T.w, .bool T.big, .slice fA7 T.fs.length fC7, .slice dA7 T.ds.length dC7, .slice bA7 T.bs.length bC7, .slice nA7 T.ns.length nC7] 28)) = w8 at hn hx hs8
  clear hw8
  have HW8 := Lib.hid (below_more HW7.out hn)
  have HB8 := Lib.hid (HB7.out.later hn HB7.out.lt)
  have HX8 := Lib.hid (HX7.out.later hn HX7.out.lt)
  have hux := HU7.out.later hn HU7.out.lt
  have HU8 := Lib.hid hux
  have HL8 := Lib.hid (HL7.out.later (hn.mono (by have := HS4.out; have := HZ5.out; have := HZ6.out; have := HZ7.out; omega)))
  have HSG8 := Lib.hid (HSG7.out.keep (w2 := w8) fun g h1 h2 => hn.block g (by have := HZ6.out; have := HZ7.out; omega))
  have HR8 := Lib.hid ((HR7.out.later hn).up hn.size)
  have HZ8 := Lib.hid hn.size
  have x0 : w8.cell? ⟨w5.heap.size, 0, none⟩ = some (.int .i64 T.c) := hux.cell 0
  have x1 : w8.cell? ⟨w5.heap.size, 1, none⟩ = some (.int .i64 T.w) := hux.cell 1
  have x2 : w8.cell? ⟨w5.heap.size, 2, none⟩ = some (.bool T.big) := hux.cell 2
  have x3 : w8.cell? ⟨w5.heap.size, 3, none⟩ = some (.slice fA8 T.fs.length fC8) := hux.cell 3
  have x4 : w8.cell? ⟨w5.heap.size, 4, none⟩ = some (.slice dA8 T.ds.length dC8) := hux.cell 4
  have x5 : w8.cell? ⟨w5.heap.size, 5, none⟩ = some (.slice bA8 T.bs.length bC8) := hux.cell 5
  have x6 : w8.cell? ⟨w5.heap.size, 6, none⟩ = some (.slice nA8 T.ns.length nC8) := hux.cell 6
  have c0 : w8.cell? ⟨w7.heap.size, 0, none⟩ = some (.int .i64 T.c) := hx.cell 0
  have c1 : w8.cell? ⟨w7.heap.size, 1, none⟩ = some (.int .i64 T.w) := hx.cell 1
  have c2 : w8.cell? ⟨w7.heap.size, 2, none⟩ = some (.bool T.big) := hx.cell 2
  have c3 : w8.cell? ⟨w7.heap.size, 3, none⟩ = some (.slice fA7 T.fs.length fC7) := hx.cell 3
  have c4 : w8.cell? ⟨w7.heap.size, 4, none⟩ = some (.slice dA7 T.ds.length dC7) := hx.cell 4
  have c5 : w8.cell? ⟨w7.heap.size, 5, none⟩ = some (.slice bA7 T.bs.length bC7) := hx.cell 5
  have c6 : w8.cell? ⟨w7.heap.size, 6, none⟩ = some (.slice nA7 T.ns.length nC7) := hx.cell 6
  clear hn hx hs8 hux HL7 HB7 HX7 HU7 HW7 HSG7 HR7
  go_wp2_with (go_at_call 18; refine (same_refl T _ _ w8 (HSG8.out.ty (by have := HZ6.out; have := HZ7.out; have := HZ8.out; omega)) HR8.out).mono ?_)
  rintro _ w9 ⟨rfl, hb9⟩
  have HW9 := Lib.hid (below_more HW8.out hb9)
  have HB9 := Lib.hid (HB8.out.later hb9 HB8.out.lt)
  have HX9 := Lib.hid (HX8.out.later hb9 HX8.out.lt)
  have hux := HU8.out.later hb9 HU8.out.lt
  have HL9 := Lib.hid (HL8.out.later (hb9.mono (by have := HS4.out; have := HZ5.out; have := HZ6.out; have := HZ7.out; have := HZ8.out; omega)))
  have HSG9 := Lib.hid (HSG8.out.keep (w2 := w9) fun g h1 h2 => hb9.block g (by have := HZ6.out; have := HZ7.out; have := HZ8.out; omega))
  have HZ9 := Lib.hid hb9.size
  clear x0 x1 x2 x3 x4 x5 x6 c0 c1 c2 c3 c4 c5 c6
  have x0 : w9.cell? ⟨w5.heap.size, 0, none⟩ = some (.int .i64 T.c) := hux.cell 0
  have x1 : w9.cell? ⟨w5.heap.size, 1, none⟩ = some (.int .i64 T.w) := hux.cell 1
  have x2 : w9.cell? ⟨w5.heap.size, 2, none⟩ = some (.bool T.big) := hux.cell 2
  have x3 : w9.cell? ⟨w5.heap.size, 3, none⟩ = some (.slice fA8 T.fs.length fC8) := hux.cell 3
  have x4 : w9.cell? ⟨w5.heap.size, 4, none⟩ = some (.slice dA8 T.ds.length dC8) := hux.cell 4
  have x5 : w9.cell? ⟨w5.heap.size, 5, none⟩ = some (.slice bA8 T.bs.length bC8) := hux.cell 5
  have x6 : w9.cell? ⟨w5.heap.size, 6, none⟩ = some (.slice nA8 T.ns.length nC8) := hux.cell 6
  have h9 : w5.heap.size ≤ w9.heap.size := by have := HZ6.out; have := HZ7.out; have := HZ8.out; have := HZ9.out; omega
  clear hux hb9 HL8 HB8 HX8 HU8 HW8 HSG8 HR8
  go_wp2_with (go_at_call 25; refine (spoil_any T _ w9 _ _ h9 HSG9.out).mono ?_)
  first
    | rintro _ w10 rfl hch
    | rintro _ w10 ⟨rfl, hch⟩
  have hb4 : Below w4.heap.size w9 w10 := hch.below (by have := HZ5.out; omega) (fun j h => h.1)
  have hs4 := HS4.out
  have hs3 := HX9.out.lt
  have HW10 := Lib.hid (HW9.out.trans (hb4.mono (by have := HB9.out.lt; have := HW9.out.size; have := HZ5.out; have := HWL.out; omega)))
  have hbx := HB9.out.later hb4 (by have := HWL.out; omega)
  have hx := HX9.out.later hb4 (by omega)
  have HL10 := Lib.hid ((HL9.out.later (hb4.mono (by omega))).up (B' := w10.heap.size) (by have := hch.size; omega))
  clear x0 x1 x2 x3 x4 x5 x6
  have c0 : w10.cell? ⟨w.heap.size, 0, none⟩ = some (.int .i64 t.c) := hbx.cell 0
  have c1 : w10.cell? ⟨w.heap.size, 1, none⟩ = some (.int .i64 t.w) := hbx.cell 1
  have c2 : w10.cell? ⟨w.heap.size, 2, none⟩ = some (.bool t.big) := hbx.cell 2
  have c3 : w10.cell? ⟨w.heap.size, 3, none⟩ = some (.slice fA t.fs.length fC) := hbx.cell 3
  have c4 : w10.cell? ⟨w.heap.size, 4, none⟩ = some (.slice dA t.ds.length dC) := hbx.cell 4
  have c5 : w10.cell? ⟨w.heap.size, 5, none⟩ = some (.slice bA t.bs.length bC) := hbx.cell 5
  have c6 : w10.cell? ⟨w.heap.size, 6, none⟩ = some (.slice nA t.ns.length nC) := hbx.cell 6
  have x0 : w10.cell? ⟨w3.heap.size, 0, none⟩ = some (.int .i64 t.c) := hx.cell 0
  have x1 : w10.cell? ⟨w3.heap.size, 1, none⟩ = some (.int .i64 t.w) := hx.cell 1
  have x2 : w10.cell? ⟨w3.heap.size, 2, none⟩ = some (.bool t.big) := hx.cell 2
  have x3 : w10.cell? ⟨w3.heap.size, 3, none⟩ = some (.slice fA9 t.fs.length fC9) := hx.cell 3
  have x4 : w10.cell? ⟨w3.heap.size, 4, none⟩ = some (.slice dA9 t.ds.length dC9) := hx.cell 4
  have x5 : w10.cell? ⟨w3.heap.size, 5, none⟩ = some (.slice bA9 t.bs.length bC9) := hx.cell 5
  have x6 : w10.cell? ⟨w3.heap.size, 6, none⟩ = some (.slice nA9 t.ns.length nC9) := hx.cell 6
  clear hbx hx hb4 hch HSG9 HL9
  go_wp2_with (go_at_call 18; refine (same_refl t _ _ w10 HL10.out ((HT0.out.later HW10.out).up HW10.out.size)).mono ?_)
  rintro _ w11 ⟨rfl, hb11⟩
  have HW11 := Lib.hid (below_more HW10.out hb11)
  clear x0 x1 x2 x3 x4 x5 x6 c0 c1 c2 c3 c4 c5 c6
  clear hb11
  go_wp2_with (go_at_call 13; refine (lives_any _).mono ?_)
  first
    | rintro _ w12 rfl hb12
    | rintro _ w12 ⟨rfl, hb12⟩
  have HW12 := Lib.hid (below_more HW11.out hb12)
  clear hb12
  go_wp2
  go_ret
  exact ⟨rfl, HW12.out⟩
end Go.Proofs.Ytbdhihgokkcmfaa.Ty9
