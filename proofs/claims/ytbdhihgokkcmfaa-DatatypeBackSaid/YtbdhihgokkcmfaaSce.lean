/- reader.read: a type read from bytes. -/
import Derived.Test.YtbdhihgokkcmfaaScc
import Derived.Deep.RegionLawGrows
namespace Go.Proofs.Ytbdhihgokkcmfaa.Ty9
set_option linter.unusedVariables false
set_option linter.unusedSimpArgs false
open Go.RowKit Wd

theorem rnum1 (gs p m c : Nat) (A : Option Addr) (bs : List Nat) (fl : Bool) (w : World) (hm : m ≤ 140737488355328) (hc : m ≤ c) (hp : p ≤ m) (hb : Byt w w.heap.size A m bs) (hB : Bx w gs 84 #[.slice A m c, .int .i64 p, .bool (not fl)]) :
    Calls Try.prog 66 #[.pointer (some ⟨gs, 0, none⟩), .int .i64 1] w (NumP 84 not gs m c A (nuR bs 1 (p, fl)) w) := rnum_any gs 1 p m c A bs fl w (by omega) (by omega) hm hc hp hb hB
theorem rnum2 (gs p m c : Nat) (A : Option Addr) (bs : List Nat) (fl : Bool) (w : World) (hm : m ≤ 140737488355328) (hc : m ≤ c) (hp : p ≤ m) (hb : Byt w w.heap.size A m bs) (hB : Bx w gs 84 #[.slice A m c, .int .i64 p, .bool (not fl)]) :
    Calls Try.prog 66 #[.pointer (some ⟨gs, 0, none⟩), .int .i64 2] w (NumP 84 not gs m c A (nuR bs 2 (p, fl)) w) := rnum_any gs 2 p m c A bs fl w (by omega) (by omega) hm hc hp hb hB
theorem rnum8 (gs p m c : Nat) (A : Option Addr) (bs : List Nat) (fl : Bool) (w : World) (hm : m ≤ 140737488355328) (hc : m ≤ c) (hp : p ≤ m) (hb : Byt w w.heap.size A m bs) (hB : Bx w gs 84 #[.slice A m c, .int .i64 p, .bool (not fl)]) :
    Calls Try.prog 66 #[.pointer (some ⟨gs, 0, none⟩), .int .i64 8] w (NumP 84 not gs m c A (nuR bs 8 (p, fl)) w) := rnum_any gs 8 p m c A bs fl w (by omega) (by omega) hm hc hp hb hB

set_option maxHeartbeats 1000000 in
set_option maxRecDepth 100000 in
theorem rtake_zero (m c : Nat) (A : Option Addr) (bs : List Nat) (hm : m ≤ 140737488355328) (hc : m ≤ c) (D : Int) (hD : D < 1) (gs p : Nat) (fl : Bool) (w : World) (hp : p ≤ m) (hB : Bx w gs 84 #[.slice A m c, .int .i64 p, .bool (not fl)]) :
    Calls Try.prog 47 #[.pointer (some ⟨gs, 0, none⟩), .int .i64 D] w (TakeP 84 not gs m c A (zeroT, p, false) w) := by
  have hgl := hB.lt
  have hne : gs ≠ w.heap.size := by omega
  have hne2 : w.heap.size ≠ gs := by omega
  have hN := below_new w (.cells #[.int .i64 0, .int .i64 0, .bool false, .slice none 0 0, .slice none 0 0, .slice none 0 0, .slice none 0 0] 28)
  have HX := Lib.hid (hB.later hN hB.lt)
  have HR := Lib.hid (Bx.new w 28 #[.int .i64 0, .int .i64 0, .bool false, .slice none 0 0, .slice none 0 0, .slice none 0 0, .slice none 0 0])
  have HC := Lib.hid (Ch.of_below (P := fun j => j = gs) hN)
  have c2 : (w.alloc (.cells #[.int .i64 0, .int .i64 0, .bool false, .slice none 0 0, .slice none 0 0, .slice none 0 0, .slice none 0 0] 28)).cell? ⟨gs, 2, none⟩ = some (.bool (not fl)) := HX.out.cell 2
  have z2 := HX.out.frozen 2
  clear hN
  clear hB
  go_enter Try.func47, Try.ntmps47
  go_upto_region 1 with fail
  generalize w.alloc (.cells #[.int .i64 0, .int .i64 0, .bool false, .slice none 0 0, .slice none 0 0, .slice none 0 0, .slice none 0 0] 28) = wa at *
  go_upto_region 3 with fail
  have HX3 := Lib.hid (show Bx (wa.setCell ⟨gs, 2, none⟩ (.bool true)) gs 84 #[.slice A m c, .int .i64 p, .bool (not false)] from HX.out.set_ 2 (.bool true))
  have HR3 := Lib.hid (show Bx (wa.setCell ⟨gs, 2, none⟩ (.bool true)) w.heap.size 28 #[.int .i64 0, .int .i64 0, .bool false, .slice none 0 0, .slice none 0 0, .slice none 0 0, .slice none 0 0] from (Below.heap_setCell _ _ _ _ hne2).trans HR.out)
  have HC3 := Lib.hid (show Ch (fun j => j = gs) w (wa.setCell ⟨gs, 2, none⟩ (.bool true)) from HC.out.trans (R := fun j => j = gs) ⟨rfl, rfl, rfl, by simp [World.setCell], fun k _ hk => Below.heap_setCell _ _ _ _ hk⟩ (fun _ h => h) (fun _ h => h))
  generalize wa.setCell ⟨gs, 2, none⟩ (.bool true) = wq at *
  have d2 : wq.cell? ⟨gs, 2, none⟩ = some (.bool true) := HX3.out.cell 2
  have r0 : wq.cell? ⟨w.heap.size, 0, none⟩ = some (.int .i64 0) := HR3.out.cell 0
  have r1 : wq.cell? ⟨w.heap.size, 1, none⟩ = some (.int .i64 0) := HR3.out.cell 1
  have r2 : wq.cell? ⟨w.heap.size, 2, none⟩ = some (.bool false) := HR3.out.cell 2
  have r3 : wq.cell? ⟨w.heap.size, 3, none⟩ = some (.slice none 0 0) := HR3.out.cell 3
  have r4 : wq.cell? ⟨w.heap.size, 4, none⟩ = some (.slice none 0 0) := HR3.out.cell 4
  have r5 : wq.cell? ⟨w.heap.size, 5, none⟩ = some (.slice none 0 0) := HR3.out.cell 5
  have r6 : wq.cell? ⟨w.heap.size, 6, none⟩ = some (.slice none 0 0) := HR3.out.cell 6
  have y0 := HR3.out.frozen 0
  have y1 := HR3.out.frozen 1
  have y2 := HR3.out.frozen 2
  have y3 := HR3.out.frozen 3
  have y4 := HR3.out.frozen 4
  have y5 := HR3.out.frozen 5
  have y6 := HR3.out.frozen 6
  go_wp2
  refine bodyPost_ret (v := .agg #[.int .i64 0, .int .i64 0, .bool false, .slice none 0 0, .slice none 0 0, .slice none 0 0, .slice none 0 0]) (by simp [results, Try.results47, go_sem, r0, r1, r2, r3, r4, r5, r6]) rfl (take_fin hgl HC3.out (f := false) (q := p) HX3.out (lies_0 (fun _ => False) (fun _ h => h.elim) 0 0 false) (fun _ h => h.elim) hp rfl)

set_option maxHeartbeats 1000000 in
set_option maxRecDepth 100000 in
theorem rtake_bad (m c : Nat) (A : Option Addr) (bs : List Nat) (hm : m ≤ 140737488355328) (hc : m ≤ c) (D : Int) (hD : ¬ D < 1) (fl : Bool) (hfl : fl = false) (gs p : Nat)  (w : World) (hp : p ≤ m) (hB : Bx w gs 84 #[.slice A m c, .int .i64 p, .bool (not fl)]) :
    Calls Try.prog 47 #[.pointer (some ⟨gs, 0, none⟩), .int .i64 D] w (TakeP 84 not gs m c A (zeroT, p, false) w) := by
  have hgl := hB.lt
  have hne : gs ≠ w.heap.size := by omega
  have hne2 : w.heap.size ≠ gs := by omega
  have hN := below_new w (.cells #[.int .i64 0, .int .i64 0, .bool false, .slice none 0 0, .slice none 0 0, .slice none 0 0, .slice none 0 0] 28)
  have HX := Lib.hid (hB.later hN hB.lt)
  have HR := Lib.hid (Bx.new w 28 #[.int .i64 0, .int .i64 0, .bool false, .slice none 0 0, .slice none 0 0, .slice none 0 0, .slice none 0 0])
  have HC := Lib.hid (Ch.of_below (P := fun j => j = gs) hN)
  have c2 : (w.alloc (.cells #[.int .i64 0, .int .i64 0, .bool false, .slice none 0 0, .slice none 0 0, .slice none 0 0, .slice none 0 0] 28)).cell? ⟨gs, 2, none⟩ = some (.bool (not fl)) := HX.out.cell 2
  have z2 := HX.out.frozen 2
  clear hN
  clear hB
  go_enter Try.func47, Try.ntmps47
  go_upto_region 1 with fail
  generalize w.alloc (.cells #[.int .i64 0, .int .i64 0, .bool false, .slice none 0 0, .slice none 0 0, .slice none 0 0, .slice none 0 0] 28) = wa at *
  go_upto_region 3 with fail
  have HX3 := Lib.hid (show Bx (wa.setCell ⟨gs, 2, none⟩ (.bool true)) gs 84 #[.slice A m c, .int .i64 p, .bool (not false)] from HX.out.set_ 2 (.bool true))
  have HR3 := Lib.hid (show Bx (wa.setCell ⟨gs, 2, none⟩ (.bool true)) w.heap.size 28 #[.int .i64 0, .int .i64 0, .bool false, .slice none 0 0, .slice none 0 0, .slice none 0 0, .slice none 0 0] from (Below.heap_setCell _ _ _ _ hne2).trans HR.out)
  have HC3 := Lib.hid (show Ch (fun j => j = gs) w (wa.setCell ⟨gs, 2, none⟩ (.bool true)) from HC.out.trans (R := fun j => j = gs) ⟨rfl, rfl, rfl, by simp [World.setCell], fun k _ hk => Below.heap_setCell _ _ _ _ hk⟩ (fun _ h => h) (fun _ h => h))
  generalize wa.setCell ⟨gs, 2, none⟩ (.bool true) = wq at *
  have d2 : wq.cell? ⟨gs, 2, none⟩ = some (.bool true) := HX3.out.cell 2
  have r0 : wq.cell? ⟨w.heap.size, 0, none⟩ = some (.int .i64 0) := HR3.out.cell 0
  have r1 : wq.cell? ⟨w.heap.size, 1, none⟩ = some (.int .i64 0) := HR3.out.cell 1
  have r2 : wq.cell? ⟨w.heap.size, 2, none⟩ = some (.bool false) := HR3.out.cell 2
  have r3 : wq.cell? ⟨w.heap.size, 3, none⟩ = some (.slice none 0 0) := HR3.out.cell 3
  have r4 : wq.cell? ⟨w.heap.size, 4, none⟩ = some (.slice none 0 0) := HR3.out.cell 4
  have r5 : wq.cell? ⟨w.heap.size, 5, none⟩ = some (.slice none 0 0) := HR3.out.cell 5
  have r6 : wq.cell? ⟨w.heap.size, 6, none⟩ = some (.slice none 0 0) := HR3.out.cell 6
  have y0 := HR3.out.frozen 0
  have y1 := HR3.out.frozen 1
  have y2 := HR3.out.frozen 2
  have y3 := HR3.out.frozen 3
  have y4 := HR3.out.frozen 4
  have y5 := HR3.out.frozen 5
  have y6 := HR3.out.frozen 6
  go_wp2
  refine bodyPost_ret (v := .agg #[.int .i64 0, .int .i64 0, .bool false, .slice none 0 0, .slice none 0 0, .slice none 0 0, .slice none 0 0]) (by simp [results, Try.results47, go_sem, r0, r1, r2, r3, r4, r5, r6]) rfl (take_fin hgl HC3.out (f := false) (q := p) HX3.out (lies_0 (fun _ => False) (fun _ h => h.elim) 0 0 false) (fun _ h => h.elim) hp rfl)

set_option maxHeartbeats 4000000 in
set_option maxRecDepth 100000 in
theorem rtake_0 (m c : Nat) (A : Option Addr) (bs : List Nat) (hm : m ≤ 140737488355328) (hc : m ≤ c) (d : Nat) (hd : d ≤ 100)
    (ih : ∀ (gs p : Nat) (fl : Bool) (w : World), p ≤ m → Byt w w.heap.size A m bs → Bx w gs 84 #[.slice A m c, .int .i64 p, .bool (not fl)] → Calls Try.prog 47 #[.pointer (some ⟨gs, 0, none⟩), .int .i64 (d : Int)] w (TakeP 84 not gs m c A (tkR bs d (p, fl)) w))
    (D : Int) (hD : D = (d : Int) + 1) (gs p : Nat) (w : World) (hp : p ≤ m) (hb : Byt w w.heap.size A m bs) (hB : Bx w gs 84 #[.slice A m c, .int .i64 p, .bool false]) (hv : (nuR bs 1 (p, true)).1 ≠ 5 ∧ (nuR bs 1 (p, true)).1 ≠ 6 ∧ (nuR bs 1 (p, true)).1 ≠ 7) :
    Calls Try.prog 47 #[.pointer (some ⟨gs, 0, none⟩), .int .i64 D] w (TakeP 84 not gs m c A (tkR bs (d + 1) (p, true)) w) := by
  have IH := Lib.hid ih
  have hgl := hB.lt
  have hne : gs ≠ w.heap.size := by omega
  have hne2 : w.heap.size ≠ gs := by omega
  have HB := Lib.hid hB
  have HBY := Lib.hid hb
  generalize hR : tkR bs (d + 1) (p, true) = R
  have HRR := Lib.hid hR
  have hN := below_new w (.cells #[.int .i64 0, .int .i64 0, .bool false, .slice none 0 0, .slice none 0 0, .slice none 0 0, .slice none 0 0] 28)
  have HC0 := Lib.hid (Ch.of_below (P := fun j => j = gs) hN)
  have HX0 := Lib.hid (show Bx (w.alloc (.cells #[.int .i64 0, .int .i64 0, .bool false, .slice none 0 0, .slice none 0 0, .slice none 0 0, .slice none 0 0] 28)) gs 84 #[.slice A m c, .int .i64 p, .bool (not true)] from hB.later hN hB.lt)
  have HR0 := Lib.hid (Bx.new w 28 #[.int .i64 0, .int .i64 0, .bool false, .slice none 0 0, .slice none 0 0, .slice none 0 0, .slice none 0 0])
  have c2 : (w.alloc (.cells #[.int .i64 0, .int .i64 0, .bool false, .slice none 0 0, .slice none 0 0, .slice none 0 0, .slice none 0 0] 28)).cell? ⟨gs, 2, none⟩ = some (.bool false) := HX0.out.cell 2
  have hD0 : ¬ D < 1 := by omega
  have hD1 : IntKind.i64.wrap (D - 1) = (d : Int) := by rw [IntKind.wrap_i64]; omega
  have HN1 := Lib.hid (rnum1 gs p m c A bs true (w.alloc (.cells #[.int .i64 0, .int .i64 0, .bool false, .slice none 0 0, .slice none 0 0, .slice none 0 0, .slice none 0 0] 28)) hm hc hp (HBY.out.ch HB.out HC0.out) HX0.out)
  clear hR hN hb hB hD ih hd
  go_enter Try.func47, Try.ntmps47
  go_upto_region 1 with fail
  generalize w.alloc (.cells #[.int .i64 0, .int .i64 0, .bool false, .slice none 0 0, .slice none 0 0, .slice none 0 0, .slice none 0 0] 28) = wa at *
  go_wp2_with (go_at_call 66; refine HN1.out.mono ?_)
  rintro _ w1 ⟨v, q1, f1, e1, rfl, hx1, hc1, hq1⟩
  have HX1 := Lib.hid hx1
  have HC1 := Lib.hid (HC0.out.trans hc1 (R := fun j => j = gs) (fun _ h => h) (fun _ h => h))
  have HR1 := Lib.hid (hc1.bx HR0.out hne2)
  rw [e1] at hv
  obtain ⟨n5, n6, n7⟩ := hv
  have b5 : (v == 5) = false := beq_eq_false_iff_ne.mpr n5
  have b6 : (v == 6) = false := beq_eq_false_iff_ne.mpr n6
  have b7 : (v == 7) = false := beq_eq_false_iff_ne.mpr n7
  have HV := Lib.hid (show v ≠ 5 ∧ v ≠ 6 ∧ v ≠ 7 from ⟨n5, n6, n7⟩)
  clear n5 n6 n7
  have HE1 := Lib.hid e1
  clear e1 hx1 hc1 HX0 HC0 HR0 HN1 c2
  have HT1 := Lib.hid (Tk.start (ok := not) (f := f1) (q := q1) (m := m) (c := c) (A := A) (rt := 84) hgl HR1.out HX1.out HC1.out #[.int .i64 v, .int .i64 0, .bool false, .slice none 0 0, .slice none 0 0, .slice none 0 0, .slice none 0 0] 66 9)
  have g0 : (w1.alloc (.cells #[.int .i64 v, .int .i64 0, .bool false, .slice none 0 0, .slice none 0 0, .slice none 0 0, .slice none 0 0] 28)).cell? ⟨w1.heap.size, 0, none⟩ = some (.int .i64 v) := HT1.out.bt.cell 0
  have HNN := Lib.hid (rnum1 gs q1 m c A bs f1 (w1.alloc (.cells #[.int .i64 v, .int .i64 0, .bool false, .slice none 0 0, .slice none 0 0, .slice none 0 0, .slice none 0 0] 28)) hm hc hq1 (HBY.out.ch HB.out HT1.out.ch) HT1.out.bs)
  go_wp2_with (go_at_call 66; refine HNN.out.mono ?_)
  rintro _ w2 ⟨v2, q2, f2, e2, rfl, hxx, hcc, hq2⟩
  have HT2 := Lib.hid (HT1.out.call hcc hxx)
  have HE2 := Lib.hid e2
  clear HNN hxx hcc e2
  have k1 := HT2.out.bt.cell 1
  have t1 := HT2.out.bt.frozen 1
  have HS2 := Lib.hid (HT2.out.set 1 (.int .i64 v2))
  have HNN := Lib.hid (rnum1 gs q2 m c A bs f2 (w2.setCell ⟨w1.heap.size, 1, none⟩ (.int .i64 v2)) hm hc hq2 (HBY.out.ch HB.out HS2.out.ch) HS2.out.bs)
  go_wp2_with (go_at_call 66; refine HNN.out.mono ?_)
  rintro _ w3 ⟨v3, q3, f3, e3, rfl, hxx, hcc, hq3⟩
  have HT3 := Lib.hid (HS2.out.call hcc hxx)
  have HE3 := Lib.hid e3
  clear HNN hxx hcc e3
  clear k1 t1
  have k2 := HT3.out.bt.cell 2
  have t2 := HT3.out.bt.frozen 2
  have HS3 := Lib.hid (HT3.out.set 2 (.bool (decide (v3 = 1))))
  have hbq : (v3 == 1) = decide (v3 = 1) := rfl
  generalize hbb : decide (v3 = 1) = bb at *
  have HBB := Lib.hid hbb
  clear hbb g0
  have HU := Lib.hid (show Tk w (w3.setCell ⟨w1.heap.size, 2, none⟩ (.bool bb)) 84 not gs w1.heap.size m c q3 A f3 #[.int .i64 v, .int .i64 v2, .bool bb, .slice none 0 0, .slice none 0 0, .slice none 0 0, .slice none 0 0] _ _ _ _ _ _ _ from HS3.out)
  have d0 : (w3.setCell ⟨w1.heap.size, 2, none⟩ (.bool bb)).cell? ⟨w1.heap.size, 0, none⟩ = some (.int .i64 v) := HU.out.bt.cell 0
  have d1 : (w3.setCell ⟨w1.heap.size, 2, none⟩ (.bool bb)).cell? ⟨w1.heap.size, 1, none⟩ = some (.int .i64 v2) := HU.out.bt.cell 1
  have d2 : (w3.setCell ⟨w1.heap.size, 2, none⟩ (.bool bb)).cell? ⟨w1.heap.size, 2, none⟩ = some (.bool bb) := HU.out.bt.cell 2
  have d3 : (w3.setCell ⟨w1.heap.size, 2, none⟩ (.bool bb)).cell? ⟨w1.heap.size, 3, none⟩ = some (.slice none 0 0) := HU.out.bt.cell 3
  have d4 : (w3.setCell ⟨w1.heap.size, 2, none⟩ (.bool bb)).cell? ⟨w1.heap.size, 4, none⟩ = some (.slice none 0 0) := HU.out.bt.cell 4
  have d5 : (w3.setCell ⟨w1.heap.size, 2, none⟩ (.bool bb)).cell? ⟨w1.heap.size, 5, none⟩ = some (.slice none 0 0) := HU.out.bt.cell 5
  have d6 : (w3.setCell ⟨w1.heap.size, 2, none⟩ (.bool bb)).cell? ⟨w1.heap.size, 6, none⟩ = some (.slice none 0 0) := HU.out.bt.cell 6
  have r0 : (w3.setCell ⟨w1.heap.size, 2, none⟩ (.bool bb)).cell? ⟨w.heap.size, 0, none⟩ = some (.int .i64 0) := HU.out.br.cell 0
  have r1 : (w3.setCell ⟨w1.heap.size, 2, none⟩ (.bool bb)).cell? ⟨w.heap.size, 1, none⟩ = some (.int .i64 0) := HU.out.br.cell 1
  have r2 : (w3.setCell ⟨w1.heap.size, 2, none⟩ (.bool bb)).cell? ⟨w.heap.size, 2, none⟩ = some (.bool false) := HU.out.br.cell 2
  have r3 : (w3.setCell ⟨w1.heap.size, 2, none⟩ (.bool bb)).cell? ⟨w.heap.size, 3, none⟩ = some (.slice none 0 0) := HU.out.br.cell 3
  have r4 : (w3.setCell ⟨w1.heap.size, 2, none⟩ (.bool bb)).cell? ⟨w.heap.size, 4, none⟩ = some (.slice none 0 0) := HU.out.br.cell 4
  have r5 : (w3.setCell ⟨w1.heap.size, 2, none⟩ (.bool bb)).cell? ⟨w.heap.size, 5, none⟩ = some (.slice none 0 0) := HU.out.br.cell 5
  have r6 : (w3.setCell ⟨w1.heap.size, 2, none⟩ (.bool bb)).cell? ⟨w.heap.size, 6, none⟩ = some (.slice none 0 0) := HU.out.br.cell 6
  have y0 := HU.out.br.frozen 0
  have y1 := HU.out.br.frozen 1
  have y2 := HU.out.br.frozen 2
  have y3 := HU.out.br.frozen 3
  have y4 := HU.out.br.frozen 4
  have y5 := HU.out.br.frozen 5
  have y6 := HU.out.br.frozen 6
  go_wp2
  refine bodyPost_ret (v := .agg #[.int .i64 v, .int .i64 v2, .bool bb, .slice none 0 0, .slice none 0 0, .slice none 0 0, .slice none 0 0]) (by simp [results, Try.results47, go_sem, r0, r1, r2, r3, r4, r5, r6]) rfl (HU.out.fin (lies_0 (fun _ => False) (fun _ h => h.elim) v v2 bb) (fun _ h => h.elim) hq3 (by rw [← HRR.out, tkR_0 HV.out.1 HV.out.2.1 HV.out.2.2 HE1.out HE2.out HE3.out, HBB.out]))

set_option maxHeartbeats 4000000 in
set_option maxRecDepth 100000 in
theorem rtake_5 (m c : Nat) (A : Option Addr) (bs : List Nat) (hm : m ≤ 140737488355328) (hc : m ≤ c) (d : Nat) (hd : d ≤ 100)
    (ih : ∀ (gs p : Nat) (fl : Bool) (w : World), p ≤ m → Byt w w.heap.size A m bs → Bx w gs 84 #[.slice A m c, .int .i64 p, .bool (not fl)] → Calls Try.prog 47 #[.pointer (some ⟨gs, 0, none⟩), .int .i64 (d : Int)] w (TakeP 84 not gs m c A (tkR bs d (p, fl)) w))
    (D : Int) (hD : D = (d : Int) + 1) (gs p : Nat) (w : World) (hp : p ≤ m) (hb : Byt w w.heap.size A m bs) (hB : Bx w gs 84 #[.slice A m c, .int .i64 p, .bool false]) (hv : (nuR bs 1 (p, true)).1 = 5) :
    Calls Try.prog 47 #[.pointer (some ⟨gs, 0, none⟩), .int .i64 D] w (TakeP 84 not gs m c A (tkR bs (d + 1) (p, true)) w) := by
  have IH := Lib.hid ih
  have hgl := hB.lt
  have hne : gs ≠ w.heap.size := by omega
  have hne2 : w.heap.size ≠ gs := by omega
  have HB := Lib.hid hB
  have HBY := Lib.hid hb
  generalize hR : tkR bs (d + 1) (p, true) = R
  have HRR := Lib.hid hR
  have hN := below_new w (.cells #[.int .i64 0, .int .i64 0, .bool false, .slice none 0 0, .slice none 0 0, .slice none 0 0, .slice none 0 0] 28)
  have HC0 := Lib.hid (Ch.of_below (P := fun j => j = gs) hN)
  have HX0 := Lib.hid (show Bx (w.alloc (.cells #[.int .i64 0, .int .i64 0, .bool false, .slice none 0 0, .slice none 0 0, .slice none 0 0, .slice none 0 0] 28)) gs 84 #[.slice A m c, .int .i64 p, .bool (not true)] from hB.later hN hB.lt)
  have HR0 := Lib.hid (Bx.new w 28 #[.int .i64 0, .int .i64 0, .bool false, .slice none 0 0, .slice none 0 0, .slice none 0 0, .slice none 0 0])
  have c2 : (w.alloc (.cells #[.int .i64 0, .int .i64 0, .bool false, .slice none 0 0, .slice none 0 0, .slice none 0 0, .slice none 0 0] 28)).cell? ⟨gs, 2, none⟩ = some (.bool false) := HX0.out.cell 2
  have hD0 : ¬ D < 1 := by omega
  have hD1 : IntKind.i64.wrap (D - 1) = (d : Int) := by rw [IntKind.wrap_i64]; omega
  have HN1 := Lib.hid (rnum1 gs p m c A bs true (w.alloc (.cells #[.int .i64 0, .int .i64 0, .bool false, .slice none 0 0, .slice none 0 0, .slice none 0 0, .slice none 0 0] 28)) hm hc hp (HBY.out.ch HB.out HC0.out) HX0.out)
  clear hR hN hb hB hD ih hd
  go_enter Try.func47, Try.ntmps47
  go_upto_region 1 with fail
  generalize w.alloc (.cells #[.int .i64 0, .int .i64 0, .bool false, .slice none 0 0, .slice none 0 0, .slice none 0 0, .slice none 0 0] 28) = wa at *
  go_wp2_with (go_at_call 66; refine HN1.out.mono ?_)
  rintro _ w1 ⟨v, q1, f1, e1, rfl, hx1, hc1, hq1⟩
  have HX1 := Lib.hid hx1
  have HC1 := Lib.hid (HC0.out.trans hc1 (R := fun j => j = gs) (fun _ h => h) (fun _ h => h))
  have HR1 := Lib.hid (hc1.bx HR0.out hne2)
  rw [e1] at hv
  obtain rfl : v = 5 := hv
  have HE1 := Lib.hid e1
  clear e1 hx1 hc1 HX0 HC0 HR0 HN1 c2
  have HT1 := Lib.hid (Tk.start (ok := not) (f := f1) (q := q1) (m := m) (c := c) (A := A) (rt := 84) hgl HR1.out HX1.out HC1.out #[.int .i64 5, .int .i64 0, .bool false, .slice none 0 0, .slice none 0 0, .slice none 0 0, .slice none 0 0] 66 9)
  have g0 : (w1.alloc (.cells #[.int .i64 5, .int .i64 0, .bool false, .slice none 0 0, .slice none 0 0, .slice none 0 0, .slice none 0 0] 28)).cell? ⟨w1.heap.size, 0, none⟩ = some (.int .i64 5) := HT1.out.bt.cell 0
  have HNN := Lib.hid (rnum2 gs q1 m c A bs f1 (w1.alloc (.cells #[.int .i64 5, .int .i64 0, .bool false, .slice none 0 0, .slice none 0 0, .slice none 0 0, .slice none 0 0] 28)) hm hc hq1 (HBY.out.ch HB.out HT1.out.ch) HT1.out.bs)
  go_wp2_with (go_at_call 66; refine HNN.out.mono ?_)
  rintro _ w2 ⟨v2, q2, f2, e2, rfl, hxx, hcc, hq2⟩
  have HT2 := Lib.hid (HT1.out.call hcc hxx)
  have HE2 := Lib.hid e2
  clear HNN hxx hcc e2
  have k1 := HT2.out.bt.cell 1
  have t1 := HT2.out.bt.frozen 1
  have HS2 := Lib.hid (HT2.out.set 1 (.int .i64 v2))
  have HNN := Lib.hid (rnum1 gs q2 m c A bs f2 (w2.setCell ⟨w1.heap.size, 1, none⟩ (.int .i64 v2)) hm hc hq2 (HBY.out.ch HB.out HS2.out.ch) HS2.out.bs)
  go_wp2_with (go_at_call 66; refine HNN.out.mono ?_)
  rintro _ w3 ⟨v3, q3, f3, e3, rfl, hxx, hcc, hq3⟩
  have HT3 := Lib.hid (HS2.out.call hcc hxx)
  have HE3 := Lib.hid e3
  clear HNN hxx hcc e3
  clear k1 t1 g0
  have hn := nuR_byte bs HBY.out.lt 1 (by omega) (q2, f2)
  rw [HE3.out] at hn
  obtain ⟨k0, rfl⟩ : ∃ k0 : Nat, v3 = k0 := ⟨v3.toNat, by omega⟩
  have hk0 : k0 < 256 := by omega
  clear hn
  have HT4 := Lib.hid (show Tk w w3 84 not gs w1.heap.size m c q3 A f3 #[.int .i64 5, .int .i64 v2, .bool false, .slice none 0 0, .slice none 0 0, .slice none 0 0, .slice none 0 0] (fun _ => False) (FE (fun _ => False) [] []) 66 9 0 (.slice none 0 0) [] from HT3.out.more (fun _ h => h.elim) (fun w7 _ => ⟨rfl, fun i h => absurd h (Nat.not_lt_zero _)⟩))
  obtain ⟨i0, hi0, hz0, hz1, hz2⟩ := info_parts field_info
  clear HT1 HS2 HT2 HT3
  go_wp2
  go_loopw [7] (fun i wr => ∃ (K : Int) (k q : Nat) (f : Bool) (V : Value) (S : Nat → Prop) (fs : List Fd) (rs : List (List Value)), i = .int .i64 K ∧ K + (k : Int) = (k0 : Int) ∧ 0 ≤ K ∧ q ≤ m ∧ k + fs.length ≤ 255 ∧ (∀ x ∈ fs, x.name.size ≤ 140737488355328) ∧ fdR bs (tkR bs d) k0 (q3, f3) = (fs ++ (fdR bs (tkR bs d) k (q, f)).1, (fdR bs (tkR bs d) k (q, f)).2) ∧ Tk w wr 84 not gs w1.heap.size m c q A f #[.int .i64 5, .int .i64 v2, .bool false, V, .slice none 0 0, .slice none 0 0, .slice none 0 0] S (FE S fs rs) 66 9 fs.length V rs.flatten) (fun i _ => k0 - (intOf i).toNat)
  case atStart => exact ⟨0, k0, q3, f3, _, _, [], [], rfl, by omega, Int.le_refl _, hq3, by simp; omega, fun x hx => absurd hx List.not_mem_nil, by simp, HT4.out⟩
  case round =>
     obtain ⟨K, k, q, f, V, S, fs, rs, rfl, hK, hK0, hq, hk, hnm, hpure, hT⟩ := hrel
     have HT := Lib.hid hT
     have HPU := Lib.hid hpure
     have HNM := Lib.hid hnm
     clear hT hpure hnm HT4
     by_cases hlt : K < (k0 : Int)
     · cases f
       · have c2 : wr.cell? ⟨gs, 2, none⟩ = some (.bool true) := HT.out.bs.cell 2
         have hfd : fdR bs (tkR bs d) k0 (q3, f3) = (fs, q, false) := by rw [HPU.out, fdR_stop]; simp
         have HFD := Lib.hid hfd
         clear hfd HPU hi0 hz0 hz1 hz2
         obtain ⟨AV, CV, rfl⟩ := own_form HT.out.row
         have d0 : wr.cell? ⟨w1.heap.size, 0, none⟩ = some (.int .i64 5) := HT.out.bt.cell 0
         have d1 : wr.cell? ⟨w1.heap.size, 1, none⟩ = some (.int .i64 v2) := HT.out.bt.cell 1
         have d2 : wr.cell? ⟨w1.heap.size, 2, none⟩ = some (.bool false) := HT.out.bt.cell 2
         have d3 : wr.cell? ⟨w1.heap.size, 3, none⟩ = some (.slice AV fs.length CV) := HT.out.bt.cell 3
         have d4 : wr.cell? ⟨w1.heap.size, 4, none⟩ = some (.slice none 0 0) := HT.out.bt.cell 4
         have d5 : wr.cell? ⟨w1.heap.size, 5, none⟩ = some (.slice none 0 0) := HT.out.bt.cell 5
         have d6 : wr.cell? ⟨w1.heap.size, 6, none⟩ = some (.slice none 0 0) := HT.out.bt.cell 6
         have r0 : wr.cell? ⟨w.heap.size, 0, none⟩ = some (.int .i64 0) := HT.out.br.cell 0
         have r1 : wr.cell? ⟨w.heap.size, 1, none⟩ = some (.int .i64 0) := HT.out.br.cell 1
         have r2 : wr.cell? ⟨w.heap.size, 2, none⟩ = some (.bool false) := HT.out.br.cell 2
         have r3 : wr.cell? ⟨w.heap.size, 3, none⟩ = some (.slice none 0 0) := HT.out.br.cell 3
         have r4 : wr.cell? ⟨w.heap.size, 4, none⟩ = some (.slice none 0 0) := HT.out.br.cell 4
         have r5 : wr.cell? ⟨w.heap.size, 5, none⟩ = some (.slice none 0 0) := HT.out.br.cell 5
         have r6 : wr.cell? ⟨w.heap.size, 6, none⟩ = some (.slice none 0 0) := HT.out.br.cell 6
         have y0 := HT.out.br.frozen 0
         have y1 := HT.out.br.frozen 1
         have y2 := HT.out.br.frozen 2
         have y3 := HT.out.br.frozen 3
         have y4 := HT.out.br.frozen 4
         have y5 := HT.out.br.frozen 5
         have y6 := HT.out.br.frozen 6
         go_wp2
         refine bodyPost_ret (v := .agg #[.int .i64 5, .int .i64 v2, .bool false, .slice AV fs.length CV, .slice none 0 0, .slice none 0 0, .slice none 0 0]) (by simp [results, Try.results47, go_sem, r0, r1, r2, r3, r4, r5, r6]) rfl (HT.out.fin (HT.out.lies_F (by omega) HNM.out) (fun _ h => h) hq (by rw [← HRR.out]; exact tkR_5 HE1.out HE2.out HE3.out HFD.out))
       · have c2 : wr.cell? ⟨gs, 2, none⟩ = some (.bool false) := HT.out.bs.cell 2
         obtain ⟨k', rfl⟩ : ∃ k', k = k' + 1 := ⟨k - 1, by omega⟩
         have hw : IntKind.i64.wrap (K + 1) = K + 1 := by rw [IntKind.wrap_i64]; omega
         have HTX := Lib.hid (rtext_any gs q m c A bs true wr hm hc hq (HBY.out.ch HB.out HT.out.ch) HT.out.bs)
         go_wp2_with (go_at_call 67; refine HTX.out.mono ?_)
         rintro _ w5 ⟨x, q5, f5, e5, rfl, hx5, hc5, hq5⟩
         have HT5 := Lib.hid (HT.out.call hc5 hx5)
         have HE5 := Lib.hid e5
         clear HTX c2 hx5 hc5 e5
         have HA5 := Lib.hid (HT5.out.alloc (.cells #[.string x, .int .i64 0, .int .i64 0, .int .i64 0, .bool false, .slice none 0 0, .slice none 0 0, .slice none 0 0, .slice none 0 0] 66))
         have HF5 := Lib.hid (Bx.new w5 66 #[.string x, .int .i64 0, .int .i64 0, .int .i64 0, .bool false, .slice none 0 0, .slice none 0 0, .slice none 0 0, .slice none 0 0])
         have HGB := Lib.hid HT5.out.bt.lt
         have HNS := Lib.hid (show ¬ S w5.heap.size from fun h => absurd (HT5.out.sb _ h).2 (Nat.lt_irrefl _))
         have HNV := Lib.hid (show V.ownBlock ≠ some w5.heap.size from fun h => absurd (HT5.out.vlt _ h).2 (Nat.lt_irrefl _))
         have HLT5 := Lib.hid (show w5.heap.size < (w5.alloc (.cells #[.string x, .int .i64 0, .int .i64 0, .int .i64 0, .bool false, .slice none 0 0, .slice none 0 0, .slice none 0 0, .slice none 0 0] 66)).heap.size by rw [size_alloc]; exact Nat.lt_succ_self _)
         have HNN := Lib.hid (rnum2 gs q5 m c A bs f5 (w5.alloc (.cells #[.string x, .int .i64 0, .int .i64 0, .int .i64 0, .bool false, .slice none 0 0, .slice none 0 0, .slice none 0 0, .slice none 0 0] 66)) hm hc hq5 (HBY.out.ch HB.out HA5.out.ch) HA5.out.bs)
         go_wp2_with (go_at_call 66; refine HNN.out.mono ?_)
         rintro _ w6 ⟨v6, q6, f6, e6, rfl, hx6, hc6, hq6⟩
         have HT6 := Lib.hid (HA5.out.call hc6 hx6)
         have HE6 := Lib.hid e6
         have HF6 := Lib.hid (hc6.bx HF5.out (by have := HT5.out.bs.lt; omega))
         have HLT6 := Lib.hid (Nat.lt_of_lt_of_le HLT5.out hc6.size)
         have kf : w6.cell? ⟨w5.heap.size, 1, none⟩ = some (.int .i64 0) := HF6.out.cell 1
         have tf := HF6.out.frozen 1
         clear HNN hx6 hc6 e6 HF5 HLT5
         have HF7 := Lib.hid (show Bx (w6.setCell ⟨w5.heap.size, 1, none⟩ (.int .i64 v6)) w5.heap.size 66 #[.string x, .int .i64 v6, .int .i64 0, .int .i64 0, .bool false, .slice none 0 0, .slice none 0 0, .slice none 0 0, .slice none 0 0] from HF6.out.set_ 1 (.int .i64 v6))
         have HT7 := Lib.hid (HT6.out.away (wq := (w6.setCell ⟨w5.heap.size, 1, none⟩ (.int .i64 v6))) HGB.out HNS.out HNV.out (by simp [World.setCell]) (fun k hk => Below.heap_setCell _ _ _ _ hk) rfl rfl rfl)
         have HLT7 := Lib.hid (show w5.heap.size < (w6.setCell ⟨w5.heap.size, 1, none⟩ (.int .i64 v6)).heap.size by have := HLT6.out; simpa [World.setCell] using this)
         have HIH := Lib.hid (IH.out gs q6 f6 (w6.setCell ⟨w5.heap.size, 1, none⟩ (.int .i64 v6)) hq6 (HBY.out.ch HB.out HT7.out.ch) HT7.out.bs)
         go_wp2_with (go_at_call 47; refine HIH.out.mono ?_)
         rintro _ w8 ⟨t, q8, f8, u0, u1, u2, u3, u4, u5, u6, S', e8, rfl, hL, hS', hx8, hc8, hq8⟩
         obtain ⟨fA9, dA9, bA9, nA9, fC9, dC9, bC9, nC9, rfl, rfl, rfl, rfl, rfl, rfl, rfl⟩ := hL.here.cells
         have hfx := hc8.bx HF7.out (show ¬ w5.heap.size = gs by have := HGB.out; have := HT7.out.rg; omega)
         have HE8 := Lib.hid e8
         have x2 : w8.cell? ⟨w5.heap.size, 2, none⟩ = some (.int .i64 0) := hfx.cell 2
         have x3 : w8.cell? ⟨w5.heap.size, 3, none⟩ = some (.int .i64 0) := hfx.cell 3
         have x4 : w8.cell? ⟨w5.heap.size, 4, none⟩ = some (.bool false) := hfx.cell 4
         have x5 : w8.cell? ⟨w5.heap.size, 5, none⟩ = some (.slice none 0 0) := hfx.cell 5
         have x6 : w8.cell? ⟨w5.heap.size, 6, none⟩ = some (.slice none 0 0) := hfx.cell 6
         have x7 : w8.cell? ⟨w5.heap.size, 7, none⟩ = some (.slice none 0 0) := hfx.cell 7
         have x8 : w8.cell? ⟨w5.heap.size, 8, none⟩ = some (.slice none 0 0) := hfx.cell 8
         have y2 := hfx.frozen 2
         have y3 := hfx.frozen 3
         have y4 := hfx.frozen 4
         have y5 := hfx.frozen 5
         have y6 := hfx.frozen 6
         have y7 := hfx.frozen 7
         have y8 := hfx.frozen 8
         obtain ⟨wq, hwq, hq1, hqs, hqk, hqo, hqt, hqu⟩ := set7b hfx (.int .i64 t.c) (.int .i64 t.w) (.bool t.big) (.slice fA9 t.fs.length fC9) (.slice dA9 t.ds.length dC9) (.slice bA9 t.bs.length bC9) (.slice nA9 t.ns.length nC9)
         have HWQ := Lib.hid hwq
         have HT9 := Lib.hid (((HT7.out.call hc8 hx8).field (.mk x v6 t) hL hc8.size hS' (fun k h => (HT7.out.vlt k h).2) HT7.out.bt.lt).away (wq := wq) HGB.out (fun h => h.elim HNS.out (fun h => absurd (Nat.lt_of_lt_of_le HLT7.out (hS' _ h)) (Nat.lt_irrefl _))) HNV.out hqs hqk hqo hqt hqu)
         have HQ1 := Lib.hid hq1
         clear hfx hwq hq1 hqs hqk hqo hqt hqu hL hS' hx8 hc8 e8 HIH HT7 HF7 HLT7 HNS HNV
         go_upto_region 17 with fail
         rw [HWQ.out]
         clear x2 x3 x4 x5 x6 x7 x8 y2 y3 y4 y5 y6 y7 y8
         have v3 : wq.cell? ⟨w1.heap.size, 3, none⟩ = some V := HT9.out.bt.cell 3
         have x0 : wq.cell? ⟨w5.heap.size, 0, none⟩ = some (.string x) := HQ1.out.cell 0
         have x1 : wq.cell? ⟨w5.heap.size, 1, none⟩ = some (.int .i64 v6) := HQ1.out.cell 1
         have x2 : wq.cell? ⟨w5.heap.size, 2, none⟩ = some (.int .i64 t.c) := HQ1.out.cell 2
         have x3 : wq.cell? ⟨w5.heap.size, 3, none⟩ = some (.int .i64 t.w) := HQ1.out.cell 3
         have x4 : wq.cell? ⟨w5.heap.size, 4, none⟩ = some (.bool t.big) := HQ1.out.cell 4
         have x5 : wq.cell? ⟨w5.heap.size, 5, none⟩ = some (.slice fA9 t.fs.length fC9) := HQ1.out.cell 5
         have x6 : wq.cell? ⟨w5.heap.size, 6, none⟩ = some (.slice dA9 t.ds.length dC9) := HQ1.out.cell 6
         have x7 : wq.cell? ⟨w5.heap.size, 7, none⟩ = some (.slice bA9 t.bs.length bC9) := HQ1.out.cell 7
         have x8 : wq.cell? ⟨w5.heap.size, 8, none⟩ = some (.slice nA9 t.ns.length nC9) := HQ1.out.cell 8
         have HTA := Lib.hid (HT9.out.alloc (.cells #[.string x, .int .i64 v6, .int .i64 t.c, .int .i64 t.w, .bool t.big, .slice fA9 t.fs.length fC9, .slice dA9 t.ds.length dC9, .slice bA9 t.bs.length bC9, .slice nA9 t.ns.length nC9] 66))
         have HAN := Lib.hid (heap_alloc_new wq (.cells #[.string x, .int .i64 v6, .int .i64 t.c, .int .i64 t.w, .bool t.big, .slice fA9 t.fs.length fC9, .slice dA9 t.ds.length dC9, .slice bA9 t.bs.length bC9, .slice nA9 t.ns.length nC9] 66))
         have hkb : (fs.length + 1) * 144 ≤ 140737488355328 := by omega
         have hkm : fs.length + 1 ≤ maxLen := by unfold maxLen; omega
         go_wp2_with (at_builtin; refine wpList_append_lies _ rfl (.tmp 69) (.tmp 71) 23 rfl (w1.heap.size + 1) 66 i0 _ 9 144 Try.underlying23 hi0 hz0 hz1 hz2 rfl (by decide) V fs.length rs.flatten rfl HTA.out.row ⟨wq.heap.size, 0, none⟩ 1 1 [.string x, .int .i64 v6, .int .i64 t.c, .int .i64 t.w, .bool t.big, .slice fA9 t.fs.length fC9, .slice dA9 t.ds.length dC9, .slice bA9 t.bs.length bC9, .slice nA9 t.ns.length nC9] rfl rfl (World.news_of_block HAN.out) (by simp [Value.oneCell']) (by decide) hkm hkb HTA.out.bt.lt _ rfl ?_; intro g9 cap9 wt hown hgr hat hlt9; have HG9 := Lib.hid (HTA.out.grow hown hgr hat); have o1 := HG9.out.bt.cell 3; have o2 := HG9.out.bt.frozen 3; clear hown hgr hat)
         have HG10 := Lib.hid (HG9.out.set 3 (.slice (some ⟨g9, 0, none⟩) (fs.length + 1) cap9))
         go_roundw
         case rel => exact ⟨K + 1, k', q8, f8, .slice (some ⟨g9, 0, none⟩) (fs.length + 1) cap9, fun k => S k ∨ S' k, fs ++ [.mk x v6 t], rs ++ [[.string x, .int .i64 v6, .int .i64 t.c, .int .i64 t.w, .bool t.big, .slice fA9 t.fs.length fC9, .slice dA9 t.ds.length dC9, .slice bA9 t.bs.length bC9, .slice nA9 t.ns.length nC9]], rfl, by omega, by omega, hq8, by simp; omega, fun y hy => (List.mem_append.mp hy).elim (HNM.out y) (fun h => by rw [List.mem_singleton.mp h]; have := txR_size bs (q, true); rw [HE5.out] at this; exact this), by rw [HPU.out, fdR_go HE5.out HE6.out HE8.out]; simp, by have h := HG10.out; simpa [Fd.name, Fd.pos] using h⟩
         case measure => simp [intOf]; omega
     · obtain rfl : k = 0 := by omega
       have c2 : wr.cell? ⟨gs, 2, none⟩ = some (.bool (not f)) := HT.out.bs.cell 2
       have hfd : fdR bs (tkR bs d) k0 (q3, f3) = (fs, q, f) := by rw [HPU.out, fdR]; simp
       have HFD := Lib.hid hfd
       clear hfd HPU hi0 hz0 hz1 hz2
       obtain ⟨AV, CV, rfl⟩ := own_form HT.out.row
       have d0 : wr.cell? ⟨w1.heap.size, 0, none⟩ = some (.int .i64 5) := HT.out.bt.cell 0
       have d1 : wr.cell? ⟨w1.heap.size, 1, none⟩ = some (.int .i64 v2) := HT.out.bt.cell 1
       have d2 : wr.cell? ⟨w1.heap.size, 2, none⟩ = some (.bool false) := HT.out.bt.cell 2
       have d3 : wr.cell? ⟨w1.heap.size, 3, none⟩ = some (.slice AV fs.length CV) := HT.out.bt.cell 3
       have d4 : wr.cell? ⟨w1.heap.size, 4, none⟩ = some (.slice none 0 0) := HT.out.bt.cell 4
       have d5 : wr.cell? ⟨w1.heap.size, 5, none⟩ = some (.slice none 0 0) := HT.out.bt.cell 5
       have d6 : wr.cell? ⟨w1.heap.size, 6, none⟩ = some (.slice none 0 0) := HT.out.bt.cell 6
       have r0 : wr.cell? ⟨w.heap.size, 0, none⟩ = some (.int .i64 0) := HT.out.br.cell 0
       have r1 : wr.cell? ⟨w.heap.size, 1, none⟩ = some (.int .i64 0) := HT.out.br.cell 1
       have r2 : wr.cell? ⟨w.heap.size, 2, none⟩ = some (.bool false) := HT.out.br.cell 2
       have r3 : wr.cell? ⟨w.heap.size, 3, none⟩ = some (.slice none 0 0) := HT.out.br.cell 3
       have r4 : wr.cell? ⟨w.heap.size, 4, none⟩ = some (.slice none 0 0) := HT.out.br.cell 4
       have r5 : wr.cell? ⟨w.heap.size, 5, none⟩ = some (.slice none 0 0) := HT.out.br.cell 5
       have r6 : wr.cell? ⟨w.heap.size, 6, none⟩ = some (.slice none 0 0) := HT.out.br.cell 6
       have y0 := HT.out.br.frozen 0
       have y1 := HT.out.br.frozen 1
       have y2 := HT.out.br.frozen 2
       have y3 := HT.out.br.frozen 3
       have y4 := HT.out.br.frozen 4
       have y5 := HT.out.br.frozen 5
       have y6 := HT.out.br.frozen 6
       go_wp2
       refine bodyPost_ret (v := .agg #[.int .i64 5, .int .i64 v2, .bool false, .slice AV fs.length CV, .slice none 0 0, .slice none 0 0, .slice none 0 0]) (by simp [results, Try.results47, go_sem, r0, r1, r2, r3, r4, r5, r6]) rfl (HT.out.fin (HT.out.lies_F (by omega) HNM.out) (fun _ h => h) hq (by rw [← HRR.out]; exact tkR_5 HE1.out HE2.out HE3.out HFD.out))

set_option maxHeartbeats 4000000 in
set_option maxRecDepth 100000 in
theorem rtake_6 (m c : Nat) (A : Option Addr) (bs : List Nat) (hm : m ≤ 140737488355328) (hc : m ≤ c) (d : Nat) (hd : d ≤ 100)
    (ih : ∀ (gs p : Nat) (fl : Bool) (w : World), p ≤ m → Byt w w.heap.size A m bs → Bx w gs 84 #[.slice A m c, .int .i64 p, .bool (not fl)] → Calls Try.prog 47 #[.pointer (some ⟨gs, 0, none⟩), .int .i64 (d : Int)] w (TakeP 84 not gs m c A (tkR bs d (p, fl)) w))
    (D : Int) (hD : D = (d : Int) + 1) (gs p : Nat) (w : World) (hp : p ≤ m) (hb : Byt w w.heap.size A m bs) (hB : Bx w gs 84 #[.slice A m c, .int .i64 p, .bool false]) (hv : (nuR bs 1 (p, true)).1 = 6) :
    Calls Try.prog 47 #[.pointer (some ⟨gs, 0, none⟩), .int .i64 D] w (TakeP 84 not gs m c A (tkR bs (d + 1) (p, true)) w) := by
  have IH := Lib.hid ih
  have hgl := hB.lt
  have hne : gs ≠ w.heap.size := by omega
  have hne2 : w.heap.size ≠ gs := by omega
  have HB := Lib.hid hB
  have HBY := Lib.hid hb
  generalize hR : tkR bs (d + 1) (p, true) = R
  have HRR := Lib.hid hR
  have hN := below_new w (.cells #[.int .i64 0, .int .i64 0, .bool false, .slice none 0 0, .slice none 0 0, .slice none 0 0, .slice none 0 0] 28)
  have HC0 := Lib.hid (Ch.of_below (P := fun j => j = gs) hN)
  have HX0 := Lib.hid (show Bx (w.alloc (.cells #[.int .i64 0, .int .i64 0, .bool false, .slice none 0 0, .slice none 0 0, .slice none 0 0, .slice none 0 0] 28)) gs 84 #[.slice A m c, .int .i64 p, .bool (not true)] from hB.later hN hB.lt)
  have HR0 := Lib.hid (Bx.new w 28 #[.int .i64 0, .int .i64 0, .bool false, .slice none 0 0, .slice none 0 0, .slice none 0 0, .slice none 0 0])
  have c2 : (w.alloc (.cells #[.int .i64 0, .int .i64 0, .bool false, .slice none 0 0, .slice none 0 0, .slice none 0 0, .slice none 0 0] 28)).cell? ⟨gs, 2, none⟩ = some (.bool false) := HX0.out.cell 2
  have hD0 : ¬ D < 1 := by omega
  have hD1 : IntKind.i64.wrap (D - 1) = (d : Int) := by rw [IntKind.wrap_i64]; omega
  have HN1 := Lib.hid (rnum1 gs p m c A bs true (w.alloc (.cells #[.int .i64 0, .int .i64 0, .bool false, .slice none 0 0, .slice none 0 0, .slice none 0 0, .slice none 0 0] 28)) hm hc hp (HBY.out.ch HB.out HC0.out) HX0.out)
  clear hR hN hb hB hD ih hd
  go_enter Try.func47, Try.ntmps47
  go_upto_region 1 with fail
  generalize w.alloc (.cells #[.int .i64 0, .int .i64 0, .bool false, .slice none 0 0, .slice none 0 0, .slice none 0 0, .slice none 0 0] 28) = wa at *
  go_wp2_with (go_at_call 66; refine HN1.out.mono ?_)
  rintro _ w1 ⟨v, q1, f1, e1, rfl, hx1, hc1, hq1⟩
  have HX1 := Lib.hid hx1
  have HC1 := Lib.hid (HC0.out.trans hc1 (R := fun j => j = gs) (fun _ h => h) (fun _ h => h))
  have HR1 := Lib.hid (hc1.bx HR0.out hne2)
  rw [e1] at hv
  obtain rfl : v = 6 := hv
  have HE1 := Lib.hid e1
  clear e1 hx1 hc1 HX0 HC0 HR0 HN1 c2
  have HT1 := Lib.hid (Tk.start (ok := not) (f := f1) (q := q1) (m := m) (c := c) (A := A) (rt := 84) hgl HR1.out HX1.out HC1.out #[.int .i64 6, .int .i64 0, .bool false, .slice none 0 0, .slice none 0 0, .slice none 0 0, .slice none 0 0] 3 1)
  have g0 : (w1.alloc (.cells #[.int .i64 6, .int .i64 0, .bool false, .slice none 0 0, .slice none 0 0, .slice none 0 0, .slice none 0 0] 28)).cell? ⟨w1.heap.size, 0, none⟩ = some (.int .i64 6) := HT1.out.bt.cell 0
  have HNN := Lib.hid (rnum1 gs q1 m c A bs f1 (w1.alloc (.cells #[.int .i64 6, .int .i64 0, .bool false, .slice none 0 0, .slice none 0 0, .slice none 0 0, .slice none 0 0] 28)) hm hc hq1 (HBY.out.ch HB.out HT1.out.ch) HT1.out.bs)
  go_wp2_with (go_at_call 66; refine HNN.out.mono ?_)
  rintro _ w2 ⟨v2, q2, f2, e2, rfl, hxx, hcc, hq2⟩
  have HT2 := Lib.hid (HT1.out.call hcc hxx)
  have HE2 := Lib.hid e2
  clear HNN hxx hcc e2
  clear g0
  have hn := nuR_byte bs HBY.out.lt 1 (by omega) (q1, f1)
  rw [HE2.out] at hn
  obtain ⟨k0, rfl⟩ : ∃ k0 : Nat, v2 = k0 := ⟨v2.toNat, by omega⟩
  have hk0 : k0 < 256 := by omega
  clear hn
  have HT4 := Lib.hid (show Tk w w2 84 not gs w1.heap.size m c q2 A f2 #[.int .i64 6, .int .i64 0, .bool false, .slice none 0 0, .slice none 0 0, .slice none 0 0, .slice none 0 0] (fun _ => False) (fun _ => True) 3 1 0 (.slice none 0 0) [] from HT2.out)
  obtain ⟨j0, hj0, hj1, hj2, hj3⟩ := info_parts int_info
  clear HT1 HT2
  go_wp2
  go_loopw [10] (fun i wr => ∃ (K : Int) (k q : Nat) (f : Bool) (V : Value) (S : Nat → Prop) (ds : List Int), i = .int .i64 K ∧ K + (k : Int) = (k0 : Int) ∧ 0 ≤ K ∧ q ≤ m ∧ k + ds.length ≤ 255 ∧ dmR bs k0 (q2, f2) = (ds ++ (dmR bs k (q, f)).1, (dmR bs k (q, f)).2) ∧ Tk w wr 84 not gs w1.heap.size m c q A f #[.int .i64 6, .int .i64 0, .bool false, .slice none 0 0, V, .slice none 0 0, .slice none 0 0] S (fun _ => True) 3 1 ds.length V (nums ds)) (fun i _ => k0 - (intOf i).toNat)
  case atStart => exact ⟨0, k0, q2, f2, _, _, [], rfl, by omega, Int.le_refl _, hq2, by simp; omega, by simp, HT4.out⟩
  case round =>
     obtain ⟨K, k, q, f, V, S, ds, rfl, hK, hK0, hq, hk, hpure, hT⟩ := hrel
     have HT := Lib.hid hT
     have HPU := Lib.hid hpure
     clear hT hpure HT4
     by_cases hlt : K < (k0 : Int)
     · cases f
       · have c2 : wr.cell? ⟨gs, 2, none⟩ = some (.bool true) := HT.out.bs.cell 2
         have hfd : dmR bs k0 (q2, f2) = (ds, q, false) := by rw [HPU.out, dmR_stop]; simp
         have HFD := Lib.hid hfd
         clear hfd HPU hj0 hj1 hj2 hj3
         obtain ⟨AV, CV, rfl⟩ := own_form HT.out.row
         have HIH := Lib.hid (IH.out gs q false wr hq (HBY.out.ch HB.out HT.out.ch) HT.out.bs)
         go_wp2_with (go_at_call 47; refine HIH.out.mono ?_)
         rintro _ w8 ⟨t, q8, f8, u0, u1, u2, u3, u4, u5, u6, S', e8, rfl, hL, hS', hx8, hc8, hq8⟩
         obtain ⟨fA9, dA9, bA9, nA9, fC9, dC9, bC9, nC9, rfl, rfl, rfl, rfl, rfl, rfl, rfl⟩ := hL.here.cells
         have HE8 := Lib.hid e8
         have HTB := Lib.hid ((HT.out.call hc8 hx8).base hL hc8.size hS' (fun k h => (HT.out.vlt k h).2) HT.out.bt.lt 28)
         have k5 := HTB.out.bt.cell 5
         have t5 := HTB.out.bt.frozen 5
         have HTC := Lib.hid (HTB.out.set 5 (.slice (some ⟨w8.heap.size, 0, none⟩) 1 1))
         clear hL hS' hx8 hc8 e8 HIH
         clear c2
         have d0 : ((w8.alloc (.cells #[.int .i64 t.c, .int .i64 t.w, .bool t.big, .slice fA9 t.fs.length fC9, .slice dA9 t.ds.length dC9, .slice bA9 t.bs.length bC9, .slice nA9 t.ns.length nC9] 28)).setCell ⟨w1.heap.size, 5, none⟩ (.slice (some ⟨w8.heap.size, 0, none⟩) 1 1)).cell? ⟨w1.heap.size, 0, none⟩ = some (.int .i64 6) := HTC.out.bt.cell 0
         have d1 : ((w8.alloc (.cells #[.int .i64 t.c, .int .i64 t.w, .bool t.big, .slice fA9 t.fs.length fC9, .slice dA9 t.ds.length dC9, .slice bA9 t.bs.length bC9, .slice nA9 t.ns.length nC9] 28)).setCell ⟨w1.heap.size, 5, none⟩ (.slice (some ⟨w8.heap.size, 0, none⟩) 1 1)).cell? ⟨w1.heap.size, 1, none⟩ = some (.int .i64 0) := HTC.out.bt.cell 1
         have d2 : ((w8.alloc (.cells #[.int .i64 t.c, .int .i64 t.w, .bool t.big, .slice fA9 t.fs.length fC9, .slice dA9 t.ds.length dC9, .slice bA9 t.bs.length bC9, .slice nA9 t.ns.length nC9] 28)).setCell ⟨w1.heap.size, 5, none⟩ (.slice (some ⟨w8.heap.size, 0, none⟩) 1 1)).cell? ⟨w1.heap.size, 2, none⟩ = some (.bool false) := HTC.out.bt.cell 2
         have d3 : ((w8.alloc (.cells #[.int .i64 t.c, .int .i64 t.w, .bool t.big, .slice fA9 t.fs.length fC9, .slice dA9 t.ds.length dC9, .slice bA9 t.bs.length bC9, .slice nA9 t.ns.length nC9] 28)).setCell ⟨w1.heap.size, 5, none⟩ (.slice (some ⟨w8.heap.size, 0, none⟩) 1 1)).cell? ⟨w1.heap.size, 3, none⟩ = some (.slice none 0 0) := HTC.out.bt.cell 3
         have d4 : ((w8.alloc (.cells #[.int .i64 t.c, .int .i64 t.w, .bool t.big, .slice fA9 t.fs.length fC9, .slice dA9 t.ds.length dC9, .slice bA9 t.bs.length bC9, .slice nA9 t.ns.length nC9] 28)).setCell ⟨w1.heap.size, 5, none⟩ (.slice (some ⟨w8.heap.size, 0, none⟩) 1 1)).cell? ⟨w1.heap.size, 4, none⟩ = some (.slice AV ds.length CV) := HTC.out.bt.cell 4
         have d5 : ((w8.alloc (.cells #[.int .i64 t.c, .int .i64 t.w, .bool t.big, .slice fA9 t.fs.length fC9, .slice dA9 t.ds.length dC9, .slice bA9 t.bs.length bC9, .slice nA9 t.ns.length nC9] 28)).setCell ⟨w1.heap.size, 5, none⟩ (.slice (some ⟨w8.heap.size, 0, none⟩) 1 1)).cell? ⟨w1.heap.size, 5, none⟩ = some (.slice (some ⟨w8.heap.size, 0, none⟩) 1 1) := HTC.out.bt.cell 5
         have d6 : ((w8.alloc (.cells #[.int .i64 t.c, .int .i64 t.w, .bool t.big, .slice fA9 t.fs.length fC9, .slice dA9 t.ds.length dC9, .slice bA9 t.bs.length bC9, .slice nA9 t.ns.length nC9] 28)).setCell ⟨w1.heap.size, 5, none⟩ (.slice (some ⟨w8.heap.size, 0, none⟩) 1 1)).cell? ⟨w1.heap.size, 6, none⟩ = some (.slice none 0 0) := HTC.out.bt.cell 6
         have r0 : ((w8.alloc (.cells #[.int .i64 t.c, .int .i64 t.w, .bool t.big, .slice fA9 t.fs.length fC9, .slice dA9 t.ds.length dC9, .slice bA9 t.bs.length bC9, .slice nA9 t.ns.length nC9] 28)).setCell ⟨w1.heap.size, 5, none⟩ (.slice (some ⟨w8.heap.size, 0, none⟩) 1 1)).cell? ⟨w.heap.size, 0, none⟩ = some (.int .i64 0) := HTC.out.br.cell 0
         have r1 : ((w8.alloc (.cells #[.int .i64 t.c, .int .i64 t.w, .bool t.big, .slice fA9 t.fs.length fC9, .slice dA9 t.ds.length dC9, .slice bA9 t.bs.length bC9, .slice nA9 t.ns.length nC9] 28)).setCell ⟨w1.heap.size, 5, none⟩ (.slice (some ⟨w8.heap.size, 0, none⟩) 1 1)).cell? ⟨w.heap.size, 1, none⟩ = some (.int .i64 0) := HTC.out.br.cell 1
         have r2 : ((w8.alloc (.cells #[.int .i64 t.c, .int .i64 t.w, .bool t.big, .slice fA9 t.fs.length fC9, .slice dA9 t.ds.length dC9, .slice bA9 t.bs.length bC9, .slice nA9 t.ns.length nC9] 28)).setCell ⟨w1.heap.size, 5, none⟩ (.slice (some ⟨w8.heap.size, 0, none⟩) 1 1)).cell? ⟨w.heap.size, 2, none⟩ = some (.bool false) := HTC.out.br.cell 2
         have r3 : ((w8.alloc (.cells #[.int .i64 t.c, .int .i64 t.w, .bool t.big, .slice fA9 t.fs.length fC9, .slice dA9 t.ds.length dC9, .slice bA9 t.bs.length bC9, .slice nA9 t.ns.length nC9] 28)).setCell ⟨w1.heap.size, 5, none⟩ (.slice (some ⟨w8.heap.size, 0, none⟩) 1 1)).cell? ⟨w.heap.size, 3, none⟩ = some (.slice none 0 0) := HTC.out.br.cell 3
         have r4 : ((w8.alloc (.cells #[.int .i64 t.c, .int .i64 t.w, .bool t.big, .slice fA9 t.fs.length fC9, .slice dA9 t.ds.length dC9, .slice bA9 t.bs.length bC9, .slice nA9 t.ns.length nC9] 28)).setCell ⟨w1.heap.size, 5, none⟩ (.slice (some ⟨w8.heap.size, 0, none⟩) 1 1)).cell? ⟨w.heap.size, 4, none⟩ = some (.slice none 0 0) := HTC.out.br.cell 4
         have r5 : ((w8.alloc (.cells #[.int .i64 t.c, .int .i64 t.w, .bool t.big, .slice fA9 t.fs.length fC9, .slice dA9 t.ds.length dC9, .slice bA9 t.bs.length bC9, .slice nA9 t.ns.length nC9] 28)).setCell ⟨w1.heap.size, 5, none⟩ (.slice (some ⟨w8.heap.size, 0, none⟩) 1 1)).cell? ⟨w.heap.size, 5, none⟩ = some (.slice none 0 0) := HTC.out.br.cell 5
         have r6 : ((w8.alloc (.cells #[.int .i64 t.c, .int .i64 t.w, .bool t.big, .slice fA9 t.fs.length fC9, .slice dA9 t.ds.length dC9, .slice bA9 t.bs.length bC9, .slice nA9 t.ns.length nC9] 28)).setCell ⟨w1.heap.size, 5, none⟩ (.slice (some ⟨w8.heap.size, 0, none⟩) 1 1)).cell? ⟨w.heap.size, 6, none⟩ = some (.slice none 0 0) := HTC.out.br.cell 6
         have y0 := HTC.out.br.frozen 0
         have y1 := HTC.out.br.frozen 1
         have y2 := HTC.out.br.frozen 2
         have y3 := HTC.out.br.frozen 3
         have y4 := HTC.out.br.frozen 4
         have y5 := HTC.out.br.frozen 5
         have y6 := HTC.out.br.frozen 6
         go_wp2
         refine bodyPost_ret (v := .agg #[.int .i64 6, .int .i64 0, .bool false, .slice none 0 0, .slice AV ds.length CV, .slice (some ⟨w8.heap.size, 0, none⟩) 1 1, .slice none 0 0]) (by simp [results, Try.results47, go_sem, r0, r1, r2, r3, r4, r5, r6]) rfl (HTC.out.fin (HTC.out.lies_D (by omega)) (fun _ h => h) hq8 (by rw [← HRR.out]; exact tkR_6 HE1.out HE2.out HFD.out HE8.out))
       · have c2 : wr.cell? ⟨gs, 2, none⟩ = some (.bool false) := HT.out.bs.cell 2
         obtain ⟨k', rfl⟩ : ∃ k', k = k' + 1 := ⟨k - 1, by omega⟩
         have hw : IntKind.i64.wrap (K + 1) = K + 1 := by rw [IntKind.wrap_i64]; omega
         have HTX := Lib.hid (rnum2 gs q m c A bs true wr.drew hm hc hq (HBY.out.ch HB.out HT.out.drew.ch) HT.out.drew.bs)
         have v4 : wr.cell? ⟨w1.heap.size, 4, none⟩ = some V := HT.out.bt.cell 4
         have v4d : wr.drew.cell? ⟨w1.heap.size, 4, none⟩ = some V := HT.out.drew.bt.cell 4
         have hkb : (ds.length + 1) * 8 ≤ 140737488355328 := by omega
         have hkm : ds.length + 1 ≤ maxLen := by unfold maxLen; omega
         go_upto_region 23 with fail
         go_region_law
           (first
             | (refine step_append_lies (w5.alloc (.cells #[.int .i64 y] 3)) (by rfl) (.tmp 91) (.tmp 94) 24 (by rfl) (w1.heap.size + 1) 3 j0 (.int .i64 0) 1 8 Try.underlying24 hj0 hj1 hj2 hj3 (by rfl) (by decide) V ds.length (nums ds) (by rfl) HTA.out.row ⟨w5.heap.size, 0, none⟩ 1 1 [.int .i64 y] (by rfl) (by rfl) (World.news_of_block (heap_alloc_new w5 (.cells #[.int .i64 y] 3))) (by simp [Value.oneCell']) (by decide) hkm hkb HTA.out.bt.lt (w5.heap.size + 1) (by rw [size_alloc]) ?_; intro g9 cap9 wt hown hgr hat hlt9; have HG9 := Lib.hid (HTA.out.grow hown hgr (by rw [size_alloc]; exact hat)); have o1 := HG9.out.bt.cell 4; have o2 := HG9.out.bt.frozen 4; clear hown hgr hat)
             | (go_simp; go_at_call 66; refine HTX.out.mono ?_; rintro _ w5 ⟨y, q5, f5, e5, rfl, hx5, hc5, hq5⟩; have HT5 := Lib.hid (HT.out.drew.call hc5 hx5); have HTA := Lib.hid (HT5.out.alloc (.cells #[.int .i64 y] 3)); have v4n : w5.cell? ⟨w1.heap.size, 4, none⟩ = some V := HT5.out.bt.cell 4; have v4m : (w5.alloc (.cells #[.int .i64 y] 3)).cell? ⟨w1.heap.size, 4, none⟩ = some V := HTA.out.bt.cell 4; have HE5 := Lib.hid e5; clear hx5 hc5 e5))
         all_goals
           have HG10 := Lib.hid (HG9.out.set 4 (.slice (some ⟨g9, 0, none⟩) (ds.length + 1) cap9))
           clear c2
           go_wp2
           go_roundw
           (case rel => exact ⟨K + 1, k', q5, f5, .slice (some ⟨g9, 0, none⟩) (ds.length + 1) cap9, S, ds ++ [y], rfl, by omega, by omega, hq5, by simp; omega, by rw [HPU.out, dmR_go HE5.out]; simp, by have h := HG10.out; simpa [nums_snoc] using h⟩)
           (case measure => simp [intOf]; omega)
     · obtain rfl : k = 0 := by omega
       have c2 : wr.cell? ⟨gs, 2, none⟩ = some (.bool (not f)) := HT.out.bs.cell 2
       have hfd : dmR bs k0 (q2, f2) = (ds, q, f) := by rw [HPU.out, dmR]; simp
       have HFD := Lib.hid hfd
       clear hfd HPU hj0 hj1 hj2 hj3
       obtain ⟨AV, CV, rfl⟩ := own_form HT.out.row
       have HIH := Lib.hid (IH.out gs q f wr hq (HBY.out.ch HB.out HT.out.ch) HT.out.bs)
       go_wp2_with (go_at_call 47; refine HIH.out.mono ?_)
       rintro _ w8 ⟨t, q8, f8, u0, u1, u2, u3, u4, u5, u6, S', e8, rfl, hL, hS', hx8, hc8, hq8⟩
       obtain ⟨fA9, dA9, bA9, nA9, fC9, dC9, bC9, nC9, rfl, rfl, rfl, rfl, rfl, rfl, rfl⟩ := hL.here.cells
       have HE8 := Lib.hid e8
       have HTB := Lib.hid ((HT.out.call hc8 hx8).base hL hc8.size hS' (fun k h => (HT.out.vlt k h).2) HT.out.bt.lt 28)
       have k5 := HTB.out.bt.cell 5
       have t5 := HTB.out.bt.frozen 5
       have HTC := Lib.hid (HTB.out.set 5 (.slice (some ⟨w8.heap.size, 0, none⟩) 1 1))
       clear hL hS' hx8 hc8 e8 HIH
       clear c2
       have d0 : ((w8.alloc (.cells #[.int .i64 t.c, .int .i64 t.w, .bool t.big, .slice fA9 t.fs.length fC9, .slice dA9 t.ds.length dC9, .slice bA9 t.bs.length bC9, .slice nA9 t.ns.length nC9] 28)).setCell ⟨w1.heap.size, 5, none⟩ (.slice (some ⟨w8.heap.size, 0, none⟩) 1 1)).cell? ⟨w1.heap.size, 0, none⟩ = some (.int .i64 6) := HTC.out.bt.cell 0
       have d1 : ((w8.alloc (.cells #[.int .i64 t.c, .int .i64 t.w, .bool t.big, .slice fA9 t.fs.length fC9, .slice dA9 t.ds.length dC9, .slice bA9 t.bs.length bC9, .slice nA9 t.ns.length nC9] 28)).setCell ⟨w1.heap.size, 5, none⟩ (.slice (some ⟨w8.heap.size, 0, none⟩) 1 1)).cell? ⟨w1.heap.size, 1, none⟩ = some (.int .i64 0) := HTC.out.bt.cell 1
       have d2 : ((w8.alloc (.cells #[.int .i64 t.c, .int .i64 t.w, .bool t.big, .slice fA9 t.fs.length fC9, .slice dA9 t.ds.length dC9, .slice bA9 t.bs.length bC9, .slice nA9 t.ns.length nC9] 28)).setCell ⟨w1.heap.size, 5, none⟩ (.slice (some ⟨w8.heap.size, 0, none⟩) 1 1)).cell? ⟨w1.heap.size, 2, none⟩ = some (.bool false) := HTC.out.bt.cell 2
       have d3 : ((w8.alloc (.cells #[.int .i64 t.c, .int .i64 t.w, .bool t.big, .slice fA9 t.fs.length fC9, .slice dA9 t.ds.length dC9, .slice bA9 t.bs.length bC9, .slice nA9 t.ns.length nC9] 28)).setCell ⟨w1.heap.size, 5, none⟩ (.slice (some ⟨w8.heap.size, 0, none⟩) 1 1)).cell? ⟨w1.heap.size, 3, none⟩ = some (.slice none 0 0) := HTC.out.bt.cell 3
       have d4 : ((w8.alloc (.cells #[.int .i64 t.c, .int .i64 t.w, .bool t.big, .slice fA9 t.fs.length fC9, .slice dA9 t.ds.length dC9, .slice bA9 t.bs.length bC9, .slice nA9 t.ns.length nC9] 28)).setCell ⟨w1.heap.size, 5, none⟩ (.slice (some ⟨w8.heap.size, 0, none⟩) 1 1)).cell? ⟨w1.heap.size, 4, none⟩ = some (.slice AV ds.length CV) := HTC.out.bt.cell 4
       have d5 : ((w8.alloc (.cells #[.int .i64 t.c, .int .i64 t.w, .bool t.big, .slice fA9 t.fs.length fC9, .slice dA9 t.ds.length dC9, .slice bA9 t.bs.length bC9, .slice nA9 t.ns.length nC9] 28)).setCell ⟨w1.heap.size, 5, none⟩ (.slice (some ⟨w8.heap.size, 0, none⟩) 1 1)).cell? ⟨w1.heap.size, 5, none⟩ = some (.slice (some ⟨w8.heap.size, 0, none⟩) 1 1) := HTC.out.bt.cell 5
       have d6 : ((w8.alloc (.cells #[.int .i64 t.c, .int .i64 t.w, .bool t.big, .slice fA9 t.fs.length fC9, .slice dA9 t.ds.length dC9, .slice bA9 t.bs.length bC9, .slice nA9 t.ns.length nC9] 28)).setCell ⟨w1.heap.size, 5, none⟩ (.slice (some ⟨w8.heap.size, 0, none⟩) 1 1)).cell? ⟨w1.heap.size, 6, none⟩ = some (.slice none 0 0) := HTC.out.bt.cell 6
       have r0 : ((w8.alloc (.cells #[.int .i64 t.c, .int .i64 t.w, .bool t.big, .slice fA9 t.fs.length fC9, .slice dA9 t.ds.length dC9, .slice bA9 t.bs.length bC9, .slice nA9 t.ns.length nC9] 28)).setCell ⟨w1.heap.size, 5, none⟩ (.slice (some ⟨w8.heap.size, 0, none⟩) 1 1)).cell? ⟨w.heap.size, 0, none⟩ = some (.int .i64 0) := HTC.out.br.cell 0
       have r1 : ((w8.alloc (.cells #[.int .i64 t.c, .int .i64 t.w, .bool t.big, .slice fA9 t.fs.length fC9, .slice dA9 t.ds.length dC9, .slice bA9 t.bs.length bC9, .slice nA9 t.ns.length nC9] 28)).setCell ⟨w1.heap.size, 5, none⟩ (.slice (some ⟨w8.heap.size, 0, none⟩) 1 1)).cell? ⟨w.heap.size, 1, none⟩ = some (.int .i64 0) := HTC.out.br.cell 1
       have r2 : ((w8.alloc (.cells #[.int .i64 t.c, .int .i64 t.w, .bool t.big, .slice fA9 t.fs.length fC9, .slice dA9 t.ds.length dC9, .slice bA9 t.bs.length bC9, .slice nA9 t.ns.length nC9] 28)).setCell ⟨w1.heap.size, 5, none⟩ (.slice (some ⟨w8.heap.size, 0, none⟩) 1 1)).cell? ⟨w.heap.size, 2, none⟩ = some (.bool false) := HTC.out.br.cell 2
       have r3 : ((w8.alloc (.cells #[.int .i64 t.c, .int .i64 t.w, .bool t.big, .slice fA9 t.fs.length fC9, .slice dA9 t.ds.length dC9, .slice bA9 t.bs.length bC9, .slice nA9 t.ns.length nC9] 28)).setCell ⟨w1.heap.size, 5, none⟩ (.slice (some ⟨w8.heap.size, 0, none⟩) 1 1)).cell? ⟨w.heap.size, 3, none⟩ = some (.slice none 0 0) := HTC.out.br.cell 3
       have r4 : ((w8.alloc (.cells #[.int .i64 t.c, .int .i64 t.w, .bool t.big, .slice fA9 t.fs.length fC9, .slice dA9 t.ds.length dC9, .slice bA9 t.bs.length bC9, .slice nA9 t.ns.length nC9] 28)).setCell ⟨w1.heap.size, 5, none⟩ (.slice (some ⟨w8.heap.size, 0, none⟩) 1 1)).cell? ⟨w.heap.size, 4, none⟩ = some (.slice none 0 0) := HTC.out.br.cell 4
       have r5 : ((w8.alloc (.cells #[.int .i64 t.c, .int .i64 t.w, .bool t.big, .slice fA9 t.fs.length fC9, .slice dA9 t.ds.length dC9, .slice bA9 t.bs.length bC9, .slice nA9 t.ns.length nC9] 28)).setCell ⟨w1.heap.size, 5, none⟩ (.slice (some ⟨w8.heap.size, 0, none⟩) 1 1)).cell? ⟨w.heap.size, 5, none⟩ = some (.slice none 0 0) := HTC.out.br.cell 5
       have r6 : ((w8.alloc (.cells #[.int .i64 t.c, .int .i64 t.w, .bool t.big, .slice fA9 t.fs.length fC9, .slice dA9 t.ds.length dC9, .slice bA9 t.bs.length bC9, .slice nA9 t.ns.length nC9] 28)).setCell ⟨w1.heap.size, 5, none⟩ (.slice (some ⟨w8.heap.size, 0, none⟩) 1 1)).cell? ⟨w.heap.size, 6, none⟩ = some (.slice none 0 0) := HTC.out.br.cell 6
       have y0 := HTC.out.br.frozen 0
       have y1 := HTC.out.br.frozen 1
       have y2 := HTC.out.br.frozen 2
       have y3 := HTC.out.br.frozen 3
       have y4 := HTC.out.br.frozen 4
       have y5 := HTC.out.br.frozen 5
       have y6 := HTC.out.br.frozen 6
       go_wp2
       refine bodyPost_ret (v := .agg #[.int .i64 6, .int .i64 0, .bool false, .slice none 0 0, .slice AV ds.length CV, .slice (some ⟨w8.heap.size, 0, none⟩) 1 1, .slice none 0 0]) (by simp [results, Try.results47, go_sem, r0, r1, r2, r3, r4, r5, r6]) rfl (HTC.out.fin (HTC.out.lies_D (by omega)) (fun _ h => h) hq8 (by rw [← HRR.out]; exact tkR_6 HE1.out HE2.out HFD.out HE8.out))

set_option maxHeartbeats 4000000 in
set_option maxRecDepth 100000 in
theorem rtake_7 (m c : Nat) (A : Option Addr) (bs : List Nat) (hm : m ≤ 140737488355328) (hc : m ≤ c) (d : Nat) (hd : d ≤ 100)
    (ih : ∀ (gs p : Nat) (fl : Bool) (w : World), p ≤ m → Byt w w.heap.size A m bs → Bx w gs 84 #[.slice A m c, .int .i64 p, .bool (not fl)] → Calls Try.prog 47 #[.pointer (some ⟨gs, 0, none⟩), .int .i64 (d : Int)] w (TakeP 84 not gs m c A (tkR bs d (p, fl)) w))
    (D : Int) (hD : D = (d : Int) + 1) (gs p : Nat) (w : World) (hp : p ≤ m) (hb : Byt w w.heap.size A m bs) (hB : Bx w gs 84 #[.slice A m c, .int .i64 p, .bool false]) (hv : (nuR bs 1 (p, true)).1 = 7) :
    Calls Try.prog 47 #[.pointer (some ⟨gs, 0, none⟩), .int .i64 D] w (TakeP 84 not gs m c A (tkR bs (d + 1) (p, true)) w) := by
  have IH := Lib.hid ih
  have hgl := hB.lt
  have hne : gs ≠ w.heap.size := by omega
  have hne2 : w.heap.size ≠ gs := by omega
  have HB := Lib.hid hB
  have HBY := Lib.hid hb
  generalize hR : tkR bs (d + 1) (p, true) = R
  have HRR := Lib.hid hR
  have hN := below_new w (.cells #[.int .i64 0, .int .i64 0, .bool false, .slice none 0 0, .slice none 0 0, .slice none 0 0, .slice none 0 0] 28)
  have HC0 := Lib.hid (Ch.of_below (P := fun j => j = gs) hN)
  have HX0 := Lib.hid (show Bx (w.alloc (.cells #[.int .i64 0, .int .i64 0, .bool false, .slice none 0 0, .slice none 0 0, .slice none 0 0, .slice none 0 0] 28)) gs 84 #[.slice A m c, .int .i64 p, .bool (not true)] from hB.later hN hB.lt)
  have HR0 := Lib.hid (Bx.new w 28 #[.int .i64 0, .int .i64 0, .bool false, .slice none 0 0, .slice none 0 0, .slice none 0 0, .slice none 0 0])
  have c2 : (w.alloc (.cells #[.int .i64 0, .int .i64 0, .bool false, .slice none 0 0, .slice none 0 0, .slice none 0 0, .slice none 0 0] 28)).cell? ⟨gs, 2, none⟩ = some (.bool false) := HX0.out.cell 2
  have hD0 : ¬ D < 1 := by omega
  have hD1 : IntKind.i64.wrap (D - 1) = (d : Int) := by rw [IntKind.wrap_i64]; omega
  have HN1 := Lib.hid (rnum1 gs p m c A bs true (w.alloc (.cells #[.int .i64 0, .int .i64 0, .bool false, .slice none 0 0, .slice none 0 0, .slice none 0 0, .slice none 0 0] 28)) hm hc hp (HBY.out.ch HB.out HC0.out) HX0.out)
  clear hR hN hb hB hD ih hd
  go_enter Try.func47, Try.ntmps47
  go_upto_region 1 with fail
  generalize w.alloc (.cells #[.int .i64 0, .int .i64 0, .bool false, .slice none 0 0, .slice none 0 0, .slice none 0 0, .slice none 0 0] 28) = wa at *
  go_wp2_with (go_at_call 66; refine HN1.out.mono ?_)
  rintro _ w1 ⟨v, q1, f1, e1, rfl, hx1, hc1, hq1⟩
  have HX1 := Lib.hid hx1
  have HC1 := Lib.hid (HC0.out.trans hc1 (R := fun j => j = gs) (fun _ h => h) (fun _ h => h))
  have HR1 := Lib.hid (hc1.bx HR0.out hne2)
  rw [e1] at hv
  obtain rfl : v = 7 := hv
  have HE1 := Lib.hid e1
  clear e1 hx1 hc1 HX0 HC0 HR0 HN1 c2
  have HT1 := Lib.hid (Tk.start (ok := not) (f := f1) (q := q1) (m := m) (c := c) (A := A) (rt := 84) hgl HR1.out HX1.out HC1.out #[.int .i64 7, .int .i64 0, .bool false, .slice none 0 0, .slice none 0 0, .slice none 0 0, .slice none 0 0] 68 2)
  have g0 : (w1.alloc (.cells #[.int .i64 7, .int .i64 0, .bool false, .slice none 0 0, .slice none 0 0, .slice none 0 0, .slice none 0 0] 28)).cell? ⟨w1.heap.size, 0, none⟩ = some (.int .i64 7) := HT1.out.bt.cell 0
  have HIH := Lib.hid (IH.out gs q1 f1 (w1.alloc (.cells #[.int .i64 7, .int .i64 0, .bool false, .slice none 0 0, .slice none 0 0, .slice none 0 0, .slice none 0 0] 28)) hq1 (HBY.out.ch HB.out HT1.out.ch) HT1.out.bs)
  go_wp2_with (go_at_call 47; refine HIH.out.mono ?_)
  rintro _ w8 ⟨t, q8, f8, u0, u1, u2, u3, u4, u5, u6, S', e8, rfl, hL, hS', hx8, hc8, hq8⟩
  obtain ⟨fA9, dA9, bA9, nA9, fC9, dC9, bC9, nC9, rfl, rfl, rfl, rfl, rfl, rfl, rfl⟩ := hL.here.cells
  have HE8 := Lib.hid e8
  have HTB := Lib.hid ((HT1.out.call hc8 hx8).base hL hc8.size hS' (fun k h => (HT1.out.vlt k h).2) HT1.out.bt.lt 28)
  have k5 := HTB.out.bt.cell 5
  have t5 := HTB.out.bt.frozen 5
  have HTC := Lib.hid (HTB.out.set 5 (.slice (some ⟨w8.heap.size, 0, none⟩) 1 1))
  clear hL hS' hx8 hc8 e8 HIH
  have HNN := Lib.hid (rnum1 gs q8 m c A bs f8 ((w8.alloc (.cells #[.int .i64 t.c, .int .i64 t.w, .bool t.big, .slice fA9 t.fs.length fC9, .slice dA9 t.ds.length dC9, .slice bA9 t.bs.length bC9, .slice nA9 t.ns.length nC9] 28)).setCell ⟨w1.heap.size, 5, none⟩ (.slice (some ⟨w8.heap.size, 0, none⟩) 1 1)) hm hc hq8 (HBY.out.ch HB.out HTC.out.ch) HTC.out.bs)
  go_wp2_with (go_at_call 66; refine HNN.out.mono ?_)
  rintro _ w3 ⟨v3, q3, f3, e3, rfl, hxx, hcc, hq3⟩
  have HT3 := Lib.hid (HTC.out.call hcc hxx)
  have HE3 := Lib.hid e3
  clear HNN hxx hcc e3
  clear g0 k5 t5
  have hn := nuR_byte bs HBY.out.lt 1 (by omega) (q8, f8)
  rw [HE3.out] at hn
  obtain ⟨k0, rfl⟩ : ∃ k0 : Nat, v3 = k0 := ⟨v3.toNat, by omega⟩
  have hk0 : k0 < 256 := by omega
  clear hn
  generalize hkb8 : w8.heap.size = kb at *
  clear hkb8
  have HT4 := Lib.hid (show Tk w w3 84 not gs w1.heap.size m c q3 A f3 #[.int .i64 7, .int .i64 0, .bool false, .slice none 0 0, .slice none 0 0, .slice (some ⟨kb, 0, none⟩) 1 1, .slice none 0 0] _ (BE _ kb t [.int .i64 t.c, .int .i64 t.w, .bool t.big, .slice fA9 t.fs.length fC9, .slice dA9 t.ds.length dC9, .slice bA9 t.bs.length bC9, .slice nA9 t.ns.length nC9]) 68 2 0 (.slice none 0 0) [] from HT3.out)
  obtain ⟨j0, hj0, hj1, hj2, hj3⟩ := info_parts member_info
  clear HT1 HTB HTC HT3
  generalize hSS : (fun k => S' k ∨ k = kb) = S0 at *
  clear hSS
  go_wp2
  go_loopw [12] (fun i wr => ∃ (K : Int) (k q : Nat) (f : Bool) (V : Value) (ns : List (ByteArray × Int)), i = .int .i64 K ∧ K + (k : Int) = (k0 : Int) ∧ 0 ≤ K ∧ q ≤ m ∧ k + ns.length ≤ 255 ∧ (∀ x ∈ ns, x.1.size ≤ 140737488355328 ∧ -9223372036854775808 ≤ x.2 ∧ x.2 ≤ 9223372036854775807) ∧ msR bs k0 (q3, f3) = (ns ++ (msR bs k (q, f)).1, (msR bs k (q, f)).2) ∧ Tk w wr 84 not gs w1.heap.size m c q A f #[.int .i64 7, .int .i64 0, .bool false, .slice none 0 0, .slice none 0 0, .slice (some ⟨kb, 0, none⟩) 1 1, V] S0 (BE S0 kb t [.int .i64 t.c, .int .i64 t.w, .bool t.big, .slice fA9 t.fs.length fC9, .slice dA9 t.ds.length dC9, .slice bA9 t.bs.length bC9, .slice nA9 t.ns.length nC9]) 68 2 ns.length V (mem2 ns)) (fun i _ => k0 - (intOf i).toNat)
  case atStart => exact ⟨0, k0, q3, f3, _, [], rfl, by omega, Int.le_refl _, hq3, by simp; omega, fun x hx => absurd hx List.not_mem_nil, by simp, HT4.out⟩
  case round =>
     obtain ⟨K, k, q, f, V, ns, rfl, hK, hK0, hq, hk, hnm, hpure, hT⟩ := hrel
     have HT := Lib.hid hT
     have HPU := Lib.hid hpure
     have HNM := Lib.hid hnm
     clear hT hpure hnm HT4
     by_cases hlt : K < (k0 : Int)
     · cases f
       · have c2 : wr.cell? ⟨gs, 2, none⟩ = some (.bool true) := HT.out.bs.cell 2
         have hfd : msR bs k0 (q3, f3) = (ns, q, false) := by rw [HPU.out, msR_stop]; simp
         have HFD := Lib.hid hfd
         clear hfd HPU hj0 hj1 hj2 hj3
         obtain ⟨AV, CV, rfl⟩ := own_form HT.out.row
         have d0 : wr.cell? ⟨w1.heap.size, 0, none⟩ = some (.int .i64 7) := HT.out.bt.cell 0
         have d1 : wr.cell? ⟨w1.heap.size, 1, none⟩ = some (.int .i64 0) := HT.out.bt.cell 1
         have d2 : wr.cell? ⟨w1.heap.size, 2, none⟩ = some (.bool false) := HT.out.bt.cell 2
         have d3 : wr.cell? ⟨w1.heap.size, 3, none⟩ = some (.slice none 0 0) := HT.out.bt.cell 3
         have d4 : wr.cell? ⟨w1.heap.size, 4, none⟩ = some (.slice none 0 0) := HT.out.bt.cell 4
         have d5 : wr.cell? ⟨w1.heap.size, 5, none⟩ = some (.slice (some ⟨kb, 0, none⟩) 1 1) := HT.out.bt.cell 5
         have d6 : wr.cell? ⟨w1.heap.size, 6, none⟩ = some (.slice AV ns.length CV) := HT.out.bt.cell 6
         have r0 : wr.cell? ⟨w.heap.size, 0, none⟩ = some (.int .i64 0) := HT.out.br.cell 0
         have r1 : wr.cell? ⟨w.heap.size, 1, none⟩ = some (.int .i64 0) := HT.out.br.cell 1
         have r2 : wr.cell? ⟨w.heap.size, 2, none⟩ = some (.bool false) := HT.out.br.cell 2
         have r3 : wr.cell? ⟨w.heap.size, 3, none⟩ = some (.slice none 0 0) := HT.out.br.cell 3
         have r4 : wr.cell? ⟨w.heap.size, 4, none⟩ = some (.slice none 0 0) := HT.out.br.cell 4
         have r5 : wr.cell? ⟨w.heap.size, 5, none⟩ = some (.slice none 0 0) := HT.out.br.cell 5
         have r6 : wr.cell? ⟨w.heap.size, 6, none⟩ = some (.slice none 0 0) := HT.out.br.cell 6
         have y0 := HT.out.br.frozen 0
         have y1 := HT.out.br.frozen 1
         have y2 := HT.out.br.frozen 2
         have y3 := HT.out.br.frozen 3
         have y4 := HT.out.br.frozen 4
         have y5 := HT.out.br.frozen 5
         have y6 := HT.out.br.frozen 6
         go_wp2
         refine bodyPost_ret (v := .agg #[.int .i64 7, .int .i64 0, .bool false, .slice none 0 0, .slice none 0 0, .slice (some ⟨kb, 0, none⟩) 1 1, .slice AV ns.length CV]) (by simp [results, Try.results47, go_sem, r0, r1, r2, r3, r4, r5, r6]) rfl (HT.out.fin (HT.out.lies_N (by omega) HNM.out) (fun _ h => h) hq (by rw [← HRR.out]; exact tkR_7 HE1.out HE8.out HE3.out HFD.out))
       · have c2 : wr.cell? ⟨gs, 2, none⟩ = some (.bool false) := HT.out.bs.cell 2
         obtain ⟨k', rfl⟩ : ∃ k', k = k' + 1 := ⟨k - 1, by omega⟩
         have hw : IntKind.i64.wrap (K + 1) = K + 1 := by rw [IntKind.wrap_i64]; omega
         have hkb : (ns.length + 1) * 24 ≤ 140737488355328 := by omega
         have hkm : ns.length + 1 ≤ maxLen := by unfold maxLen; omega
         have HTX := Lib.hid (rtext_any gs q m c A bs true wr hm hc hq (HBY.out.ch HB.out HT.out.ch) HT.out.bs)
         go_wp2_with (go_at_call 67; refine HTX.out.mono ?_)
         rintro _ w5 ⟨x, q5, f5, e5, rfl, hx5, hc5, hq5⟩
         have HT5 := Lib.hid (HT.out.call hc5 hx5)
         have HE5 := Lib.hid e5
         clear HTX c2 hx5 hc5 e5
         have HA5 := Lib.hid (HT5.out.alloc (.cells #[.string x, .int .i64 0] 68))
         have HF5 := Lib.hid (Bx.new w5 68 #[.string x, .int .i64 0])
         have HGB := Lib.hid HT5.out.bt.lt
         have HNS := Lib.hid (show ¬ S0 w5.heap.size from fun h => absurd (HT5.out.sb _ h).2 (Nat.lt_irrefl _))
         have HNV := Lib.hid (show V.ownBlock ≠ some w5.heap.size from fun h => absurd (HT5.out.vlt _ h).2 (Nat.lt_irrefl _))
         have HNN := Lib.hid (rnum8 gs q5 m c A bs f5 (w5.alloc (.cells #[.string x, .int .i64 0] 68)) hm hc hq5 (HBY.out.ch HB.out HA5.out.ch) HA5.out.bs)
         go_wp2_with (go_at_call 66; refine HNN.out.mono ?_)
         rintro _ w6 ⟨y, q6, f6, e6, rfl, hx6, hc6, hq6⟩
         have HT6 := Lib.hid (HA5.out.call hc6 hx6)
         have HE6 := Lib.hid e6
         have HF6 := Lib.hid (hc6.bx HF5.out (by have := HT5.out.bs.lt; omega))
         have kf : w6.cell? ⟨w5.heap.size, 1, none⟩ = some (.int .i64 0) := HF6.out.cell 1
         have tf := HF6.out.frozen 1
         clear HNN hx6 hc6 e6 HF5
         have HF7 := Lib.hid (show Bx (w6.setCell ⟨w5.heap.size, 1, none⟩ (.int .i64 y)) w5.heap.size 68 #[.string x, .int .i64 y] from HF6.out.set_ 1 (.int .i64 y))
         have HT7 := Lib.hid (HT6.out.away (wq := (w6.setCell ⟨w5.heap.size, 1, none⟩ (.int .i64 y))) HGB.out HNS.out HNV.out (by simp [World.setCell]) (fun k hk => Below.heap_setCell _ _ _ _ hk) rfl rfl rfl)
         go_upto_region 33 with fail
         generalize (w6.setCell ⟨w5.heap.size, 1, none⟩ (.int .i64 y)) = wq at *
         clear kf tf
         have v6 : wq.cell? ⟨w1.heap.size, 6, none⟩ = some V := HT7.out.bt.cell 6
         have x0 : wq.cell? ⟨w5.heap.size, 0, none⟩ = some (.string x) := HF7.out.cell 0
         have x1 : wq.cell? ⟨w5.heap.size, 1, none⟩ = some (.int .i64 y) := HF7.out.cell 1
         have HTA := Lib.hid (HT7.out.alloc (.cells #[.string x, .int .i64 y] 68))
         have HAN := Lib.hid (heap_alloc_new wq (.cells #[.string x, .int .i64 y] 68))
         go_wp2_with (at_builtin; refine wpList_append_lies _ rfl (.tmp 132) (.tmp 134) 26 rfl (w1.heap.size + 1) 68 j0 _ 2 24 Try.underlying26 hj0 hj1 hj2 hj3 rfl (by decide) V ns.length (mem2 ns) rfl HTA.out.row ⟨wq.heap.size, 0, none⟩ 1 1 [.string x, .int .i64 y] rfl rfl (World.news_of_block HAN.out) (by simp [Value.oneCell']) (by decide) hkm hkb HTA.out.bt.lt _ rfl ?_; intro g9 cap9 wt hown hgr hat hlt9; have HG9 := Lib.hid (HTA.out.grow hown hgr hat); have o1 := HG9.out.bt.cell 6; have o2 := HG9.out.bt.frozen 6; clear hown hgr hat)
         have HG10 := Lib.hid (HG9.out.set 6 (.slice (some ⟨g9, 0, none⟩) (ns.length + 1) cap9))
         go_roundw
         (case rel => exact ⟨K + 1, k', q6, f6, .slice (some ⟨g9, 0, none⟩) (ns.length + 1) cap9, ns ++ [(x, y)], rfl, by omega, by omega, hq6, by simp; omega, fun z hz => (List.mem_append.mp hz).elim (HNM.out z) (fun h => by rw [List.mem_singleton.mp h]; have h1 := txR_size bs (q, true); have h2 := nuR_i64 bs 8 (q5, f5); rw [HE5.out] at h1; rw [HE6.out] at h2; exact ⟨h1, h2⟩), by rw [HPU.out, msR_go HE5.out HE6.out]; simp, by have h := HG10.out; simpa [mem2_snoc] using h⟩)
         (case measure => simp [intOf]; omega)
     · obtain rfl : k = 0 := by omega
       have c2 : wr.cell? ⟨gs, 2, none⟩ = some (.bool (not f)) := HT.out.bs.cell 2
       have hfd : msR bs k0 (q3, f3) = (ns, q, f) := by rw [HPU.out, msR]; simp
       have HFD := Lib.hid hfd
       clear hfd HPU hj0 hj1 hj2 hj3
       obtain ⟨AV, CV, rfl⟩ := own_form HT.out.row
       have d0 : wr.cell? ⟨w1.heap.size, 0, none⟩ = some (.int .i64 7) := HT.out.bt.cell 0
       have d1 : wr.cell? ⟨w1.heap.size, 1, none⟩ = some (.int .i64 0) := HT.out.bt.cell 1
       have d2 : wr.cell? ⟨w1.heap.size, 2, none⟩ = some (.bool false) := HT.out.bt.cell 2
       have d3 : wr.cell? ⟨w1.heap.size, 3, none⟩ = some (.slice none 0 0) := HT.out.bt.cell 3
       have d4 : wr.cell? ⟨w1.heap.size, 4, none⟩ = some (.slice none 0 0) := HT.out.bt.cell 4
       have d5 : wr.cell? ⟨w1.heap.size, 5, none⟩ = some (.slice (some ⟨kb, 0, none⟩) 1 1) := HT.out.bt.cell 5
       have d6 : wr.cell? ⟨w1.heap.size, 6, none⟩ = some (.slice AV ns.length CV) := HT.out.bt.cell 6
       have r0 : wr.cell? ⟨w.heap.size, 0, none⟩ = some (.int .i64 0) := HT.out.br.cell 0
       have r1 : wr.cell? ⟨w.heap.size, 1, none⟩ = some (.int .i64 0) := HT.out.br.cell 1
       have r2 : wr.cell? ⟨w.heap.size, 2, none⟩ = some (.bool false) := HT.out.br.cell 2
       have r3 : wr.cell? ⟨w.heap.size, 3, none⟩ = some (.slice none 0 0) := HT.out.br.cell 3
       have r4 : wr.cell? ⟨w.heap.size, 4, none⟩ = some (.slice none 0 0) := HT.out.br.cell 4
       have r5 : wr.cell? ⟨w.heap.size, 5, none⟩ = some (.slice none 0 0) := HT.out.br.cell 5
       have r6 : wr.cell? ⟨w.heap.size, 6, none⟩ = some (.slice none 0 0) := HT.out.br.cell 6
       have y0 := HT.out.br.frozen 0
       have y1 := HT.out.br.frozen 1
       have y2 := HT.out.br.frozen 2
       have y3 := HT.out.br.frozen 3
       have y4 := HT.out.br.frozen 4
       have y5 := HT.out.br.frozen 5
       have y6 := HT.out.br.frozen 6
       go_wp2
       refine bodyPost_ret (v := .agg #[.int .i64 7, .int .i64 0, .bool false, .slice none 0 0, .slice none 0 0, .slice (some ⟨kb, 0, none⟩) 1 1, .slice AV ns.length CV]) (by simp [results, Try.results47, go_sem, r0, r1, r2, r3, r4, r5, r6]) rfl (HT.out.fin (HT.out.lies_N (by omega) HNM.out) (fun _ h => h) hq (by rw [← HRR.out]; exact tkR_7 HE1.out HE8.out HE3.out HFD.out))

theorem rtake_any (m c : Nat) (A : Option Addr) (bs : List Nat) (hm : m ≤ 140737488355328) (hc : m ≤ c) : ∀ (d : Nat), d ≤ 100 → ∀ (gs p : Nat) (fl : Bool) (w : World), p ≤ m → Byt w w.heap.size A m bs → Bx w gs 84 #[.slice A m c, .int .i64 p, .bool (not fl)] → Calls Try.prog 47 #[.pointer (some ⟨gs, 0, none⟩), .int .i64 (d : Int)] w (TakeP 84 not gs m c A (tkR bs d (p, fl)) w) := by
  intro d
  induction d with
  | zero => intro _ gs p fl w hp hb hB; exact rtake_zero m c A bs hm hc 0 (by decide) gs p fl w hp hB
  | succ d ih =>
    intro hd gs p fl w hp hb hB
    cases fl
    · rw [tkR_bad bs _ _ rfl]; exact rtake_bad m c A bs hm hc _ (by omega) false rfl gs p w hp hB
    · have ih := ih (by omega)
      by_cases h5 : (nuR bs 1 (p, true)).1 = 5
      · exact rtake_5 m c A bs hm hc d (by omega) ih _ (by push_cast; rfl) gs p w hp hb hB h5
      by_cases h6 : (nuR bs 1 (p, true)).1 = 6
      · exact rtake_6 m c A bs hm hc d (by omega) ih _ (by push_cast; rfl) gs p w hp hb hB h6
      by_cases h7 : (nuR bs 1 (p, true)).1 = 7
      · exact rtake_7 m c A bs hm hc d (by omega) ih _ (by push_cast; rfl) gs p w hp hb hB h7
      · exact rtake_0 m c A bs hm hc d (by omega) ih _ (by push_cast; rfl) gs p w hp hb hB ⟨h5, h6, h7⟩
end Go.Proofs.Ytbdhihgokkcmfaa.Ty9
