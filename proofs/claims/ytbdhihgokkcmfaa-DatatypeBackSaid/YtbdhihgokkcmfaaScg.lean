/- The reference's Load. -/
import Derived.Test.YtbdhihgokkcmfaaScf
namespace Go.Proofs.Ytbdhihgokkcmfaa.Ty9
set_option linter.unusedVariables false
set_option linter.unusedSimpArgs false
open Go.RowKit Wd

set_option maxHeartbeats 4000000 in
set_option maxRecDepth 100000 in
theorem rload_A (m c : Nat) (A : Option Addr) (bs : List Nat) (w : World) (hm : m ≤ 140737488000000) (hc : m ≤ c) (hb : Byt w w.heap.size A m bs) (hf : (tkR bs 4 (0, true)).2.2 = false) :
    Calls Try.prog 30 #[.slice A m c] w (LdP (loadT bs) w) := by
  generalize hR : loadT bs = R
  have HRR := Lib.hid hR
  have hN := below_new w (.cells #[.int .i64 0, .int .i64 0, .bool false, .slice none 0 0, .slice none 0 0, .slice none 0 0, .slice none 0 0] 28)
  have hN2 := below_new (w.alloc (.cells #[.int .i64 0, .int .i64 0, .bool false, .slice none 0 0, .slice none 0 0, .slice none 0 0, .slice none 0 0] 28)) (.cells #[.slice A m c, .int .i64 0, .bool false] 84)
  have HR0 := Lib.hid ((Bx.new w 28 #[.int .i64 0, .int .i64 0, .bool false, .slice none 0 0, .slice none 0 0, .slice none 0 0, .slice none 0 0]).later hN2 (by rw [size_alloc]; exact Nat.lt_succ_self _))
  have HX0 := Lib.hid (show Bx ((w.alloc (.cells #[.int .i64 0, .int .i64 0, .bool false, .slice none 0 0, .slice none 0 0, .slice none 0 0, .slice none 0 0] 28)).alloc (.cells #[.slice A m c, .int .i64 0, .bool false] 84)) (w.heap.size + 1) 84 #[.slice A m c, .int .i64 ((0 : Nat) : Int), .bool (not true)] from by have h := Bx.new (w.alloc (.cells #[.int .i64 0, .int .i64 0, .bool false, .slice none 0 0, .slice none 0 0, .slice none 0 0, .slice none 0 0] 28)) 84 #[.slice A m c, .int .i64 0, .bool false]; rw [size_alloc] at h; exact h)
  have hN3 := below_more hN hN2
  have HY0 := Lib.hid ((hb.later hN3).up hN3.size)
  have HW0 := Lib.hid hN3
  have HTK := Lib.hid (rtake_any m c A bs (by omega) hc 4 (by omega) (w.heap.size + 1) 0 true ((w.alloc (.cells #[.int .i64 0, .int .i64 0, .bool false, .slice none 0 0, .slice none 0 0, .slice none 0 0, .slice none 0 0] 28)).alloc (.cells #[.slice A m c, .int .i64 0, .bool false] 84)) (Nat.zero_le _) HY0.out HX0.out)
  have HB := Lib.hid hb
  have hsz : ((w.alloc (.cells #[.int .i64 0, .int .i64 0, .bool false, .slice none 0 0, .slice none 0 0, .slice none 0 0, .slice none 0 0] 28)).alloc (.cells #[.slice A m c, .int .i64 0, .bool false] 84)).heap.size = w.heap.size + 1 + 1 := by rw [size_alloc, size_alloc]
  have HSZ := Lib.hid hsz
  clear hR hN hN2 hN3 hb hsz
  go_enter Try.func30, Try.ntmps30
  go_upto_region 2 with fail
  generalize (w.alloc (.cells #[.int .i64 0, .int .i64 0, .bool false, .slice none 0 0, .slice none 0 0, .slice none 0 0, .slice none 0 0] 28)).alloc (.cells #[.slice A m c, .int .i64 0, .bool false] 84) = wa at *
  go_wp2_with (go_at_call 47; refine HTK.out.mono ?_)
  rintro _ w1 ⟨t, q, f, u0, u1, u2, u3, u4, u5, u6, S, e1, rfl, hL, hS, hx1, hc1, hq1⟩
  obtain ⟨fA, dA, bA, nA, fC, dC, bC, nC, rfl, rfl, rfl, rfl, rfl, rfl, rfl⟩ := hL.here.cells
  have HE1 := Lib.hid e1
  have HS := Lib.hid (show ∀ k, S k → w.heap.size + 1 < k from fun k hk => by have := hS k hk; have := HSZ.out; omega)
  have hn := below_new w1 (.cells #[.int .i64 t.c, .int .i64 t.w, .bool t.big, .slice fA t.fs.length fC, .slice dA t.ds.length dC, .slice bA t.bs.length bC, .slice nA t.ns.length nC] 28)
  have hw1 : Below w.heap.size w w1 := HW0.out.trans (hc1.below (B := w.heap.size) (by have := HSZ.out; omega) (fun j hj => by omega))
  have HW1 := Lib.hid (below_more hw1 hn)
  have HX1 := Lib.hid (hx1.later hn hx1.lt)
  have HR1 := Lib.hid ((hc1.bx HR0.out (by omega)).later hn (hc1.bx HR0.out (by omega)).lt)
  have HT1 := Lib.hid (Bx.new w1 28 #[.int .i64 t.c, .int .i64 t.w, .bool t.big, .slice fA t.fs.length fC, .slice dA t.ds.length dC, .slice bA t.bs.length bC, .slice nA t.ns.length nC])
  have HL1 := Lib.hid (hL.keep (w2 := w1.alloc (.cells #[.int .i64 t.c, .int .i64 t.w, .bool t.big, .slice fA t.fs.length fC, .slice dA t.ds.length dC, .slice bA t.bs.length bC, .slice nA t.ns.length nC] 28)) (fun k hk => hn.block k (hL.1 k hk)) hn.size)
  clear hL hS hx1 hc1 hw1 hn e1 HTK HX0 HR0 HY0
  rw [HE1.out] at hf
  obtain rfl : f = false := hf
  have c2 : (w1.alloc (.cells #[.int .i64 t.c, .int .i64 t.w, .bool t.big, .slice fA t.fs.length fC, .slice dA t.ds.length dC, .slice bA t.bs.length bC, .slice nA t.ns.length nC] 28)).cell? ⟨w.heap.size + 1, 2, none⟩ = some (.bool true) := HX1.out.cell 2
  go_upto_region 3 with fail
  generalize (w1.alloc (.cells #[.int .i64 t.c, .int .i64 t.w, .bool t.big, .slice fA t.fs.length fC, .slice dA t.ds.length dC, .slice bA t.bs.length bC, .slice nA t.ns.length nC] 28)) = wb at *
  have r0 : wb.cell? ⟨w.heap.size, 0, none⟩ = some (.int .i64 0) := HR1.out.cell 0
  have r1 : wb.cell? ⟨w.heap.size, 1, none⟩ = some (.int .i64 0) := HR1.out.cell 1
  have r2 : wb.cell? ⟨w.heap.size, 2, none⟩ = some (.bool false) := HR1.out.cell 2
  have r3 : wb.cell? ⟨w.heap.size, 3, none⟩ = some (.slice none 0 0) := HR1.out.cell 3
  have r4 : wb.cell? ⟨w.heap.size, 4, none⟩ = some (.slice none 0 0) := HR1.out.cell 4
  have r5 : wb.cell? ⟨w.heap.size, 5, none⟩ = some (.slice none 0 0) := HR1.out.cell 5
  have r6 : wb.cell? ⟨w.heap.size, 6, none⟩ = some (.slice none 0 0) := HR1.out.cell 6
  have y0 := HR1.out.frozen 0
  have y1 := HR1.out.frozen 1
  have y2 := HR1.out.frozen 2
  have y3 := HR1.out.frozen 3
  have y4 := HR1.out.frozen 4
  have y5 := HR1.out.frozen 5
  have y6 := HR1.out.frozen 6
  go_wp2
  refine bodyPost_ret (v := .tuple #[.agg #[.int .i64 0, .int .i64 0, .bool false, .slice none 0 0, .slice none 0 0, .slice none 0 0, .slice none 0 0], .int .i64 5]) (by simp [results, Try.results30, go_sem, r0, r1, r2, r3, r4, r5, r6]) rfl (load_fin HW1.out (lies_0 (fun _ => False) (fun _ h => h.elim) 0 0 false) (fun _ h => h.elim) (by rw [← HRR.out]; exact loadT_bad HE1.out))

set_option maxHeartbeats 4000000 in
set_option maxRecDepth 100000 in
theorem rload_B (m c : Nat) (A : Option Addr) (bs : List Nat) (w : World) (hm : m ≤ 140737488000000) (hc : m ≤ c) (hb : Byt w w.heap.size A m bs) (hv : ¬ (sz 4 (tkR bs 4 (0, true)).1 ≠ 0 ∧ lb (tkR bs 4 (0, true)).1 = bs)) (hf : (tkR bs 4 (0, true)).2.2 = true) (hz : sz 4 (tkR bs 4 (0, true)).1 = 0) :
    Calls Try.prog 30 #[.slice A m c] w (LdP (loadT bs) w) := by
  generalize hR : loadT bs = R
  have HRR := Lib.hid hR
  have hN := below_new w (.cells #[.int .i64 0, .int .i64 0, .bool false, .slice none 0 0, .slice none 0 0, .slice none 0 0, .slice none 0 0] 28)
  have hN2 := below_new (w.alloc (.cells #[.int .i64 0, .int .i64 0, .bool false, .slice none 0 0, .slice none 0 0, .slice none 0 0, .slice none 0 0] 28)) (.cells #[.slice A m c, .int .i64 0, .bool false] 84)
  have HR0 := Lib.hid ((Bx.new w 28 #[.int .i64 0, .int .i64 0, .bool false, .slice none 0 0, .slice none 0 0, .slice none 0 0, .slice none 0 0]).later hN2 (by rw [size_alloc]; exact Nat.lt_succ_self _))
  have HX0 := Lib.hid (show Bx ((w.alloc (.cells #[.int .i64 0, .int .i64 0, .bool false, .slice none 0 0, .slice none 0 0, .slice none 0 0, .slice none 0 0] 28)).alloc (.cells #[.slice A m c, .int .i64 0, .bool false] 84)) (w.heap.size + 1) 84 #[.slice A m c, .int .i64 ((0 : Nat) : Int), .bool (not true)] from by have h := Bx.new (w.alloc (.cells #[.int .i64 0, .int .i64 0, .bool false, .slice none 0 0, .slice none 0 0, .slice none 0 0, .slice none 0 0] 28)) 84 #[.slice A m c, .int .i64 0, .bool false]; rw [size_alloc] at h; exact h)
  have hN3 := below_more hN hN2
  have HY0 := Lib.hid ((hb.later hN3).up hN3.size)
  have HW0 := Lib.hid hN3
  have HTK := Lib.hid (rtake_any m c A bs (by omega) hc 4 (by omega) (w.heap.size + 1) 0 true ((w.alloc (.cells #[.int .i64 0, .int .i64 0, .bool false, .slice none 0 0, .slice none 0 0, .slice none 0 0, .slice none 0 0] 28)).alloc (.cells #[.slice A m c, .int .i64 0, .bool false] 84)) (Nat.zero_le _) HY0.out HX0.out)
  have HB := Lib.hid hb
  have hsz : ((w.alloc (.cells #[.int .i64 0, .int .i64 0, .bool false, .slice none 0 0, .slice none 0 0, .slice none 0 0, .slice none 0 0] 28)).alloc (.cells #[.slice A m c, .int .i64 0, .bool false] 84)).heap.size = w.heap.size + 1 + 1 := by rw [size_alloc, size_alloc]
  have HSZ := Lib.hid hsz
  clear hR hN hN2 hN3 hb hsz
  go_enter Try.func30, Try.ntmps30
  go_upto_region 2 with fail
  generalize (w.alloc (.cells #[.int .i64 0, .int .i64 0, .bool false, .slice none 0 0, .slice none 0 0, .slice none 0 0, .slice none 0 0] 28)).alloc (.cells #[.slice A m c, .int .i64 0, .bool false] 84) = wa at *
  go_wp2_with (go_at_call 47; refine HTK.out.mono ?_)
  rintro _ w1 ⟨t, q, f, u0, u1, u2, u3, u4, u5, u6, S, e1, rfl, hL, hS, hx1, hc1, hq1⟩
  rw [e1] at hv
  obtain ⟨fA, dA, bA, nA, fC, dC, bC, nC, rfl, rfl, rfl, rfl, rfl, rfl, rfl⟩ := hL.here.cells
  have HE1 := Lib.hid e1
  have HV := Lib.hid hv
  clear hv
  have HS := Lib.hid (show ∀ k, S k → w.heap.size + 1 < k from fun k hk => by have := hS k hk; have := HSZ.out; omega)
  have hn := below_new w1 (.cells #[.int .i64 t.c, .int .i64 t.w, .bool t.big, .slice fA t.fs.length fC, .slice dA t.ds.length dC, .slice bA t.bs.length bC, .slice nA t.ns.length nC] 28)
  have hw1 : Below w.heap.size w w1 := HW0.out.trans (hc1.below (B := w.heap.size) (by have := HSZ.out; omega) (fun j hj => by omega))
  have HW1 := Lib.hid (below_more hw1 hn)
  have HX1 := Lib.hid (hx1.later hn hx1.lt)
  have HR1 := Lib.hid ((hc1.bx HR0.out (by omega)).later hn (hc1.bx HR0.out (by omega)).lt)
  have HT1 := Lib.hid (Bx.new w1 28 #[.int .i64 t.c, .int .i64 t.w, .bool t.big, .slice fA t.fs.length fC, .slice dA t.ds.length dC, .slice bA t.bs.length bC, .slice nA t.ns.length nC])
  have HL1 := Lib.hid (hL.keep (w2 := w1.alloc (.cells #[.int .i64 t.c, .int .i64 t.w, .bool t.big, .slice fA t.fs.length fC, .slice dA t.ds.length dC, .slice bA t.bs.length bC, .slice nA t.ns.length nC] 28)) (fun k hk => hn.block k (hL.1 k hk)) hn.size)
  clear hL hS hx1 hc1 hw1 hn e1 HTK HX0 HR0 HY0
  rw [HE1.out] at hf hz
  obtain rfl : f = true := hf
  have HZ := Lib.hid hz
  clear hz
  have c2 : (w1.alloc (.cells #[.int .i64 t.c, .int .i64 t.w, .bool t.big, .slice fA t.fs.length fC, .slice dA t.ds.length dC, .slice bA t.bs.length bC, .slice nA t.ns.length nC] 28)).cell? ⟨w.heap.size + 1, 2, none⟩ = some (.bool false) := HX1.out.cell 2
  go_upto_region 3 with fail
  have HT2 := Lib.hid (HL1.out.here)
  have HBY := Lib.hid ((HB.out.later HW1.out).up HW1.out.size)
  generalize (w1.alloc (.cells #[.int .i64 t.c, .int .i64 t.w, .bool t.big, .slice fA t.fs.length fC, .slice dA t.ds.length dC, .slice bA t.bs.length bC, .slice nA t.ns.length nC] 28)) = wb at *
  have d0 : wb.cell? ⟨w1.heap.size, 0, none⟩ = some (.int .i64 t.c) := HT1.out.cell 0
  have d1 : wb.cell? ⟨w1.heap.size, 1, none⟩ = some (.int .i64 t.w) := HT1.out.cell 1
  have d2 : wb.cell? ⟨w1.heap.size, 2, none⟩ = some (.bool t.big) := HT1.out.cell 2
  have d3 : wb.cell? ⟨w1.heap.size, 3, none⟩ = some (.slice fA t.fs.length fC) := HT1.out.cell 3
  have d4 : wb.cell? ⟨w1.heap.size, 4, none⟩ = some (.slice dA t.ds.length dC) := HT1.out.cell 4
  have d5 : wb.cell? ⟨w1.heap.size, 5, none⟩ = some (.slice bA t.bs.length bC) := HT1.out.cell 5
  have d6 : wb.cell? ⟨w1.heap.size, 6, none⟩ = some (.slice nA t.ns.length nC) := HT1.out.cell 6
  have hq15 : ((15 : Int) != 0) = true := by decide
  have HBB := Lib.hid (rbytes_no t _ wb HT2.out HZ.out)
  go_wp2_with (go_at_call 22; refine HBB.out.mono ?_)
  rintro _ w3 ⟨rfl, hb3⟩
  have HW3 := Lib.hid (below_more HW1.out hb3)
  have HR3 := Lib.hid (HR1.out.later hb3 HR1.out.lt)
  clear hb3 d0 d1 d2 d3 d4 d5 d6 HBB
  have r0 : w3.cell? ⟨w.heap.size, 0, none⟩ = some (.int .i64 0) := HR3.out.cell 0
  have r1 : w3.cell? ⟨w.heap.size, 1, none⟩ = some (.int .i64 0) := HR3.out.cell 1
  have r2 : w3.cell? ⟨w.heap.size, 2, none⟩ = some (.bool false) := HR3.out.cell 2
  have r3 : w3.cell? ⟨w.heap.size, 3, none⟩ = some (.slice none 0 0) := HR3.out.cell 3
  have r4 : w3.cell? ⟨w.heap.size, 4, none⟩ = some (.slice none 0 0) := HR3.out.cell 4
  have r5 : w3.cell? ⟨w.heap.size, 5, none⟩ = some (.slice none 0 0) := HR3.out.cell 5
  have r6 : w3.cell? ⟨w.heap.size, 6, none⟩ = some (.slice none 0 0) := HR3.out.cell 6
  have y0 := HR3.out.frozen 0
  have y1 := HR3.out.frozen 1
  have y2 := HR3.out.frozen 2
  have y3 := HR3.out.frozen 3
  have y4 := HR3.out.frozen 4
  have y5 := HR3.out.frozen 5
  have y6 := HR3.out.frozen 6
  go_wp2
  refine bodyPost_ret (v := .tuple #[.agg #[.int .i64 0, .int .i64 0, .bool false, .slice none 0 0, .slice none 0 0, .slice none 0 0, .slice none 0 0], .int .i64 5]) (by simp [results, Try.results30, go_sem, r0, r1, r2, r3, r4, r5, r6]) rfl (load_fin HW3.out (lies_0 (fun _ => False) (fun _ h => h.elim) 0 0 false) (fun _ h => h.elim) (by rw [← HRR.out]; exact loadT_no HE1.out HV.out))

set_option maxHeartbeats 4000000 in
set_option maxRecDepth 100000 in
theorem rload_C (m c : Nat) (A : Option Addr) (bs : List Nat) (w : World) (hm : m ≤ 140737488000000) (hc : m ≤ c) (hb : Byt w w.heap.size A m bs) (hv : ¬ (sz 4 (tkR bs 4 (0, true)).1 ≠ 0 ∧ lb (tkR bs 4 (0, true)).1 = bs)) (hf : (tkR bs 4 (0, true)).2.2 = true) (hz : sz 4 (tkR bs 4 (0, true)).1 ≠ 0) :
    Calls Try.prog 30 #[.slice A m c] w (LdP (loadT bs) w) := by
  generalize hR : loadT bs = R
  have HRR := Lib.hid hR
  have hN := below_new w (.cells #[.int .i64 0, .int .i64 0, .bool false, .slice none 0 0, .slice none 0 0, .slice none 0 0, .slice none 0 0] 28)
  have hN2 := below_new (w.alloc (.cells #[.int .i64 0, .int .i64 0, .bool false, .slice none 0 0, .slice none 0 0, .slice none 0 0, .slice none 0 0] 28)) (.cells #[.slice A m c, .int .i64 0, .bool false] 84)
  have HR0 := Lib.hid ((Bx.new w 28 #[.int .i64 0, .int .i64 0, .bool false, .slice none 0 0, .slice none 0 0, .slice none 0 0, .slice none 0 0]).later hN2 (by rw [size_alloc]; exact Nat.lt_succ_self _))
  have HX0 := Lib.hid (show Bx ((w.alloc (.cells #[.int .i64 0, .int .i64 0, .bool false, .slice none 0 0, .slice none 0 0, .slice none 0 0, .slice none 0 0] 28)).alloc (.cells #[.slice A m c, .int .i64 0, .bool false] 84)) (w.heap.size + 1) 84 #[.slice A m c, .int .i64 ((0 : Nat) : Int), .bool (not true)] from by have h := Bx.new (w.alloc (.cells #[.int .i64 0, .int .i64 0, .bool false, .slice none 0 0, .slice none 0 0, .slice none 0 0, .slice none 0 0] 28)) 84 #[.slice A m c, .int .i64 0, .bool false]; rw [size_alloc] at h; exact h)
  have hN3 := below_more hN hN2
  have HY0 := Lib.hid ((hb.later hN3).up hN3.size)
  have HW0 := Lib.hid hN3
  have HTK := Lib.hid (rtake_any m c A bs (by omega) hc 4 (by omega) (w.heap.size + 1) 0 true ((w.alloc (.cells #[.int .i64 0, .int .i64 0, .bool false, .slice none 0 0, .slice none 0 0, .slice none 0 0, .slice none 0 0] 28)).alloc (.cells #[.slice A m c, .int .i64 0, .bool false] 84)) (Nat.zero_le _) HY0.out HX0.out)
  have HB := Lib.hid hb
  have hsz : ((w.alloc (.cells #[.int .i64 0, .int .i64 0, .bool false, .slice none 0 0, .slice none 0 0, .slice none 0 0, .slice none 0 0] 28)).alloc (.cells #[.slice A m c, .int .i64 0, .bool false] 84)).heap.size = w.heap.size + 1 + 1 := by rw [size_alloc, size_alloc]
  have HSZ := Lib.hid hsz
  clear hR hN hN2 hN3 hb hsz
  go_enter Try.func30, Try.ntmps30
  go_upto_region 2 with fail
  generalize (w.alloc (.cells #[.int .i64 0, .int .i64 0, .bool false, .slice none 0 0, .slice none 0 0, .slice none 0 0, .slice none 0 0] 28)).alloc (.cells #[.slice A m c, .int .i64 0, .bool false] 84) = wa at *
  go_wp2_with (go_at_call 47; refine HTK.out.mono ?_)
  rintro _ w1 ⟨t, q, f, u0, u1, u2, u3, u4, u5, u6, S, e1, rfl, hL, hS, hx1, hc1, hq1⟩
  rw [e1] at hv
  obtain ⟨fA, dA, bA, nA, fC, dC, bC, nC, rfl, rfl, rfl, rfl, rfl, rfl, rfl⟩ := hL.here.cells
  have HE1 := Lib.hid e1
  have HV := Lib.hid hv
  clear hv
  have HS := Lib.hid (show ∀ k, S k → w.heap.size + 1 < k from fun k hk => by have := hS k hk; have := HSZ.out; omega)
  have hn := below_new w1 (.cells #[.int .i64 t.c, .int .i64 t.w, .bool t.big, .slice fA t.fs.length fC, .slice dA t.ds.length dC, .slice bA t.bs.length bC, .slice nA t.ns.length nC] 28)
  have hw1 : Below w.heap.size w w1 := HW0.out.trans (hc1.below (B := w.heap.size) (by have := HSZ.out; omega) (fun j hj => by omega))
  have HW1 := Lib.hid (below_more hw1 hn)
  have HX1 := Lib.hid (hx1.later hn hx1.lt)
  have HR1 := Lib.hid ((hc1.bx HR0.out (by omega)).later hn (hc1.bx HR0.out (by omega)).lt)
  have HT1 := Lib.hid (Bx.new w1 28 #[.int .i64 t.c, .int .i64 t.w, .bool t.big, .slice fA t.fs.length fC, .slice dA t.ds.length dC, .slice bA t.bs.length bC, .slice nA t.ns.length nC])
  have HL1 := Lib.hid (hL.keep (w2 := w1.alloc (.cells #[.int .i64 t.c, .int .i64 t.w, .bool t.big, .slice fA t.fs.length fC, .slice dA t.ds.length dC, .slice bA t.bs.length bC, .slice nA t.ns.length nC] 28)) (fun k hk => hn.block k (hL.1 k hk)) hn.size)
  clear hL hS hx1 hc1 hw1 hn e1 HTK HX0 HR0 HY0
  rw [HE1.out] at hf hz
  obtain rfl : f = true := hf
  have HZ := Lib.hid hz
  clear hz
  have c2 : (w1.alloc (.cells #[.int .i64 t.c, .int .i64 t.w, .bool t.big, .slice fA t.fs.length fC, .slice dA t.ds.length dC, .slice bA t.bs.length bC, .slice nA t.ns.length nC] 28)).cell? ⟨w.heap.size + 1, 2, none⟩ = some (.bool false) := HX1.out.cell 2
  go_upto_region 3 with fail
  have HT2 := Lib.hid (HL1.out.here)
  have HBY := Lib.hid ((HB.out.later HW1.out).up HW1.out.size)
  generalize (w1.alloc (.cells #[.int .i64 t.c, .int .i64 t.w, .bool t.big, .slice fA t.fs.length fC, .slice dA t.ds.length dC, .slice bA t.bs.length bC, .slice nA t.ns.length nC] 28)) = wb at *
  have d0 : wb.cell? ⟨w1.heap.size, 0, none⟩ = some (.int .i64 t.c) := HT1.out.cell 0
  have d1 : wb.cell? ⟨w1.heap.size, 1, none⟩ = some (.int .i64 t.w) := HT1.out.cell 1
  have d2 : wb.cell? ⟨w1.heap.size, 2, none⟩ = some (.bool t.big) := HT1.out.cell 2
  have d3 : wb.cell? ⟨w1.heap.size, 3, none⟩ = some (.slice fA t.fs.length fC) := HT1.out.cell 3
  have d4 : wb.cell? ⟨w1.heap.size, 4, none⟩ = some (.slice dA t.ds.length dC) := HT1.out.cell 4
  have d5 : wb.cell? ⟨w1.heap.size, 5, none⟩ = some (.slice bA t.bs.length bC) := HT1.out.cell 5
  have d6 : wb.cell? ⟨w1.heap.size, 6, none⟩ = some (.slice nA t.ns.length nC) := HT1.out.cell 6
  have hse : ((strOf (lb t)).toList == (strOf bs).toList) = false := by
    have hne : lb t ≠ bs := fun h => HV.out ⟨HZ.out, h⟩
    rw [strOf_eq (lb_lt 4 t HZ.out) HB.out.lt]; exact decide_eq_false hne
  have hsn : ((strOf (lb t)).toList != (strOf bs).toList) = true := by unfold bne; rw [hse]; rfl
  generalize hs1 : strOf (lb t) = s1 at *
  generalize hs2 : strOf bs = s2 at *
  have HS1 := Lib.hid hs1
  have HS2 := Lib.hid hs2
  clear hs1 hs2
  have HBB := Lib.hid (rbytes_yes t _ wb HT2.out HZ.out)
  go_wp2_with (go_at_call 22; refine HBB.out.mono ?_)
  rintro _ w4 ⟨V, rfl, hr, hb4⟩
  obtain ⟨AV, CV, rfl, hby⟩ := hr.byt
  have hcv5 := conv_bytes hby CV
  rw [HS1.out] at hcv5
  have HW4 := Lib.hid (below_more HW1.out hb4)
  have HR4 := Lib.hid (HR1.out.later hb4 HR1.out.lt)
  have HT4 := Lib.hid (HT1.out.later hb4 HT1.out.lt)
  have HL4 := Lib.hid (HL1.out.keep (w2 := w4) (fun k hk => hb4.block k (HL1.out.1 k hk)) hb4.size)
  have hcv4 := conv_bytes ((HBY.out.later hb4).up hb4.size) c
  rw [HS2.out] at hcv4
  clear hb4 hr hby HBB d0 d1 d2 d3 d4 d5 d6
  have r0 : w4.cell? ⟨w.heap.size, 0, none⟩ = some (.int .i64 0) := HR4.out.cell 0
  have r1 : w4.cell? ⟨w.heap.size, 1, none⟩ = some (.int .i64 0) := HR4.out.cell 1
  have r2 : w4.cell? ⟨w.heap.size, 2, none⟩ = some (.bool false) := HR4.out.cell 2
  have r3 : w4.cell? ⟨w.heap.size, 3, none⟩ = some (.slice none 0 0) := HR4.out.cell 3
  have r4 : w4.cell? ⟨w.heap.size, 4, none⟩ = some (.slice none 0 0) := HR4.out.cell 4
  have r5 : w4.cell? ⟨w.heap.size, 5, none⟩ = some (.slice none 0 0) := HR4.out.cell 5
  have r6 : w4.cell? ⟨w.heap.size, 6, none⟩ = some (.slice none 0 0) := HR4.out.cell 6
  have y0 := HR4.out.frozen 0
  have y1 := HR4.out.frozen 1
  have y2 := HR4.out.frozen 2
  have y3 := HR4.out.frozen 3
  have y4 := HR4.out.frozen 4
  have y5 := HR4.out.frozen 5
  have y6 := HR4.out.frozen 6
  go_wp2
  refine bodyPost_ret (v := .tuple #[.agg #[.int .i64 0, .int .i64 0, .bool false, .slice none 0 0, .slice none 0 0, .slice none 0 0, .slice none 0 0], .int .i64 5]) (by simp [results, Try.results30, go_sem, r0, r1, r2, r3, r4, r5, r6]) rfl (load_fin HW4.out (lies_0 (fun _ => False) (fun _ h => h.elim) 0 0 false) (fun _ h => h.elim) (by rw [← HRR.out]; exact loadT_no HE1.out HV.out))

set_option maxHeartbeats 4000000 in
set_option maxRecDepth 100000 in
theorem rload_D (m c : Nat) (A : Option Addr) (bs : List Nat) (w : World) (hm : m ≤ 140737488000000) (hc : m ≤ c) (hb : Byt w w.heap.size A m bs) (hf : (tkR bs 4 (0, true)).2.2 = true) (hv : sz 4 (tkR bs 4 (0, true)).1 ≠ 0 ∧ lb (tkR bs 4 (0, true)).1 = bs) :
    Calls Try.prog 30 #[.slice A m c] w (LdP (loadT bs) w) := by
  generalize hR : loadT bs = R
  have HRR := Lib.hid hR
  have hN := below_new w (.cells #[.int .i64 0, .int .i64 0, .bool false, .slice none 0 0, .slice none 0 0, .slice none 0 0, .slice none 0 0] 28)
  have hN2 := below_new (w.alloc (.cells #[.int .i64 0, .int .i64 0, .bool false, .slice none 0 0, .slice none 0 0, .slice none 0 0, .slice none 0 0] 28)) (.cells #[.slice A m c, .int .i64 0, .bool false] 84)
  have HR0 := Lib.hid ((Bx.new w 28 #[.int .i64 0, .int .i64 0, .bool false, .slice none 0 0, .slice none 0 0, .slice none 0 0, .slice none 0 0]).later hN2 (by rw [size_alloc]; exact Nat.lt_succ_self _))
  have HX0 := Lib.hid (show Bx ((w.alloc (.cells #[.int .i64 0, .int .i64 0, .bool false, .slice none 0 0, .slice none 0 0, .slice none 0 0, .slice none 0 0] 28)).alloc (.cells #[.slice A m c, .int .i64 0, .bool false] 84)) (w.heap.size + 1) 84 #[.slice A m c, .int .i64 ((0 : Nat) : Int), .bool (not true)] from by have h := Bx.new (w.alloc (.cells #[.int .i64 0, .int .i64 0, .bool false, .slice none 0 0, .slice none 0 0, .slice none 0 0, .slice none 0 0] 28)) 84 #[.slice A m c, .int .i64 0, .bool false]; rw [size_alloc] at h; exact h)
  have hN3 := below_more hN hN2
  have HY0 := Lib.hid ((hb.later hN3).up hN3.size)
  have HW0 := Lib.hid hN3
  have HTK := Lib.hid (rtake_any m c A bs (by omega) hc 4 (by omega) (w.heap.size + 1) 0 true ((w.alloc (.cells #[.int .i64 0, .int .i64 0, .bool false, .slice none 0 0, .slice none 0 0, .slice none 0 0, .slice none 0 0] 28)).alloc (.cells #[.slice A m c, .int .i64 0, .bool false] 84)) (Nat.zero_le _) HY0.out HX0.out)
  have HB := Lib.hid hb
  have hsz : ((w.alloc (.cells #[.int .i64 0, .int .i64 0, .bool false, .slice none 0 0, .slice none 0 0, .slice none 0 0, .slice none 0 0] 28)).alloc (.cells #[.slice A m c, .int .i64 0, .bool false] 84)).heap.size = w.heap.size + 1 + 1 := by rw [size_alloc, size_alloc]
  have HSZ := Lib.hid hsz
  clear hR hN hN2 hN3 hb hsz
  go_enter Try.func30, Try.ntmps30
  go_upto_region 2 with fail
  generalize (w.alloc (.cells #[.int .i64 0, .int .i64 0, .bool false, .slice none 0 0, .slice none 0 0, .slice none 0 0, .slice none 0 0] 28)).alloc (.cells #[.slice A m c, .int .i64 0, .bool false] 84) = wa at *
  go_wp2_with (go_at_call 47; refine HTK.out.mono ?_)
  rintro _ w1 ⟨t, q, f, u0, u1, u2, u3, u4, u5, u6, S, e1, rfl, hL, hS, hx1, hc1, hq1⟩
  rw [e1] at hv
  obtain ⟨fA, dA, bA, nA, fC, dC, bC, nC, rfl, rfl, rfl, rfl, rfl, rfl, rfl⟩ := hL.here.cells
  have HE1 := Lib.hid e1
  have HV := Lib.hid hv
  clear hv
  have HS := Lib.hid (show ∀ k, S k → w.heap.size + 1 < k from fun k hk => by have := hS k hk; have := HSZ.out; omega)
  have hn := below_new w1 (.cells #[.int .i64 t.c, .int .i64 t.w, .bool t.big, .slice fA t.fs.length fC, .slice dA t.ds.length dC, .slice bA t.bs.length bC, .slice nA t.ns.length nC] 28)
  have hw1 : Below w.heap.size w w1 := HW0.out.trans (hc1.below (B := w.heap.size) (by have := HSZ.out; omega) (fun j hj => by omega))
  have HW1 := Lib.hid (below_more hw1 hn)
  have HX1 := Lib.hid (hx1.later hn hx1.lt)
  have HR1 := Lib.hid ((hc1.bx HR0.out (by omega)).later hn (hc1.bx HR0.out (by omega)).lt)
  have HT1 := Lib.hid (Bx.new w1 28 #[.int .i64 t.c, .int .i64 t.w, .bool t.big, .slice fA t.fs.length fC, .slice dA t.ds.length dC, .slice bA t.bs.length bC, .slice nA t.ns.length nC])
  have HL1 := Lib.hid (hL.keep (w2 := w1.alloc (.cells #[.int .i64 t.c, .int .i64 t.w, .bool t.big, .slice fA t.fs.length fC, .slice dA t.ds.length dC, .slice bA t.bs.length bC, .slice nA t.ns.length nC] 28)) (fun k hk => hn.block k (hL.1 k hk)) hn.size)
  clear hL hS hx1 hc1 hw1 hn e1 HTK HX0 HR0 HY0
  rw [HE1.out] at hf
  obtain rfl : f = true := hf
  have HZ := Lib.hid HV.out.1
  have c2 : (w1.alloc (.cells #[.int .i64 t.c, .int .i64 t.w, .bool t.big, .slice fA t.fs.length fC, .slice dA t.ds.length dC, .slice bA t.bs.length bC, .slice nA t.ns.length nC] 28)).cell? ⟨w.heap.size + 1, 2, none⟩ = some (.bool false) := HX1.out.cell 2
  go_upto_region 3 with fail
  have HT2 := Lib.hid (HL1.out.here)
  have HBY := Lib.hid ((HB.out.later HW1.out).up HW1.out.size)
  generalize (w1.alloc (.cells #[.int .i64 t.c, .int .i64 t.w, .bool t.big, .slice fA t.fs.length fC, .slice dA t.ds.length dC, .slice bA t.bs.length bC, .slice nA t.ns.length nC] 28)) = wb at *
  have d0 : wb.cell? ⟨w1.heap.size, 0, none⟩ = some (.int .i64 t.c) := HT1.out.cell 0
  have d1 : wb.cell? ⟨w1.heap.size, 1, none⟩ = some (.int .i64 t.w) := HT1.out.cell 1
  have d2 : wb.cell? ⟨w1.heap.size, 2, none⟩ = some (.bool t.big) := HT1.out.cell 2
  have d3 : wb.cell? ⟨w1.heap.size, 3, none⟩ = some (.slice fA t.fs.length fC) := HT1.out.cell 3
  have d4 : wb.cell? ⟨w1.heap.size, 4, none⟩ = some (.slice dA t.ds.length dC) := HT1.out.cell 4
  have d5 : wb.cell? ⟨w1.heap.size, 5, none⟩ = some (.slice bA t.bs.length bC) := HT1.out.cell 5
  have d6 : wb.cell? ⟨w1.heap.size, 6, none⟩ = some (.slice nA t.ns.length nC) := HT1.out.cell 6
  have hse : ((strOf (lb t)).toList == (strOf bs).toList) = true := by
    rw [HV.out.2]; simp
  have hsn : ((strOf (lb t)).toList != (strOf bs).toList) = false := by unfold bne; rw [hse]; rfl
  generalize hs1 : strOf (lb t) = s1 at *
  generalize hs2 : strOf bs = s2 at *
  have HS1 := Lib.hid hs1
  have HS2 := Lib.hid hs2
  clear hs1 hs2
  have HBB := Lib.hid (rbytes_yes t _ wb HT2.out HZ.out)
  go_wp2_with (go_at_call 22; refine HBB.out.mono ?_)
  rintro _ w4 ⟨V, rfl, hr, hb4⟩
  obtain ⟨AV, CV, rfl, hby⟩ := hr.byt
  have hcv5 := conv_bytes hby CV
  rw [HS1.out] at hcv5
  have HW4 := Lib.hid (below_more HW1.out hb4)
  have HR4 := Lib.hid (HR1.out.later hb4 HR1.out.lt)
  have HT4 := Lib.hid (HT1.out.later hb4 HT1.out.lt)
  have HL4 := Lib.hid (HL1.out.keep (w2 := w4) (fun k hk => hb4.block k (HL1.out.1 k hk)) hb4.size)
  have hcv4 := conv_bytes ((HBY.out.later hb4).up hb4.size) c
  rw [HS2.out] at hcv4
  clear hb4 hr hby HBB d0 d1 d2 d3 d4 d5 d6
  have r0 : w4.cell? ⟨w.heap.size, 0, none⟩ = some (.int .i64 0) := HR4.out.cell 0
  have r1 : w4.cell? ⟨w.heap.size, 1, none⟩ = some (.int .i64 0) := HR4.out.cell 1
  have r2 : w4.cell? ⟨w.heap.size, 2, none⟩ = some (.bool false) := HR4.out.cell 2
  have r3 : w4.cell? ⟨w.heap.size, 3, none⟩ = some (.slice none 0 0) := HR4.out.cell 3
  have r4 : w4.cell? ⟨w.heap.size, 4, none⟩ = some (.slice none 0 0) := HR4.out.cell 4
  have r5 : w4.cell? ⟨w.heap.size, 5, none⟩ = some (.slice none 0 0) := HR4.out.cell 5
  have r6 : w4.cell? ⟨w.heap.size, 6, none⟩ = some (.slice none 0 0) := HR4.out.cell 6
  have y0 := HR4.out.frozen 0
  have y1 := HR4.out.frozen 1
  have y2 := HR4.out.frozen 2
  have y3 := HR4.out.frozen 3
  have y4 := HR4.out.frozen 4
  have y5 := HR4.out.frozen 5
  have y6 := HR4.out.frozen 6
  have k0 : w4.cell? ⟨w1.heap.size, 0, none⟩ = some (.int .i64 t.c) := HT4.out.cell 0
  have k1 : w4.cell? ⟨w1.heap.size, 1, none⟩ = some (.int .i64 t.w) := HT4.out.cell 1
  have k2 : w4.cell? ⟨w1.heap.size, 2, none⟩ = some (.bool t.big) := HT4.out.cell 2
  have k3 : w4.cell? ⟨w1.heap.size, 3, none⟩ = some (.slice fA t.fs.length fC) := HT4.out.cell 3
  have k4 : w4.cell? ⟨w1.heap.size, 4, none⟩ = some (.slice dA t.ds.length dC) := HT4.out.cell 4
  have k5 : w4.cell? ⟨w1.heap.size, 5, none⟩ = some (.slice bA t.bs.length bC) := HT4.out.cell 5
  have k6 : w4.cell? ⟨w1.heap.size, 6, none⟩ = some (.slice nA t.ns.length nC) := HT4.out.cell 6
  go_wp2
  refine bodyPost_ret (v := .tuple #[.agg #[.int .i64 t.c, .int .i64 t.w, .bool t.big, .slice fA t.fs.length fC, .slice dA t.ds.length dC, .slice bA t.bs.length bC, .slice nA t.ns.length nC], .int .i64 0]) (by simp [results, Try.results30, go_sem, r0, r1, r2, r3, r4, r5, r6]) rfl (load_fin HW4.out HL4.out (fun k hk => by have := HS.out k hk; omega) (by rw [← HRR.out]; exact loadT_yes HE1.out HV.out))

theorem rload_any (m c : Nat) (A : Option Addr) (bs : List Nat) (w : World) (hm : m ≤ 140737488000000) (hc : m ≤ c) (hb : Byt w w.heap.size A m bs) : Calls Try.prog 30 #[.slice A m c] w (LdP (loadT bs) w) := by
  rcases hf : (tkR bs 4 (0, true)).2.2 with _ | _
  · exact rload_A m c A bs w hm hc hb hf
  by_cases hz : sz 4 (tkR bs 4 (0, true)).1 = 0
  · exact rload_B m c A bs w hm hc hb (fun h => h.1 hz) hf hz
  by_cases hl : lb (tkR bs 4 (0, true)).1 = bs
  · exact rload_D m c A bs w hm hc hb hf ⟨hz, hl⟩
  · exact rload_C m c A bs w hm hc hb (fun h => hl h.2) hf hz
end Go.Proofs.Ytbdhihgokkcmfaa.Ty9
