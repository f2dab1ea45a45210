/- Load on both sides: the type that has these bytes, or none. -/
import Derived.Test.YtbdhihgokkcmfaaScd
import Derived.Test.YtbdhihgokkcmfaaScb
import Derived.Test.YtbdhihgokkcmfaaSce
import Derived.Test.YtbdhihgokkcmfaaLb
import Derived.Test.YtbdhihgokkcmfaaDf
import Derived.Deep.QuietTactic
import Derived.BigQuiet
namespace Go.Proofs.Ytbdhihgokkcmfaa.Ty9
set_option linter.unusedVariables false
set_option linter.unusedSimpArgs false
open Go.RowKit Wd

/-- The worlds of a class, as a type. -/
structure Wof (G : World → Prop) where
  val : World
  is : G val
/-- One walk in the text's order serves each order: the worlds of the class G are the values of a type, so that facts on their cells are plain equations. -/
theorem wp_region_kept {P : Program} {id : Nat} {Q : Exit → Act → World → Prop} {a : Act} {w : World} {l : List Oper} {G : World → Prop} (hm : P.follows .mixedOrders = true) (hB : Region.lexB .any l.toArray = true)
    (hG : G { w with drawn := w.drawn + 1 })
    (h : wpQuiet P l.toArray (fun w' => ∃ s : Wof G, w' = s.val) (fun a' => ∀ w', (∃ s : Wof G, w' = s.val) → Q .normal a' w') l a) : (Code.region id l.toArray true).wp P Q a w :=
  wp_region_quiet (C := fun w' => ∃ s : Wof G, w' = s.val) hm hB ⟨⟨_, hG⟩, rfl⟩ (by simpa using h)

open Classical in
/-- The type that has these bytes, and the error. -/
noncomputable def loadT (bs : List Nat) : Ty × Int :=
  if (tkR bs 4 (0, true)).2.2 = true ∧ sz 4 (tkR bs 4 (0, true)).1 ≠ 0 ∧ lb (tkR bs 4 (0, true)).1 = bs then ((tkR bs 4 (0, true)).1, 0) else (zeroT, 5)
theorem loadT_bad {bs : List Nat} {t : Ty} {q : Nat} (h : tkR bs 4 (0, true) = (t, q, false)) : loadT bs = (zeroT, 5) := by
  unfold loadT; rw [h]; exact if_neg fun h => Bool.noConfusion h.1
theorem loadT_no {bs : List Nat} {t : Ty} {q : Nat} (h : tkR bs 4 (0, true) = (t, q, true)) (hn : ¬ (sz 4 t ≠ 0 ∧ lb t = bs)) : loadT bs = (zeroT, 5) := by
  unfold loadT; rw [h]; exact if_neg fun h => hn h.2
theorem loadT_yes {bs : List Nat} {t : Ty} {q : Nat} (h : tkR bs 4 (0, true) = (t, q, true)) (hn : sz 4 t ≠ 0 ∧ lb t = bs) : loadT bs = (t, 0) := by
  unfold loadT; rw [h]; exact if_pos ⟨rfl, hn⟩
/-- What a Load leaves. -/
def LdP (R : Ty × Int) (w : World) (e : Ending) (w' : World) : Prop :=
  ∃ t z u0 u1 u2 u3 u4 u5 u6 S, R = (t, z) ∧ e = .returned (.tuple #[.agg #[u0, u1, u2, u3, u4, u5, u6], .int .i64 z]) ∧ Lies S w' t (.agg #[u0, u1, u2, u3, u4, u5, u6]) ∧ (∀ k, S k → w.heap.size ≤ k) ∧ Below w.heap.size w w'
/-- The result is laid into its box. -/
theorem load_fin {w wr : World} {R : Ty × Int} {t : Ty} {z : Int} {S : Nat → Prop} {u0 u1 u2 u3 u4 u5 u6 : Value} (hc : Below w.heap.size w wr) (hL : Lies S wr t (.agg #[u0, u1, u2, u3, u4, u5, u6])) (hS : ∀ k, S k → w.heap.size < k) (hR : R = (t, z)) :
    LdP R w (.returned (.tuple #[.agg #[u0, u1, u2, u3, u4, u5, u6], .int .i64 z])) (((((((wr.setCell ⟨w.heap.size, 0, none⟩ u0).setCell ⟨w.heap.size, 1, none⟩ u1).setCell ⟨w.heap.size, 2, none⟩ u2).setCell ⟨w.heap.size, 3, none⟩ u3).setCell ⟨w.heap.size, 4, none⟩ u4).setCell ⟨w.heap.size, 5, none⟩ u5).setCell ⟨w.heap.size, 6, none⟩ u6) := by
  have e : wr.setCells w.heap.size 0 [u0, u1, u2, u3, u4, u5, u6] = (((((((wr.setCell ⟨w.heap.size, 0, none⟩ u0).setCell ⟨w.heap.size, 1, none⟩ u1).setCell ⟨w.heap.size, 2, none⟩ u2).setCell ⟨w.heap.size, 3, none⟩ u3).setCell ⟨w.heap.size, 4, none⟩ u4).setCell ⟨w.heap.size, 5, none⟩ u5).setCell ⟨w.heap.size, 6, none⟩ u6) := by
    simp only [World.setCells]
  rw [← e]
  obtain ⟨q1, q2, q3, q4, q5⟩ := setCells_keep w.heap.size [u0, u1, u2, u3, u4, u5, u6] 0 wr
  refine ⟨t, z, u0, u1, u2, u3, u4, u5, u6, S, hR, rfl, hL.keep (fun k hk => q5 k (by have := hS k hk; omega)) (by rw [q1]; exact Nat.le_refl _), fun k hk => Nat.le_of_lt (hS k hk), ?_⟩
  exact ⟨q2.trans hc.os, q3.trans hc.tape, q4.trans hc.output, by rw [q1]; exact hc.size, fun k hk => (q5 k (by omega)).trans (hc.block k hk)⟩


set_option maxHeartbeats 4000000 in
set_option maxRecDepth 100000 in
theorem pload_A (m c : Nat) (A : Option Addr) (bs : List Nat) (w : World) (hm : m ≤ 140737488000000) (hc : m ≤ c) (hb : Byt w w.heap.size A m bs) (hf : (tkR bs 4 (0, true)).2.2 = false) :
    Calls Try.prog 29 #[.slice A m c] w (LdP (loadT bs) w) := by
  generalize hR : loadT bs = R
  have HRR := Lib.hid hR
  have hN := below_new w (.cells #[.int .i64 0, .int .i64 0, .bool false, .slice none 0 0, .slice none 0 0, .slice none 0 0, .slice none 0 0] 28)
  have hN2 := below_new (w.alloc (.cells #[.int .i64 0, .int .i64 0, .bool false, .slice none 0 0, .slice none 0 0, .slice none 0 0, .slice none 0 0] 28)) (.cells #[.slice A m c, .int .i64 0, .bool true] 81)
  have HR0 := Lib.hid ((Bx.new w 28 #[.int .i64 0, .int .i64 0, .bool false, .slice none 0 0, .slice none 0 0, .slice none 0 0, .slice none 0 0]).later hN2 (by rw [size_alloc]; exact Nat.lt_succ_self _))
  have HX0 := Lib.hid (show Bx ((w.alloc (.cells #[.int .i64 0, .int .i64 0, .bool false, .slice none 0 0, .slice none 0 0, .slice none 0 0, .slice none 0 0] 28)).alloc (.cells #[.slice A m c, .int .i64 0, .bool true] 81)) (w.heap.size + 1) 81 #[.slice A m c, .int .i64 ((0 : Nat) : Int), .bool (id true)] from by have h := Bx.new (w.alloc (.cells #[.int .i64 0, .int .i64 0, .bool false, .slice none 0 0, .slice none 0 0, .slice none 0 0, .slice none 0 0] 28)) 81 #[.slice A m c, .int .i64 0, .bool true]; rw [size_alloc] at h; exact h)
  have hN3 := below_more hN hN2
  have HY0 := Lib.hid ((hb.later hN3).up hN3.size)
  have HW0 := Lib.hid hN3
  have HTK := Lib.hid (stake_any m c A bs (by omega) hc 4 (by omega) (w.heap.size + 1) 0 true ((w.alloc (.cells #[.int .i64 0, .int .i64 0, .bool false, .slice none 0 0, .slice none 0 0, .slice none 0 0, .slice none 0 0] 28)).alloc (.cells #[.slice A m c, .int .i64 0, .bool true] 81)) (Nat.zero_le _) HY0.out HX0.out)
  have HB := Lib.hid hb
  have hsz : ((w.alloc (.cells #[.int .i64 0, .int .i64 0, .bool false, .slice none 0 0, .slice none 0 0, .slice none 0 0, .slice none 0 0] 28)).alloc (.cells #[.slice A m c, .int .i64 0, .bool true] 81)).heap.size = w.heap.size + 1 + 1 := by rw [size_alloc, size_alloc]
  have HSZ := Lib.hid hsz
  clear hR hN hN2 hN3 hb hsz
  go_enter Try.func29, Try.ntmps29
  go_upto_region 2 with fail
  generalize (w.alloc (.cells #[.int .i64 0, .int .i64 0, .bool false, .slice none 0 0, .slice none 0 0, .slice none 0 0, .slice none 0 0] 28)).alloc (.cells #[.slice A m c, .int .i64 0, .bool true] 81) = wa at *
  go_wp2_with (go_at_call 46; refine HTK.out.mono ?_)
  rintro _ w1 ⟨t, q, f, u0, u1, u2, u3, u4, u5, u6, S, e1, rfl, hL, hS, hx1, hc1, hq1⟩
  obtain ⟨fA, dA, bA, nA, fC, dC, bC, nC, rfl, rfl, rfl, rfl, rfl, rfl, rfl⟩ := hL.here.cells
  have HE1 := Lib.hid e1
  have HS := Lib.hid (show ∀ k, S k → w.heap.size + 1 < k from fun k hk => by have := hS k hk; have := HSZ.out; omega)
  have hn := below_new w1 (.cells #[.int .i64 t.c, .int .i64 t.w, .bool t.big, .slice fA t.fs.length fC, .slice dA t.ds.length dC, .slice bA t.bs.length bC, .slice nA t.ns.length nC] 28)
  have hw1 : Below w.heap.size w w1 := HW0.out.trans (hc1.below (B := w.heap.size) (by have := HSZ.out; omega) (fun j hj => by omega))
  have HW1 := Lib.hid (below_more hw1 hn)
  have HX1 := Lib.hid (hx1.later hn hx1.lt)
  have HR1 := Lib.hid ((hc1.bx HR0.out (by omega)).later hn (hc1.bx HR0.out (by omega)).lt)
  have HT1 := Lib.hid (Bx.new w1 28 #[.int .i64 t.c, .int .i64 t.w, .bool t.big, .slice fA t.fs.length fC, .slice dA t.ds.length dC, .slice bA t.bs.length bC, .slice nA t.ns.length nC])
  have HL1 := Lib.hid (hL.keep (w2 := w1.alloc (.cells #[.int .i64 t.c, .int .i64 t.w, .bool t.big, .slice fA t.fs.length fC, .slice dA t.ds.length dC, .slice bA t.bs.length bC, .slice nA t.ns.length nC] 28)) (fun k hk => hn.block k (hL.1 k hk)) hn.size)
  clear hL hS hx1 hc1 hw1 hn e1 HTK HX0 HR0 HY0
  rw [HE1.out] at hf
  obtain rfl : f = false := hf
  have c2 : (w1.alloc (.cells #[.int .i64 t.c, .int .i64 t.w, .bool t.big, .slice fA t.fs.length fC, .slice dA t.ds.length dC, .slice bA t.bs.length bC, .slice nA t.ns.length nC] 28)).cell? ⟨w.heap.size + 1, 2, none⟩ = some (.bool false) := HX1.out.cell 2
  go_upto_region 3 with fail
  generalize (w1.alloc (.cells #[.int .i64 t.c, .int .i64 t.w, .bool t.big, .slice fA t.fs.length fC, .slice dA t.ds.length dC, .slice bA t.bs.length bC, .slice nA t.ns.length nC] 28)) = wb at *
  go_quiet (fail)
  have HW2 := Lib.hid (below_drewN HW1.out nq)
  have HR2 := Lib.hid (HR1.out.drewN nq)
  clear c2
  generalize wb.drewN nq = wc at *
  have r0 : wc.cell? ⟨w.heap.size, 0, none⟩ = some (.int .i64 0) := HR2.out.cell 0
  have r1 : wc.cell? ⟨w.heap.size, 1, none⟩ = some (.int .i64 0) := HR2.out.cell 1
  have r2 : wc.cell? ⟨w.heap.size, 2, none⟩ = some (.bool false) := HR2.out.cell 2
  have r3 : wc.cell? ⟨w.heap.size, 3, none⟩ = some (.slice none 0 0) := HR2.out.cell 3
  have r4 : wc.cell? ⟨w.heap.size, 4, none⟩ = some (.slice none 0 0) := HR2.out.cell 4
  have r5 : wc.cell? ⟨w.heap.size, 5, none⟩ = some (.slice none 0 0) := HR2.out.cell 5
  have r6 : wc.cell? ⟨w.heap.size, 6, none⟩ = some (.slice none 0 0) := HR2.out.cell 6
  have y0 := HR2.out.frozen 0
  have y1 := HR2.out.frozen 1
  have y2 := HR2.out.frozen 2
  have y3 := HR2.out.frozen 3
  have y4 := HR2.out.frozen 4
  have y5 := HR2.out.frozen 5
  have y6 := HR2.out.frozen 6
  go_wp2
  refine bodyPost_ret (v := .tuple #[.agg #[.int .i64 0, .int .i64 0, .bool false, .slice none 0 0, .slice none 0 0, .slice none 0 0, .slice none 0 0], .int .i64 5]) (by simp [results, Try.results29, go_sem, r0, r1, r2, r3, r4, r5, r6]) rfl (load_fin HW2.out (lies_0 (fun _ => False) (fun _ h => h.elim) 0 0 false) (fun _ h => h.elim) (by rw [← HRR.out]; exact loadT_bad HE1.out))

set_option maxHeartbeats 4000000 in
set_option maxRecDepth 100000 in
theorem pload_B (m c : Nat) (A : Option Addr) (bs : List Nat) (w : World) (hm : m ≤ 140737488000000) (hc : m ≤ c) (hb : Byt w w.heap.size A m bs) (hv : ¬ (sz 4 (tkR bs 4 (0, true)).1 ≠ 0 ∧ lb (tkR bs 4 (0, true)).1 = bs)) (hf : (tkR bs 4 (0, true)).2.2 = true) (hz : sz 4 (tkR bs 4 (0, true)).1 = 0) :
    Calls Try.prog 29 #[.slice A m c] w (LdP (loadT bs) w) := by
  generalize hR : loadT bs = R
  have HRR := Lib.hid hR
  have hN := below_new w (.cells #[.int .i64 0, .int .i64 0, .bool false, .slice none 0 0, .slice none 0 0, .slice none 0 0, .slice none 0 0] 28)
  have hN2 := below_new (w.alloc (.cells #[.int .i64 0, .int .i64 0, .bool false, .slice none 0 0, .slice none 0 0, .slice none 0 0, .slice none 0 0] 28)) (.cells #[.slice A m c, .int .i64 0, .bool true] 81)
  have HR0 := Lib.hid ((Bx.new w 28 #[.int .i64 0, .int .i64 0, .bool false, .slice none 0 0, .slice none 0 0, .slice none 0 0, .slice none 0 0]).later hN2 (by rw [size_alloc]; exact Nat.lt_succ_self _))
  have HX0 := Lib.hid (show Bx ((w.alloc (.cells #[.int .i64 0, .int .i64 0, .bool false, .slice none 0 0, .slice none 0 0, .slice none 0 0, .slice none 0 0] 28)).alloc (.cells #[.slice A m c, .int .i64 0, .bool true] 81)) (w.heap.size + 1) 81 #[.slice A m c, .int .i64 ((0 : Nat) : Int), .bool (id true)] from by have h := Bx.new (w.alloc (.cells #[.int .i64 0, .int .i64 0, .bool false, .slice none 0 0, .slice none 0 0, .slice none 0 0, .slice none 0 0] 28)) 81 #[.slice A m c, .int .i64 0, .bool true]; rw [size_alloc] at h; exact h)
  have hN3 := below_more hN hN2
  have HY0 := Lib.hid ((hb.later hN3).up hN3.size)
  have HW0 := Lib.hid hN3
  have HTK := Lib.hid (stake_any m c A bs (by omega) hc 4 (by omega) (w.heap.size + 1) 0 true ((w.alloc (.cells #[.int .i64 0, .int .i64 0, .bool false, .slice none 0 0, .slice none 0 0, .slice none 0 0, .slice none 0 0] 28)).alloc (.cells #[.slice A m c, .int .i64 0, .bool true] 81)) (Nat.zero_le _) HY0.out HX0.out)
  have HB := Lib.hid hb
  have hsz : ((w.alloc (.cells #[.int .i64 0, .int .i64 0, .bool false, .slice none 0 0, .slice none 0 0, .slice none 0 0, .slice none 0 0] 28)).alloc (.cells #[.slice A m c, .int .i64 0, .bool true] 81)).heap.size = w.heap.size + 1 + 1 := by rw [size_alloc, size_alloc]
  have HSZ := Lib.hid hsz
  clear hR hN hN2 hN3 hb hsz
  go_enter Try.func29, Try.ntmps29
  go_upto_region 2 with fail
  generalize (w.alloc (.cells #[.int .i64 0, .int .i64 0, .bool false, .slice none 0 0, .slice none 0 0, .slice none 0 0, .slice none 0 0] 28)).alloc (.cells #[.slice A m c, .int .i64 0, .bool true] 81) = wa at *
  go_wp2_with (go_at_call 46; refine HTK.out.mono ?_)
  rintro _ w1 ⟨t, q, f, u0, u1, u2, u3, u4, u5, u6, S, e1, rfl, hL, hS, hx1, hc1, hq1⟩
  rw [e1] at hv
  obtain ⟨fA, dA, bA, nA, fC, dC, bC, nC, rfl, rfl, rfl, rfl, rfl, rfl, rfl⟩ := hL.here.cells
  have HE1 := Lib.hid e1
  have HV := Lib.hid hv
  clear hv
  have HS := Lib.hid (show ∀ k, S k → w.heap.size + 1 < k from fun k hk => by have := hS k hk; have := HSZ.out; omega)
  have hn := below_new w1 (.cells #[.int .i64 t.c, .int .i64 t.w, .bool t.big, .slice fA t.fs.length fC, .slice dA t.ds.length dC, .slice bA t.bs.length bC, .slice nA t.ns.length nC] 28)
  have hw1 : Below w.heap.size w w1 := HW0.out.trans (hc1.below (B := w.heap.size) (by have := HSZ.out; omega) (fun j hj => by omega))
  have HW1 := Lib.hid (below_more hw1 hn)
  have HX1 := Lib.hid (hx1.later hn hx1.lt)
  have HR1 := Lib.hid ((hc1.bx HR0.out (by omega)).later hn (hc1.bx HR0.out (by omega)).lt)
  have HT1 := Lib.hid (Bx.new w1 28 #[.int .i64 t.c, .int .i64 t.w, .bool t.big, .slice fA t.fs.length fC, .slice dA t.ds.length dC, .slice bA t.bs.length bC, .slice nA t.ns.length nC])
  have HL1 := Lib.hid (hL.keep (w2 := w1.alloc (.cells #[.int .i64 t.c, .int .i64 t.w, .bool t.big, .slice fA t.fs.length fC, .slice dA t.ds.length dC, .slice bA t.bs.length bC, .slice nA t.ns.length nC] 28)) (fun k hk => hn.block k (hL.1 k hk)) hn.size)
  clear hL hS hx1 hc1 hw1 hn e1 HTK HX0 HR0 HY0
  rw [HE1.out] at hf hz
  obtain rfl : f = true := hf
  have HE := Lib.hid (show errV t = 15 from if_pos hz)
  clear hz
  have c2 : (w1.alloc (.cells #[.int .i64 t.c, .int .i64 t.w, .bool t.big, .slice fA t.fs.length fC, .slice dA t.ds.length dC, .slice bA t.bs.length bC, .slice nA t.ns.length nC] 28)).cell? ⟨w.heap.size + 1, 2, none⟩ = some (.bool true) := HX1.out.cell 2
  go_upto_region 3 with fail
  have HT2 := Lib.hid (HL1.out.here)
  generalize (w1.alloc (.cells #[.int .i64 t.c, .int .i64 t.w, .bool t.big, .slice fA t.fs.length fC, .slice dA t.ds.length dC, .slice bA t.bs.length bC, .slice nA t.ns.length nC] 28)) = wb at *
  have d0 : wb.cell? ⟨w1.heap.size, 0, none⟩ = some (.int .i64 t.c) := HT1.out.cell 0
  have d1 : wb.cell? ⟨w1.heap.size, 1, none⟩ = some (.int .i64 t.w) := HT1.out.cell 1
  have d2 : wb.cell? ⟨w1.heap.size, 2, none⟩ = some (.bool t.big) := HT1.out.cell 2
  have d3 : wb.cell? ⟨w1.heap.size, 3, none⟩ = some (.slice fA t.fs.length fC) := HT1.out.cell 3
  have d4 : wb.cell? ⟨w1.heap.size, 4, none⟩ = some (.slice dA t.ds.length dC) := HT1.out.cell 4
  have d5 : wb.cell? ⟨w1.heap.size, 5, none⟩ = some (.slice bA t.bs.length bC) := HT1.out.cell 5
  have d6 : wb.cell? ⟨w1.heap.size, 6, none⟩ = some (.slice nA t.ns.length nC) := HT1.out.cell 6
  obtain ⟨G, hGd⟩ : ∃ G : World → Prop, G = fun w9 => Below wb.heap.size wb w9 := ⟨_, rfl⟩
  have hG0 : G { wb with drawn := wb.drawn + 1 } := by rw [hGd]; exact (Below.refl _ wb).drew
  have hG1 : Hid (∀ (s : Wof G) w2, Below s.val.heap.size s.val w2 → G w2) := Lib.hid (by subst hGd; exact fun s w2 hb2 => below_more s.is hb2)
  have hG2 : Hid (∀ s : Wof G, Below wb.heap.size wb s.val) := Lib.hid (by subst hGd; exact fun s => s.is)
  have HCK := Lib.hid (fun s : Wof G => check_any t _ s.val ((HT2.out.later (hG2.out s)).up (hG2.out s).size))
  have k0 : ∀ s : Wof G, s.val.cell? ⟨w1.heap.size, 0, none⟩ = some (.int .i64 t.c) := fun s => ((hG2.out s).cell (p := ⟨w1.heap.size, 0, none⟩) HT1.out.lt).trans d0
  have k1 : ∀ s : Wof G, s.val.cell? ⟨w1.heap.size, 1, none⟩ = some (.int .i64 t.w) := fun s => ((hG2.out s).cell (p := ⟨w1.heap.size, 1, none⟩) HT1.out.lt).trans d1
  have k2 : ∀ s : Wof G, s.val.cell? ⟨w1.heap.size, 2, none⟩ = some (.bool t.big) := fun s => ((hG2.out s).cell (p := ⟨w1.heap.size, 2, none⟩) HT1.out.lt).trans d2
  have k3 : ∀ s : Wof G, s.val.cell? ⟨w1.heap.size, 3, none⟩ = some (.slice fA t.fs.length fC) := fun s => ((hG2.out s).cell (p := ⟨w1.heap.size, 3, none⟩) HT1.out.lt).trans d3
  have k4 : ∀ s : Wof G, s.val.cell? ⟨w1.heap.size, 4, none⟩ = some (.slice dA t.ds.length dC) := fun s => ((hG2.out s).cell (p := ⟨w1.heap.size, 4, none⟩) HT1.out.lt).trans d4
  have k5 : ∀ s : Wof G, s.val.cell? ⟨w1.heap.size, 5, none⟩ = some (.slice bA t.bs.length bC) := fun s => ((hG2.out s).cell (p := ⟨w1.heap.size, 5, none⟩) HT1.out.lt).trans d5
  have k6 : ∀ s : Wof G, s.val.cell? ⟨w1.heap.size, 6, none⟩ = some (.slice nA t.ns.length nC) := fun s => ((hG2.out s).cell (p := ⟨w1.heap.size, 6, none⟩) HT1.out.lt).trans d6
  have c2s : ∀ s : Wof G, s.val.cell? ⟨w.heap.size + 1, 2, none⟩ = some (.bool true) := fun s => ((hG2.out s).cell (p := ⟨w.heap.size + 1, 2, none⟩) HX1.out.lt).trans c2
  have hq15 : ((15 : Int) != 0) = true := by decide
  have hne9 : Nonempty (Wof G) := ⟨⟨_, hG0⟩⟩
  clear hGd d0 d1 d2 d3 d4 d5 d6 c2
  refine wp_region_kept (G := G) (by kernel_rfl) (by kernel_rfl) hG0 ?_
  clear hG0
  repeat (go_big_quiet_step ((go_at_call 17; refine (HCK.out _).mono ?_; rintro _ w2 ⟨he, hb2⟩; rw [HE.out] at he; exact ⟨he, ⟨w2, hG1.out _ _ hb2⟩, rfl⟩)))
  refine wpQuiet_nil ?_
  rintro _ ⟨s, rfl⟩
  have HB2 := Lib.hid (hG2.out s)
  obtain ⟨w3, hw3⟩ := s
  change Hid (Below wb.heap.size wb w3) at HB2
  have HW3 := Lib.hid (below_more HW1.out HB2.out)
  have HR3 := Lib.hid (HR1.out.later HB2.out HR1.out.lt)
  clear hG1 hG2 k0 k1 k2 k3 k4 k5 k6 c2s hne9 HCK
  simp only
  have r0 : w3.cell? ⟨w.heap.size, 0, none⟩ = some (.int .i64 0) := HR3.out.cell 0
  have r1 : w3.cell? ⟨w.heap.size, 1, none⟩ = some (.int .i64 0) := HR3.out.cell 1
  have r2 : w3.cell? ⟨w.heap.size, 2, none⟩ = some (.bool false) := HR3.out.cell 2
  have r3 : w3.cell? ⟨w.heap.size, 3, none⟩ = some (.slice none 0 0) := HR3.out.cell 3
  have r4 : w3.cell? ⟨w.heap.size, 4, none⟩ = some (.slice none 0 0) := HR3.out.cell 4
  have r5 : w3.cell? ⟨w.heap.size, 5, none⟩ = some (.slice none 0 0) := HR3.out.cell 5
  have r6 : w3.cell? ⟨w.heap.size, 6, none⟩ = some (.slice none 0 0) := HR3.out.cell 6
  have y0 := HR3.out.frozen 0
  have y1 := HR3.out.frozen 1
  have y2 := HR3.out.frozen 2
  have y3 := HR3.out.frozen 3
  have y4 := HR3.out.frozen 4
  have y5 := HR3.out.frozen 5
  have y6 := HR3.out.frozen 6
  go_wp2
  refine bodyPost_ret (v := .tuple #[.agg #[.int .i64 0, .int .i64 0, .bool false, .slice none 0 0, .slice none 0 0, .slice none 0 0, .slice none 0 0], .int .i64 5]) (by simp [results, Try.results29, go_sem, r0, r1, r2, r3, r4, r5, r6]) rfl (load_fin HW3.out (lies_0 (fun _ => False) (fun _ h => h.elim) 0 0 false) (fun _ h => h.elim) (by rw [← HRR.out]; exact loadT_no HE1.out HV.out))

set_option maxHeartbeats 4000000 in
set_option maxRecDepth 100000 in
theorem pload_C (m c : Nat) (A : Option Addr) (bs : List Nat) (w : World) (hm : m ≤ 140737488000000) (hc : m ≤ c) (hb : Byt w w.heap.size A m bs) (hv : ¬ (sz 4 (tkR bs 4 (0, true)).1 ≠ 0 ∧ lb (tkR bs 4 (0, true)).1 = bs)) (hf : (tkR bs 4 (0, true)).2.2 = true) (hz : sz 4 (tkR bs 4 (0, true)).1 ≠ 0) :
    Calls Try.prog 29 #[.slice A m c] w (LdP (loadT bs) w) := by
  generalize hR : loadT bs = R
  have HRR := Lib.hid hR
  have hN := below_new w (.cells #[.int .i64 0, .int .i64 0, .bool false, .slice none 0 0, .slice none 0 0, .slice none 0 0, .slice none 0 0] 28)
  have hN2 := below_new (w.alloc (.cells #[.int .i64 0, .int .i64 0, .bool false, .slice none 0 0, .slice none 0 0, .slice none 0 0, .slice none 0 0] 28)) (.cells #[.slice A m c, .int .i64 0, .bool true] 81)
  have HR0 := Lib.hid ((Bx.new w 28 #[.int .i64 0, .int .i64 0, .bool false, .slice none 0 0, .slice none 0 0, .slice none 0 0, .slice none 0 0]).later hN2 (by rw [size_alloc]; exact Nat.lt_succ_self _))
  have HX0 := Lib.hid (show Bx ((w.alloc (.cells #[.int .i64 0, .int .i64 0, .bool false, .slice none 0 0, .slice none 0 0, .slice none 0 0, .slice none 0 0] 28)).alloc (.cells #[.slice A m c, .int .i64 0, .bool true] 81)) (w.heap.size + 1) 81 #[.slice A m c, .int .i64 ((0 : Nat) : Int), .bool (id true)] from by have h := Bx.new (w.alloc (.cells #[.int .i64 0, .int .i64 0, .bool false, .slice none 0 0, .slice none 0 0, .slice none 0 0, .slice none 0 0] 28)) 81 #[.slice A m c, .int .i64 0, .bool true]; rw [size_alloc] at h; exact h)
  have hN3 := below_more hN hN2
  have HY0 := Lib.hid ((hb.later hN3).up hN3.size)
  have HW0 := Lib.hid hN3
  have HTK := Lib.hid (stake_any m c A bs (by omega) hc 4 (by omega) (w.heap.size + 1) 0 true ((w.alloc (.cells #[.int .i64 0, .int .i64 0, .bool false, .slice none 0 0, .slice none 0 0, .slice none 0 0, .slice none 0 0] 28)).alloc (.cells #[.slice A m c, .int .i64 0, .bool true] 81)) (Nat.zero_le _) HY0.out HX0.out)
  have HB := Lib.hid hb
  have hsz : ((w.alloc (.cells #[.int .i64 0, .int .i64 0, .bool false, .slice none 0 0, .slice none 0 0, .slice none 0 0, .slice none 0 0] 28)).alloc (.cells #[.slice A m c, .int .i64 0, .bool true] 81)).heap.size = w.heap.size + 1 + 1 := by rw [size_alloc, size_alloc]
  have HSZ := Lib.hid hsz
  clear hR hN hN2 hN3 hb hsz
  go_enter Try.func29, Try.ntmps29
  go_upto_region 2 with fail
  generalize (w.alloc (.cells #[.int .i64 0, .int .i64 0, .bool false, .slice none 0 0, .slice none 0 0, .slice none 0 0, .slice none 0 0] 28)).alloc (.cells #[.slice A m c, .int .i64 0, .bool true] 81) = wa at *
  go_wp2_with (go_at_call 46; refine HTK.out.mono ?_)
  rintro _ w1 ⟨t, q, f, u0, u1, u2, u3, u4, u5, u6, S, e1, rfl, hL, hS, hx1, hc1, hq1⟩
  rw [e1] at hv
  obtain ⟨fA, dA, bA, nA, fC, dC, bC, nC, rfl, rfl, rfl, rfl, rfl, rfl, rfl⟩ := hL.here.cells
  have HE1 := Lib.hid e1
  have HV := Lib.hid hv
  clear hv
  have HS := Lib.hid (show ∀ k, S k → w.heap.size + 1 < k from fun k hk => by have := hS k hk; have := HSZ.out; omega)
  have hn := below_new w1 (.cells #[.int .i64 t.c, .int .i64 t.w, .bool t.big, .slice fA t.fs.length fC, .slice dA t.ds.length dC, .slice bA t.bs.length bC, .slice nA t.ns.length nC] 28)
  have hw1 : Below w.heap.size w w1 := HW0.out.trans (hc1.below (B := w.heap.size) (by have := HSZ.out; omega) (fun j hj => by omega))
  have HW1 := Lib.hid (below_more hw1 hn)
  have HX1 := Lib.hid (hx1.later hn hx1.lt)
  have HR1 := Lib.hid ((hc1.bx HR0.out (by omega)).later hn (hc1.bx HR0.out (by omega)).lt)
  have HT1 := Lib.hid (Bx.new w1 28 #[.int .i64 t.c, .int .i64 t.w, .bool t.big, .slice fA t.fs.length fC, .slice dA t.ds.length dC, .slice bA t.bs.length bC, .slice nA t.ns.length nC])
  have HL1 := Lib.hid (hL.keep (w2 := w1.alloc (.cells #[.int .i64 t.c, .int .i64 t.w, .bool t.big, .slice fA t.fs.length fC, .slice dA t.ds.length dC, .slice bA t.bs.length bC, .slice nA t.ns.length nC] 28)) (fun k hk => hn.block k (hL.1 k hk)) hn.size)
  clear hL hS hx1 hc1 hw1 hn e1 HTK HX0 HR0 HY0
  rw [HE1.out] at hf hz
  obtain rfl : f = true := hf
  have HE := Lib.hid (show errV t = 0 from if_neg hz)
  have HZ := Lib.hid hz
  clear hz
  have c2 : (w1.alloc (.cells #[.int .i64 t.c, .int .i64 t.w, .bool t.big, .slice fA t.fs.length fC, .slice dA t.ds.length dC, .slice bA t.bs.length bC, .slice nA t.ns.length nC] 28)).cell? ⟨w.heap.size + 1, 2, none⟩ = some (.bool true) := HX1.out.cell 2
  go_upto_region 3 with fail
  have HT2 := Lib.hid (HL1.out.here)
  have HBY := Lib.hid ((HB.out.later HW1.out).up HW1.out.size)
  generalize (w1.alloc (.cells #[.int .i64 t.c, .int .i64 t.w, .bool t.big, .slice fA t.fs.length fC, .slice dA t.ds.length dC, .slice bA t.bs.length bC, .slice nA t.ns.length nC] 28)) = wb at *
  have d0 : wb.cell? ⟨w1.heap.size, 0, none⟩ = some (.int .i64 t.c) := HT1.out.cell 0
  have d1 : wb.cell? ⟨w1.heap.size, 1, none⟩ = some (.int .i64 t.w) := HT1.out.cell 1
  have d2 : wb.cell? ⟨w1.heap.size, 2, none⟩ = some (.bool t.big) := HT1.out.cell 2
  have d3 : wb.cell? ⟨w1.heap.size, 3, none⟩ = some (.slice fA t.fs.length fC) := HT1.out.cell 3
  have d4 : wb.cell? ⟨w1.heap.size, 4, none⟩ = some (.slice dA t.ds.length dC) := HT1.out.cell 4
  have d5 : wb.cell? ⟨w1.heap.size, 5, none⟩ = some (.slice bA t.bs.length bC) := HT1.out.cell 5
  have d6 : wb.cell? ⟨w1.heap.size, 6, none⟩ = some (.slice nA t.ns.length nC) := HT1.out.cell 6
  have e0 : wb.drew.cell? ⟨w1.heap.size, 0, none⟩ = some (.int .i64 t.c) := HT1.out.drew.cell 0
  have e1 : wb.drew.cell? ⟨w1.heap.size, 1, none⟩ = some (.int .i64 t.w) := HT1.out.drew.cell 1
  have e2 : wb.drew.cell? ⟨w1.heap.size, 2, none⟩ = some (.bool t.big) := HT1.out.drew.cell 2
  have e3 : wb.drew.cell? ⟨w1.heap.size, 3, none⟩ = some (.slice fA t.fs.length fC) := HT1.out.drew.cell 3
  have e4 : wb.drew.cell? ⟨w1.heap.size, 4, none⟩ = some (.slice dA t.ds.length dC) := HT1.out.drew.cell 4
  have e5 : wb.drew.cell? ⟨w1.heap.size, 5, none⟩ = some (.slice bA t.bs.length bC) := HT1.out.drew.cell 5
  have e6 : wb.drew.cell? ⟨w1.heap.size, 6, none⟩ = some (.slice nA t.ns.length nC) := HT1.out.drew.cell 6
  have c2d : wb.drew.cell? ⟨w.heap.size + 1, 2, none⟩ = some (.bool true) := HX1.out.drew.cell 2
  have HCK := Lib.hid (check_any t _ wb.drew HT2.out.drew)
  have hse : ((strOf (lb t)).toList == (strOf bs).toList) = false := by
    have hne : lb t ≠ bs := fun h => HV.out ⟨HZ.out, h⟩
    rw [strOf_eq (lb_lt 4 t HZ.out) HB.out.lt]; exact decide_eq_false hne
  have hsn : ((strOf (lb t)).toList != (strOf bs).toList) = true := by unfold bne; rw [hse]; rfl
  generalize hs1 : strOf (lb t) = s1 at *
  generalize hs2 : strOf bs = s2 at *
  have HS1 := Lib.hid hs1
  have HS2 := Lib.hid hs2
  clear hs1 hs2
  go_region_law
    (first
      | (go_simp; go_at_call 17; refine HCK.out.mono ?_; rintro _ w3 ⟨he, hb3⟩; rw [HE.out] at he; subst he; have HW3 := Lib.hid (below_more HW1.out.drew hb3); have HR3 := Lib.hid (HR1.out.drew.later hb3 HR1.out.lt); have HT3 := Lib.hid (HT1.out.drew.later hb3 HT1.out.lt); have HL3 := Lib.hid (HL1.out.keep (w2 := w3) (fun k hk => hb3.block k (HL1.out.1 k hk)) hb3.size); have HBY3 := Lib.hid ((HBY.out.drew.later hb3).up hb3.size); have hcv3 := conv_bytes HBY3.out c; rw [HS2.out] at hcv3; have HLY := Lib.hid (lay_any 4 (by omega) w3.heap.size w3.heap.size t _ (.slice none 0 0) [] w3 HZ.out HL3.out.here (Nat.le_refl _) (Nat.le_refl _) (World.ownsRow_nil _ _ _ _) (fun y hy => absurd hy (List.not_mem_nil)) (by simp)); clear hb3; have e0 : w3.cell? ⟨w1.heap.size, 0, none⟩ = some (.int .i64 t.c) := HT3.out.cell 0; have e1 : w3.cell? ⟨w1.heap.size, 1, none⟩ = some (.int .i64 t.w) := HT3.out.cell 1; have e2 : w3.cell? ⟨w1.heap.size, 2, none⟩ = some (.bool t.big) := HT3.out.cell 2; have e3 : w3.cell? ⟨w1.heap.size, 3, none⟩ = some (.slice fA t.fs.length fC) := HT3.out.cell 3; have e4 : w3.cell? ⟨w1.heap.size, 4, none⟩ = some (.slice dA t.ds.length dC) := HT3.out.cell 4; have e5 : w3.cell? ⟨w1.heap.size, 5, none⟩ = some (.slice bA t.bs.length bC) := HT3.out.cell 5; have e6 : w3.cell? ⟨w1.heap.size, 6, none⟩ = some (.slice nA t.ns.length nC) := HT3.out.cell 6)
      | (go_simp; go_at_call 37; refine HLY.out.mono ?_; rintro _ w4 ⟨V, rfl, hr⟩; rw [List.nil_append] at hr; obtain ⟨AV, CV, rfl⟩ := own_form hr.own; have hb4 := hr.keep (B := w3.heap.size) (Nat.le_refl _) (fun k hk => by cases hk); have hcv5 := conv_bytes (Byt.of_own hr.own hr.lt) CV; rw [HS1.out] at hcv5; have HW4 := Lib.hid (below_more HW3.out hb4); have HR4 := Lib.hid (HR3.out.later hb4 HR3.out.lt); have HT4 := Lib.hid (HT3.out.later hb4 HT3.out.lt); have HL4 := Lib.hid (HL3.out.keep (w2 := w4) (fun k hk => hb4.block k (HL3.out.1 k hk)) hb4.size); have hcv4 := conv_bytes ((HBY3.out.later hb4).up hb4.size) c; rw [HS2.out] at hcv4; clear hb4 hr))
  all_goals
    have r0 : w4.cell? ⟨w.heap.size, 0, none⟩ = some (.int .i64 0) := HR4.out.cell 0
    have r1 : w4.cell? ⟨w.heap.size, 1, none⟩ = some (.int .i64 0) := HR4.out.cell 1
    have r2 : w4.cell? ⟨w.heap.size, 2, none⟩ = some (.bool false) := HR4.out.cell 2
    have r3 : w4.cell? ⟨w.heap.size, 3, none⟩ = some (.slice none 0 0) := HR4.out.cell 3
    have r4 : w4.cell? ⟨w.heap.size, 4, none⟩ = some (.slice none 0 0) := HR4.out.cell 4
    have r5 : w4.cell? ⟨w.heap.size, 5, none⟩ = some (.slice none 0 0) := HR4.out.cell 5
    have r6 : w4.cell? ⟨w.heap.size, 6, none⟩ = some (.slice none 0 0) := HR4.out.cell 6
    have y0 := HR4.out.frozen 0
    have y1 := HR4.out.frozen 1
    have y2 := HR4.out.frozen 2
    have y3 := HR4.out.frozen 3
    have y4 := HR4.out.frozen 4
    have y5 := HR4.out.frozen 5
    have y6 := HR4.out.frozen 6
    go_wp2
    refine bodyPost_ret (v := .tuple #[.agg #[.int .i64 0, .int .i64 0, .bool false, .slice none 0 0, .slice none 0 0, .slice none 0 0, .slice none 0 0], .int .i64 5]) (by simp [results, Try.results29, go_sem, r0, r1, r2, r3, r4, r5, r6]) rfl (load_fin HW4.out (lies_0 (fun _ => False) (fun _ h => h.elim) 0 0 false) (fun _ h => h.elim) (by rw [← HRR.out]; exact loadT_no HE1.out HV.out))

set_option maxHeartbeats 4000000 in
set_option maxRecDepth 100000 in
theorem pload_D (m c : Nat) (A : Option Addr) (bs : List Nat) (w : World) (hm : m ≤ 140737488000000) (hc : m ≤ c) (hb : Byt w w.heap.size A m bs) (hf : (tkR bs 4 (0, true)).2.2 = true) (hv : sz 4 (tkR bs 4 (0, true)).1 ≠ 0 ∧ lb (tkR bs 4 (0, true)).1 = bs) :
    Calls Try.prog 29 #[.slice A m c] w (LdP (loadT bs) w) := by
  generalize hR : loadT bs = R
  have HRR := Lib.hid hR
  have hN := below_new w (.cells #[.int .i64 0, .int .i64 0, .bool false, .slice none 0 0, .slice none 0 0, .slice none 0 0, .slice none 0 0] 28)
  have hN2 := below_new (w.alloc (.cells #[.int .i64 0, .int .i64 0, .bool false, .slice none 0 0, .slice none 0 0, .slice none 0 0, .slice none 0 0] 28)) (.cells #[.slice A m c, .int .i64 0, .bool true] 81)
  have HR0 := Lib.hid ((Bx.new w 28 #[.int .i64 0, .int .i64 0, .bool false, .slice none 0 0, .slice none 0 0, .slice none 0 0, .slice none 0 0]).later hN2 (by rw [size_alloc]; exact Nat.lt_succ_self _))
  have HX0 := Lib.hid (show Bx ((w.alloc (.cells #[.int .i64 0, .int .i64 0, .bool false, .slice none 0 0, .slice none 0 0, .slice none 0 0, .slice none 0 0] 28)).alloc (.cells #[.slice A m c, .int .i64 0, .bool true] 81)) (w.heap.size + 1) 81 #[.slice A m c, .int .i64 ((0 : Nat) : Int), .bool (id true)] from by have h := Bx.new (w.alloc (.cells #[.int .i64 0, .int .i64 0, .bool false, .slice none 0 0, .slice none 0 0, .slice none 0 0, .slice none 0 0] 28)) 81 #[.slice A m c, .int .i64 0, .bool true]; rw [size_alloc] at h; exact h)
  have hN3 := below_more hN hN2
  have HY0 := Lib.hid ((hb.later hN3).up hN3.size)
  have HW0 := Lib.hid hN3
  have HTK := Lib.hid (stake_any m c A bs (by omega) hc 4 (by omega) (w.heap.size + 1) 0 true ((w.alloc (.cells #[.int .i64 0, .int .i64 0, .bool false, .slice none 0 0, .slice none 0 0, .slice none 0 0, .slice none 0 0] 28)).alloc (.cells #[.slice A m c, .int .i64 0, .bool true] 81)) (Nat.zero_le _) HY0.out HX0.out)
  have HB := Lib.hid hb
  have hsz : ((w.alloc (.cells #[.int .i64 0, .int .i64 0, .bool false, .slice none 0 0, .slice none 0 0, .slice none 0 0, .slice none 0 0] 28)).alloc (.cells #[.slice A m c, .int .i64 0, .bool true] 81)).heap.size = w.heap.size + 1 + 1 := by rw [size_alloc, size_alloc]
  have HSZ := Lib.hid hsz
  clear hR hN hN2 hN3 hb hsz
  go_enter Try.func29, Try.ntmps29
  go_upto_region 2 with fail
  generalize (w.alloc (.cells #[.int .i64 0, .int .i64 0, .bool false, .slice none 0 0, .slice none 0 0, .slice none 0 0, .slice none 0 0] 28)).alloc (.cells #[.slice A m c, .int .i64 0, .bool true] 81) = wa at *
  go_wp2_with (go_at_call 46; refine HTK.out.mono ?_)
  rintro _ w1 ⟨t, q, f, u0, u1, u2, u3, u4, u5, u6, S, e1, rfl, hL, hS, hx1, hc1, hq1⟩
  rw [e1] at hv
  obtain ⟨fA, dA, bA, nA, fC, dC, bC, nC, rfl, rfl, rfl, rfl, rfl, rfl, rfl⟩ := hL.here.cells
  have HE1 := Lib.hid e1
  have HV := Lib.hid hv
  clear hv
  have HS := Lib.hid (show ∀ k, S k → w.heap.size + 1 < k from fun k hk => by have := hS k hk; have := HSZ.out; omega)
  have hn := below_new w1 (.cells #[.int .i64 t.c, .int .i64 t.w, .bool t.big, .slice fA t.fs.length fC, .slice dA t.ds.length dC, .slice bA t.bs.length bC, .slice nA t.ns.length nC] 28)
  have hw1 : Below w.heap.size w w1 := HW0.out.trans (hc1.below (B := w.heap.size) (by have := HSZ.out; omega) (fun j hj => by omega))
  have HW1 := Lib.hid (below_more hw1 hn)
  have HX1 := Lib.hid (hx1.later hn hx1.lt)
  have HR1 := Lib.hid ((hc1.bx HR0.out (by omega)).later hn (hc1.bx HR0.out (by omega)).lt)
  have HT1 := Lib.hid (Bx.new w1 28 #[.int .i64 t.c, .int .i64 t.w, .bool t.big, .slice fA t.fs.length fC, .slice dA t.ds.length dC, .slice bA t.bs.length bC, .slice nA t.ns.length nC])
  have HL1 := Lib.hid (hL.keep (w2 := w1.alloc (.cells #[.int .i64 t.c, .int .i64 t.w, .bool t.big, .slice fA t.fs.length fC, .slice dA t.ds.length dC, .slice bA t.bs.length bC, .slice nA t.ns.length nC] 28)) (fun k hk => hn.block k (hL.1 k hk)) hn.size)
  clear hL hS hx1 hc1 hw1 hn e1 HTK HX0 HR0 HY0
  rw [HE1.out] at hf
  obtain rfl : f = true := hf
  have hz := HV.out.1
  have HE := Lib.hid (show errV t = 0 from if_neg hz)
  have HZ := Lib.hid hz
  clear hz
  have c2 : (w1.alloc (.cells #[.int .i64 t.c, .int .i64 t.w, .bool t.big, .slice fA t.fs.length fC, .slice dA t.ds.length dC, .slice bA t.bs.length bC, .slice nA t.ns.length nC] 28)).cell? ⟨w.heap.size + 1, 2, none⟩ = some (.bool true) := HX1.out.cell 2
  go_upto_region 3 with fail
  have HT2 := Lib.hid (HL1.out.here)
  have HBY := Lib.hid ((HB.out.later HW1.out).up HW1.out.size)
  generalize (w1.alloc (.cells #[.int .i64 t.c, .int .i64 t.w, .bool t.big, .slice fA t.fs.length fC, .slice dA t.ds.length dC, .slice bA t.bs.length bC, .slice nA t.ns.length nC] 28)) = wb at *
  have d0 : wb.cell? ⟨w1.heap.size, 0, none⟩ = some (.int .i64 t.c) := HT1.out.cell 0
  have d1 : wb.cell? ⟨w1.heap.size, 1, none⟩ = some (.int .i64 t.w) := HT1.out.cell 1
  have d2 : wb.cell? ⟨w1.heap.size, 2, none⟩ = some (.bool t.big) := HT1.out.cell 2
  have d3 : wb.cell? ⟨w1.heap.size, 3, none⟩ = some (.slice fA t.fs.length fC) := HT1.out.cell 3
  have d4 : wb.cell? ⟨w1.heap.size, 4, none⟩ = some (.slice dA t.ds.length dC) := HT1.out.cell 4
  have d5 : wb.cell? ⟨w1.heap.size, 5, none⟩ = some (.slice bA t.bs.length bC) := HT1.out.cell 5
  have d6 : wb.cell? ⟨w1.heap.size, 6, none⟩ = some (.slice nA t.ns.length nC) := HT1.out.cell 6
  have e0 : wb.drew.cell? ⟨w1.heap.size, 0, none⟩ = some (.int .i64 t.c) := HT1.out.drew.cell 0
  have e1 : wb.drew.cell? ⟨w1.heap.size, 1, none⟩ = some (.int .i64 t.w) := HT1.out.drew.cell 1
  have e2 : wb.drew.cell? ⟨w1.heap.size, 2, none⟩ = some (.bool t.big) := HT1.out.drew.cell 2
  have e3 : wb.drew.cell? ⟨w1.heap.size, 3, none⟩ = some (.slice fA t.fs.length fC) := HT1.out.drew.cell 3
  have e4 : wb.drew.cell? ⟨w1.heap.size, 4, none⟩ = some (.slice dA t.ds.length dC) := HT1.out.drew.cell 4
  have e5 : wb.drew.cell? ⟨w1.heap.size, 5, none⟩ = some (.slice bA t.bs.length bC) := HT1.out.drew.cell 5
  have e6 : wb.drew.cell? ⟨w1.heap.size, 6, none⟩ = some (.slice nA t.ns.length nC) := HT1.out.drew.cell 6
  have c2d : wb.drew.cell? ⟨w.heap.size + 1, 2, none⟩ = some (.bool true) := HX1.out.drew.cell 2
  have HCK := Lib.hid (check_any t _ wb.drew HT2.out.drew)
  have hse : ((strOf (lb t)).toList == (strOf bs).toList) = true := by
    rw [HV.out.2]; simp
  have hsn : ((strOf (lb t)).toList != (strOf bs).toList) = false := by unfold bne; rw [hse]; rfl
  generalize hs1 : strOf (lb t) = s1 at *
  generalize hs2 : strOf bs = s2 at *
  have HS1 := Lib.hid hs1
  have HS2 := Lib.hid hs2
  clear hs1 hs2
  go_region_law
    (first
      | (go_simp; go_at_call 17; refine HCK.out.mono ?_; rintro _ w3 ⟨he, hb3⟩; rw [HE.out] at he; subst he; have HW3 := Lib.hid (below_more HW1.out.drew hb3); have HR3 := Lib.hid (HR1.out.drew.later hb3 HR1.out.lt); have HT3 := Lib.hid (HT1.out.drew.later hb3 HT1.out.lt); have HL3 := Lib.hid (HL1.out.keep (w2 := w3) (fun k hk => hb3.block k (HL1.out.1 k hk)) hb3.size); have HBY3 := Lib.hid ((HBY.out.drew.later hb3).up hb3.size); have hcv3 := conv_bytes HBY3.out c; rw [HS2.out] at hcv3; have HLY := Lib.hid (lay_any 4 (by omega) w3.heap.size w3.heap.size t _ (.slice none 0 0) [] w3 HZ.out HL3.out.here (Nat.le_refl _) (Nat.le_refl _) (World.ownsRow_nil _ _ _ _) (fun y hy => absurd hy (List.not_mem_nil)) (by simp)); clear hb3; have e0 : w3.cell? ⟨w1.heap.size, 0, none⟩ = some (.int .i64 t.c) := HT3.out.cell 0; have e1 : w3.cell? ⟨w1.heap.size, 1, none⟩ = some (.int .i64 t.w) := HT3.out.cell 1; have e2 : w3.cell? ⟨w1.heap.size, 2, none⟩ = some (.bool t.big) := HT3.out.cell 2; have e3 : w3.cell? ⟨w1.heap.size, 3, none⟩ = some (.slice fA t.fs.length fC) := HT3.out.cell 3; have e4 : w3.cell? ⟨w1.heap.size, 4, none⟩ = some (.slice dA t.ds.length dC) := HT3.out.cell 4; have e5 : w3.cell? ⟨w1.heap.size, 5, none⟩ = some (.slice bA t.bs.length bC) := HT3.out.cell 5; have e6 : w3.cell? ⟨w1.heap.size, 6, none⟩ = some (.slice nA t.ns.length nC) := HT3.out.cell 6)
      | (go_simp; go_at_call 37; refine HLY.out.mono ?_; rintro _ w4 ⟨V, rfl, hr⟩; rw [List.nil_append] at hr; obtain ⟨AV, CV, rfl⟩ := own_form hr.own; have hb4 := hr.keep (B := w3.heap.size) (Nat.le_refl _) (fun k hk => by cases hk); have hcv5 := conv_bytes (Byt.of_own hr.own hr.lt) CV; rw [HS1.out] at hcv5; have HW4 := Lib.hid (below_more HW3.out hb4); have HR4 := Lib.hid (HR3.out.later hb4 HR3.out.lt); have HT4 := Lib.hid (HT3.out.later hb4 HT3.out.lt); have HL4 := Lib.hid (HL3.out.keep (w2 := w4) (fun k hk => hb4.block k (HL3.out.1 k hk)) hb4.size); have hcv4 := conv_bytes ((HBY3.out.later hb4).up hb4.size) c; rw [HS2.out] at hcv4; clear hb4 hr))
  all_goals
    have r0 : w4.cell? ⟨w.heap.size, 0, none⟩ = some (.int .i64 0) := HR4.out.cell 0
    have r1 : w4.cell? ⟨w.heap.size, 1, none⟩ = some (.int .i64 0) := HR4.out.cell 1
    have r2 : w4.cell? ⟨w.heap.size, 2, none⟩ = some (.bool false) := HR4.out.cell 2
    have r3 : w4.cell? ⟨w.heap.size, 3, none⟩ = some (.slice none 0 0) := HR4.out.cell 3
    have r4 : w4.cell? ⟨w.heap.size, 4, none⟩ = some (.slice none 0 0) := HR4.out.cell 4
    have r5 : w4.cell? ⟨w.heap.size, 5, none⟩ = some (.slice none 0 0) := HR4.out.cell 5
    have r6 : w4.cell? ⟨w.heap.size, 6, none⟩ = some (.slice none 0 0) := HR4.out.cell 6
    have y0 := HR4.out.frozen 0
    have y1 := HR4.out.frozen 1
    have y2 := HR4.out.frozen 2
    have y3 := HR4.out.frozen 3
    have y4 := HR4.out.frozen 4
    have y5 := HR4.out.frozen 5
    have y6 := HR4.out.frozen 6
    have k0 : w4.cell? ⟨w1.heap.size, 0, none⟩ = some (.int .i64 t.c) := HT4.out.cell 0
    have k1 : w4.cell? ⟨w1.heap.size, 1, none⟩ = some (.int .i64 t.w) := HT4.out.cell 1
    have k2 : w4.cell? ⟨w1.heap.size, 2, none⟩ = some (.bool t.big) := HT4.out.cell 2
    have k3 : w4.cell? ⟨w1.heap.size, 3, none⟩ = some (.slice fA t.fs.length fC) := HT4.out.cell 3
    have k4 : w4.cell? ⟨w1.heap.size, 4, none⟩ = some (.slice dA t.ds.length dC) := HT4.out.cell 4
    have k5 : w4.cell? ⟨w1.heap.size, 5, none⟩ = some (.slice bA t.bs.length bC) := HT4.out.cell 5
    have k6 : w4.cell? ⟨w1.heap.size, 6, none⟩ = some (.slice nA t.ns.length nC) := HT4.out.cell 6
    go_wp2
    refine bodyPost_ret (v := .tuple #[.agg #[.int .i64 t.c, .int .i64 t.w, .bool t.big, .slice fA t.fs.length fC, .slice dA t.ds.length dC, .slice bA t.bs.length bC, .slice nA t.ns.length nC], .int .i64 0]) (by simp [results, Try.results29, go_sem, r0, r1, r2, r3, r4, r5, r6]) rfl (load_fin HW4.out HL4.out (fun k hk => by have := HS.out k hk; omega) (by rw [← HRR.out]; exact loadT_yes HE1.out HV.out))

theorem pload_any (m c : Nat) (A : Option Addr) (bs : List Nat) (w : World) (hm : m ≤ 140737488000000) (hc : m ≤ c) (hb : Byt w w.heap.size A m bs) : Calls Try.prog 29 #[.slice A m c] w (LdP (loadT bs) w) := by
  rcases hf : (tkR bs 4 (0, true)).2.2 with _ | _
  · exact pload_A m c A bs w hm hc hb hf
  by_cases hz : sz 4 (tkR bs 4 (0, true)).1 = 0
  · exact pload_B m c A bs w hm hc hb (fun h => h.1 hz) hf hz
  by_cases hl : lb (tkR bs 4 (0, true)).1 = bs
  · exact pload_D m c A bs w hm hc hb hf ⟨hz, hl⟩
  · exact pload_C m c A bs w hm hc hb (fun h => hl h.2) hf hz
end Go.Proofs.Ytbdhihgokkcmfaa.Ty9
