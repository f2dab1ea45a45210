/- The law DatatypeBack, the walk. -/
import Derived.Test.YtbdhihgokkcmfaaSch
import Derived.Test.YtbdhihgokkcmfaaHa
namespace Go.Proofs.Ytbdhihgokkcmfaa.Ty9
set_option linter.unusedVariables false
set_option linter.unusedSimpArgs false
open Go.RowKit Wd

theorem same_dec {P : Program} {f : FuncId} {args : Array Value} {w : World} {R : Prop} {r : Bool} (h : Calls P f args w fun e w' => ∃ b, e = .returned (.bool b) ∧ (b = true ↔ R) ∧ Below w.heap.size w w') (hr : r = true ↔ R) :
    Calls P f args w fun e w' => e = .returned (.bool r) ∧ Below w.heap.size w w' := h.mono fun e w' ⟨b, he, hb, hbe⟩ => ⟨by rw [he]; cases b <;> cases r <;> simp_all, hbe⟩
theorem psame_to (x y : Ty) (r : Bool) (hr : r = true ↔ x = y) (v u : Value) (w : World) (h1 : TyAt w w.heap.size x v) (h2 : TyAt w w.heap.size y u) : Calls Try.prog 27 #[v, u] w fun e w' => e = .returned (.bool r) ∧ Below w.heap.size w w' := same_dec (psame_any x y v u w h1 h2) hr
theorem lb_inj {a b : Ty} (ha : sz 4 a ≠ 0) (hb : sz 4 b ≠ 0) (oa : Ok64 a) (ob : Ok64 b) (h : lb a = lb b) : a = b := by
  have h1 := tkR_at (lb a) 4 a ha oa [] [] 0 (by simp) rfl
  have h2 := tkR_at (lb a) 4 b hb ob [] [] 0 (by rw [h]; simp) rfl
  rw [h1] at h2
  injection h2
theorem load_back {a : Ty} (ha : sz 4 a ≠ 0) (oa : Ok64 a) : loadT (lb a) = (a, 0) :=
  loadT_yes (tkR_at (lb a) 4 a ha oa [] [] 0 (by simp) rfl) ⟨ha, rfl⟩
theorem load_more {a : Ty} (ha : sz 4 a ≠ 0) (oa : Ok64 a) : loadT (lb a ++ [0]) = (zeroT, 5) :=
  loadT_no (tkR_at (lb a ++ [0]) 4 a ha oa [] [0] 0 (by simp) rfl) fun h => by
    have := congrArg List.length h.2
    simp at this


set_option maxHeartbeats 8000000 in
set_option maxRecDepth 100000 in
theorem back_bigA (a b : Ty) (v u : Value) (w : World) (ht : TyAt w w.heap.size a v) (hu : TyAt w w.heap.size b u) (hg : a.left 2000 ≤ 0) :
    Calls Try.prog 11 #[v, u] w fun e w' => e = .returned (.bool true) ∧ Below w.heap.size w w' := by
  have hoa := ht.ok64
  have hob := hu.ok64
  have HOA := Lib.hid hoa
  have HOB := Lib.hid hob
  obtain ⟨fA, dA, bA, nA, fC, dC, bC, nC, rfl⟩ := ht.shape
  obtain ⟨fA2, dA2, bA2, nA2, fC2, dC2, bC2, nC2, rfl⟩ := hu.shape
  have HT := Lib.hid (Two.new w 28 #[.int .i64 a.c, .int .i64 a.w, .bool a.big, .slice fA a.fs.length fC, .slice dA a.ds.length dC, .slice bA a.bs.length bC, .slice nA a.ns.length nC] #[.int .i64 b.c, .int .i64 b.w, .bool b.big, .slice fA2 b.fs.length fC2, .slice dA2 b.ds.length dC2, .slice bA2 b.bs.length bC2, .slice nA2 b.ns.length nC2])
  have H1 := Lib.hid ht
  have H2 := Lib.hid hu
  clear ht hu hoa hob
  have HGa := Lib.hid (decide_eq_true hg)
  clear hg
  go_enter Try.func11, Try.ntmps11
  go_upto_region 1 with fail
  generalize (w.alloc (.cells #[.int .i64 a.c, .int .i64 a.w, .bool a.big, .slice fA a.fs.length fC, .slice dA a.ds.length dC, .slice bA a.bs.length bC, .slice nA a.ns.length nC] 28)).alloc (.cells #[.int .i64 b.c, .int .i64 b.w, .bool b.big, .slice fA2 b.fs.length fC2, .slice dA2 b.ds.length dC2, .slice bA2 b.bs.length bC2, .slice nA2 b.ns.length nC2] 28) = w0 at *
  have c0 : w0.cell? ⟨w.heap.size, 0, none⟩ = some (.int .i64 a.c) := HT.out.b1.cell 0
  have c1 : w0.cell? ⟨w.heap.size, 1, none⟩ = some (.int .i64 a.w) := HT.out.b1.cell 1
  have c2 : w0.cell? ⟨w.heap.size, 2, none⟩ = some (.bool a.big) := HT.out.b1.cell 2
  have c3 : w0.cell? ⟨w.heap.size, 3, none⟩ = some (.slice fA a.fs.length fC) := HT.out.b1.cell 3
  have c4 : w0.cell? ⟨w.heap.size, 4, none⟩ = some (.slice dA a.ds.length dC) := HT.out.b1.cell 4
  have c5 : w0.cell? ⟨w.heap.size, 5, none⟩ = some (.slice bA a.bs.length bC) := HT.out.b1.cell 5
  have c6 : w0.cell? ⟨w.heap.size, 6, none⟩ = some (.slice nA a.ns.length nC) := HT.out.b1.cell 6
  have HBB := Lib.hid (big_any a _ w0 ((H1.out.later HT.out.be).up HT.out.be.size))
  go_wp2_with (go_at_call 12; refine HBB.out.mono ?_)
  rintro _ w1 ⟨he, hb⟩
  rw [HGa.out] at he
  subst he
  have HTw1 := Lib.hid (HT.out.more hb)
  clear hb HBB
  clear c0 c1 c2 c3 c4 c5 c6
  go_wp2_with (go_at_call 13; refine (lives_any _).mono ?_)
  first
    | rintro _ w9 rfl hb9
    | rintro _ w9 ⟨rfl, hb9⟩
  have HT9 := Lib.hid (HTw1.out.more hb9)
  clear hb9
  go_wp2
  go_ret
  exact ⟨rfl, HT9.out.be⟩

set_option maxHeartbeats 8000000 in
set_option maxRecDepth 100000 in
theorem back_bigB (a b : Ty) (v u : Value) (w : World) (ht : TyAt w w.heap.size a v) (hu : TyAt w w.heap.size b u) (hg : ¬ a.left 2000 ≤ 0) (hg2 : b.left 2000 ≤ 0) :
    Calls Try.prog 11 #[v, u] w fun e w' => e = .returned (.bool true) ∧ Below w.heap.size w w' := by
  have hoa := ht.ok64
  have hob := hu.ok64
  have HOA := Lib.hid hoa
  have HOB := Lib.hid hob
  obtain ⟨fA, dA, bA, nA, fC, dC, bC, nC, rfl⟩ := ht.shape
  obtain ⟨fA2, dA2, bA2, nA2, fC2, dC2, bC2, nC2, rfl⟩ := hu.shape
  have HT := Lib.hid (Two.new w 28 #[.int .i64 a.c, .int .i64 a.w, .bool a.big, .slice fA a.fs.length fC, .slice dA a.ds.length dC, .slice bA a.bs.length bC, .slice nA a.ns.length nC] #[.int .i64 b.c, .int .i64 b.w, .bool b.big, .slice fA2 b.fs.length fC2, .slice dA2 b.ds.length dC2, .slice bA2 b.bs.length bC2, .slice nA2 b.ns.length nC2])
  have H1 := Lib.hid ht
  have H2 := Lib.hid hu
  clear ht hu hoa hob
  have HGa := Lib.hid (decide_eq_false hg)
  have HGb := Lib.hid (decide_eq_true hg2)
  clear hg hg2
  go_enter Try.func11, Try.ntmps11
  go_upto_region 1 with fail
  generalize (w.alloc (.cells #[.int .i64 a.c, .int .i64 a.w, .bool a.big, .slice fA a.fs.length fC, .slice dA a.ds.length dC, .slice bA a.bs.length bC, .slice nA a.ns.length nC] 28)).alloc (.cells #[.int .i64 b.c, .int .i64 b.w, .bool b.big, .slice fA2 b.fs.length fC2, .slice dA2 b.ds.length dC2, .slice bA2 b.bs.length bC2, .slice nA2 b.ns.length nC2] 28) = w0 at *
  have c0 : w0.cell? ⟨w.heap.size, 0, none⟩ = some (.int .i64 a.c) := HT.out.b1.cell 0
  have c1 : w0.cell? ⟨w.heap.size, 1, none⟩ = some (.int .i64 a.w) := HT.out.b1.cell 1
  have c2 : w0.cell? ⟨w.heap.size, 2, none⟩ = some (.bool a.big) := HT.out.b1.cell 2
  have c3 : w0.cell? ⟨w.heap.size, 3, none⟩ = some (.slice fA a.fs.length fC) := HT.out.b1.cell 3
  have c4 : w0.cell? ⟨w.heap.size, 4, none⟩ = some (.slice dA a.ds.length dC) := HT.out.b1.cell 4
  have c5 : w0.cell? ⟨w.heap.size, 5, none⟩ = some (.slice bA a.bs.length bC) := HT.out.b1.cell 5
  have c6 : w0.cell? ⟨w.heap.size, 6, none⟩ = some (.slice nA a.ns.length nC) := HT.out.b1.cell 6
  have HBB := Lib.hid (big_any a _ w0 ((H1.out.later HT.out.be).up HT.out.be.size))
  go_wp2_with (go_at_call 12; refine HBB.out.mono ?_)
  rintro _ w1 ⟨he, hb⟩
  rw [HGa.out] at he
  subst he
  have HTw1 := Lib.hid (HT.out.more hb)
  clear hb HBB
  clear c0 c1 c2 c3 c4 c5 c6
  have d0 : w1.cell? ⟨w.heap.size + 1, 0, none⟩ = some (.int .i64 b.c) := HTw1.out.b2.cell 0
  have d1 : w1.cell? ⟨w.heap.size + 1, 1, none⟩ = some (.int .i64 b.w) := HTw1.out.b2.cell 1
  have d2 : w1.cell? ⟨w.heap.size + 1, 2, none⟩ = some (.bool b.big) := HTw1.out.b2.cell 2
  have d3 : w1.cell? ⟨w.heap.size + 1, 3, none⟩ = some (.slice fA2 b.fs.length fC2) := HTw1.out.b2.cell 3
  have d4 : w1.cell? ⟨w.heap.size + 1, 4, none⟩ = some (.slice dA2 b.ds.length dC2) := HTw1.out.b2.cell 4
  have d5 : w1.cell? ⟨w.heap.size + 1, 5, none⟩ = some (.slice bA2 b.bs.length bC2) := HTw1.out.b2.cell 5
  have d6 : w1.cell? ⟨w.heap.size + 1, 6, none⟩ = some (.slice nA2 b.ns.length nC2) := HTw1.out.b2.cell 6
  have HBB := Lib.hid (big_any b _ w1 ((H2.out.later HTw1.out.be).up HTw1.out.be.size))
  go_wp2_with (go_at_call 12; refine HBB.out.mono ?_)
  rintro _ w2 ⟨he, hb⟩
  rw [HGb.out] at he
  subst he
  have HTw2 := Lib.hid (HTw1.out.more hb)
  clear hb HBB
  clear d0 d1 d2 d3 d4 d5 d6
  go_wp2_with (go_at_call 13; refine (lives_any _).mono ?_)
  first
    | rintro _ w9 rfl hb9
    | rintro _ w9 ⟨rfl, hb9⟩
  have HT9 := Lib.hid (HTw2.out.more hb9)
  clear hb9
  go_wp2
  go_ret
  exact ⟨rfl, HT9.out.be⟩

set_option maxHeartbeats 8000000 in
set_option maxRecDepth 100000 in
theorem back_C0 (a b : Ty) (v u : Value) (w : World) (ht : TyAt w w.heap.size a v) (hu : TyAt w w.heap.size b u) (hg : ¬ a.left 2000 ≤ 0) (hg2 : ¬ b.left 2000 ≤ 0) (hza : sz 4 a = 0) (hzb : sz 4 b = 0) :
    Calls Try.prog 11 #[v, u] w fun e w' => e = .returned (.bool true) ∧ Below w.heap.size w w' := by
  have hoa := ht.ok64
  have hob := hu.ok64
  have HOA := Lib.hid hoa
  have HOB := Lib.hid hob
  obtain ⟨fA, dA, bA, nA, fC, dC, bC, nC, rfl⟩ := ht.shape
  obtain ⟨fA2, dA2, bA2, nA2, fC2, dC2, bC2, nC2, rfl⟩ := hu.shape
  have HT := Lib.hid (Two.new w 28 #[.int .i64 a.c, .int .i64 a.w, .bool a.big, .slice fA a.fs.length fC, .slice dA a.ds.length dC, .slice bA a.bs.length bC, .slice nA a.ns.length nC] #[.int .i64 b.c, .int .i64 b.w, .bool b.big, .slice fA2 b.fs.length fC2, .slice dA2 b.ds.length dC2, .slice bA2 b.bs.length bC2, .slice nA2 b.ns.length nC2])
  have H1 := Lib.hid ht
  have H2 := Lib.hid hu
  clear ht hu hoa hob
  have HZa := Lib.hid hza
  have HEa := Lib.hid (show errV a = 15 from if_pos hza)
  clear hza
  have HZb := Lib.hid hzb
  have HEb := Lib.hid (show errV b = 15 from if_pos hzb)
  clear hzb
  have HGa := Lib.hid (decide_eq_false hg)
  have HGb := Lib.hid (decide_eq_false hg2)
  clear hg hg2
  go_enter Try.func11, Try.ntmps11
  go_upto_region 1 with fail
  generalize (w.alloc (.cells #[.int .i64 a.c, .int .i64 a.w, .bool a.big, .slice fA a.fs.length fC, .slice dA a.ds.length dC, .slice bA a.bs.length bC, .slice nA a.ns.length nC] 28)).alloc (.cells #[.int .i64 b.c, .int .i64 b.w, .bool b.big, .slice fA2 b.fs.length fC2, .slice dA2 b.ds.length dC2, .slice bA2 b.bs.length bC2, .slice nA2 b.ns.length nC2] 28) = w0 at *
  have c0 : w0.cell? ⟨w.heap.size, 0, none⟩ = some (.int .i64 a.c) := HT.out.b1.cell 0
  have c1 : w0.cell? ⟨w.heap.size, 1, none⟩ = some (.int .i64 a.w) := HT.out.b1.cell 1
  have c2 : w0.cell? ⟨w.heap.size, 2, none⟩ = some (.bool a.big) := HT.out.b1.cell 2
  have c3 : w0.cell? ⟨w.heap.size, 3, none⟩ = some (.slice fA a.fs.length fC) := HT.out.b1.cell 3
  have c4 : w0.cell? ⟨w.heap.size, 4, none⟩ = some (.slice dA a.ds.length dC) := HT.out.b1.cell 4
  have c5 : w0.cell? ⟨w.heap.size, 5, none⟩ = some (.slice bA a.bs.length bC) := HT.out.b1.cell 5
  have c6 : w0.cell? ⟨w.heap.size, 6, none⟩ = some (.slice nA a.ns.length nC) := HT.out.b1.cell 6
  have HBB := Lib.hid (big_any a _ w0 ((H1.out.later HT.out.be).up HT.out.be.size))
  go_wp2_with (go_at_call 12; refine HBB.out.mono ?_)
  rintro _ w1 ⟨he, hb⟩
  rw [HGa.out] at he
  subst he
  have HTw1 := Lib.hid (HT.out.more hb)
  clear hb HBB
  clear c0 c1 c2 c3 c4 c5 c6
  have d0 : w1.cell? ⟨w.heap.size + 1, 0, none⟩ = some (.int .i64 b.c) := HTw1.out.b2.cell 0
  have d1 : w1.cell? ⟨w.heap.size + 1, 1, none⟩ = some (.int .i64 b.w) := HTw1.out.b2.cell 1
  have d2 : w1.cell? ⟨w.heap.size + 1, 2, none⟩ = some (.bool b.big) := HTw1.out.b2.cell 2
  have d3 : w1.cell? ⟨w.heap.size + 1, 3, none⟩ = some (.slice fA2 b.fs.length fC2) := HTw1.out.b2.cell 3
  have d4 : w1.cell? ⟨w.heap.size + 1, 4, none⟩ = some (.slice dA2 b.ds.length dC2) := HTw1.out.b2.cell 4
  have d5 : w1.cell? ⟨w.heap.size + 1, 5, none⟩ = some (.slice bA2 b.bs.length bC2) := HTw1.out.b2.cell 5
  have d6 : w1.cell? ⟨w.heap.size + 1, 6, none⟩ = some (.slice nA2 b.ns.length nC2) := HTw1.out.b2.cell 6
  have HBB := Lib.hid (big_any b _ w1 ((H2.out.later HTw1.out.be).up HTw1.out.be.size))
  go_wp2_with (go_at_call 12; refine HBB.out.mono ?_)
  rintro _ w2 ⟨he, hb⟩
  rw [HGb.out] at he
  subst he
  have HTw2 := Lib.hid (HTw1.out.more hb)
  clear hb HBB
  clear d0 d1 d2 d3 d4 d5 d6
  have c0 : w2.cell? ⟨w.heap.size, 0, none⟩ = some (.int .i64 a.c) := HTw2.out.b1.cell 0
  have c1 : w2.cell? ⟨w.heap.size, 1, none⟩ = some (.int .i64 a.w) := HTw2.out.b1.cell 1
  have c2 : w2.cell? ⟨w.heap.size, 2, none⟩ = some (.bool a.big) := HTw2.out.b1.cell 2
  have c3 : w2.cell? ⟨w.heap.size, 3, none⟩ = some (.slice fA a.fs.length fC) := HTw2.out.b1.cell 3
  have c4 : w2.cell? ⟨w.heap.size, 4, none⟩ = some (.slice dA a.ds.length dC) := HTw2.out.b1.cell 4
  have c5 : w2.cell? ⟨w.heap.size, 5, none⟩ = some (.slice bA a.bs.length bC) := HTw2.out.b1.cell 5
  have c6 : w2.cell? ⟨w.heap.size, 6, none⟩ = some (.slice nA a.ns.length nC) := HTw2.out.b1.cell 6
  have HBB := Lib.hid (bytes_no a _ w2 ((H1.out.later HTw2.out.be).up HTw2.out.be.size) HZa.out)
  go_wp2_with (go_at_call 21; refine HBB.out.mono ?_)
  rintro _ w3 ⟨rfl, hb⟩
  have HTw3 := Lib.hid (HTw2.out.more hb)
  have HBw3 := Lib.hid hb
  clear hb HBB
  clear c0 c1 c2 c3 c4 c5 c6
  have d0 : w3.cell? ⟨w.heap.size + 1, 0, none⟩ = some (.int .i64 b.c) := HTw3.out.b2.cell 0
  have d1 : w3.cell? ⟨w.heap.size + 1, 1, none⟩ = some (.int .i64 b.w) := HTw3.out.b2.cell 1
  have d2 : w3.cell? ⟨w.heap.size + 1, 2, none⟩ = some (.bool b.big) := HTw3.out.b2.cell 2
  have d3 : w3.cell? ⟨w.heap.size + 1, 3, none⟩ = some (.slice fA2 b.fs.length fC2) := HTw3.out.b2.cell 3
  have d4 : w3.cell? ⟨w.heap.size + 1, 4, none⟩ = some (.slice dA2 b.ds.length dC2) := HTw3.out.b2.cell 4
  have d5 : w3.cell? ⟨w.heap.size + 1, 5, none⟩ = some (.slice bA2 b.bs.length bC2) := HTw3.out.b2.cell 5
  have d6 : w3.cell? ⟨w.heap.size + 1, 6, none⟩ = some (.slice nA2 b.ns.length nC2) := HTw3.out.b2.cell 6
  have HBB := Lib.hid (bytes_no b _ w3 ((H2.out.later HTw3.out.be).up HTw3.out.be.size) HZb.out)
  go_wp2_with (go_at_call 21; refine HBB.out.mono ?_)
  rintro _ w4 ⟨rfl, hb⟩
  have HTw4 := Lib.hid (HTw3.out.more hb)
  have HBw4 := Lib.hid hb
  clear hb HBB
  clear d0 d1 d2 d3 d4 d5 d6
  have q1 : ((15 : Int) != 15) = false := by decide
  have q2 : ((0 : Int) != 0) = false := by decide
  have q3 : ((15 : Int) != 0) = true := by decide
  have c0 : w4.cell? ⟨w.heap.size, 0, none⟩ = some (.int .i64 a.c) := HTw4.out.b1.cell 0
  have c1 : w4.cell? ⟨w.heap.size, 1, none⟩ = some (.int .i64 a.w) := HTw4.out.b1.cell 1
  have c2 : w4.cell? ⟨w.heap.size, 2, none⟩ = some (.bool a.big) := HTw4.out.b1.cell 2
  have c3 : w4.cell? ⟨w.heap.size, 3, none⟩ = some (.slice fA a.fs.length fC) := HTw4.out.b1.cell 3
  have c4 : w4.cell? ⟨w.heap.size, 4, none⟩ = some (.slice dA a.ds.length dC) := HTw4.out.b1.cell 4
  have c5 : w4.cell? ⟨w.heap.size, 5, none⟩ = some (.slice bA a.bs.length bC) := HTw4.out.b1.cell 5
  have c6 : w4.cell? ⟨w.heap.size, 6, none⟩ = some (.slice nA a.ns.length nC) := HTw4.out.b1.cell 6
  have HBB := Lib.hid (check_any a _ w4 ((H1.out.later HTw4.out.be).up HTw4.out.be.size))
  go_wp2_with (go_at_call 17; refine HBB.out.mono ?_)
  rintro _ w5 ⟨he, hb⟩
  rw [HEa.out] at he
  subst he
  have HTw5 := Lib.hid (HTw4.out.more hb)
  have HBw5 := Lib.hid hb
  clear hb HBB
  clear c0 c1 c2 c3 c4 c5 c6
  have d0 : w5.cell? ⟨w.heap.size + 1, 0, none⟩ = some (.int .i64 b.c) := HTw5.out.b2.cell 0
  have d1 : w5.cell? ⟨w.heap.size + 1, 1, none⟩ = some (.int .i64 b.w) := HTw5.out.b2.cell 1
  have d2 : w5.cell? ⟨w.heap.size + 1, 2, none⟩ = some (.bool b.big) := HTw5.out.b2.cell 2
  have d3 : w5.cell? ⟨w.heap.size + 1, 3, none⟩ = some (.slice fA2 b.fs.length fC2) := HTw5.out.b2.cell 3
  have d4 : w5.cell? ⟨w.heap.size + 1, 4, none⟩ = some (.slice dA2 b.ds.length dC2) := HTw5.out.b2.cell 4
  have d5 : w5.cell? ⟨w.heap.size + 1, 5, none⟩ = some (.slice bA2 b.bs.length bC2) := HTw5.out.b2.cell 5
  have d6 : w5.cell? ⟨w.heap.size + 1, 6, none⟩ = some (.slice nA2 b.ns.length nC2) := HTw5.out.b2.cell 6
  have HBB := Lib.hid (check_any b _ w5 ((H2.out.later HTw5.out.be).up HTw5.out.be.size))
  go_wp2_with (go_at_call 17; refine HBB.out.mono ?_)
  rintro _ w6 ⟨he, hb⟩
  rw [HEb.out] at he
  subst he
  have HTw6 := Lib.hid (HTw5.out.more hb)
  have HBw6 := Lib.hid hb
  clear hb HBB
  clear d0 d1 d2 d3 d4 d5 d6
  go_wp2_with (go_at_call 13; refine (lives_any _).mono ?_)
  first
    | rintro _ w9 rfl hb9
    | rintro _ w9 ⟨rfl, hb9⟩
  have HT9 := Lib.hid (HTw6.out.more hb9)
  clear hb9
  go_wp2
  go_ret
  exact ⟨rfl, HT9.out.be⟩

set_option maxHeartbeats 8000000 in
set_option maxRecDepth 100000 in
theorem back_C1 (a b : Ty) (v u : Value) (w : World) (ht : TyAt w w.heap.size a v) (hu : TyAt w w.heap.size b u) (hg : ¬ a.left 2000 ≤ 0) (hg2 : ¬ b.left 2000 ≤ 0) (hza : sz 4 a = 0) (hzb : sz 4 b ≠ 0) :
    Calls Try.prog 11 #[v, u] w fun e w' => e = .returned (.bool true) ∧ Below w.heap.size w w' := by
  have hoa := ht.ok64
  have hob := hu.ok64
  have HOA := Lib.hid hoa
  have HOB := Lib.hid hob
  obtain ⟨fA, dA, bA, nA, fC, dC, bC, nC, rfl⟩ := ht.shape
  obtain ⟨fA2, dA2, bA2, nA2, fC2, dC2, bC2, nC2, rfl⟩ := hu.shape
  have HT := Lib.hid (Two.new w 28 #[.int .i64 a.c, .int .i64 a.w, .bool a.big, .slice fA a.fs.length fC, .slice dA a.ds.length dC, .slice bA a.bs.length bC, .slice nA a.ns.length nC] #[.int .i64 b.c, .int .i64 b.w, .bool b.big, .slice fA2 b.fs.length fC2, .slice dA2 b.ds.length dC2, .slice bA2 b.bs.length bC2, .slice nA2 b.ns.length nC2])
  have H1 := Lib.hid ht
  have H2 := Lib.hid hu
  clear ht hu hoa hob
  have HZa := Lib.hid hza
  have HEa := Lib.hid (show errV a = 15 from if_pos hza)
  clear hza
  have HZb := Lib.hid hzb
  have HEb := Lib.hid (show errV b = 0 from if_neg hzb)
  clear hzb
  have HGa := Lib.hid (decide_eq_false hg)
  have HGb := Lib.hid (decide_eq_false hg2)
  clear hg hg2
  go_enter Try.func11, Try.ntmps11
  go_upto_region 1 with fail
  generalize (w.alloc (.cells #[.int .i64 a.c, .int .i64 a.w, .bool a.big, .slice fA a.fs.length fC, .slice dA a.ds.length dC, .slice bA a.bs.length bC, .slice nA a.ns.length nC] 28)).alloc (.cells #[.int .i64 b.c, .int .i64 b.w, .bool b.big, .slice fA2 b.fs.length fC2, .slice dA2 b.ds.length dC2, .slice bA2 b.bs.length bC2, .slice nA2 b.ns.length nC2] 28) = w0 at *
  have c0 : w0.cell? ⟨w.heap.size, 0, none⟩ = some (.int .i64 a.c) := HT.out.b1.cell 0
  have c1 : w0.cell? ⟨w.heap.size, 1, none⟩ = some (.int .i64 a.w) := HT.out.b1.cell 1
  have c2 : w0.cell? ⟨w.heap.size, 2, none⟩ = some (.bool a.big) := HT.out.b1.cell 2
  have c3 : w0.cell? ⟨w.heap.size, 3, none⟩ = some (.slice fA a.fs.length fC) := HT.out.b1.cell 3
  have c4 : w0.cell? ⟨w.heap.size, 4, none⟩ = some (.slice dA a.ds.length dC) := HT.out.b1.cell 4
  have c5 : w0.cell? ⟨w.heap.size, 5, none⟩ = some (.slice bA a.bs.length bC) := HT.out.b1.cell 5
  have c6 : w0.cell? ⟨w.heap.size, 6, none⟩ = some (.slice nA a.ns.length nC) := HT.out.b1.cell 6
  have HBB := Lib.hid (big_any a _ w0 ((H1.out.later HT.out.be).up HT.out.be.size))
  go_wp2_with (go_at_call 12; refine HBB.out.mono ?_)
  rintro _ w1 ⟨he, hb⟩
  rw [HGa.out] at he
  subst he
  have HTw1 := Lib.hid (HT.out.more hb)
  clear hb HBB
  clear c0 c1 c2 c3 c4 c5 c6
  have d0 : w1.cell? ⟨w.heap.size + 1, 0, none⟩ = some (.int .i64 b.c) := HTw1.out.b2.cell 0
  have d1 : w1.cell? ⟨w.heap.size + 1, 1, none⟩ = some (.int .i64 b.w) := HTw1.out.b2.cell 1
  have d2 : w1.cell? ⟨w.heap.size + 1, 2, none⟩ = some (.bool b.big) := HTw1.out.b2.cell 2
  have d3 : w1.cell? ⟨w.heap.size + 1, 3, none⟩ = some (.slice fA2 b.fs.length fC2) := HTw1.out.b2.cell 3
  have d4 : w1.cell? ⟨w.heap.size + 1, 4, none⟩ = some (.slice dA2 b.ds.length dC2) := HTw1.out.b2.cell 4
  have d5 : w1.cell? ⟨w.heap.size + 1, 5, none⟩ = some (.slice bA2 b.bs.length bC2) := HTw1.out.b2.cell 5
  have d6 : w1.cell? ⟨w.heap.size + 1, 6, none⟩ = some (.slice nA2 b.ns.length nC2) := HTw1.out.b2.cell 6
  have HBB := Lib.hid (big_any b _ w1 ((H2.out.later HTw1.out.be).up HTw1.out.be.size))
  go_wp2_with (go_at_call 12; refine HBB.out.mono ?_)
  rintro _ w2 ⟨he, hb⟩
  rw [HGb.out] at he
  subst he
  have HTw2 := Lib.hid (HTw1.out.more hb)
  clear hb HBB
  clear d0 d1 d2 d3 d4 d5 d6
  have c0 : w2.cell? ⟨w.heap.size, 0, none⟩ = some (.int .i64 a.c) := HTw2.out.b1.cell 0
  have c1 : w2.cell? ⟨w.heap.size, 1, none⟩ = some (.int .i64 a.w) := HTw2.out.b1.cell 1
  have c2 : w2.cell? ⟨w.heap.size, 2, none⟩ = some (.bool a.big) := HTw2.out.b1.cell 2
  have c3 : w2.cell? ⟨w.heap.size, 3, none⟩ = some (.slice fA a.fs.length fC) := HTw2.out.b1.cell 3
  have c4 : w2.cell? ⟨w.heap.size, 4, none⟩ = some (.slice dA a.ds.length dC) := HTw2.out.b1.cell 4
  have c5 : w2.cell? ⟨w.heap.size, 5, none⟩ = some (.slice bA a.bs.length bC) := HTw2.out.b1.cell 5
  have c6 : w2.cell? ⟨w.heap.size, 6, none⟩ = some (.slice nA a.ns.length nC) := HTw2.out.b1.cell 6
  have HBB := Lib.hid (bytes_no a _ w2 ((H1.out.later HTw2.out.be).up HTw2.out.be.size) HZa.out)
  go_wp2_with (go_at_call 21; refine HBB.out.mono ?_)
  rintro _ w3 ⟨rfl, hb⟩
  have HTw3 := Lib.hid (HTw2.out.more hb)
  have HBw3 := Lib.hid hb
  clear hb HBB
  clear c0 c1 c2 c3 c4 c5 c6
  have d0 : w3.cell? ⟨w.heap.size + 1, 0, none⟩ = some (.int .i64 b.c) := HTw3.out.b2.cell 0
  have d1 : w3.cell? ⟨w.heap.size + 1, 1, none⟩ = some (.int .i64 b.w) := HTw3.out.b2.cell 1
  have d2 : w3.cell? ⟨w.heap.size + 1, 2, none⟩ = some (.bool b.big) := HTw3.out.b2.cell 2
  have d3 : w3.cell? ⟨w.heap.size + 1, 3, none⟩ = some (.slice fA2 b.fs.length fC2) := HTw3.out.b2.cell 3
  have d4 : w3.cell? ⟨w.heap.size + 1, 4, none⟩ = some (.slice dA2 b.ds.length dC2) := HTw3.out.b2.cell 4
  have d5 : w3.cell? ⟨w.heap.size + 1, 5, none⟩ = some (.slice bA2 b.bs.length bC2) := HTw3.out.b2.cell 5
  have d6 : w3.cell? ⟨w.heap.size + 1, 6, none⟩ = some (.slice nA2 b.ns.length nC2) := HTw3.out.b2.cell 6
  have HBB := Lib.hid (bytes_yes b _ w3 ((H2.out.later HTw3.out.be).up HTw3.out.be.size) HZb.out)
  go_wp2_with (go_at_call 21; refine HBB.out.mono ?_)
  rintro _ w4 ⟨Vb, rfl, ho, hlt, hb⟩
  have hr : RowB w4 w3.heap.size Vb (lb b) := ⟨ho, hlt⟩
  obtain ⟨Ab, Cb, rfl, hcap, hby⟩ := rowb_cap hr
  have HYb := Lib.hid hby
  have HCb := Lib.hid hcap
  clear ho hlt hr hby hcap
  have HTw4 := Lib.hid (HTw3.out.more hb)
  have HBw4 := Lib.hid hb
  clear hb HBB
  clear d0 d1 d2 d3 d4 d5 d6
  have q1 : ((15 : Int) != 15) = false := by decide
  have q2 : ((0 : Int) != 0) = false := by decide
  have q3 : ((15 : Int) != 0) = true := by decide
  have c0 : w4.cell? ⟨w.heap.size, 0, none⟩ = some (.int .i64 a.c) := HTw4.out.b1.cell 0
  have c1 : w4.cell? ⟨w.heap.size, 1, none⟩ = some (.int .i64 a.w) := HTw4.out.b1.cell 1
  have c2 : w4.cell? ⟨w.heap.size, 2, none⟩ = some (.bool a.big) := HTw4.out.b1.cell 2
  have c3 : w4.cell? ⟨w.heap.size, 3, none⟩ = some (.slice fA a.fs.length fC) := HTw4.out.b1.cell 3
  have c4 : w4.cell? ⟨w.heap.size, 4, none⟩ = some (.slice dA a.ds.length dC) := HTw4.out.b1.cell 4
  have c5 : w4.cell? ⟨w.heap.size, 5, none⟩ = some (.slice bA a.bs.length bC) := HTw4.out.b1.cell 5
  have c6 : w4.cell? ⟨w.heap.size, 6, none⟩ = some (.slice nA a.ns.length nC) := HTw4.out.b1.cell 6
  have HBB := Lib.hid (check_any a _ w4 ((H1.out.later HTw4.out.be).up HTw4.out.be.size))
  go_wp2_with (go_at_call 17; refine HBB.out.mono ?_)
  rintro _ w5 ⟨he, hb⟩
  rw [HEa.out] at he
  subst he
  have HTw5 := Lib.hid (HTw4.out.more hb)
  have HBw5 := Lib.hid hb
  clear hb HBB
  clear c0 c1 c2 c3 c4 c5 c6
  have d0 : w5.cell? ⟨w.heap.size + 1, 0, none⟩ = some (.int .i64 b.c) := HTw5.out.b2.cell 0
  have d1 : w5.cell? ⟨w.heap.size + 1, 1, none⟩ = some (.int .i64 b.w) := HTw5.out.b2.cell 1
  have d2 : w5.cell? ⟨w.heap.size + 1, 2, none⟩ = some (.bool b.big) := HTw5.out.b2.cell 2
  have d3 : w5.cell? ⟨w.heap.size + 1, 3, none⟩ = some (.slice fA2 b.fs.length fC2) := HTw5.out.b2.cell 3
  have d4 : w5.cell? ⟨w.heap.size + 1, 4, none⟩ = some (.slice dA2 b.ds.length dC2) := HTw5.out.b2.cell 4
  have d5 : w5.cell? ⟨w.heap.size + 1, 5, none⟩ = some (.slice bA2 b.bs.length bC2) := HTw5.out.b2.cell 5
  have d6 : w5.cell? ⟨w.heap.size + 1, 6, none⟩ = some (.slice nA2 b.ns.length nC2) := HTw5.out.b2.cell 6
  have HBB := Lib.hid (check_any b _ w5 ((H2.out.later HTw5.out.be).up HTw5.out.be.size))
  go_wp2_with (go_at_call 17; refine HBB.out.mono ?_)
  rintro _ w6 ⟨he, hb⟩
  rw [HEb.out] at he
  subst he
  have HTw6 := Lib.hid (HTw5.out.more hb)
  have HBw6 := Lib.hid hb
  clear hb HBB
  clear d0 d1 d2 d3 d4 d5 d6
  go_wp2_with (go_at_call 13; refine (lives_any _).mono ?_)
  first
    | rintro _ w9 rfl hb9
    | rintro _ w9 ⟨rfl, hb9⟩
  have HT9 := Lib.hid (HTw6.out.more hb9)
  clear hb9
  go_wp2
  go_ret
  exact ⟨rfl, HT9.out.be⟩

set_option maxHeartbeats 8000000 in
set_option maxRecDepth 100000 in
theorem back_D (a b : Ty) (v u : Value) (w : World) (ht : TyAt w w.heap.size a v) (hu : TyAt w w.heap.size b u) (hg : ¬ a.left 2000 ≤ 0) (hg2 : ¬ b.left 2000 ≤ 0) (hza : sz 4 a ≠ 0) (hzb : sz 4 b = 0) :
    Calls Try.prog 11 #[v, u] w fun e w' => e = .returned (.bool true) ∧ Below w.heap.size w w' := by
  have hoa := ht.ok64
  have hob := hu.ok64
  have HOA := Lib.hid hoa
  have HOB := Lib.hid hob
  obtain ⟨fA, dA, bA, nA, fC, dC, bC, nC, rfl⟩ := ht.shape
  obtain ⟨fA2, dA2, bA2, nA2, fC2, dC2, bC2, nC2, rfl⟩ := hu.shape
  have HT := Lib.hid (Two.new w 28 #[.int .i64 a.c, .int .i64 a.w, .bool a.big, .slice fA a.fs.length fC, .slice dA a.ds.length dC, .slice bA a.bs.length bC, .slice nA a.ns.length nC] #[.int .i64 b.c, .int .i64 b.w, .bool b.big, .slice fA2 b.fs.length fC2, .slice dA2 b.ds.length dC2, .slice bA2 b.bs.length bC2, .slice nA2 b.ns.length nC2])
  have H1 := Lib.hid ht
  have H2 := Lib.hid hu
  clear ht hu hoa hob
  have HZa := Lib.hid hza
  have HEa := Lib.hid (show errV a = 0 from if_neg hza)
  clear hza
  have HZb := Lib.hid hzb
  have HEb := Lib.hid (show errV b = 15 from if_pos hzb)
  clear hzb
  have hla := lb_len 4 a HZa.out
  have hL4 : Lb 4 ≤ 100000000 := by decide
  obtain ⟨la, hla2⟩ : ∃ la, (lb a).length = la := ⟨_, rfl⟩
  have HLA := Lib.hid hla2
  have HLB := Lib.hid (show la ≤ 100000000 by omega)
  clear hla hL4 hla2
  have HGa := Lib.hid (decide_eq_false hg)
  have HGb := Lib.hid (decide_eq_false hg2)
  clear hg hg2
  go_enter Try.func11, Try.ntmps11
  go_upto_region 1 with fail
  generalize (w.alloc (.cells #[.int .i64 a.c, .int .i64 a.w, .bool a.big, .slice fA a.fs.length fC, .slice dA a.ds.length dC, .slice bA a.bs.length bC, .slice nA a.ns.length nC] 28)).alloc (.cells #[.int .i64 b.c, .int .i64 b.w, .bool b.big, .slice fA2 b.fs.length fC2, .slice dA2 b.ds.length dC2, .slice bA2 b.bs.length bC2, .slice nA2 b.ns.length nC2] 28) = w0 at *
  have c0 : w0.cell? ⟨w.heap.size, 0, none⟩ = some (.int .i64 a.c) := HT.out.b1.cell 0
  have c1 : w0.cell? ⟨w.heap.size, 1, none⟩ = some (.int .i64 a.w) := HT.out.b1.cell 1
  have c2 : w0.cell? ⟨w.heap.size, 2, none⟩ = some (.bool a.big) := HT.out.b1.cell 2
  have c3 : w0.cell? ⟨w.heap.size, 3, none⟩ = some (.slice fA a.fs.length fC) := HT.out.b1.cell 3
  have c4 : w0.cell? ⟨w.heap.size, 4, none⟩ = some (.slice dA a.ds.length dC) := HT.out.b1.cell 4
  have c5 : w0.cell? ⟨w.heap.size, 5, none⟩ = some (.slice bA a.bs.length bC) := HT.out.b1.cell 5
  have c6 : w0.cell? ⟨w.heap.size, 6, none⟩ = some (.slice nA a.ns.length nC) := HT.out.b1.cell 6
  have HBB := Lib.hid (big_any a _ w0 ((H1.out.later HT.out.be).up HT.out.be.size))
  go_wp2_with (go_at_call 12; refine HBB.out.mono ?_)
  rintro _ w1 ⟨he, hb⟩
  rw [HGa.out] at he
  subst he
  have HTw1 := Lib.hid (HT.out.more hb)
  clear hb HBB
  clear c0 c1 c2 c3 c4 c5 c6
  have d0 : w1.cell? ⟨w.heap.size + 1, 0, none⟩ = some (.int .i64 b.c) := HTw1.out.b2.cell 0
  have d1 : w1.cell? ⟨w.heap.size + 1, 1, none⟩ = some (.int .i64 b.w) := HTw1.out.b2.cell 1
  have d2 : w1.cell? ⟨w.heap.size + 1, 2, none⟩ = some (.bool b.big) := HTw1.out.b2.cell 2
  have d3 : w1.cell? ⟨w.heap.size + 1, 3, none⟩ = some (.slice fA2 b.fs.length fC2) := HTw1.out.b2.cell 3
  have d4 : w1.cell? ⟨w.heap.size + 1, 4, none⟩ = some (.slice dA2 b.ds.length dC2) := HTw1.out.b2.cell 4
  have d5 : w1.cell? ⟨w.heap.size + 1, 5, none⟩ = some (.slice bA2 b.bs.length bC2) := HTw1.out.b2.cell 5
  have d6 : w1.cell? ⟨w.heap.size + 1, 6, none⟩ = some (.slice nA2 b.ns.length nC2) := HTw1.out.b2.cell 6
  have HBB := Lib.hid (big_any b _ w1 ((H2.out.later HTw1.out.be).up HTw1.out.be.size))
  go_wp2_with (go_at_call 12; refine HBB.out.mono ?_)
  rintro _ w2 ⟨he, hb⟩
  rw [HGb.out] at he
  subst he
  have HTw2 := Lib.hid (HTw1.out.more hb)
  clear hb HBB
  clear d0 d1 d2 d3 d4 d5 d6
  have c0 : w2.cell? ⟨w.heap.size, 0, none⟩ = some (.int .i64 a.c) := HTw2.out.b1.cell 0
  have c1 : w2.cell? ⟨w.heap.size, 1, none⟩ = some (.int .i64 a.w) := HTw2.out.b1.cell 1
  have c2 : w2.cell? ⟨w.heap.size, 2, none⟩ = some (.bool a.big) := HTw2.out.b1.cell 2
  have c3 : w2.cell? ⟨w.heap.size, 3, none⟩ = some (.slice fA a.fs.length fC) := HTw2.out.b1.cell 3
  have c4 : w2.cell? ⟨w.heap.size, 4, none⟩ = some (.slice dA a.ds.length dC) := HTw2.out.b1.cell 4
  have c5 : w2.cell? ⟨w.heap.size, 5, none⟩ = some (.slice bA a.bs.length bC) := HTw2.out.b1.cell 5
  have c6 : w2.cell? ⟨w.heap.size, 6, none⟩ = some (.slice nA a.ns.length nC) := HTw2.out.b1.cell 6
  have HBB := Lib.hid (bytes_yes a _ w2 ((H1.out.later HTw2.out.be).up HTw2.out.be.size) HZa.out)
  go_wp2_with (go_at_call 21; refine HBB.out.mono ?_)
  rintro _ w3 ⟨Va, rfl, ho, hlt, hb⟩
  have hr : RowB w3 w2.heap.size Va (lb a) := ⟨ho, hlt⟩
  obtain ⟨Aa, Ca, rfl, hcap, hby⟩ := rowb_cap hr
  have HYa := Lib.hid hby
  have HCa := Lib.hid hcap
  clear ho hlt hr hby hcap
  have HTw3 := Lib.hid (HTw2.out.more hb)
  have HBw3 := Lib.hid hb
  clear hb HBB
  clear c0 c1 c2 c3 c4 c5 c6
  rw [HLA.out] at HYa HCa ⊢
  have d0 : w3.cell? ⟨w.heap.size + 1, 0, none⟩ = some (.int .i64 b.c) := HTw3.out.b2.cell 0
  have d1 : w3.cell? ⟨w.heap.size + 1, 1, none⟩ = some (.int .i64 b.w) := HTw3.out.b2.cell 1
  have d2 : w3.cell? ⟨w.heap.size + 1, 2, none⟩ = some (.bool b.big) := HTw3.out.b2.cell 2
  have d3 : w3.cell? ⟨w.heap.size + 1, 3, none⟩ = some (.slice fA2 b.fs.length fC2) := HTw3.out.b2.cell 3
  have d4 : w3.cell? ⟨w.heap.size + 1, 4, none⟩ = some (.slice dA2 b.ds.length dC2) := HTw3.out.b2.cell 4
  have d5 : w3.cell? ⟨w.heap.size + 1, 5, none⟩ = some (.slice bA2 b.bs.length bC2) := HTw3.out.b2.cell 5
  have d6 : w3.cell? ⟨w.heap.size + 1, 6, none⟩ = some (.slice nA2 b.ns.length nC2) := HTw3.out.b2.cell 6
  have HBB := Lib.hid (bytes_no b _ w3 ((H2.out.later HTw3.out.be).up HTw3.out.be.size) HZb.out)
  go_wp2_with (go_at_call 21; refine HBB.out.mono ?_)
  rintro _ w4 ⟨rfl, hb⟩
  have HTw4 := Lib.hid (HTw3.out.more hb)
  have HBw4 := Lib.hid hb
  clear hb HBB
  clear d0 d1 d2 d3 d4 d5 d6
  have q1 : ((15 : Int) != 15) = false := by decide
  have q2 : ((0 : Int) != 0) = false := by decide
  have q3 : ((15 : Int) != 0) = true := by decide
  have c0 : w4.cell? ⟨w.heap.size, 0, none⟩ = some (.int .i64 a.c) := HTw4.out.b1.cell 0
  have c1 : w4.cell? ⟨w.heap.size, 1, none⟩ = some (.int .i64 a.w) := HTw4.out.b1.cell 1
  have c2 : w4.cell? ⟨w.heap.size, 2, none⟩ = some (.bool a.big) := HTw4.out.b1.cell 2
  have c3 : w4.cell? ⟨w.heap.size, 3, none⟩ = some (.slice fA a.fs.length fC) := HTw4.out.b1.cell 3
  have c4 : w4.cell? ⟨w.heap.size, 4, none⟩ = some (.slice dA a.ds.length dC) := HTw4.out.b1.cell 4
  have c5 : w4.cell? ⟨w.heap.size, 5, none⟩ = some (.slice bA a.bs.length bC) := HTw4.out.b1.cell 5
  have c6 : w4.cell? ⟨w.heap.size, 6, none⟩ = some (.slice nA a.ns.length nC) := HTw4.out.b1.cell 6
  have HBB := Lib.hid (check_any a _ w4 ((H1.out.later HTw4.out.be).up HTw4.out.be.size))
  go_wp2_with (go_at_call 17; refine HBB.out.mono ?_)
  rintro _ w5 ⟨he, hb⟩
  rw [HEa.out] at he
  subst he
  have HTw5 := Lib.hid (HTw4.out.more hb)
  have HBw5 := Lib.hid hb
  clear hb HBB
  clear c0 c1 c2 c3 c4 c5 c6
  have d0 : w5.cell? ⟨w.heap.size + 1, 0, none⟩ = some (.int .i64 b.c) := HTw5.out.b2.cell 0
  have d1 : w5.cell? ⟨w.heap.size + 1, 1, none⟩ = some (.int .i64 b.w) := HTw5.out.b2.cell 1
  have d2 : w5.cell? ⟨w.heap.size + 1, 2, none⟩ = some (.bool b.big) := HTw5.out.b2.cell 2
  have d3 : w5.cell? ⟨w.heap.size + 1, 3, none⟩ = some (.slice fA2 b.fs.length fC2) := HTw5.out.b2.cell 3
  have d4 : w5.cell? ⟨w.heap.size + 1, 4, none⟩ = some (.slice dA2 b.ds.length dC2) := HTw5.out.b2.cell 4
  have d5 : w5.cell? ⟨w.heap.size + 1, 5, none⟩ = some (.slice bA2 b.bs.length bC2) := HTw5.out.b2.cell 5
  have d6 : w5.cell? ⟨w.heap.size + 1, 6, none⟩ = some (.slice nA2 b.ns.length nC2) := HTw5.out.b2.cell 6
  have HBB := Lib.hid (check_any b _ w5 ((H2.out.later HTw5.out.be).up HTw5.out.be.size))
  go_wp2_with (go_at_call 17; refine HBB.out.mono ?_)
  rintro _ w6 ⟨he, hb⟩
  rw [HEb.out] at he
  subst he
  have HTw6 := Lib.hid (HTw5.out.more hb)
  have HBw6 := Lib.hid hb
  clear hb HBB
  clear d0 d1 d2 d3 d4 d5 d6
  have HB63 := Lib.hid (below_more (below_more HBw4.out HBw5.out) HBw6.out)
  have HY6 := Lib.hid ((HYa.out.later HB63.out).up HB63.out.size)
  have HLD := Lib.hid (pload_any la Ca Aa (lb a) w6 (by have := HLB.out; omega) HCa.out HY6.out)
  go_wp2_with (go_at_call 29; refine HLD.out.mono ?_)
  rintro _ w7 ⟨t, z, u0, u1, u2, u3, u4, u5, u6, S, eR, rfl, hL7, hS7, hb7⟩
  have hrt := (load_back HZa.out HOA.out).symm.trans eR
  injection hrt with hr1 hr2
  subst hr1 hr2
  obtain ⟨fA7, dA7, bA7, nA7, fC7, dC7, bC7, nC7, rfl, rfl, rfl, rfl, rfl, rfl, rfl⟩ := hL7.here.cells
  have hn7 := below_new w7 (.cells #[.int .i64 a.c, .int .i64 a.w, .bool a.big, .slice fA7 a.fs.length fC7, .slice dA7 a.ds.length dC7, .slice bA7 a.bs.length bC7, .slice nA7 a.ns.length nC7] 28)
  have HX7 := Lib.hid (Bx.new w7 28 #[.int .i64 a.c, .int .i64 a.w, .bool a.big, .slice fA7 a.fs.length fC7, .slice dA7 a.ds.length dC7, .slice bA7 a.bs.length bC7, .slice nA7 a.ns.length nC7])
  have HL7 := Lib.hid (hL7.keep (w2 := (w7.alloc (.cells #[.int .i64 a.c, .int .i64 a.w, .bool a.big, .slice fA7 a.fs.length fC7, .slice dA7 a.ds.length dC7, .slice bA7 a.bs.length bC7, .slice nA7 a.ns.length nC7] 28))) (fun k hk => hn7.block k (hL7.1 k hk)) hn7.size)
  have hb76 := below_more hb7 hn7
  have HT7 := Lib.hid (HTw6.out.more hb76)
  have HB76 := Lib.hid hb76
  have HB73 := Lib.hid (below_more HB63.out hb76)
  have HLT7 := Lib.hid (Nat.le_trans hb7.size (Nat.le_refl _))
  clear hL7 hS7 hb7 hn7 hb76 eR HLD
  go_upto_region 10 with fail
  generalize (w7.alloc (.cells #[.int .i64 a.c, .int .i64 a.w, .bool a.big, .slice fA7 a.fs.length fC7, .slice dA7 a.ds.length dC7, .slice bA7 a.bs.length bC7, .slice nA7 a.ns.length nC7] 28)) = w8 at *
  have HR1 := Lib.hid (RowB.lit w8 [] (fun x h => absurd h (List.not_mem_nil)) (by simp) (Nat.le_refl w8.heap.size))
  have HA1 := Lib.hid (below_new w8 (.cells (by8 []).toArray 5))
  have HY8 := Lib.hid (((HYa.out.later HB73.out).up HB73.out.size).later HA1.out)
  go_wp2_with (at_builtin; refine wp_rowb rfl (.tmp 54) (.tmp 55) rfl w8.heap.size la Ca _ [] (lb a) Aa w8.heap.size rfl rfl HR1.out HY8.out (by have := HLB.out; show 0 + la ≤ _; omega) HA1.out.size ?_; intro V2 w10 hrow2 hb2; refine Hid.out ?_)
  rw [List.nil_append] at hrow2
  have HB2 := Lib.hid (HA1.out.trans hb2)
  obtain ⟨A2, C2, hV⟩ := own_form hrow2.own
  rw [HLA.out] at hV
  subst hV
  have HR2 := Lib.hid (hrow2.below (below_new w10 (.cells (by8 [0]).toArray 5)))
  have HY2 := Lib.hid (Byt.lit w10 [0] (by decide))
  have HA2 := Lib.hid (below_new w10 (.cells (by8 [0]).toArray 5))
  clear hrow2 hb2 HR1 HA1 HY8
  refine go_on ?_
  go_wp2_with (at_builtin; refine wp_rowb rfl (.tmp 56) (.tmp 57) rfl w8.heap.size 1 1 _ (lb a) [0] (some ⟨w10.heap.size, 0, none⟩) _ rfl rfl HR2.out HY2.out (by have h1 := HLB.out; have h2 := HLA.out; omega) (Nat.le_trans HB2.out.size HA2.out.size) ?_; intro V3 w11 hrow3 hb3; refine Hid.out ?_)
  have HB118 := Lib.hid (HB2.out.trans ((HA2.out.mono HB2.out.size).trans hb3))
  obtain ⟨A5, C5, hV, hc5, hby5⟩ := rowb_cap hrow3
  have hl3 : (lb a ++ [0]).length = la + 1 := by rw [List.length_append, HLA.out]; rfl
  rw [hl3] at hV hc5 hby5
  subst hV
  have HLD2 := Lib.hid (pload_any (la + 1) C5 A5 (lb a ++ [0]) w11 (by have := HLB.out; omega) hc5 hby5)
  clear hrow3 hb3 hc5 hby5 hl3 HR2 HY2 HA2
  generalize la + 1 = la1 at *
  refine go_on ?_
  go_wp2_with (go_at_call 29; refine HLD2.out.mono ?_)
  rintro _ w12 ⟨t, z, u0, u1, u2, u3, u4, u5, u6, S2, eR, rfl, hL9, hS9, hb9⟩
  have hrt := (load_more HZa.out HOA.out).symm.trans eR
  injection hrt with hr1 hr2
  subst hr1 hr2
  obtain ⟨fA9, dA9, bA9, nA9, fC9, dC9, bC9, nC9, rfl, rfl, rfl, rfl, rfl, rfl, rfl⟩ := hL9.here.cells
  have hn9 := below_new w12 (.cells #[.int .i64 zeroT.c, .int .i64 zeroT.w, .bool zeroT.big, .slice fA9 zeroT.fs.length fC9, .slice dA9 zeroT.ds.length dC9, .slice bA9 zeroT.bs.length bC9, .slice nA9 zeroT.ns.length nC9] 28)
  have hb98 := below_more (below_more HB118.out hb9) hn9
  have HT13 := Lib.hid (HT7.out.more hb98)
  have HB138 := Lib.hid hb98
  have HX13 := Lib.hid (HX7.out.later hb98 HX7.out.lt)
  have HL13 := Lib.hid (HL7.out.keep (w2 := (w12.alloc (.cells #[.int .i64 zeroT.c, .int .i64 zeroT.w, .bool zeroT.big, .slice fA9 zeroT.fs.length fC9, .slice dA9 zeroT.ds.length dC9, .slice bA9 zeroT.bs.length bC9, .slice nA9 zeroT.ns.length nC9] 28))) (fun k hk => hb98.block k (HL7.out.1 k hk)) hb98.size)
  have HB133 := Lib.hid (below_more HB73.out hb98)
  clear hL9 hS9 hb9 hn9 hb98 eR HLD2
  go_upto_region 11 with fail
  generalize w12.alloc (.cells #[.int .i64 zeroT.c, .int .i64 zeroT.w, .bool zeroT.big, .slice fA9 zeroT.fs.length fC9, .slice dA9 zeroT.ds.length dC9, .slice bA9 zeroT.bs.length bC9, .slice nA9 zeroT.ns.length nC9] 28) = w13 at *
  have c0 : w13.cell? ⟨w.heap.size, 0, none⟩ = some (.int .i64 a.c) := HT13.out.b1.cell 0
  have c1 : w13.cell? ⟨w.heap.size, 1, none⟩ = some (.int .i64 a.w) := HT13.out.b1.cell 1
  have c2 : w13.cell? ⟨w.heap.size, 2, none⟩ = some (.bool a.big) := HT13.out.b1.cell 2
  have c3 : w13.cell? ⟨w.heap.size, 3, none⟩ = some (.slice fA a.fs.length fC) := HT13.out.b1.cell 3
  have c4 : w13.cell? ⟨w.heap.size, 4, none⟩ = some (.slice dA a.ds.length dC) := HT13.out.b1.cell 4
  have c5 : w13.cell? ⟨w.heap.size, 5, none⟩ = some (.slice bA a.bs.length bC) := HT13.out.b1.cell 5
  have c6 : w13.cell? ⟨w.heap.size, 6, none⟩ = some (.slice nA a.ns.length nC) := HT13.out.b1.cell 6
  have e0 : w13.cell? ⟨w7.heap.size, 0, none⟩ = some (.int .i64 a.c) := HX13.out.cell 0
  have e1 : w13.cell? ⟨w7.heap.size, 1, none⟩ = some (.int .i64 a.w) := HX13.out.cell 1
  have e2 : w13.cell? ⟨w7.heap.size, 2, none⟩ = some (.bool a.big) := HX13.out.cell 2
  have e3 : w13.cell? ⟨w7.heap.size, 3, none⟩ = some (.slice fA7 a.fs.length fC7) := HX13.out.cell 3
  have e4 : w13.cell? ⟨w7.heap.size, 4, none⟩ = some (.slice dA7 a.ds.length dC7) := HX13.out.cell 4
  have e5 : w13.cell? ⟨w7.heap.size, 5, none⟩ = some (.slice bA7 a.bs.length bC7) := HX13.out.cell 5
  have e6 : w13.cell? ⟨w7.heap.size, 6, none⟩ = some (.slice nA7 a.ns.length nC7) := HX13.out.cell 6
  have q4 : ((5 : Int) != 5) = false := by decide
  have HSM := Lib.hid (psame_to a a true (by simp) _ _ w13 HL13.out.here ((H1.out.later HT13.out.be).up HT13.out.be.size))
  go_wp2_with (go_at_call 27; refine HSM.out.mono ?_)
  rintro _ w14 ⟨rfl, hb14⟩
  have HT14 := Lib.hid (HT13.out.more hb14)
  have HB1413 := Lib.hid hb14
  have HB143 := Lib.hid (below_more HB133.out hb14)
  clear hb14 HSM
  clear c0 c1 c2 c3 c4 c5 c6
  clear e0 e1 e2 e3 e4 e5 e6
  go_upto_region 13 with fail
  obtain ⟨G, hGd⟩ : ∃ G : World → Prop, G = fun w9 => Below w14.heap.size w14 w9 := ⟨_, rfl⟩
  have hG0 : G { w14 with drawn := w14.drawn + 1 } := by rw [hGd]; exact (Below.refl _ w14).drew
  have hG1 : Hid (∀ (s : Wof G) w2, Below s.val.heap.size s.val w2 → G w2) := Lib.hid (by subst hGd; exact fun s w2 hb2 => below_more s.is hb2)
  have hG2 : Hid (∀ s : Wof G, Below w14.heap.size w14 s.val) := Lib.hid (by subst hGd; exact fun s => s.is)
  have hne9 : Nonempty (Wof G) := ⟨⟨_, hG0⟩⟩
  clear hGd
  refine wp_region_kept (G := G) (by kernel_rfl) (by kernel_rfl) hG0 ?_
  clear hG0
  repeat (go_big_quiet_step ((first | (go_at_call 13; refine (lives_any _).mono ?_; rintro _ w2 ⟨he, hb2⟩; exact ⟨he, ⟨w2, hG1.out _ _ hb2⟩, rfl⟩))))
  refine wpQuiet_nil ?_
  rintro _ ⟨s, rfl⟩
  have HB2 := Lib.hid (hG2.out s)
  obtain ⟨w15, hw15⟩ := s
  change Hid (Below w14.heap.size w14 w15) at HB2
  have HT15 := Lib.hid (HT14.out.more HB2.out)
  clear hG1 hG2 hne9
  simp only
  go_wp2
  go_ret
  exact ⟨rfl, HT15.out.be⟩

set_option maxHeartbeats 8000000 in
set_option maxRecDepth 100000 in
theorem back_E1 (a b : Ty) (v u : Value) (w : World) (ht : TyAt w w.heap.size a v) (hu : TyAt w w.heap.size b u) (hg : ¬ a.left 2000 ≤ 0) (hg2 : ¬ b.left 2000 ≤ 0) (hza : sz 4 a ≠ 0) (hzb : sz 4 b ≠ 0) (hab : a = b) :
    Calls Try.prog 11 #[v, u] w fun e w' => e = .returned (.bool true) ∧ Below w.heap.size w w' := by
  have hoa := ht.ok64
  have hob := hu.ok64
  have HOA := Lib.hid hoa
  have HOB := Lib.hid hob
  obtain ⟨fA, dA, bA, nA, fC, dC, bC, nC, rfl⟩ := ht.shape
  obtain ⟨fA2, dA2, bA2, nA2, fC2, dC2, bC2, nC2, rfl⟩ := hu.shape
  have HT := Lib.hid (Two.new w 28 #[.int .i64 a.c, .int .i64 a.w, .bool a.big, .slice fA a.fs.length fC, .slice dA a.ds.length dC, .slice bA a.bs.length bC, .slice nA a.ns.length nC] #[.int .i64 b.c, .int .i64 b.w, .bool b.big, .slice fA2 b.fs.length fC2, .slice dA2 b.ds.length dC2, .slice bA2 b.bs.length bC2, .slice nA2 b.ns.length nC2])
  have H1 := Lib.hid ht
  have H2 := Lib.hid hu
  clear ht hu hoa hob
  have HZa := Lib.hid hza
  have HEa := Lib.hid (show errV a = 0 from if_neg hza)
  clear hza
  have HAB := Lib.hid hab
  clear hab
  have HZb := Lib.hid hzb
  have HEb := Lib.hid (show errV b = 0 from if_neg hzb)
  clear hzb
  have hla := lb_len 4 a HZa.out
  have hL4 : Lb 4 ≤ 100000000 := by decide
  obtain ⟨la, hla2⟩ : ∃ la, (lb a).length = la := ⟨_, rfl⟩
  have HLA := Lib.hid hla2
  have HLB := Lib.hid (show la ≤ 100000000 by omega)
  clear hla hL4 hla2
  have HGa := Lib.hid (decide_eq_false hg)
  have HGb := Lib.hid (decide_eq_false hg2)
  clear hg hg2
  go_enter Try.func11, Try.ntmps11
  go_upto_region 1 with fail
  generalize (w.alloc (.cells #[.int .i64 a.c, .int .i64 a.w, .bool a.big, .slice fA a.fs.length fC, .slice dA a.ds.length dC, .slice bA a.bs.length bC, .slice nA a.ns.length nC] 28)).alloc (.cells #[.int .i64 b.c, .int .i64 b.w, .bool b.big, .slice fA2 b.fs.length fC2, .slice dA2 b.ds.length dC2, .slice bA2 b.bs.length bC2, .slice nA2 b.ns.length nC2] 28) = w0 at *
  have c0 : w0.cell? ⟨w.heap.size, 0, none⟩ = some (.int .i64 a.c) := HT.out.b1.cell 0
  have c1 : w0.cell? ⟨w.heap.size, 1, none⟩ = some (.int .i64 a.w) := HT.out.b1.cell 1
  have c2 : w0.cell? ⟨w.heap.size, 2, none⟩ = some (.bool a.big) := HT.out.b1.cell 2
  have c3 : w0.cell? ⟨w.heap.size, 3, none⟩ = some (.slice fA a.fs.length fC) := HT.out.b1.cell 3
  have c4 : w0.cell? ⟨w.heap.size, 4, none⟩ = some (.slice dA a.ds.length dC) := HT.out.b1.cell 4
  have c5 : w0.cell? ⟨w.heap.size, 5, none⟩ = some (.slice bA a.bs.length bC) := HT.out.b1.cell 5
  have c6 : w0.cell? ⟨w.heap.size, 6, none⟩ = some (.slice nA a.ns.length nC) := HT.out.b1.cell 6
  have HBB := Lib.hid (big_any a _ w0 ((H1.out.later HT.out.be).up HT.out.be.size))
  go_wp2_with (go_at_call 12; refine HBB.out.mono ?_)
  rintro _ w1 ⟨he, hb⟩
  rw [HGa.out] at he
  subst he
  have HTw1 := Lib.hid (HT.out.more hb)
  clear hb HBB
  clear c0 c1 c2 c3 c4 c5 c6
  have d0 : w1.cell? ⟨w.heap.size + 1, 0, none⟩ = some (.int .i64 b.c) := HTw1.out.b2.cell 0
  have d1 : w1.cell? ⟨w.heap.size + 1, 1, none⟩ = some (.int .i64 b.w) := HTw1.out.b2.cell 1
  have d2 : w1.cell? ⟨w.heap.size + 1, 2, none⟩ = some (.bool b.big) := HTw1.out.b2.cell 2
  have d3 : w1.cell? ⟨w.heap.size + 1, 3, none⟩ = some (.slice fA2 b.fs.length fC2) := HTw1.out.b2.cell 3
  have d4 : w1.cell? ⟨w.heap.size + 1, 4, none⟩ = some (.slice dA2 b.ds.length dC2) := HTw1.out.b2.cell 4
  have d5 : w1.cell? ⟨w.heap.size + 1, 5, none⟩ = some (.slice bA2 b.bs.length bC2) := HTw1.out.b2.cell 5
  have d6 : w1.cell? ⟨w.heap.size + 1, 6, none⟩ = some (.slice nA2 b.ns.length nC2) := HTw1.out.b2.cell 6
  have HBB := Lib.hid (big_any b _ w1 ((H2.out.later HTw1.out.be).up HTw1.out.be.size))
  go_wp2_with (go_at_call 12; refine HBB.out.mono ?_)
  rintro _ w2 ⟨he, hb⟩
  rw [HGb.out] at he
  subst he
  have HTw2 := Lib.hid (HTw1.out.more hb)
  clear hb HBB
  clear d0 d1 d2 d3 d4 d5 d6
  have c0 : w2.cell? ⟨w.heap.size, 0, none⟩ = some (.int .i64 a.c) := HTw2.out.b1.cell 0
  have c1 : w2.cell? ⟨w.heap.size, 1, none⟩ = some (.int .i64 a.w) := HTw2.out.b1.cell 1
  have c2 : w2.cell? ⟨w.heap.size, 2, none⟩ = some (.bool a.big) := HTw2.out.b1.cell 2
  have c3 : w2.cell? ⟨w.heap.size, 3, none⟩ = some (.slice fA a.fs.length fC) := HTw2.out.b1.cell 3
  have c4 : w2.cell? ⟨w.heap.size, 4, none⟩ = some (.slice dA a.ds.length dC) := HTw2.out.b1.cell 4
  have c5 : w2.cell? ⟨w.heap.size, 5, none⟩ = some (.slice bA a.bs.length bC) := HTw2.out.b1.cell 5
  have c6 : w2.cell? ⟨w.heap.size, 6, none⟩ = some (.slice nA a.ns.length nC) := HTw2.out.b1.cell 6
  have HBB := Lib.hid (bytes_yes a _ w2 ((H1.out.later HTw2.out.be).up HTw2.out.be.size) HZa.out)
  go_wp2_with (go_at_call 21; refine HBB.out.mono ?_)
  rintro _ w3 ⟨Va, rfl, ho, hlt, hb⟩
  have hr : RowB w3 w2.heap.size Va (lb a) := ⟨ho, hlt⟩
  obtain ⟨Aa, Ca, rfl, hcap, hby⟩ := rowb_cap hr
  have HYa := Lib.hid hby
  have HCa := Lib.hid hcap
  clear ho hlt hr hby hcap
  have HTw3 := Lib.hid (HTw2.out.more hb)
  have HBw3 := Lib.hid hb
  clear hb HBB
  clear c0 c1 c2 c3 c4 c5 c6
  rw [HLA.out] at HYa HCa ⊢
  have d0 : w3.cell? ⟨w.heap.size + 1, 0, none⟩ = some (.int .i64 b.c) := HTw3.out.b2.cell 0
  have d1 : w3.cell? ⟨w.heap.size + 1, 1, none⟩ = some (.int .i64 b.w) := HTw3.out.b2.cell 1
  have d2 : w3.cell? ⟨w.heap.size + 1, 2, none⟩ = some (.bool b.big) := HTw3.out.b2.cell 2
  have d3 : w3.cell? ⟨w.heap.size + 1, 3, none⟩ = some (.slice fA2 b.fs.length fC2) := HTw3.out.b2.cell 3
  have d4 : w3.cell? ⟨w.heap.size + 1, 4, none⟩ = some (.slice dA2 b.ds.length dC2) := HTw3.out.b2.cell 4
  have d5 : w3.cell? ⟨w.heap.size + 1, 5, none⟩ = some (.slice bA2 b.bs.length bC2) := HTw3.out.b2.cell 5
  have d6 : w3.cell? ⟨w.heap.size + 1, 6, none⟩ = some (.slice nA2 b.ns.length nC2) := HTw3.out.b2.cell 6
  have HBB := Lib.hid (bytes_yes b _ w3 ((H2.out.later HTw3.out.be).up HTw3.out.be.size) HZb.out)
  go_wp2_with (go_at_call 21; refine HBB.out.mono ?_)
  rintro _ w4 ⟨Vb, rfl, ho, hlt, hb⟩
  have hr : RowB w4 w3.heap.size Vb (lb b) := ⟨ho, hlt⟩
  obtain ⟨Ab, Cb, rfl, hcap, hby⟩ := rowb_cap hr
  have HYb := Lib.hid hby
  have HCb := Lib.hid hcap
  clear ho hlt hr hby hcap
  have HTw4 := Lib.hid (HTw3.out.more hb)
  have HBw4 := Lib.hid hb
  clear hb HBB
  clear d0 d1 d2 d3 d4 d5 d6
  obtain ⟨lb2, hlb2⟩ : ∃ lb2, (lb b).length = lb2 := ⟨_, rfl⟩
  rw [hlb2] at HYb HCb ⊢
  clear hlb2
  have q1 : ((15 : Int) != 15) = false := by decide
  have q2 : ((0 : Int) != 0) = false := by decide
  have q3 : ((15 : Int) != 0) = true := by decide
  have c0 : w4.cell? ⟨w.heap.size, 0, none⟩ = some (.int .i64 a.c) := HTw4.out.b1.cell 0
  have c1 : w4.cell? ⟨w.heap.size, 1, none⟩ = some (.int .i64 a.w) := HTw4.out.b1.cell 1
  have c2 : w4.cell? ⟨w.heap.size, 2, none⟩ = some (.bool a.big) := HTw4.out.b1.cell 2
  have c3 : w4.cell? ⟨w.heap.size, 3, none⟩ = some (.slice fA a.fs.length fC) := HTw4.out.b1.cell 3
  have c4 : w4.cell? ⟨w.heap.size, 4, none⟩ = some (.slice dA a.ds.length dC) := HTw4.out.b1.cell 4
  have c5 : w4.cell? ⟨w.heap.size, 5, none⟩ = some (.slice bA a.bs.length bC) := HTw4.out.b1.cell 5
  have c6 : w4.cell? ⟨w.heap.size, 6, none⟩ = some (.slice nA a.ns.length nC) := HTw4.out.b1.cell 6
  have HBB := Lib.hid (check_any a _ w4 ((H1.out.later HTw4.out.be).up HTw4.out.be.size))
  go_wp2_with (go_at_call 17; refine HBB.out.mono ?_)
  rintro _ w5 ⟨he, hb⟩
  rw [HEa.out] at he
  subst he
  have HTw5 := Lib.hid (HTw4.out.more hb)
  have HBw5 := Lib.hid hb
  clear hb HBB
  clear c0 c1 c2 c3 c4 c5 c6
  have d0 : w5.cell? ⟨w.heap.size + 1, 0, none⟩ = some (.int .i64 b.c) := HTw5.out.b2.cell 0
  have d1 : w5.cell? ⟨w.heap.size + 1, 1, none⟩ = some (.int .i64 b.w) := HTw5.out.b2.cell 1
  have d2 : w5.cell? ⟨w.heap.size + 1, 2, none⟩ = some (.bool b.big) := HTw5.out.b2.cell 2
  have d3 : w5.cell? ⟨w.heap.size + 1, 3, none⟩ = some (.slice fA2 b.fs.length fC2) := HTw5.out.b2.cell 3
  have d4 : w5.cell? ⟨w.heap.size + 1, 4, none⟩ = some (.slice dA2 b.ds.length dC2) := HTw5.out.b2.cell 4
  have d5 : w5.cell? ⟨w.heap.size + 1, 5, none⟩ = some (.slice bA2 b.bs.length bC2) := HTw5.out.b2.cell 5
  have d6 : w5.cell? ⟨w.heap.size + 1, 6, none⟩ = some (.slice nA2 b.ns.length nC2) := HTw5.out.b2.cell 6
  have HBB := Lib.hid (check_any b _ w5 ((H2.out.later HTw5.out.be).up HTw5.out.be.size))
  go_wp2_with (go_at_call 17; refine HBB.out.mono ?_)
  rintro _ w6 ⟨he, hb⟩
  rw [HEb.out] at he
  subst he
  have HTw6 := Lib.hid (HTw5.out.more hb)
  have HBw6 := Lib.hid hb
  clear hb HBB
  clear d0 d1 d2 d3 d4 d5 d6
  have HB63 := Lib.hid (below_more (below_more HBw4.out HBw5.out) HBw6.out)
  have HY6 := Lib.hid ((HYa.out.later HB63.out).up HB63.out.size)
  have HLD := Lib.hid (pload_any la Ca Aa (lb a) w6 (by have := HLB.out; omega) HCa.out HY6.out)
  go_wp2_with (go_at_call 29; refine HLD.out.mono ?_)
  rintro _ w7 ⟨t, z, u0, u1, u2, u3, u4, u5, u6, S, eR, rfl, hL7, hS7, hb7⟩
  have hrt := (load_back HZa.out HOA.out).symm.trans eR
  injection hrt with hr1 hr2
  subst hr1 hr2
  obtain ⟨fA7, dA7, bA7, nA7, fC7, dC7, bC7, nC7, rfl, rfl, rfl, rfl, rfl, rfl, rfl⟩ := hL7.here.cells
  have hn7 := below_new w7 (.cells #[.int .i64 a.c, .int .i64 a.w, .bool a.big, .slice fA7 a.fs.length fC7, .slice dA7 a.ds.length dC7, .slice bA7 a.bs.length bC7, .slice nA7 a.ns.length nC7] 28)
  have HX7 := Lib.hid (Bx.new w7 28 #[.int .i64 a.c, .int .i64 a.w, .bool a.big, .slice fA7 a.fs.length fC7, .slice dA7 a.ds.length dC7, .slice bA7 a.bs.length bC7, .slice nA7 a.ns.length nC7])
  have HL7 := Lib.hid (hL7.keep (w2 := (w7.alloc (.cells #[.int .i64 a.c, .int .i64 a.w, .bool a.big, .slice fA7 a.fs.length fC7, .slice dA7 a.ds.length dC7, .slice bA7 a.bs.length bC7, .slice nA7 a.ns.length nC7] 28))) (fun k hk => hn7.block k (hL7.1 k hk)) hn7.size)
  have hb76 := below_more hb7 hn7
  have HT7 := Lib.hid (HTw6.out.more hb76)
  have HB76 := Lib.hid hb76
  have HB73 := Lib.hid (below_more HB63.out hb76)
  have HLT7 := Lib.hid (Nat.le_trans hb7.size (Nat.le_refl _))
  clear hL7 hS7 hb7 hn7 hb76 eR HLD
  go_upto_region 10 with fail
  generalize (w7.alloc (.cells #[.int .i64 a.c, .int .i64 a.w, .bool a.big, .slice fA7 a.fs.length fC7, .slice dA7 a.ds.length dC7, .slice bA7 a.bs.length bC7, .slice nA7 a.ns.length nC7] 28)) = w8 at *
  have HR1 := Lib.hid (RowB.lit w8 [] (fun x h => absurd h (List.not_mem_nil)) (by simp) (Nat.le_refl w8.heap.size))
  have HA1 := Lib.hid (below_new w8 (.cells (by8 []).toArray 5))
  have HY8 := Lib.hid (((HYa.out.later HB73.out).up HB73.out.size).later HA1.out)
  go_wp2_with (at_builtin; refine wp_rowb rfl (.tmp 54) (.tmp 55) rfl w8.heap.size la Ca _ [] (lb a) Aa w8.heap.size rfl rfl HR1.out HY8.out (by have := HLB.out; show 0 + la ≤ _; omega) HA1.out.size ?_; intro V2 w10 hrow2 hb2; refine Hid.out ?_)
  rw [List.nil_append] at hrow2
  have HB2 := Lib.hid (HA1.out.trans hb2)
  obtain ⟨A2, C2, hV⟩ := own_form hrow2.own
  rw [HLA.out] at hV
  subst hV
  have HR2 := Lib.hid (hrow2.below (below_new w10 (.cells (by8 [0]).toArray 5)))
  have HY2 := Lib.hid (Byt.lit w10 [0] (by decide))
  have HA2 := Lib.hid (below_new w10 (.cells (by8 [0]).toArray 5))
  clear hrow2 hb2 HR1 HA1 HY8
  refine go_on ?_
  go_wp2_with (at_builtin; refine wp_rowb rfl (.tmp 56) (.tmp 57) rfl w8.heap.size 1 1 _ (lb a) [0] (some ⟨w10.heap.size, 0, none⟩) _ rfl rfl HR2.out HY2.out (by have h1 := HLB.out; have h2 := HLA.out; omega) (Nat.le_trans HB2.out.size HA2.out.size) ?_; intro V3 w11 hrow3 hb3; refine Hid.out ?_)
  have HB118 := Lib.hid (HB2.out.trans ((HA2.out.mono HB2.out.size).trans hb3))
  obtain ⟨A5, C5, hV, hc5, hby5⟩ := rowb_cap hrow3
  have hl3 : (lb a ++ [0]).length = la + 1 := by rw [List.length_append, HLA.out]; rfl
  rw [hl3] at hV hc5 hby5
  subst hV
  have HLD2 := Lib.hid (pload_any (la + 1) C5 A5 (lb a ++ [0]) w11 (by have := HLB.out; omega) hc5 hby5)
  clear hrow3 hb3 hc5 hby5 hl3 HR2 HY2 HA2
  generalize la + 1 = la1 at *
  refine go_on ?_
  go_wp2_with (go_at_call 29; refine HLD2.out.mono ?_)
  rintro _ w12 ⟨t, z, u0, u1, u2, u3, u4, u5, u6, S2, eR, rfl, hL9, hS9, hb9⟩
  have hrt := (load_more HZa.out HOA.out).symm.trans eR
  injection hrt with hr1 hr2
  subst hr1 hr2
  obtain ⟨fA9, dA9, bA9, nA9, fC9, dC9, bC9, nC9, rfl, rfl, rfl, rfl, rfl, rfl, rfl⟩ := hL9.here.cells
  have hn9 := below_new w12 (.cells #[.int .i64 zeroT.c, .int .i64 zeroT.w, .bool zeroT.big, .slice fA9 zeroT.fs.length fC9, .slice dA9 zeroT.ds.length dC9, .slice bA9 zeroT.bs.length bC9, .slice nA9 zeroT.ns.length nC9] 28)
  have hb98 := below_more (below_more HB118.out hb9) hn9
  have HT13 := Lib.hid (HT7.out.more hb98)
  have HB138 := Lib.hid hb98
  have HX13 := Lib.hid (HX7.out.later hb98 HX7.out.lt)
  have HL13 := Lib.hid (HL7.out.keep (w2 := (w12.alloc (.cells #[.int .i64 zeroT.c, .int .i64 zeroT.w, .bool zeroT.big, .slice fA9 zeroT.fs.length fC9, .slice dA9 zeroT.ds.length dC9, .slice bA9 zeroT.bs.length bC9, .slice nA9 zeroT.ns.length nC9] 28))) (fun k hk => hb98.block k (HL7.out.1 k hk)) hb98.size)
  have HB133 := Lib.hid (below_more HB73.out hb98)
  clear hL9 hS9 hb9 hn9 hb98 eR HLD2
  go_upto_region 11 with fail
  generalize w12.alloc (.cells #[.int .i64 zeroT.c, .int .i64 zeroT.w, .bool zeroT.big, .slice fA9 zeroT.fs.length fC9, .slice dA9 zeroT.ds.length dC9, .slice bA9 zeroT.bs.length bC9, .slice nA9 zeroT.ns.length nC9] 28) = w13 at *
  have c0 : w13.cell? ⟨w.heap.size, 0, none⟩ = some (.int .i64 a.c) := HT13.out.b1.cell 0
  have c1 : w13.cell? ⟨w.heap.size, 1, none⟩ = some (.int .i64 a.w) := HT13.out.b1.cell 1
  have c2 : w13.cell? ⟨w.heap.size, 2, none⟩ = some (.bool a.big) := HT13.out.b1.cell 2
  have c3 : w13.cell? ⟨w.heap.size, 3, none⟩ = some (.slice fA a.fs.length fC) := HT13.out.b1.cell 3
  have c4 : w13.cell? ⟨w.heap.size, 4, none⟩ = some (.slice dA a.ds.length dC) := HT13.out.b1.cell 4
  have c5 : w13.cell? ⟨w.heap.size, 5, none⟩ = some (.slice bA a.bs.length bC) := HT13.out.b1.cell 5
  have c6 : w13.cell? ⟨w.heap.size, 6, none⟩ = some (.slice nA a.ns.length nC) := HT13.out.b1.cell 6
  have e0 : w13.cell? ⟨w7.heap.size, 0, none⟩ = some (.int .i64 a.c) := HX13.out.cell 0
  have e1 : w13.cell? ⟨w7.heap.size, 1, none⟩ = some (.int .i64 a.w) := HX13.out.cell 1
  have e2 : w13.cell? ⟨w7.heap.size, 2, none⟩ = some (.bool a.big) := HX13.out.cell 2
  have e3 : w13.cell? ⟨w7.heap.size, 3, none⟩ = some (.slice fA7 a.fs.length fC7) := HX13.out.cell 3
  have e4 : w13.cell? ⟨w7.heap.size, 4, none⟩ = some (.slice dA7 a.ds.length dC7) := HX13.out.cell 4
  have e5 : w13.cell? ⟨w7.heap.size, 5, none⟩ = some (.slice bA7 a.bs.length bC7) := HX13.out.cell 5
  have e6 : w13.cell? ⟨w7.heap.size, 6, none⟩ = some (.slice nA7 a.ns.length nC7) := HX13.out.cell 6
  have q4 : ((5 : Int) != 5) = false := by decide
  have HSM := Lib.hid (psame_to a a true (by simp) _ _ w13 HL13.out.here ((H1.out.later HT13.out.be).up HT13.out.be.size))
  go_wp2_with (go_at_call 27; refine HSM.out.mono ?_)
  rintro _ w14 ⟨rfl, hb14⟩
  have HT14 := Lib.hid (HT13.out.more hb14)
  have HB1413 := Lib.hid hb14
  have HB143 := Lib.hid (below_more HB133.out hb14)
  clear hb14 HSM
  clear c0 c1 c2 c3 c4 c5 c6
  clear e0 e1 e2 e3 e4 e5 e6
  go_upto_region 13 with fail
  obtain ⟨G, hGd⟩ : ∃ G : World → Prop, G = fun w9 => Below w14.heap.size w14 w9 := ⟨_, rfl⟩
  have hG0 : G { w14 with drawn := w14.drawn + 1 } := by rw [hGd]; exact (Below.refl _ w14).drew
  have hG1 : Hid (∀ (s : Wof G) w2, Below s.val.heap.size s.val w2 → G w2) := Lib.hid (by subst hGd; exact fun s w2 hb2 => below_more s.is hb2)
  have hG2 : Hid (∀ s : Wof G, Below w14.heap.size w14 s.val) := Lib.hid (by subst hGd; exact fun s => s.is)
  have hne9 : Nonempty (Wof G) := ⟨⟨_, hG0⟩⟩
  have c0 : w14.cell? ⟨w.heap.size, 0, none⟩ = some (.int .i64 a.c) := HT14.out.b1.cell 0
  have c1 : w14.cell? ⟨w.heap.size, 1, none⟩ = some (.int .i64 a.w) := HT14.out.b1.cell 1
  have c2 : w14.cell? ⟨w.heap.size, 2, none⟩ = some (.bool a.big) := HT14.out.b1.cell 2
  have c3 : w14.cell? ⟨w.heap.size, 3, none⟩ = some (.slice fA a.fs.length fC) := HT14.out.b1.cell 3
  have c4 : w14.cell? ⟨w.heap.size, 4, none⟩ = some (.slice dA a.ds.length dC) := HT14.out.b1.cell 4
  have c5 : w14.cell? ⟨w.heap.size, 5, none⟩ = some (.slice bA a.bs.length bC) := HT14.out.b1.cell 5
  have c6 : w14.cell? ⟨w.heap.size, 6, none⟩ = some (.slice nA a.ns.length nC) := HT14.out.b1.cell 6
  have d0 : w14.cell? ⟨w.heap.size + 1, 0, none⟩ = some (.int .i64 b.c) := HT14.out.b2.cell 0
  have d1 : w14.cell? ⟨w.heap.size + 1, 1, none⟩ = some (.int .i64 b.w) := HT14.out.b2.cell 1
  have d2 : w14.cell? ⟨w.heap.size + 1, 2, none⟩ = some (.bool b.big) := HT14.out.b2.cell 2
  have d3 : w14.cell? ⟨w.heap.size + 1, 3, none⟩ = some (.slice fA2 b.fs.length fC2) := HT14.out.b2.cell 3
  have d4 : w14.cell? ⟨w.heap.size + 1, 4, none⟩ = some (.slice dA2 b.ds.length dC2) := HT14.out.b2.cell 4
  have d5 : w14.cell? ⟨w.heap.size + 1, 5, none⟩ = some (.slice bA2 b.bs.length bC2) := HT14.out.b2.cell 5
  have d6 : w14.cell? ⟨w.heap.size + 1, 6, none⟩ = some (.slice nA2 b.ns.length nC2) := HT14.out.b2.cell 6
  have k0 : ∀ s : Wof G, s.val.cell? ⟨w.heap.size, 0, none⟩ = some (.int .i64 a.c) := fun s => ((hG2.out s).cell (p := ⟨w.heap.size, 0, none⟩) HT14.out.b1.lt).trans c0
  have k1 : ∀ s : Wof G, s.val.cell? ⟨w.heap.size, 1, none⟩ = some (.int .i64 a.w) := fun s => ((hG2.out s).cell (p := ⟨w.heap.size, 1, none⟩) HT14.out.b1.lt).trans c1
  have k2 : ∀ s : Wof G, s.val.cell? ⟨w.heap.size, 2, none⟩ = some (.bool a.big) := fun s => ((hG2.out s).cell (p := ⟨w.heap.size, 2, none⟩) HT14.out.b1.lt).trans c2
  have k3 : ∀ s : Wof G, s.val.cell? ⟨w.heap.size, 3, none⟩ = some (.slice fA a.fs.length fC) := fun s => ((hG2.out s).cell (p := ⟨w.heap.size, 3, none⟩) HT14.out.b1.lt).trans c3
  have k4 : ∀ s : Wof G, s.val.cell? ⟨w.heap.size, 4, none⟩ = some (.slice dA a.ds.length dC) := fun s => ((hG2.out s).cell (p := ⟨w.heap.size, 4, none⟩) HT14.out.b1.lt).trans c4
  have k5 : ∀ s : Wof G, s.val.cell? ⟨w.heap.size, 5, none⟩ = some (.slice bA a.bs.length bC) := fun s => ((hG2.out s).cell (p := ⟨w.heap.size, 5, none⟩) HT14.out.b1.lt).trans c5
  have k6 : ∀ s : Wof G, s.val.cell? ⟨w.heap.size, 6, none⟩ = some (.slice nA a.ns.length nC) := fun s => ((hG2.out s).cell (p := ⟨w.heap.size, 6, none⟩) HT14.out.b1.lt).trans c6
  have l0 : ∀ s : Wof G, s.val.cell? ⟨w.heap.size + 1, 0, none⟩ = some (.int .i64 b.c) := fun s => ((hG2.out s).cell (p := ⟨w.heap.size + 1, 0, none⟩) HT14.out.b2.lt).trans d0
  have l1 : ∀ s : Wof G, s.val.cell? ⟨w.heap.size + 1, 1, none⟩ = some (.int .i64 b.w) := fun s => ((hG2.out s).cell (p := ⟨w.heap.size + 1, 1, none⟩) HT14.out.b2.lt).trans d1
  have l2 : ∀ s : Wof G, s.val.cell? ⟨w.heap.size + 1, 2, none⟩ = some (.bool b.big) := fun s => ((hG2.out s).cell (p := ⟨w.heap.size + 1, 2, none⟩) HT14.out.b2.lt).trans d2
  have l3 : ∀ s : Wof G, s.val.cell? ⟨w.heap.size + 1, 3, none⟩ = some (.slice fA2 b.fs.length fC2) := fun s => ((hG2.out s).cell (p := ⟨w.heap.size + 1, 3, none⟩) HT14.out.b2.lt).trans d3
  have l4 : ∀ s : Wof G, s.val.cell? ⟨w.heap.size + 1, 4, none⟩ = some (.slice dA2 b.ds.length dC2) := fun s => ((hG2.out s).cell (p := ⟨w.heap.size + 1, 4, none⟩) HT14.out.b2.lt).trans d4
  have l5 : ∀ s : Wof G, s.val.cell? ⟨w.heap.size + 1, 5, none⟩ = some (.slice bA2 b.bs.length bC2) := fun s => ((hG2.out s).cell (p := ⟨w.heap.size + 1, 5, none⟩) HT14.out.b2.lt).trans d5
  have l6 : ∀ s : Wof G, s.val.cell? ⟨w.heap.size + 1, 6, none⟩ = some (.slice nA2 b.ns.length nC2) := fun s => ((hG2.out s).cell (p := ⟨w.heap.size + 1, 6, none⟩) HT14.out.b2.lt).trans d6
  clear c0 c1 c2 c3 c4 c5 c6
  clear d0 d1 d2 d3 d4 d5 d6
  have HSM := Lib.hid (fun s : Wof G => psame_to a b true (by have := HAB.out; simp [this]) _ _ s.val ((((H1.out.later HT14.out.be).up HT14.out.be.size).later (hG2.out s)).up (hG2.out s).size) ((((H2.out.later HT14.out.be).up HT14.out.be.size).later (hG2.out s)).up (hG2.out s).size))
  have HYA := Lib.hid (fun s : Wof G => ((HYa.out.later HB143.out).up HB143.out.size).later (hG2.out s))
  have HYB := Lib.hid (fun s : Wof G => ((HYb.out.later (show Below w4.heap.size w4 w14 from (below_more (below_more (below_more (below_more HBw5.out HBw6.out) HB76.out) HB138.out) HB1413.out))).up (below_more (below_more (below_more (below_more HBw5.out HBw6.out) HB76.out) HB138.out) HB1413.out).size).later (hG2.out s))
  obtain ⟨s1, hs1⟩ : ∃ s1, strOf (lb a) = s1 := ⟨_, rfl⟩
  obtain ⟨s2, hs2⟩ : ∃ s2, strOf (lb b) = s2 := ⟨_, rfl⟩
  have hcv1 : ∀ s : Wof G, (convert 49 9 (.slice Aa la Ca)).run Try.prog s.val = .ok (.string s1) s.val := fun s => by rw [← hs1]; exact conv_bytes (HYA.out s) Ca
  have hcv2 : ∀ s : Wof G, (convert 49 9 (.slice Ab lb2 Cb)).run Try.prog s.val = .ok (.string s2) s.val := fun s => by rw [← hs2]; exact conv_bytes (HYB.out s) Cb
  have hse : (s1.toList == s2.toList) = true := by
    have e := strOf_eq (lb_lt 4 a HZa.out) (lb_lt 4 b HZb.out)
    rw [hs1, hs2] at e
    rw [e]
    exact decide_eq_true (by rw [HAB.out])
  clear hs1 hs2
  clear hGd
  refine wp_region_kept (G := G) (by kernel_rfl) (by kernel_rfl) hG0 ?_
  clear hG0
  repeat (go_big_quiet_step ((first | (go_at_call 13; refine (lives_any _).mono ?_; rintro _ w2 ⟨he, hb2⟩; exact ⟨he, ⟨w2, hG1.out _ _ hb2⟩, rfl⟩) | (go_at_call 27; refine (HSM.out _).mono ?_; rintro _ w2 ⟨he, hb2⟩; exact ⟨he, ⟨w2, hG1.out _ _ hb2⟩, rfl⟩))))
  refine wpQuiet_nil ?_
  rintro _ ⟨s, rfl⟩
  have HB2 := Lib.hid (hG2.out s)
  obtain ⟨w15, hw15⟩ := s
  change Hid (Below w14.heap.size w14 w15) at HB2
  have HT15 := Lib.hid (HT14.out.more HB2.out)
  clear hG1 hG2 hne9 k0 k1 k2 k3 k4 k5 k6 l0 l1 l2 l3 l4 l5 l6 HSM HYA HYB hcv1 hcv2
  simp only
  go_wp2
  go_ret
  exact ⟨rfl, HT15.out.be⟩

set_option maxHeartbeats 8000000 in
set_option maxRecDepth 100000 in
theorem back_E0 (a b : Ty) (v u : Value) (w : World) (ht : TyAt w w.heap.size a v) (hu : TyAt w w.heap.size b u) (hg : ¬ a.left 2000 ≤ 0) (hg2 : ¬ b.left 2000 ≤ 0) (hza : sz 4 a ≠ 0) (hzb : sz 4 b ≠ 0) (hab : ¬ a = b) :
    Calls Try.prog 11 #[v, u] w fun e w' => e = .returned (.bool true) ∧ Below w.heap.size w w' := by
  have hoa := ht.ok64
  have hob := hu.ok64
  have HOA := Lib.hid hoa
  have HOB := Lib.hid hob
  obtain ⟨fA, dA, bA, nA, fC, dC, bC, nC, rfl⟩ := ht.shape
  obtain ⟨fA2, dA2, bA2, nA2, fC2, dC2, bC2, nC2, rfl⟩ := hu.shape
  have HT := Lib.hid (Two.new w 28 #[.int .i64 a.c, .int .i64 a.w, .bool a.big, .slice fA a.fs.length fC, .slice dA a.ds.length dC, .slice bA a.bs.length bC, .slice nA a.ns.length nC] #[.int .i64 b.c, .int .i64 b.w, .bool b.big, .slice fA2 b.fs.length fC2, .slice dA2 b.ds.length dC2, .slice bA2 b.bs.length bC2, .slice nA2 b.ns.length nC2])
  have H1 := Lib.hid ht
  have H2 := Lib.hid hu
  clear ht hu hoa hob
  have HZa := Lib.hid hza
  have HEa := Lib.hid (show errV a = 0 from if_neg hza)
  clear hza
  have HAB := Lib.hid hab
  clear hab
  have HZb := Lib.hid hzb
  have HEb := Lib.hid (show errV b = 0 from if_neg hzb)
  clear hzb
  have hla := lb_len 4 a HZa.out
  have hL4 : Lb 4 ≤ 100000000 := by decide
  obtain ⟨la, hla2⟩ : ∃ la, (lb a).length = la := ⟨_, rfl⟩
  have HLA := Lib.hid hla2
  have HLB := Lib.hid (show la ≤ 100000000 by omega)
  clear hla hL4 hla2
  have HGa := Lib.hid (decide_eq_false hg)
  have HGb := Lib.hid (decide_eq_false hg2)
  clear hg hg2
  go_enter Try.func11, Try.ntmps11
  go_upto_region 1 with fail
  generalize (w.alloc (.cells #[.int .i64 a.c, .int .i64 a.w, .bool a.big, .slice fA a.fs.length fC, .slice dA a.ds.length dC, .slice bA a.bs.length bC, .slice nA a.ns.length nC] 28)).alloc (.cells #[.int .i64 b.c, .int .i64 b.w, .bool b.big, .slice fA2 b.fs.length fC2, .slice dA2 b.ds.length dC2, .slice bA2 b.bs.length bC2, .slice nA2 b.ns.length nC2] 28) = w0 at *
  have c0 : w0.cell? ⟨w.heap.size, 0, none⟩ = some (.int .i64 a.c) := HT.out.b1.cell 0
  have c1 : w0.cell? ⟨w.heap.size, 1, none⟩ = some (.int .i64 a.w) := HT.out.b1.cell 1
  have c2 : w0.cell? ⟨w.heap.size, 2, none⟩ = some (.bool a.big) := HT.out.b1.cell 2
  have c3 : w0.cell? ⟨w.heap.size, 3, none⟩ = some (.slice fA a.fs.length fC) := HT.out.b1.cell 3
  have c4 : w0.cell? ⟨w.heap.size, 4, none⟩ = some (.slice dA a.ds.length dC) := HT.out.b1.cell 4
  have c5 : w0.cell? ⟨w.heap.size, 5, none⟩ = some (.slice bA a.bs.length bC) := HT.out.b1.cell 5
  have c6 : w0.cell? ⟨w.heap.size, 6, none⟩ = some (.slice nA a.ns.length nC) := HT.out.b1.cell 6
  have HBB := Lib.hid (big_any a _ w0 ((H1.out.later HT.out.be).up HT.out.be.size))
  go_wp2_with (go_at_call 12; refine HBB.out.mono ?_)
  rintro _ w1 ⟨he, hb⟩
  rw [HGa.out] at he
  subst he
  have HTw1 := Lib.hid (HT.out.more hb)
  clear hb HBB
  clear c0 c1 c2 c3 c4 c5 c6
  have d0 : w1.cell? ⟨w.heap.size + 1, 0, none⟩ = some (.int .i64 b.c) := HTw1.out.b2.cell 0
  have d1 : w1.cell? ⟨w.heap.size + 1, 1, none⟩ = some (.int .i64 b.w) := HTw1.out.b2.cell 1
  have d2 : w1.cell? ⟨w.heap.size + 1, 2, none⟩ = some (.bool b.big) := HTw1.out.b2.cell 2
  have d3 : w1.cell? ⟨w.heap.size + 1, 3, none⟩ = some (.slice fA2 b.fs.length fC2) := HTw1.out.b2.cell 3
  have d4 : w1.cell? ⟨w.heap.size + 1, 4, none⟩ = some (.slice dA2 b.ds.length dC2) := HTw1.out.b2.cell 4
  have d5 : w1.cell? ⟨w.heap.size + 1, 5, none⟩ = some (.slice bA2 b.bs.length bC2) := HTw1.out.b2.cell 5
  have d6 : w1.cell? ⟨w.heap.size + 1, 6, none⟩ = some (.slice nA2 b.ns.length nC2) := HTw1.out.b2.cell 6
  have HBB := Lib.hid (big_any b _ w1 ((H2.out.later HTw1.out.be).up HTw1.out.be.size))
  go_wp2_with (go_at_call 12; refine HBB.out.mono ?_)
  rintro _ w2 ⟨he, hb⟩
  rw [HGb.out] at he
  subst he
  have HTw2 := Lib.hid (HTw1.out.more hb)
  clear hb HBB
  clear d0 d1 d2 d3 d4 d5 d6
  have c0 : w2.cell? ⟨w.heap.size, 0, none⟩ = some (.int .i64 a.c) := HTw2.out.b1.cell 0
  have c1 : w2.cell? ⟨w.heap.size, 1, none⟩ = some (.int .i64 a.w) := HTw2.out.b1.cell 1
  have c2 : w2.cell? ⟨w.heap.size, 2, none⟩ = some (.bool a.big) := HTw2.out.b1.cell 2
  have c3 : w2.cell? ⟨w.heap.size, 3, none⟩ = some (.slice fA a.fs.length fC) := HTw2.out.b1.cell 3
  have c4 : w2.cell? ⟨w.heap.size, 4, none⟩ = some (.slice dA a.ds.length dC) := HTw2.out.b1.cell 4
  have c5 : w2.cell? ⟨w.heap.size, 5, none⟩ = some (.slice bA a.bs.length bC) := HTw2.out.b1.cell 5
  have c6 : w2.cell? ⟨w.heap.size, 6, none⟩ = some (.slice nA a.ns.length nC) := HTw2.out.b1.cell 6
  have HBB := Lib.hid (bytes_yes a _ w2 ((H1.out.later HTw2.out.be).up HTw2.out.be.size) HZa.out)
  go_wp2_with (go_at_call 21; refine HBB.out.mono ?_)
  rintro _ w3 ⟨Va, rfl, ho, hlt, hb⟩
  have hr : RowB w3 w2.heap.size Va (lb a) := ⟨ho, hlt⟩
  obtain ⟨Aa, Ca, rfl, hcap, hby⟩ := rowb_cap hr
  have HYa := Lib.hid hby
  have HCa := Lib.hid hcap
  clear ho hlt hr hby hcap
  have HTw3 := Lib.hid (HTw2.out.more hb)
  have HBw3 := Lib.hid hb
  clear hb HBB
  clear c0 c1 c2 c3 c4 c5 c6
  rw [HLA.out] at HYa HCa ⊢
  have d0 : w3.cell? ⟨w.heap.size + 1, 0, none⟩ = some (.int .i64 b.c) := HTw3.out.b2.cell 0
  have d1 : w3.cell? ⟨w.heap.size + 1, 1, none⟩ = some (.int .i64 b.w) := HTw3.out.b2.cell 1
  have d2 : w3.cell? ⟨w.heap.size + 1, 2, none⟩ = some (.bool b.big) := HTw3.out.b2.cell 2
  have d3 : w3.cell? ⟨w.heap.size + 1, 3, none⟩ = some (.slice fA2 b.fs.length fC2) := HTw3.out.b2.cell 3
  have d4 : w3.cell? ⟨w.heap.size + 1, 4, none⟩ = some (.slice dA2 b.ds.length dC2) := HTw3.out.b2.cell 4
  have d5 : w3.cell? ⟨w.heap.size + 1, 5, none⟩ = some (.slice bA2 b.bs.length bC2) := HTw3.out.b2.cell 5
  have d6 : w3.cell? ⟨w.heap.size + 1, 6, none⟩ = some (.slice nA2 b.ns.length nC2) := HTw3.out.b2.cell 6
  have HBB := Lib.hid (bytes_yes b _ w3 ((H2.out.later HTw3.out.be).up HTw3.out.be.size) HZb.out)
  go_wp2_with (go_at_call 21; refine HBB.out.mono ?_)
  rintro _ w4 ⟨Vb, rfl, ho, hlt, hb⟩
  have hr : RowB w4 w3.heap.size Vb (lb b) := ⟨ho, hlt⟩
  obtain ⟨Ab, Cb, rfl, hcap, hby⟩ := rowb_cap hr
  have HYb := Lib.hid hby
  have HCb := Lib.hid hcap
  clear ho hlt hr hby hcap
  have HTw4 := Lib.hid (HTw3.out.more hb)
  have HBw4 := Lib.hid hb
  clear hb HBB
  clear d0 d1 d2 d3 d4 d5 d6
  obtain ⟨lb2, hlb2⟩ : ∃ lb2, (lb b).length = lb2 := ⟨_, rfl⟩
  rw [hlb2] at HYb HCb ⊢
  clear hlb2
  have q1 : ((15 : Int) != 15) = false := by decide
  have q2 : ((0 : Int) != 0) = false := by decide
  have q3 : ((15 : Int) != 0) = true := by decide
  have c0 : w4.cell? ⟨w.heap.size, 0, none⟩ = some (.int .i64 a.c) := HTw4.out.b1.cell 0
  have c1 : w4.cell? ⟨w.heap.size, 1, none⟩ = some (.int .i64 a.w) := HTw4.out.b1.cell 1
  have c2 : w4.cell? ⟨w.heap.size, 2, none⟩ = some (.bool a.big) := HTw4.out.b1.cell 2
  have c3 : w4.cell? ⟨w.heap.size, 3, none⟩ = some (.slice fA a.fs.length fC) := HTw4.out.b1.cell 3
  have c4 : w4.cell? ⟨w.heap.size, 4, none⟩ = some (.slice dA a.ds.length dC) := HTw4.out.b1.cell 4
  have c5 : w4.cell? ⟨w.heap.size, 5, none⟩ = some (.slice bA a.bs.length bC) := HTw4.out.b1.cell 5
  have c6 : w4.cell? ⟨w.heap.size, 6, none⟩ = some (.slice nA a.ns.length nC) := HTw4.out.b1.cell 6
  have HBB := Lib.hid (check_any a _ w4 ((H1.out.later HTw4.out.be).up HTw4.out.be.size))
  go_wp2_with (go_at_call 17; refine HBB.out.mono ?_)
  rintro _ w5 ⟨he, hb⟩
  rw [HEa.out] at he
  subst he
  have HTw5 := Lib.hid (HTw4.out.more hb)
  have HBw5 := Lib.hid hb
  clear hb HBB
  clear c0 c1 c2 c3 c4 c5 c6
  have d0 : w5.cell? ⟨w.heap.size + 1, 0, none⟩ = some (.int .i64 b.c) := HTw5.out.b2.cell 0
  have d1 : w5.cell? ⟨w.heap.size + 1, 1, none⟩ = some (.int .i64 b.w) := HTw5.out.b2.cell 1
  have d2 : w5.cell? ⟨w.heap.size + 1, 2, none⟩ = some (.bool b.big) := HTw5.out.b2.cell 2
  have d3 : w5.cell? ⟨w.heap.size + 1, 3, none⟩ = some (.slice fA2 b.fs.length fC2) := HTw5.out.b2.cell 3
  have d4 : w5.cell? ⟨w.heap.size + 1, 4, none⟩ = some (.slice dA2 b.ds.length dC2) := HTw5.out.b2.cell 4
  have d5 : w5.cell? ⟨w.heap.size + 1, 5, none⟩ = some (.slice bA2 b.bs.length bC2) := HTw5.out.b2.cell 5
  have d6 : w5.cell? ⟨w.heap.size + 1, 6, none⟩ = some (.slice nA2 b.ns.length nC2) := HTw5.out.b2.cell 6
  have HBB := Lib.hid (check_any b _ w5 ((H2.out.later HTw5.out.be).up HTw5.out.be.size))
  go_wp2_with (go_at_call 17; refine HBB.out.mono ?_)
  rintro _ w6 ⟨he, hb⟩
  rw [HEb.out] at he
  subst he
  have HTw6 := Lib.hid (HTw5.out.more hb)
  have HBw6 := Lib.hid hb
  clear hb HBB
  clear d0 d1 d2 d3 d4 d5 d6
  have HB63 := Lib.hid (below_more (below_more HBw4.out HBw5.out) HBw6.out)
  have HY6 := Lib.hid ((HYa.out.later HB63.out).up HB63.out.size)
  have HLD := Lib.hid (pload_any la Ca Aa (lb a) w6 (by have := HLB.out; omega) HCa.out HY6.out)
  go_wp2_with (go_at_call 29; refine HLD.out.mono ?_)
  rintro _ w7 ⟨t, z, u0, u1, u2, u3, u4, u5, u6, S, eR, rfl, hL7, hS7, hb7⟩
  have hrt := (load_back HZa.out HOA.out).symm.trans eR
  injection hrt with hr1 hr2
  subst hr1 hr2
  obtain ⟨fA7, dA7, bA7, nA7, fC7, dC7, bC7, nC7, rfl, rfl, rfl, rfl, rfl, rfl, rfl⟩ := hL7.here.cells
  have hn7 := below_new w7 (.cells #[.int .i64 a.c, .int .i64 a.w, .bool a.big, .slice fA7 a.fs.length fC7, .slice dA7 a.ds.length dC7, .slice bA7 a.bs.length bC7, .slice nA7 a.ns.length nC7] 28)
  have HX7 := Lib.hid (Bx.new w7 28 #[.int .i64 a.c, .int .i64 a.w, .bool a.big, .slice fA7 a.fs.length fC7, .slice dA7 a.ds.length dC7, .slice bA7 a.bs.length bC7, .slice nA7 a.ns.length nC7])
  have HL7 := Lib.hid (hL7.keep (w2 := (w7.alloc (.cells #[.int .i64 a.c, .int .i64 a.w, .bool a.big, .slice fA7 a.fs.length fC7, .slice dA7 a.ds.length dC7, .slice bA7 a.bs.length bC7, .slice nA7 a.ns.length nC7] 28))) (fun k hk => hn7.block k (hL7.1 k hk)) hn7.size)
  have hb76 := below_more hb7 hn7
  have HT7 := Lib.hid (HTw6.out.more hb76)
  have HB76 := Lib.hid hb76
  have HB73 := Lib.hid (below_more HB63.out hb76)
  have HLT7 := Lib.hid (Nat.le_trans hb7.size (Nat.le_refl _))
  clear hL7 hS7 hb7 hn7 hb76 eR HLD
  go_upto_region 10 with fail
  generalize (w7.alloc (.cells #[.int .i64 a.c, .int .i64 a.w, .bool a.big, .slice fA7 a.fs.length fC7, .slice dA7 a.ds.length dC7, .slice bA7 a.bs.length bC7, .slice nA7 a.ns.length nC7] 28)) = w8 at *
  have HR1 := Lib.hid (RowB.lit w8 [] (fun x h => absurd h (List.not_mem_nil)) (by simp) (Nat.le_refl w8.heap.size))
  have HA1 := Lib.hid (below_new w8 (.cells (by8 []).toArray 5))
  have HY8 := Lib.hid (((HYa.out.later HB73.out).up HB73.out.size).later HA1.out)
  go_wp2_with (at_builtin; refine wp_rowb rfl (.tmp 54) (.tmp 55) rfl w8.heap.size la Ca _ [] (lb a) Aa w8.heap.size rfl rfl HR1.out HY8.out (by have := HLB.out; show 0 + la ≤ _; omega) HA1.out.size ?_; intro V2 w10 hrow2 hb2; refine Hid.out ?_)
  rw [List.nil_append] at hrow2
  have HB2 := Lib.hid (HA1.out.trans hb2)
  obtain ⟨A2, C2, hV⟩ := own_form hrow2.own
  rw [HLA.out] at hV
  subst hV
  have HR2 := Lib.hid (hrow2.below (below_new w10 (.cells (by8 [0]).toArray 5)))
  have HY2 := Lib.hid (Byt.lit w10 [0] (by decide))
  have HA2 := Lib.hid (below_new w10 (.cells (by8 [0]).toArray 5))
  clear hrow2 hb2 HR1 HA1 HY8
  refine go_on ?_
  go_wp2_with (at_builtin; refine wp_rowb rfl (.tmp 56) (.tmp 57) rfl w8.heap.size 1 1 _ (lb a) [0] (some ⟨w10.heap.size, 0, none⟩) _ rfl rfl HR2.out HY2.out (by have h1 := HLB.out; have h2 := HLA.out; omega) (Nat.le_trans HB2.out.size HA2.out.size) ?_; intro V3 w11 hrow3 hb3; refine Hid.out ?_)
  have HB118 := Lib.hid (HB2.out.trans ((HA2.out.mono HB2.out.size).trans hb3))
  obtain ⟨A5, C5, hV, hc5, hby5⟩ := rowb_cap hrow3
  have hl3 : (lb a ++ [0]).length = la + 1 := by rw [List.length_append, HLA.out]; rfl
  rw [hl3] at hV hc5 hby5
  subst hV
  have HLD2 := Lib.hid (pload_any (la + 1) C5 A5 (lb a ++ [0]) w11 (by have := HLB.out; omega) hc5 hby5)
  clear hrow3 hb3 hc5 hby5 hl3 HR2 HY2 HA2
  generalize la + 1 = la1 at *
  refine go_on ?_
  go_wp2_with (go_at_call 29; refine HLD2.out.mono ?_)
  rintro _ w12 ⟨t, z, u0, u1, u2, u3, u4, u5, u6, S2, eR, rfl, hL9, hS9, hb9⟩
  have hrt := (load_more HZa.out HOA.out).symm.trans eR
  injection hrt with hr1 hr2
  subst hr1 hr2
  obtain ⟨fA9, dA9, bA9, nA9, fC9, dC9, bC9, nC9, rfl, rfl, rfl, rfl, rfl, rfl, rfl⟩ := hL9.here.cells
  have hn9 := below_new w12 (.cells #[.int .i64 zeroT.c, .int .i64 zeroT.w, .bool zeroT.big, .slice fA9 zeroT.fs.length fC9, .slice dA9 zeroT.ds.length dC9, .slice bA9 zeroT.bs.length bC9, .slice nA9 zeroT.ns.length nC9] 28)
  have hb98 := below_more (below_more HB118.out hb9) hn9
  have HT13 := Lib.hid (HT7.out.more hb98)
  have HB138 := Lib.hid hb98
  have HX13 := Lib.hid (HX7.out.later hb98 HX7.out.lt)
  have HL13 := Lib.hid (HL7.out.keep (w2 := (w12.alloc (.cells #[.int .i64 zeroT.c, .int .i64 zeroT.w, .bool zeroT.big, .slice fA9 zeroT.fs.length fC9, .slice dA9 zeroT.ds.length dC9, .slice bA9 zeroT.bs.length bC9, .slice nA9 zeroT.ns.length nC9] 28))) (fun k hk => hb98.block k (HL7.out.1 k hk)) hb98.size)
  have HB133 := Lib.hid (below_more HB73.out hb98)
  clear hL9 hS9 hb9 hn9 hb98 eR HLD2
  go_upto_region 11 with fail
  generalize w12.alloc (.cells #[.int .i64 zeroT.c, .int .i64 zeroT.w, .bool zeroT.big, .slice fA9 zeroT.fs.length fC9, .slice dA9 zeroT.ds.length dC9, .slice bA9 zeroT.bs.length bC9, .slice nA9 zeroT.ns.length nC9] 28) = w13 at *
  have c0 : w13.cell? ⟨w.heap.size, 0, none⟩ = some (.int .i64 a.c) := HT13.out.b1.cell 0
  have c1 : w13.cell? ⟨w.heap.size, 1, none⟩ = some (.int .i64 a.w) := HT13.out.b1.cell 1
  have c2 : w13.cell? ⟨w.heap.size, 2, none⟩ = some (.bool a.big) := HT13.out.b1.cell 2
  have c3 : w13.cell? ⟨w.heap.size, 3, none⟩ = some (.slice fA a.fs.length fC) := HT13.out.b1.cell 3
  have c4 : w13.cell? ⟨w.heap.size, 4, none⟩ = some (.slice dA a.ds.length dC) := HT13.out.b1.cell 4
  have c5 : w13.cell? ⟨w.heap.size, 5, none⟩ = some (.slice bA a.bs.length bC) := HT13.out.b1.cell 5
  have c6 : w13.cell? ⟨w.heap.size, 6, none⟩ = some (.slice nA a.ns.length nC) := HT13.out.b1.cell 6
  have e0 : w13.cell? ⟨w7.heap.size, 0, none⟩ = some (.int .i64 a.c) := HX13.out.cell 0
  have e1 : w13.cell? ⟨w7.heap.size, 1, none⟩ = some (.int .i64 a.w) := HX13.out.cell 1
  have e2 : w13.cell? ⟨w7.heap.size, 2, none⟩ = some (.bool a.big) := HX13.out.cell 2
  have e3 : w13.cell? ⟨w7.heap.size, 3, none⟩ = some (.slice fA7 a.fs.length fC7) := HX13.out.cell 3
  have e4 : w13.cell? ⟨w7.heap.size, 4, none⟩ = some (.slice dA7 a.ds.length dC7) := HX13.out.cell 4
  have e5 : w13.cell? ⟨w7.heap.size, 5, none⟩ = some (.slice bA7 a.bs.length bC7) := HX13.out.cell 5
  have e6 : w13.cell? ⟨w7.heap.size, 6, none⟩ = some (.slice nA7 a.ns.length nC7) := HX13.out.cell 6
  have q4 : ((5 : Int) != 5) = false := by decide
  have HSM := Lib.hid (psame_to a a true (by simp) _ _ w13 HL13.out.here ((H1.out.later HT13.out.be).up HT13.out.be.size))
  go_wp2_with (go_at_call 27; refine HSM.out.mono ?_)
  rintro _ w14 ⟨rfl, hb14⟩
  have HT14 := Lib.hid (HT13.out.more hb14)
  have HB1413 := Lib.hid hb14
  have HB143 := Lib.hid (below_more HB133.out hb14)
  clear hb14 HSM
  clear c0 c1 c2 c3 c4 c5 c6
  clear e0 e1 e2 e3 e4 e5 e6
  go_upto_region 13 with fail
  obtain ⟨G, hGd⟩ : ∃ G : World → Prop, G = fun w9 => Below w14.heap.size w14 w9 := ⟨_, rfl⟩
  have hG0 : G { w14 with drawn := w14.drawn + 1 } := by rw [hGd]; exact (Below.refl _ w14).drew
  have hG1 : Hid (∀ (s : Wof G) w2, Below s.val.heap.size s.val w2 → G w2) := Lib.hid (by subst hGd; exact fun s w2 hb2 => below_more s.is hb2)
  have hG2 : Hid (∀ s : Wof G, Below w14.heap.size w14 s.val) := Lib.hid (by subst hGd; exact fun s => s.is)
  have hne9 : Nonempty (Wof G) := ⟨⟨_, hG0⟩⟩
  have c0 : w14.cell? ⟨w.heap.size, 0, none⟩ = some (.int .i64 a.c) := HT14.out.b1.cell 0
  have c1 : w14.cell? ⟨w.heap.size, 1, none⟩ = some (.int .i64 a.w) := HT14.out.b1.cell 1
  have c2 : w14.cell? ⟨w.heap.size, 2, none⟩ = some (.bool a.big) := HT14.out.b1.cell 2
  have c3 : w14.cell? ⟨w.heap.size, 3, none⟩ = some (.slice fA a.fs.length fC) := HT14.out.b1.cell 3
  have c4 : w14.cell? ⟨w.heap.size, 4, none⟩ = some (.slice dA a.ds.length dC) := HT14.out.b1.cell 4
  have c5 : w14.cell? ⟨w.heap.size, 5, none⟩ = some (.slice bA a.bs.length bC) := HT14.out.b1.cell 5
  have c6 : w14.cell? ⟨w.heap.size, 6, none⟩ = some (.slice nA a.ns.length nC) := HT14.out.b1.cell 6
  have d0 : w14.cell? ⟨w.heap.size + 1, 0, none⟩ = some (.int .i64 b.c) := HT14.out.b2.cell 0
  have d1 : w14.cell? ⟨w.heap.size + 1, 1, none⟩ = some (.int .i64 b.w) := HT14.out.b2.cell 1
  have d2 : w14.cell? ⟨w.heap.size + 1, 2, none⟩ = some (.bool b.big) := HT14.out.b2.cell 2
  have d3 : w14.cell? ⟨w.heap.size + 1, 3, none⟩ = some (.slice fA2 b.fs.length fC2) := HT14.out.b2.cell 3
  have d4 : w14.cell? ⟨w.heap.size + 1, 4, none⟩ = some (.slice dA2 b.ds.length dC2) := HT14.out.b2.cell 4
  have d5 : w14.cell? ⟨w.heap.size + 1, 5, none⟩ = some (.slice bA2 b.bs.length bC2) := HT14.out.b2.cell 5
  have d6 : w14.cell? ⟨w.heap.size + 1, 6, none⟩ = some (.slice nA2 b.ns.length nC2) := HT14.out.b2.cell 6
  have k0 : ∀ s : Wof G, s.val.cell? ⟨w.heap.size, 0, none⟩ = some (.int .i64 a.c) := fun s => ((hG2.out s).cell (p := ⟨w.heap.size, 0, none⟩) HT14.out.b1.lt).trans c0
  have k1 : ∀ s : Wof G, s.val.cell? ⟨w.heap.size, 1, none⟩ = some (.int .i64 a.w) := fun s => ((hG2.out s).cell (p := ⟨w.heap.size, 1, none⟩) HT14.out.b1.lt).trans c1
  have k2 : ∀ s : Wof G, s.val.cell? ⟨w.heap.size, 2, none⟩ = some (.bool a.big) := fun s => ((hG2.out s).cell (p := ⟨w.heap.size, 2, none⟩) HT14.out.b1.lt).trans c2
  have k3 : ∀ s : Wof G, s.val.cell? ⟨w.heap.size, 3, none⟩ = some (.slice fA a.fs.length fC) := fun s => ((hG2.out s).cell (p := ⟨w.heap.size, 3, none⟩) HT14.out.b1.lt).trans c3
  have k4 : ∀ s : Wof G, s.val.cell? ⟨w.heap.size, 4, none⟩ = some (.slice dA a.ds.length dC) := fun s => ((hG2.out s).cell (p := ⟨w.heap.size, 4, none⟩) HT14.out.b1.lt).trans c4
  have k5 : ∀ s : Wof G, s.val.cell? ⟨w.heap.size, 5, none⟩ = some (.slice bA a.bs.length bC) := fun s => ((hG2.out s).cell (p := ⟨w.heap.size, 5, none⟩) HT14.out.b1.lt).trans c5
  have k6 : ∀ s : Wof G, s.val.cell? ⟨w.heap.size, 6, none⟩ = some (.slice nA a.ns.length nC) := fun s => ((hG2.out s).cell (p := ⟨w.heap.size, 6, none⟩) HT14.out.b1.lt).trans c6
  have l0 : ∀ s : Wof G, s.val.cell? ⟨w.heap.size + 1, 0, none⟩ = some (.int .i64 b.c) := fun s => ((hG2.out s).cell (p := ⟨w.heap.size + 1, 0, none⟩) HT14.out.b2.lt).trans d0
  have l1 : ∀ s : Wof G, s.val.cell? ⟨w.heap.size + 1, 1, none⟩ = some (.int .i64 b.w) := fun s => ((hG2.out s).cell (p := ⟨w.heap.size + 1, 1, none⟩) HT14.out.b2.lt).trans d1
  have l2 : ∀ s : Wof G, s.val.cell? ⟨w.heap.size + 1, 2, none⟩ = some (.bool b.big) := fun s => ((hG2.out s).cell (p := ⟨w.heap.size + 1, 2, none⟩) HT14.out.b2.lt).trans d2
  have l3 : ∀ s : Wof G, s.val.cell? ⟨w.heap.size + 1, 3, none⟩ = some (.slice fA2 b.fs.length fC2) := fun s => ((hG2.out s).cell (p := ⟨w.heap.size + 1, 3, none⟩) HT14.out.b2.lt).trans d3
  have l4 : ∀ s : Wof G, s.val.cell? ⟨w.heap.size + 1, 4, none⟩ = some (.slice dA2 b.ds.length dC2) := fun s => ((hG2.out s).cell (p := ⟨w.heap.size + 1, 4, none⟩) HT14.out.b2.lt).trans d4
  have l5 : ∀ s : Wof G, s.val.cell? ⟨w.heap.size + 1, 5, none⟩ = some (.slice bA2 b.bs.length bC2) := fun s => ((hG2.out s).cell (p := ⟨w.heap.size + 1, 5, none⟩) HT14.out.b2.lt).trans d5
  have l6 : ∀ s : Wof G, s.val.cell? ⟨w.heap.size + 1, 6, none⟩ = some (.slice nA2 b.ns.length nC2) := fun s => ((hG2.out s).cell (p := ⟨w.heap.size + 1, 6, none⟩) HT14.out.b2.lt).trans d6
  clear c0 c1 c2 c3 c4 c5 c6
  clear d0 d1 d2 d3 d4 d5 d6
  have HSM := Lib.hid (fun s : Wof G => psame_to a b false (by have := HAB.out; simp [this]) _ _ s.val ((((H1.out.later HT14.out.be).up HT14.out.be.size).later (hG2.out s)).up (hG2.out s).size) ((((H2.out.later HT14.out.be).up HT14.out.be.size).later (hG2.out s)).up (hG2.out s).size))
  have HYA := Lib.hid (fun s : Wof G => ((HYa.out.later HB143.out).up HB143.out.size).later (hG2.out s))
  have HYB := Lib.hid (fun s : Wof G => ((HYb.out.later (show Below w4.heap.size w4 w14 from (below_more (below_more (below_more (below_more HBw5.out HBw6.out) HB76.out) HB138.out) HB1413.out))).up (below_more (below_more (below_more (below_more HBw5.out HBw6.out) HB76.out) HB138.out) HB1413.out).size).later (hG2.out s))
  obtain ⟨s1, hs1⟩ : ∃ s1, strOf (lb a) = s1 := ⟨_, rfl⟩
  obtain ⟨s2, hs2⟩ : ∃ s2, strOf (lb b) = s2 := ⟨_, rfl⟩
  have hcv1 : ∀ s : Wof G, (convert 49 9 (.slice Aa la Ca)).run Try.prog s.val = .ok (.string s1) s.val := fun s => by rw [← hs1]; exact conv_bytes (HYA.out s) Ca
  have hcv2 : ∀ s : Wof G, (convert 49 9 (.slice Ab lb2 Cb)).run Try.prog s.val = .ok (.string s2) s.val := fun s => by rw [← hs2]; exact conv_bytes (HYB.out s) Cb
  have hse : (s1.toList == s2.toList) = false := by
    have e := strOf_eq (lb_lt 4 a HZa.out) (lb_lt 4 b HZb.out)
    rw [hs1, hs2] at e
    rw [e]
    exact decide_eq_false fun h => HAB.out (lb_inj HZa.out HZb.out HOA.out HOB.out h)
  clear hs1 hs2
  clear hGd
  refine wp_region_kept (G := G) (by kernel_rfl) (by kernel_rfl) hG0 ?_
  clear hG0
  repeat (go_big_quiet_step ((first | (go_at_call 13; refine (lives_any _).mono ?_; rintro _ w2 ⟨he, hb2⟩; exact ⟨he, ⟨w2, hG1.out _ _ hb2⟩, rfl⟩) | (go_at_call 27; refine (HSM.out _).mono ?_; rintro _ w2 ⟨he, hb2⟩; exact ⟨he, ⟨w2, hG1.out _ _ hb2⟩, rfl⟩))))
  refine wpQuiet_nil ?_
  rintro _ ⟨s, rfl⟩
  have HB2 := Lib.hid (hG2.out s)
  obtain ⟨w15, hw15⟩ := s
  change Hid (Below w14.heap.size w14 w15) at HB2
  have HT15 := Lib.hid (HT14.out.more HB2.out)
  clear hG1 hG2 hne9 k0 k1 k2 k3 k4 k5 k6 l0 l1 l2 l3 l4 l5 l6 HSM HYA HYB hcv1 hcv2
  simp only
  go_wp2
  go_ret
  exact ⟨rfl, HT15.out.be⟩

theorem back_walk (a b : Ty) (v u : Value) (w : World) (ht : TyAt w w.heap.size a v) (hu : TyAt w w.heap.size b u) (_ : Fit a) (_ : Fit b) :
    Calls Try.prog 11 #[v, u] w fun e w' => e = .returned (.bool true) ∧ Below w.heap.size w w' := by
  by_cases hg : a.left 2000 ≤ 0
  · exact back_bigA a b v u w ht hu hg
  by_cases hg2 : b.left 2000 ≤ 0
  · exact back_bigB a b v u w ht hu hg hg2
  by_cases hza : sz 4 a = 0
  · by_cases hzb : sz 4 b = 0
    · exact back_C0 a b v u w ht hu hg hg2 hza hzb
    · exact back_C1 a b v u w ht hu hg hg2 hza hzb
  by_cases hzb : sz 4 b = 0
  · exact back_D a b v u w ht hu hg hg2 hza hzb
  by_cases hab : a = b
  · exact back_E1 a b v u w ht hu hg hg2 hza hzb hab
  · exact back_E0 a b v u w ht hu hg hg2 hza hzb hab
end Go.Proofs.Ytbdhihgokkcmfaa.Ty9
