/- datatype.Turn and slabvaultref09.Turn. -/
import Derived.Test.YtbdhihgokkcmfaaGc
import Derived.Test.YtbdhihgokkcmfaaGf
import Derived.Test.YtbdhihgokkcmfaaPi
import Derived.Laws.ResultCell
namespace Go.Proofs.Ytbdhihgokkcmfaa.Ty9
set_option linter.unusedVariables false
set_option linter.unusedSimpArgs false
open Go.RowKit Wd

def zeroT : Ty := .mk 0 0 false [] [] [] []
noncomputable def tT (bg : Bool) (t : Ty) : Ty := if sz 4 t = 0 then zeroT else tn bg t
theorem zero_seg (w : World) {lo hi : Nat} (h : lo ≤ hi) : Seg w lo hi zeroT (.agg #[.int .i64 0, .int .i64 0, .bool false, .slice none 0 0, .slice none 0 0, .slice none 0 0, .slice none 0 0]) :=
  .mk lo hi lo lo lo lo (fun _ => lo) (fun _ => lo) 0 0 false [] [] [] [] none none none none 0 0 0 0 0 0 0 0 (fun _ _ => .int .i64 0) (fun _ _ => .int .i64 0) (Nat.zero_le _) (Nat.zero_le _) (Nat.zero_le _) (Nat.zero_le _) (fun _ h => absurd h List.not_mem_nil) (fun _ h => absurd h List.not_mem_nil) (fun _ h => absurd h List.not_mem_nil) ⟨Nat.le_refl _, Nat.le_refl _, Nat.le_refl _, Nat.le_refl _⟩
    (fun h => absurd h (Nat.lt_irrefl _)) (fun h => absurd h (Nat.lt_irrefl _)) (fun h => absurd h (Nat.lt_irrefl _)) (fun h => absurd h (Nat.lt_irrefl _)) (fun _ h => absurd h (Nat.not_lt_zero _)) (fun _ h => absurd h (Nat.not_lt_zero _)) (fun _ h => absurd h (Nat.not_lt_zero _)) (fun _ h => absurd h (Nat.not_lt_zero _)) (fun _ h => absurd h (Nat.not_lt_zero _)) (fun _ h => absurd h (Nat.not_lt_zero _)) (fun _ h => absurd h (Nat.not_lt_zero _)) (fun _ h => absurd h (Nat.not_lt_zero _)) (fun _ h => absurd h (Nat.not_lt_zero _))
    (fun h => absurd h (Nat.lt_irrefl _)) (fun h => absurd h (Nat.lt_irrefl _)) (fun h => absurd h (Nat.lt_irrefl _)) (fun h => absurd h (Nat.lt_irrefl _)) (Nat.le_refl _) (Nat.le_refl _) (Nat.le_refl _) (Nat.le_refl _) (Nat.le_refl _) (fun _ _ => Nat.le_refl _) (Nat.le_refl _) (fun _ _ => Nat.le_refl _) h

set_option maxHeartbeats 2000000 in
set_option maxRecDepth 100000 in
theorem pturn_any (bg : Bool) (t : Ty) (hfit : Fit t) (v : Value) (w : World) (ht : TyAt w w.heap.size t v) :
    Calls Try.prog 23 #[v, .bool bg] w fun e w' => ∃ u, e = .returned (.tuple #[u, .int .i64 (errV t)]) ∧ Seg w' w.heap.size w'.heap.size (tT bg t) u ∧ Below w.heap.size w w' := by
  obtain ⟨fA, dA, bA, nA, fC, dC, bC, nC, rfl⟩ := ht.shape
  have HBN := Lib.hid (below_more (below_new w (.cells #[.int .i64 t.c, .int .i64 t.w, .bool t.big, .slice fA t.fs.length fC, .slice dA t.ds.length dC, .slice bA t.bs.length bC, .slice nA t.ns.length nC] 28)) (below_new (w.alloc (.cells #[.int .i64 t.c, .int .i64 t.w, .bool t.big, .slice fA t.fs.length fC, .slice dA t.ds.length dC, .slice bA t.bs.length bC, .slice nA t.ns.length nC] 28)) (.cells #[.int .i64 0, .int .i64 0, .bool false, .slice none 0 0, .slice none 0 0, .slice none 0 0, .slice none 0 0] 28)))
  have HT0 := Lib.hid ht
  have HX1 := Lib.hid ((Bx.new w 28 #[.int .i64 t.c, .int .i64 t.w, .bool t.big, .slice fA t.fs.length fC, .slice dA t.ds.length dC, .slice bA t.bs.length bC, .slice nA t.ns.length nC]).later (below_new (w.alloc (.cells #[.int .i64 t.c, .int .i64 t.w, .bool t.big, .slice fA t.fs.length fC, .slice dA t.ds.length dC, .slice bA t.bs.length bC, .slice nA t.ns.length nC] 28)) (.cells #[.int .i64 0, .int .i64 0, .bool false, .slice none 0 0, .slice none 0 0, .slice none 0 0, .slice none 0 0] 28)) (by simp))
  have hx2 := Bx.new (w.alloc (.cells #[.int .i64 t.c, .int .i64 t.w, .bool t.big, .slice fA t.fs.length fC, .slice dA t.ds.length dC, .slice bA t.bs.length bC, .slice nA t.ns.length nC] 28)) 28 #[.int .i64 0, .int .i64 0, .bool false, .slice none 0 0, .slice none 0 0, .slice none 0 0, .slice none 0 0]
  rw [size_alloc] at hx2
  have HX2 := Lib.hid hx2
  have HFIT := Lib.hid hfit
  have HTW := Lib.hid ((ht.later HBN.out).up HBN.out.size)
  have HS2 := Lib.hid (show ((w.alloc (.cells #[.int .i64 t.c, .int .i64 t.w, .bool t.big, .slice fA t.fs.length fC, .slice dA t.ds.length dC, .slice bA t.bs.length bC, .slice nA t.ns.length nC] 28)).alloc (.cells #[.int .i64 0, .int .i64 0, .bool false, .slice none 0 0, .slice none 0 0, .slice none 0 0, .slice none 0 0] 28)).heap.size = w.heap.size + 2 by simp)
  clear ht hfit hx2
  by_cases hz : sz 4 t = 0
  · have HTT := Lib.hid (show tT bg t = zeroT from if_pos hz)
    have HEV := Lib.hid (show errV t = 15 from if_pos hz)
    clear hz
    rw [HEV.out, HTT.out]
    go_enter Try.func23, Try.ntmps23
    go_wp2_with (go_at_call 17; refine (check_any t _ _ ?_).mono ?_)
    · exact HTW.out
    rintro _ w2 ⟨he, hb2⟩
    rw [HEV.out] at he
    subst he
    have hs2 : w.heap.size + 2 ≤ w2.heap.size := by rw [← HS2.out]; exact hb2.size
    have HW2 := Lib.hid (below_more HBN.out hb2)
    have hx2 := HX2.out.later hb2 (by rw [HS2.out]; omega)
    have r0 : w2.cell? ⟨w.heap.size + 1, 0, none⟩ = some (.int .i64 0) := hx2.cell 0
    have r1 : w2.cell? ⟨w.heap.size + 1, 1, none⟩ = some (.int .i64 0) := hx2.cell 1
    have r2 : w2.cell? ⟨w.heap.size + 1, 2, none⟩ = some (.bool false) := hx2.cell 2
    have r3 : w2.cell? ⟨w.heap.size + 1, 3, none⟩ = some (.slice none 0 0) := hx2.cell 3
    have r4 : w2.cell? ⟨w.heap.size + 1, 4, none⟩ = some (.slice none 0 0) := hx2.cell 4
    have r5 : w2.cell? ⟨w.heap.size + 1, 5, none⟩ = some (.slice none 0 0) := hx2.cell 5
    have r6 : w2.cell? ⟨w.heap.size + 1, 6, none⟩ = some (.slice none 0 0) := hx2.cell 6
    have z0 := hx2.frozen 0
    have z1 := hx2.frozen 1
    have z2 := hx2.frozen 2
    have z3 := hx2.frozen 3
    have z4 := hx2.frozen 4
    have z5 := hx2.frozen 5
    have z6 := hx2.frozen 6
    clear hx2 hb2
    go_wp2
    refine bodyPost_ret (v := .tuple #[.agg #[.int .i64 0, .int .i64 0, .bool false, .slice none 0 0, .slice none 0 0, .slice none 0 0, .slice none 0 0], .int .i64 15]) (by rw [results_cell_tmp rfl]; simp [go_sem, r0, r1, r2, r3, r4, r5, r6]) rfl ⟨_, rfl, ?_, ?_⟩
    · exact zero_seg _ (by simp [World.setCell]; omega)
    · refine Below.setCell (Below.setCell (Below.setCell (Below.setCell (Below.setCell (Below.setCell (Below.setCell HW2.out ?_ _) ?_ _) ?_ _) ?_ _) ?_ _) ?_ _) ?_ _ <;> exact Nat.le_succ _
  · have HTT := Lib.hid (show tT bg t = tn bg t from if_neg hz)
    have HEV := Lib.hid (show errV t = 0 from if_neg hz)
    clear hz
    rw [HEV.out, HTT.out]
    go_enter Try.func23, Try.ntmps23
    go_wp2_with (go_at_call 17; refine (check_any t _ _ ?_).mono ?_)
    · exact HTW.out
    rintro _ w2 ⟨he, hb2⟩
    rw [HEV.out] at he
    subst he
    have hs2 : w.heap.size + 2 ≤ w2.heap.size := by rw [← HS2.out]; exact hb2.size
    have HW2 := Lib.hid (below_more HBN.out hb2)
    have hx2 := HX2.out.later hb2 (by rw [HS2.out]; omega)
    have HX2b := Lib.hid hx2
    have hx1 := HX1.out.later hb2 (by rw [HS2.out]; omega)
    have d0 : w2.cell? ⟨w.heap.size, 0, none⟩ = some (.int .i64 t.c) := hx1.cell 0
    have d1 : w2.cell? ⟨w.heap.size, 1, none⟩ = some (.int .i64 t.w) := hx1.cell 1
    have d2 : w2.cell? ⟨w.heap.size, 2, none⟩ = some (.bool t.big) := hx1.cell 2
    have d3 : w2.cell? ⟨w.heap.size, 3, none⟩ = some (.slice fA t.fs.length fC) := hx1.cell 3
    have d4 : w2.cell? ⟨w.heap.size, 4, none⟩ = some (.slice dA t.ds.length dC) := hx1.cell 4
    have d5 : w2.cell? ⟨w.heap.size, 5, none⟩ = some (.slice bA t.bs.length bC) := hx1.cell 5
    have d6 : w2.cell? ⟨w.heap.size, 6, none⟩ = some (.slice nA t.ns.length nC) := hx1.cell 6
    clear hx2 hx1 hb2
    go_wp2_with (go_at_call 39; refine (turn_any bg t HFIT.out _ w2 ((HT0.out.later HW2.out).up HW2.out.size)).mono ?_)
    first
      | rintro _ w3 u rfl hsg hb3
      | rintro _ w3 ⟨u, rfl, hsg, hb3⟩
    obtain ⟨T, hT⟩ : ∃ T, tn bg t = T := ⟨_, rfl⟩
    rw [hT] at hsg
    have HT := Lib.hid hT
    obtain ⟨fA9, dA9, bA9, nA9, fC9, dC9, bC9, nC9, rfl⟩ := (hsg.ty (Nat.le_refl _)).shape
    have HSG := Lib.hid hsg
    have HW3 := Lib.hid (below_more HW2.out hb3)
    have hs3 := hb3.size
    have hx2 := HX2b.out.later hb3 (by omega)
    have r0 : w3.cell? ⟨w.heap.size + 1, 0, none⟩ = some (.int .i64 0) := hx2.cell 0
    have r1 : w3.cell? ⟨w.heap.size + 1, 1, none⟩ = some (.int .i64 0) := hx2.cell 1
    have r2 : w3.cell? ⟨w.heap.size + 1, 2, none⟩ = some (.bool false) := hx2.cell 2
    have r3 : w3.cell? ⟨w.heap.size + 1, 3, none⟩ = some (.slice none 0 0) := hx2.cell 3
    have r4 : w3.cell? ⟨w.heap.size + 1, 4, none⟩ = some (.slice none 0 0) := hx2.cell 4
    have r5 : w3.cell? ⟨w.heap.size + 1, 5, none⟩ = some (.slice none 0 0) := hx2.cell 5
    have r6 : w3.cell? ⟨w.heap.size + 1, 6, none⟩ = some (.slice none 0 0) := hx2.cell 6
    have z0 := hx2.frozen 0
    have z1 := hx2.frozen 1
    have z2 := hx2.frozen 2
    have z3 := hx2.frozen 3
    have z4 := hx2.frozen 4
    have z5 := hx2.frozen 5
    have z6 := hx2.frozen 6
    clear hx2 hb3 hT d0 d1 d2 d3 d4 d5 d6 hsg
    go_wp2
    rw [HT.out]
    refine bodyPost_ret (v := .tuple #[.agg #[.int .i64 T.c, .int .i64 T.w, .bool T.big, .slice fA9 T.fs.length fC9, .slice dA9 T.ds.length dC9, .slice bA9 T.bs.length bC9, .slice nA9 T.ns.length nC9], .int .i64 0]) (by rw [results_cell_tmp rfl]; simp [go_sem, r0, r1, r2, r3, r4, r5, r6]) rfl ⟨_, rfl, ?_, ?_⟩
    · refine (Seg.keep HSG.out fun g h1 h2 => ?_).widen (by omega) (by simp [World.setCell])
      have hne : g ≠ w.heap.size + 1 := by omega
      rw [Below.heap_setCell _ _ _ _ hne, Below.heap_setCell _ _ _ _ hne, Below.heap_setCell _ _ _ _ hne, Below.heap_setCell _ _ _ _ hne, Below.heap_setCell _ _ _ _ hne, Below.heap_setCell _ _ _ _ hne, Below.heap_setCell _ _ _ _ hne]
    · refine Below.setCell (Below.setCell (Below.setCell (Below.setCell (Below.setCell (Below.setCell (Below.setCell HW3.out ?_ _) ?_ _) ?_ _) ?_ _) ?_ _) ?_ _) ?_ _ <;> exact Nat.le_succ _

set_option maxHeartbeats 2000000 in
set_option maxRecDepth 100000 in
theorem rturn_any (bg : Bool) (t : Ty) (hfit : Fit t) (v : Value) (w : World) (ht : TyAt w w.heap.size t v) :
    Calls Try.prog 24 #[v, .bool bg] w fun e w' => ∃ u, e = .returned (.tuple #[u, .int .i64 (errV t)]) ∧ TyAt w' w'.heap.size (tT bg t) u ∧ Below w.heap.size w w' := by
  obtain ⟨fA, dA, bA, nA, fC, dC, bC, nC, rfl⟩ := ht.shape
  have HBN := Lib.hid (below_more (below_new w (.cells #[.int .i64 t.c, .int .i64 t.w, .bool t.big, .slice fA t.fs.length fC, .slice dA t.ds.length dC, .slice bA t.bs.length bC, .slice nA t.ns.length nC] 28)) (below_new (w.alloc (.cells #[.int .i64 t.c, .int .i64 t.w, .bool t.big, .slice fA t.fs.length fC, .slice dA t.ds.length dC, .slice bA t.bs.length bC, .slice nA t.ns.length nC] 28)) (.cells #[.int .i64 0, .int .i64 0, .bool false, .slice none 0 0, .slice none 0 0, .slice none 0 0, .slice none 0 0] 28)))
  have HT0 := Lib.hid ht
  have HX1 := Lib.hid ((Bx.new w 28 #[.int .i64 t.c, .int .i64 t.w, .bool t.big, .slice fA t.fs.length fC, .slice dA t.ds.length dC, .slice bA t.bs.length bC, .slice nA t.ns.length nC]).later (below_new (w.alloc (.cells #[.int .i64 t.c, .int .i64 t.w, .bool t.big, .slice fA t.fs.length fC, .slice dA t.ds.length dC, .slice bA t.bs.length bC, .slice nA t.ns.length nC] 28)) (.cells #[.int .i64 0, .int .i64 0, .bool false, .slice none 0 0, .slice none 0 0, .slice none 0 0, .slice none 0 0] 28)) (by simp))
  have hx2 := Bx.new (w.alloc (.cells #[.int .i64 t.c, .int .i64 t.w, .bool t.big, .slice fA t.fs.length fC, .slice dA t.ds.length dC, .slice bA t.bs.length bC, .slice nA t.ns.length nC] 28)) 28 #[.int .i64 0, .int .i64 0, .bool false, .slice none 0 0, .slice none 0 0, .slice none 0 0, .slice none 0 0]
  rw [size_alloc] at hx2
  have HX2 := Lib.hid hx2
  have HFIT := Lib.hid hfit
  have HTW := Lib.hid ((ht.later HBN.out).up HBN.out.size)
  have HS2 := Lib.hid (show ((w.alloc (.cells #[.int .i64 t.c, .int .i64 t.w, .bool t.big, .slice fA t.fs.length fC, .slice dA t.ds.length dC, .slice bA t.bs.length bC, .slice nA t.ns.length nC] 28)).alloc (.cells #[.int .i64 0, .int .i64 0, .bool false, .slice none 0 0, .slice none 0 0, .slice none 0 0, .slice none 0 0] 28)).heap.size = w.heap.size + 2 by simp)
  clear ht hfit hx2
  by_cases hz : sz 4 t = 0
  · have HTT := Lib.hid (show tT bg t = zeroT from if_pos hz)
    have HEV := Lib.hid (show errV t = 15 from if_pos hz)
    have HSV := Lib.hid (show sizeV t = .tuple #[.int .i64 0, .int .i64 15] from if_pos hz)
    clear hz
    rw [HEV.out, HTT.out]
    go_enter Try.func24, Try.ntmps24
    go_wp2_with (go_at_call 16; refine (rsize_any t _ _ ?_).mono ?_)
    · exact HTW.out
    rintro _ w2 ⟨he, hb2⟩
    rw [HSV.out] at he
    subst he
    have hs2 : w.heap.size + 2 ≤ w2.heap.size := by rw [← HS2.out]; exact hb2.size
    have HW2 := Lib.hid (below_more HBN.out hb2)
    have hx2 := HX2.out.later hb2 (by rw [HS2.out]; omega)
    have r0 : w2.cell? ⟨w.heap.size + 1, 0, none⟩ = some (.int .i64 0) := hx2.cell 0
    have r1 : w2.cell? ⟨w.heap.size + 1, 1, none⟩ = some (.int .i64 0) := hx2.cell 1
    have r2 : w2.cell? ⟨w.heap.size + 1, 2, none⟩ = some (.bool false) := hx2.cell 2
    have r3 : w2.cell? ⟨w.heap.size + 1, 3, none⟩ = some (.slice none 0 0) := hx2.cell 3
    have r4 : w2.cell? ⟨w.heap.size + 1, 4, none⟩ = some (.slice none 0 0) := hx2.cell 4
    have r5 : w2.cell? ⟨w.heap.size + 1, 5, none⟩ = some (.slice none 0 0) := hx2.cell 5
    have r6 : w2.cell? ⟨w.heap.size + 1, 6, none⟩ = some (.slice none 0 0) := hx2.cell 6
    have z0 := hx2.frozen 0
    have z1 := hx2.frozen 1
    have z2 := hx2.frozen 2
    have z3 := hx2.frozen 3
    have z4 := hx2.frozen 4
    have z5 := hx2.frozen 5
    have z6 := hx2.frozen 6
    clear hx2 hb2
    go_wp2
    refine bodyPost_ret (v := .tuple #[.agg #[.int .i64 0, .int .i64 0, .bool false, .slice none 0 0, .slice none 0 0, .slice none 0 0, .slice none 0 0], .int .i64 15]) (by rw [results_cell_tmp rfl]; simp [go_sem, r0, r1, r2, r3, r4, r5, r6]) rfl ⟨_, rfl, ?_, ?_⟩
    · exact (zero_seg _ (Nat.le_refl 0)).ty (Nat.zero_le _)
    · refine Below.setCell (Below.setCell (Below.setCell (Below.setCell (Below.setCell (Below.setCell (Below.setCell HW2.out ?_ _) ?_ _) ?_ _) ?_ _) ?_ _) ?_ _) ?_ _ <;> exact Nat.le_succ _
  · have HTT := Lib.hid (show tT bg t = tn bg t from if_neg hz)
    have HEV := Lib.hid (show errV t = 0 from if_neg hz)
    have HSV := Lib.hid (show sizeV t = .tuple #[.int .i64 (sz 4 t), .int .i64 0] from if_neg hz)
    clear hz
    rw [HEV.out, HTT.out]
    go_enter Try.func24, Try.ntmps24
    go_wp2_with (go_at_call 16; refine (rsize_any t _ _ ?_).mono ?_)
    · exact HTW.out
    rintro _ w2 ⟨he, hb2⟩
    rw [HSV.out] at he
    subst he
    have hs2 : w.heap.size + 2 ≤ w2.heap.size := by rw [← HS2.out]; exact hb2.size
    have HW2 := Lib.hid (below_more HBN.out hb2)
    have hx2 := HX2.out.later hb2 (by rw [HS2.out]; omega)
    have HX2b := Lib.hid hx2
    have hx1 := HX1.out.later hb2 (by rw [HS2.out]; omega)
    have d0 : w2.cell? ⟨w.heap.size, 0, none⟩ = some (.int .i64 t.c) := hx1.cell 0
    have d1 : w2.cell? ⟨w.heap.size, 1, none⟩ = some (.int .i64 t.w) := hx1.cell 1
    have d2 : w2.cell? ⟨w.heap.size, 2, none⟩ = some (.bool t.big) := hx1.cell 2
    have d3 : w2.cell? ⟨w.heap.size, 3, none⟩ = some (.slice fA t.fs.length fC) := hx1.cell 3
    have d4 : w2.cell? ⟨w.heap.size, 4, none⟩ = some (.slice dA t.ds.length dC) := hx1.cell 4
    have d5 : w2.cell? ⟨w.heap.size, 5, none⟩ = some (.slice bA t.bs.length bC) := hx1.cell 5
    have d6 : w2.cell? ⟨w.heap.size, 6, none⟩ = some (.slice nA t.ns.length nC) := hx1.cell 6
    clear hx2 hx1 hb2
    go_wp2_with (go_at_call 40; refine (turned_any bg t HFIT.out _ w.heap.size w2 HW2.out.size (HT0.out.later HW2.out)).mono ?_)
    first
      | rintro _ w3 u rfl S hL hS hb3
      | rintro _ w3 ⟨u, S, rfl, hL, hS, hb3⟩
    obtain ⟨T, hT⟩ : ∃ T, tn bg t = T := ⟨_, rfl⟩
    rw [hT] at hL
    have HT := Lib.hid hT
    obtain ⟨fA9, dA9, bA9, nA9, fC9, dC9, bC9, nC9, rfl⟩ := hL.here.shape
    have HL := Lib.hid hL
    have HS := Lib.hid hS
    have HW3 := Lib.hid (below_more HW2.out hb3)
    have hs3 := hb3.size
    have hx2 := HX2b.out.later hb3 (by omega)
    have r0 : w3.cell? ⟨w.heap.size + 1, 0, none⟩ = some (.int .i64 0) := hx2.cell 0
    have r1 : w3.cell? ⟨w.heap.size + 1, 1, none⟩ = some (.int .i64 0) := hx2.cell 1
    have r2 : w3.cell? ⟨w.heap.size + 1, 2, none⟩ = some (.bool false) := hx2.cell 2
    have r3 : w3.cell? ⟨w.heap.size + 1, 3, none⟩ = some (.slice none 0 0) := hx2.cell 3
    have r4 : w3.cell? ⟨w.heap.size + 1, 4, none⟩ = some (.slice none 0 0) := hx2.cell 4
    have r5 : w3.cell? ⟨w.heap.size + 1, 5, none⟩ = some (.slice none 0 0) := hx2.cell 5
    have r6 : w3.cell? ⟨w.heap.size + 1, 6, none⟩ = some (.slice none 0 0) := hx2.cell 6
    have z0 := hx2.frozen 0
    have z1 := hx2.frozen 1
    have z2 := hx2.frozen 2
    have z3 := hx2.frozen 3
    have z4 := hx2.frozen 4
    have z5 := hx2.frozen 5
    have z6 := hx2.frozen 6
    clear hx2 hb3 hT d0 d1 d2 d3 d4 d5 d6 hL hS
    go_wp2
    rw [HT.out]
    refine bodyPost_ret (v := .tuple #[.agg #[.int .i64 T.c, .int .i64 T.w, .bool T.big, .slice fA9 T.fs.length fC9, .slice dA9 T.ds.length dC9, .slice bA9 T.bs.length bC9, .slice nA9 T.ns.length nC9], .int .i64 0]) (by rw [results_cell_tmp rfl]; simp [go_sem, r0, r1, r2, r3, r4, r5, r6]) rfl ⟨_, rfl, ?_, ?_⟩
    · refine HL.out.2 _ (fun g hg => ?_) _ (fun g hg => by have := HL.out.1 g hg; simpa [World.setCell] using this)
      have hne : g ≠ w.heap.size + 1 := by have := HS.out g hg; omega
      rw [Below.heap_setCell _ _ _ _ hne, Below.heap_setCell _ _ _ _ hne, Below.heap_setCell _ _ _ _ hne, Below.heap_setCell _ _ _ _ hne, Below.heap_setCell _ _ _ _ hne, Below.heap_setCell _ _ _ _ hne, Below.heap_setCell _ _ _ _ hne]
    · refine Below.setCell (Below.setCell (Below.setCell (Below.setCell (Below.setCell (Below.setCell (Below.setCell HW3.out ?_ _) ?_ _) ?_ _) ?_ _) ?_ _) ?_ _) ?_ _ <;> exact Nat.le_succ _
end Go.Proofs.Ytbdhihgokkcmfaa.Ty9
