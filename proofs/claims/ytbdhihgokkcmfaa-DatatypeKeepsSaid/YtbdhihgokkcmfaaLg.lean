/- The program's Bytes. -/
import Derived.Test.YtbdhihgokkcmfaaLd
namespace Go.Proofs.Ytbdhihgokkcmfaa.Ty9
set_option linter.unusedVariables false
set_option linter.unusedSimpArgs false
open Go.RowKit Wd

set_option maxHeartbeats 2000000 in
set_option maxRecDepth 100000 in
theorem bytes_no (t : Ty) (v : Value) (w : World) (ht : TyAt w w.heap.size t v) (hz : sz 4 t = 0) :
    Calls Try.prog 21 #[v] w fun e w' => e = .returned (.tuple #[.slice none 0 0, .int .i64 15]) ∧ Below w.heap.size w w' := by
  obtain ⟨fA, dA, bA, nA, fC, dC, bC, nC, rfl⟩ := ht.shape
  have HT := Lib.hid ((ht.later (below_new w (.cells #[.int .i64 t.c, .int .i64 t.w, .bool t.big, .slice fA t.fs.length fC, .slice dA t.ds.length dC, .slice bA t.bs.length bC, .slice nA t.ns.length nC] 28))).up (below_new w (.cells #[.int .i64 t.c, .int .i64 t.w, .bool t.big, .slice fA t.fs.length fC, .slice dA t.ds.length dC, .slice bA t.bs.length bC, .slice nA t.ns.length nC] 28)).size)
  have HE := Lib.hid (show errV t = 15 from if_pos hz)
  clear ht hz
  go_enter Try.func21, Try.ntmps21
  go_wp2_with (go_at_call 17; refine (check_any t _ _ ?_).mono ?_)
  · exact HT.out
  rintro _ w2 ⟨he, hb2⟩
  rw [HE.out] at he
  subst he
  have HW := Lib.hid (below_more (below_new _ _) hb2)
  clear hb2
  go_wp2
  go_ret2
  exact ⟨rfl, HW.out⟩

set_option maxHeartbeats 2000000 in
set_option maxRecDepth 100000 in
theorem bytes_yes (t : Ty) (v : Value) (w : World) (ht : TyAt w w.heap.size t v) (hz : sz 4 t ≠ 0) :
    Calls Try.prog 21 #[v] w fun e w' => ∃ V, e = .returned (.tuple #[V, .int .i64 0]) ∧ w'.ownsRow w.heap.size 5 1 V (lb t).length (by8 (lb t)) ∧ (∀ x ∈ lb t, x < 256) ∧ Below w.heap.size w w' := by
  obtain ⟨fA, dA, bA, nA, fC, dC, bC, nC, rfl⟩ := ht.shape
  have HT0 := Lib.hid ht
  have HT := Lib.hid ((ht.later (below_new w (.cells #[.int .i64 t.c, .int .i64 t.w, .bool t.big, .slice fA t.fs.length fC, .slice dA t.ds.length dC, .slice bA t.bs.length bC, .slice nA t.ns.length nC] 28))).up (below_new w (.cells #[.int .i64 t.c, .int .i64 t.w, .bool t.big, .slice fA t.fs.length fC, .slice dA t.ds.length dC, .slice bA t.bs.length bC, .slice nA t.ns.length nC] 28)).size)
  have HBX := Lib.hid (Bx.new w 28 #[.int .i64 t.c, .int .i64 t.w, .bool t.big, .slice fA t.fs.length fC, .slice dA t.ds.length dC, .slice bA t.bs.length bC, .slice nA t.ns.length nC])
  have HE := Lib.hid (show errV t = 0 from if_neg hz)
  have HZ := Lib.hid hz
  clear ht hz
  go_enter Try.func21, Try.ntmps21
  go_wp2_with (go_at_call 17; refine (check_any t _ _ ?_).mono ?_)
  · exact HT.out
  rintro _ w2 ⟨he, hb2⟩
  rw [HE.out] at he
  subst he
  have HW := Lib.hid (below_more (below_new _ _) hb2)
  have HBX2 := Lib.hid (HBX.out.later hb2 (by simp))
  have c0 := HBX2.out.cell 0
  have c1 := HBX2.out.cell 1
  have c2 := HBX2.out.cell 2
  have c3 := HBX2.out.cell 3
  have c4 := HBX2.out.cell 4
  have c5 := HBX2.out.cell 5
  have c6 := HBX2.out.cell 6
  have hlt := HBX2.out.lt
  clear hb2 HBX HT
  go_wp2_with (go_at_call 37; refine (lay_any 4 (by omega) w2.heap.size w.heap.size t _ (.slice none 0 0) [] w2 HZ.out ?_ (by omega) (Nat.le_refl _) (World.ownsRow_nil _ _ _ _) (fun y hy => absurd hy (List.not_mem_nil)) (by simp)).mono ?_)
  · exact HT0.out.later HW.out
  rintro _ w3 ⟨V, rfl, hr⟩
  rw [List.nil_append] at hr
  have HR := Lib.hid hr
  have HW3 := Lib.hid (HW.out.trans (hr.keep (B := w.heap.size) HW.out.size (fun k hk => by cases hk)))
  clear hr
  go_wp2
  go_ret2
  exact ⟨V, rfl, own_base HR.out.own HW.out.size, HR.out.lt, HW3.out⟩
end Go.Proofs.Ytbdhihgokkcmfaa.Ty9
