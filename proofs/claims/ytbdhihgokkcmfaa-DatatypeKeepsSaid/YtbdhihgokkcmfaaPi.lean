/- The program's Size and Check. -/
import Derived.Test.YtbdhihgokkcmfaaPh
namespace Go.Proofs.Ytbdhihgokkcmfaa.Ty9
set_option linter.unusedVariables false
set_option linter.unusedSimpArgs false
open Go.RowKit Wd

set_option maxHeartbeats 2000000 in
theorem psizeV_any (t : Ty) (v : Value) (w : World) (ht : TyAt w w.heap.size t v) :
    Calls Try.prog 15 #[v] w fun e w' => e = .returned (sizeV t) ∧ Below w.heap.size w w' := by
  obtain ⟨fA, dA, bA, nA, fC, dC, bC, nC, rfl⟩ := ht.shape
  have HT := Lib.hid ((ht.later (below_new w (.cells #[.int .i64 t.c, .int .i64 t.w, .bool t.big, .slice fA t.fs.length fC, .slice dA t.ds.length dC, .slice bA t.bs.length bC, .slice nA t.ns.length nC] 28))).up (below_new w (.cells #[.int .i64 t.c, .int .i64 t.w, .bool t.big, .slice fA t.fs.length fC, .slice dA t.ds.length dC, .slice bA t.bs.length bC, .slice nA t.ns.length nC] 28)).size)
  clear ht
  have hrg := sz_ge 4 t
  generalize hr : sz 4 t = r at *
  have HR := Lib.hid hr
  have hv : sizeV t = if r = 0 then .tuple #[.int .i64 0, .int .i64 15] else .tuple #[.int .i64 r, .int .i64 0] := by rw [sizeV, hr]
  rw [hv]
  clear hr hv
  go_enter Try.func15, Try.ntmps15
  go_wp2_with (go_at_call 33; refine (psize_any 4 (by omega) t _ _ ?_).mono ?_)
  · exact HT.out
  rintro _ w2 ⟨he, hb2⟩
  rw [HR.out] at he
  subst he
  have HW := Lib.hid (below_more (below_new _ _) hb2)
  clear hb2
  by_cases hz : r = 0
  · subst hz
    go_wp2
    go_ret2
    exact ⟨rfl, HW.out⟩
  · have hb : (r == 0) = false := beq_eq_false_iff_ne.mpr hz
    have hpos : 0 < r := by omega
    have hif : (if r = 0 then Value.tuple #[.int .i64 0, .int .i64 15] else .tuple #[.int .i64 r, .int .i64 0]) = .tuple #[.int .i64 r, .int .i64 0] := if_neg hz
    have HIF := Lib.hid hif
    clear hif
    go_wp2
    go_ret2
    exact ⟨by first | rfl | (rw [HIF.out]; rfl), HW.out⟩

def errOf (t : Ty) : Prop := sz 4 t = 0
/-- The error's number of a type. -/
noncomputable def errV (t : Ty) : Int := if sz 4 t = 0 then 15 else 0
set_option maxHeartbeats 2000000 in
theorem check_any (t : Ty) (v : Value) (w : World) (ht : TyAt w w.heap.size t v) :
    Calls Try.prog 17 #[v] w fun e w' => e = .returned (.int .i64 (errV t)) ∧ Below w.heap.size w w' := by
  obtain ⟨fA, dA, bA, nA, fC, dC, bC, nC, rfl⟩ := ht.shape
  have HT := Lib.hid ((ht.later (below_new w (.cells #[.int .i64 t.c, .int .i64 t.w, .bool t.big, .slice fA t.fs.length fC, .slice dA t.ds.length dC, .slice bA t.bs.length bC, .slice nA t.ns.length nC] 28))).up (below_new w (.cells #[.int .i64 t.c, .int .i64 t.w, .bool t.big, .slice fA t.fs.length fC, .slice dA t.ds.length dC, .slice bA t.bs.length bC, .slice nA t.ns.length nC] 28)).size)
  clear ht
  have hrg := sz_ge 4 t
  have hv : sizeV t = if sz 4 t = 0 then .tuple #[.int .i64 0, .int .i64 15] else .tuple #[.int .i64 (sz 4 t), .int .i64 0] := rfl
  have HV := Lib.hid hv
  generalize he : errV t = E
  have HE := Lib.hid (show E = if sz 4 t = 0 then 15 else 0 from he.symm)
  clear hv he
  go_enter Try.func17, Try.ntmps17
  go_wp2_with (go_at_call 15; refine (psizeV_any t _ _ ?_).mono ?_)
  · exact HT.out
  rintro _ w2 ⟨he, hb2⟩
  have HW := Lib.hid (below_more (below_new _ _) hb2)
  clear hb2
  by_cases hz : sz 4 t = 0
  · have h1 := HV.out
    rw [if_pos hz] at h1
    rw [h1] at he
    have HE2 := Lib.hid (HE.out.trans (if_pos hz))
    subst he
    clear HV HE h1 hz hrg
    go_wp2
    go_ret
    exact ⟨by rw [HE2.out]; rfl, HW.out⟩
  · have h1 := HV.out
    rw [if_neg hz] at h1
    rw [h1] at he
    have HE2 := Lib.hid (HE.out.trans (if_neg hz))
    subst he
    clear HV HE h1 hz hrg
    go_wp2
    go_ret
    exact ⟨by rw [HE2.out]; rfl, HW.out⟩
end Go.Proofs.Ytbdhihgokkcmfaa.Ty9
