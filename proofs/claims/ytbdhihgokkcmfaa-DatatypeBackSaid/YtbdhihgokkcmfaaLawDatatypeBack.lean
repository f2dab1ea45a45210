/- DatatypeBack: for every input the law returns true and leaves its arguments as they were. No condition. -/
import Derived.Test.YtbdhihgokkcmfaaRows
import Derived.Test.YtbdhihgokkcmfaaSck
import Derived.Test.YtbdhihgokkcmfaaAr
import Derived.WalkKit
import Derived.ProofKit
import Derived.OpenShut
import Derived.SizedLaws
import Derived.Carry
namespace Go.Proofs.Ytbdhihgokkcmfaa.datatypeBack
open Go.ChangeShapes Go.WideShapes Go.ChangeAt Go.RowKit

theorem own : ownKnob Try.prog.godebug = none := by kernel_rfl
theorem laidOut : laidOutB Try.prog = true := by kernel_rfl

set_option maxRecDepth 100000 in
theorem lifted (os : Os) (started : os.Started) (H : Type) (enc : TypeId × Value → H) :
    ReturnsInHanded {} Try.checked os 11 .any (Rows.datatypeBackSpec.pre6 enc Try.prog Try.f11 Rows.datatypeBackRow.domain false) (Rows.datatypeBackSpec.post enc Try.prog Try.f11 false true false false) := by
  refine returnsInHanded_of_change_sized (C := Try.checked) own started (by kernel_rfl) Try.func11
    (ChangeSpec.witness6 (enc := enc) (C := Try.checked) false ⟨#[], #[.agg #[.int .i64 0, .int .i64 0, .bool false, .slice none 0 0, .slice none 0 0, .slice none 0 0, .slice none 0 0], .agg #[.int .i64 0, .int .i64 0, .bool false, .slice none 0 0, .slice none 0 0, .slice none 0 0, .slice none 0 0]], []⟩ 11 (by kernel_rfl) (by kernel_rfl) (by kernel_rfl) (by kernel_rfl)) ?_
  intro W base args ds gs before hval0 hW hcnd hsz0 _
  have hval : ∀ (j : Nat) t v, Try.f11.params[j]? = some t → args[j]? = some v → Value.okWide Try.prog W .any base t v := hval0
  have hW' := hW
  obtain ⟨p, q, hA0, hV, rfl, hfz, hnd⟩ := hW
  have hA : DataW.TrodAll enc Try.prog W 0 (fun _ => true) true Try.f11.params.toList args.toList ds p := hA0
  rw [Try.params11] at hA hval
  obtain ⟨v0, vs0, d0, ds0, p0, q0, hargs, rfl, rfl, h0, r0⟩ := trodAll_cons hA
  obtain ⟨v1, vs1, d1, ds1, p1, q1, rfl, rfl, rfl, h1, r1⟩ := trodAll_cons r0
  obtain ⟨rfl, rfl, rfl⟩ := trodAll_nil r1
  obtain rfl : args = #[v0, v1] := by cases args; simp_all
  obtain ⟨rfl, rfl⟩ := trodVars_none hV
  have hsz : (DataW.weightsEach Try.prog [28, 28] [d0, d1]).all (fun z => decide (z ≤ reachBytes)) = true := hsz0
  have hwt : Ty9.Wt 28 d0 := Ty9.wt_each hsz (j := 0) rfl rfl
  obtain ⟨fuel, hf⟩ := h0
  obtain ⟨t, ht, hfit⟩ := Ty9.open_ty2 fuel _ _ hf hwt
  have hv : v0 = .agg v0.cells.toList.toArray := by
    obtain ⟨m, _, hl, _⟩ := Ty9.trod_agg Try.underlying28 hf hwt
    rw [Ty9.cells7] at hl
    exact Ty9.agg_of hl
  rw [← hv] at ht
  have hwt1 : Ty9.Wt 28 d1 := Ty9.wt_each hsz (j := 1) rfl rfl
  obtain ⟨fuel1, hf1⟩ := h1
  obtain ⟨s, hs, hfit1⟩ := Ty9.open_ty2 fuel1 _ _ hf1 hwt1
  have hv1 : v1 = .agg v1.cells.toList.toArray := by
    obtain ⟨m, _, hl, _⟩ := Ty9.trod_agg Try.underlying28 hf1 hwt1
    rw [Ty9.cells7] at hl
    exact Ty9.agg_of hl
  rw [← hv1] at hs
  have hlt : ∀ x ∈ p0, x.block < W.heap.size := fun x hx => by simpa using hW'.lt x (by simp [hx])
  have hlt1 : ∀ x ∈ p1, x.block < W.heap.size := fun x hx => by simpa using hW'.lt x (by simp [hx])
  clear hA0 hval0
  simp only [List.append_nil] at hW'
  refine (Ty9.back_walk t s v0 v1 W ht hs hfit hfit1).mono fun e W' ⟨he, hb⟩ => ?_
  subst he
  exact ⟨_, rfl, [d0, d1], [], _, [], p0 ++ (p1 ++ []), [], hW', trodAll_cons_mk (shut_bool Try.underlying4 _) trodAll_mk0, trodAll_cons_mk (Below.trod laidOut (by kernel_rfl) (of_decide_eq_true (by kernel_rfl)) ⟨fuel, hf⟩ hb hlt) (trodAll_cons_mk (Below.trod laidOut (by kernel_rfl) (of_decide_eq_true (by kernel_rfl)) ⟨fuel1, hf1⟩ hb hlt1) trodAll_mk0), rfl,
    hb.frame _, fun h => by cases h⟩

theorem over : Rows.datatypeBackRow.holds Try.pinned (OpenSpec.ofChange Rows.datatypeBackSpec) :=
  OpenClaim.holds_of_wide 11 Try.f11 rfl rfl rfl rfl rfl rfl rfl ⟨rfl, rfl, rfl, rfl, rfl⟩ rfl rfl rfl rfl rfl (by kernel_rfl) Try.func11 (by kernel_rfl)
    (of_decide_eq_true (by kernel_rfl)) (by unfold Func.isWrapper; first | (rw [if_pos (by decide +kernel)]; kernel_rfl) | (rw [if_neg (by decide +kernel)]; exact ⟨rfl, rfl⟩))
    (fun os started H enc _ => lifted os started H enc)

/-- The statement. -/
theorem proved : Rows.DatatypeBackSaid :=
  over
#print axioms proved
end Go.Proofs.Ytbdhihgokkcmfaa.datatypeBack
namespace Go.Proofs.Ytbdhihgokkcmfaa
/-- The row, under a short name, for the claim. -/
theorem datatypeBack_holds : Rows.DatatypeBackSaid := datatypeBack.proved
end Go.Proofs.Ytbdhihgokkcmfaa
