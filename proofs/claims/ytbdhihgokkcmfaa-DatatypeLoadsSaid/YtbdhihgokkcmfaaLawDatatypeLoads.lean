/- DatatypeLoads: for every input the law returns true and leaves its arguments as they were. No condition. -/
import Derived.Test.YtbdhihgokkcmfaaRows
import Derived.Test.YtbdhihgokkcmfaaSch
import Derived.Test.YtbdhihgokkcmfaaSci
import Derived.WalkKit
import Derived.ProofKit
import Derived.OpenShut
import Derived.SizedLaws
import Derived.Carry
namespace Go.Proofs.Ytbdhihgokkcmfaa.datatypeLoads
open Go.ChangeShapes Go.WideShapes Go.ChangeAt Go.RowKit

theorem own : ownKnob Try.prog.godebug = none := by kernel_rfl
theorem laidOut : laidOutB Try.prog = true := by kernel_rfl

set_option maxRecDepth 100000 in
theorem lifted (os : Os) (started : os.Started) (H : Type) (enc : TypeId × Value → H) :
    ReturnsInHanded {} Try.checked os 10 .any (Rows.datatypeLoadsSpec.pre6 enc Try.prog Try.f10 Rows.datatypeLoadsRow.domain false) (Rows.datatypeLoadsSpec.post enc Try.prog Try.f10 false true false false) := by
  refine returnsInHanded_of_change_sized (C := Try.checked) own started (by kernel_rfl) Try.func10
    (ChangeSpec.witness6 (enc := enc) (C := Try.checked) false ⟨#[], #[.slice none 0 0], []⟩ 10 (by kernel_rfl) (by kernel_rfl) (by kernel_rfl) (by kernel_rfl)) ?_
  intro W base args ds gs before hval0 hW hcnd hsz0 _
  have hval : ∀ (j : Nat) t v, Try.f10.params[j]? = some t → args[j]? = some v → Value.okWide Try.prog W .any base t v := hval0
  have hW' := hW
  obtain ⟨p, q, hA, hV, rfl, hfz, hnd⟩ := hW
  have hA : DataW.TrodAll enc Try.prog W 0 (fun _ => true) true Try.f10.params.toList args.toList ds p := hA
  rw [Try.params10] at hA hval
  obtain ⟨v0, vs0, d0, ds0, p0, q0, hargs, rfl, rfl, h0, r0⟩ := trodAll_cons hA
  obtain ⟨rfl, rfl, rfl⟩ := trodAll_nil r0
  obtain rfl : args = #[v0] := by cases args; simp_all
  obtain ⟨rfl, rfl⟩ := trodVars_none hV
  have hsz : (DataW.weightsEach Try.prog [49] [d0]).all (fun z => decide (z ≤ reachBytes)) = true := hsz0
  have hwt0 : Ty9.Wt 49 d0 := Ty9.wt_each hsz (j := 0) rfl rfl
  obtain ⟨fuel0, hf0⟩ := h0
  obtain ⟨A0, n0, C0, rfl⟩ := Go.WideShapes.okWide_slice Try.underlying49 (hval 0 49 _ rfl rfl)
  obtain ⟨A0', n0', C0', bs0, hcs0, hc0, hn0, hby0⟩ := Ty9.open_bytes fuel0 _ _ hf0 hwt0
  simp [Value.cells] at hcs0
  obtain ⟨rfl, rfl, rfl⟩ := hcs0
  have hlt0 : ∀ x ∈ p0, x.block < W.heap.size := fun x hx => by simpa using hW'.lt x (by simp [hx])
  clear hval0
  simp only [List.append_nil] at hW'
  refine (Ty9.loads_walk W A0 n0 C0 bs0 hn0 hc0 hby0).mono fun e W' ⟨he, hb⟩ => ?_
  subst he
  exact ⟨_, rfl, [d0], [], _, [], p0 ++ ([]), [], hW', trodAll_cons_mk (shut_bool Try.underlying4 _) trodAll_mk0, (trodAll_cons_mk (Below.trod laidOut (by kernel_rfl) (of_decide_eq_true (by kernel_rfl)) ⟨fuel0, hf0⟩ hb hlt0) trodAll_mk0), rfl,
    hb.frame _, fun h => by cases h⟩

theorem over : Rows.datatypeLoadsRow.holds Try.pinned (OpenSpec.ofChange Rows.datatypeLoadsSpec) :=
  OpenClaim.holds_of_wide 10 Try.f10 rfl rfl rfl rfl rfl rfl rfl ⟨rfl, rfl, rfl, rfl, rfl⟩ rfl rfl rfl rfl rfl (by kernel_rfl) Try.func10 (by kernel_rfl)
    (of_decide_eq_true (by kernel_rfl)) (by unfold Func.isWrapper; first | (rw [if_pos (by decide +kernel)]; kernel_rfl) | (rw [if_neg (by decide +kernel)]; exact ⟨rfl, rfl⟩))
    (fun os started H enc _ => lifted os started H enc)

/-- The statement. -/
theorem proved : Rows.DatatypeLoadsSaid :=
  over
#print axioms proved
end Go.Proofs.Ytbdhihgokkcmfaa.datatypeLoads
namespace Go.Proofs.Ytbdhihgokkcmfaa
/-- The row, under a short name, for the claim. -/
theorem datatypeLoads_holds : Rows.DatatypeLoadsSaid := datatypeLoads.proved
end Go.Proofs.Ytbdhihgokkcmfaa
