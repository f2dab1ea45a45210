/- HeaderTurned: for every input the law returns true and leaves its arguments as they were; the table check.short holds what the program's text lays (the card ties it). No other condition. -/
import Derived.Test.YtcgapkepbnbabaaDoorRows
import Derived.Test.YtcgapkepbnbabaaDoorTie
import Derived.Test.YtcgapkepbnbabaaDoorCards
import Derived.Test.YtcgapkepbnbabaaDoorRbb
import Derived.Test.YtcgapkepbnbabaaDoorRbv
import Derived.Test.YtcgapkepbnbabaaDoorLv
import Derived.Test.YtcgapkepbnbabaaDoorKcv
import Derived.Test.YtcgapkepbnbabaaDoorKv
import Derived.WalkKit
import Derived.ProofKit
import Derived.OpenShut
import Derived.SizedLaws
import Derived.Carry
import Derived.LaidMore
import Derived.SevenTiedAt
namespace Go.Proofs.YtcgapkepbnbabaaDoor.headerTurned
open Go.ChangeShapes Go.WideShapes Go.ChangeAt Go.RowKit

theorem own : ownKnob Tryd.prog.godebug = none := by kernel_rfl
theorem laidOut : laidOutB Tryd.prog = true := by kernel_rfl

set_option maxRecDepth 100000 in
theorem lifted (os : Os) (started : os.Started) (H : Type) (enc : TypeId × Value → H) :
    ReturnsInHanded {} Tryd.checked os 8 .any (fun w args => (Rows.headerTurnedSpec.pre enc Tryd.prog Tryd.f8 [] false w args ∧ laidMetH Tryd.prog X5.laidL w) ∧ sizedMet enc Tryd.prog Tryd.f8 (OpenSpec.ofChange Rows.headerTurnedSpec) false w args)
      (Rows.headerTurnedSpec.post enc Tryd.prog Tryd.f8 false true false false) := by
  refine returnsInHanded_of_change_and (C := Tryd.checked) (X := fun w _ => laidMetH Tryd.prog X5.laidL w) (fun _ _ _ hh h => h.of_heap hh) own started (by kernel_rfl) Tryd.func8
    (ChangeSpec.witness_shaped (enc := enc) (C := Tryd.checked) (os := os) (X := fun w _ => laidMetH Tryd.prog X5.laidL w) false (World.doorLaid Tryd.prog 400 os) #[.slice none 0 0, .slice none 0 0, .agg #[.int .i64 0, .int .i64 0, .int .i64 0]] 8 rfl (World.shaped_of_RefB (by kernel_rfl) (by kernel_rfl)) (by kernel_rfl) (by kernel_rfl) (by kernel_rfl) (X5.door_met os _)) ?_
  intro W base args ds gs before hval0 hW hcnd hsz0 hL _
  have hval : ∀ (j : Nat) t v, Tryd.f8.params[j]? = some t → args[j]? = some v → Value.okWide Tryd.prog W .any base t v := hval0
  have hW' := hW
  obtain ⟨p, q, hA, hV, rfl, hfz, hnd⟩ := hW
  have hA : DataW.TrodAll enc Tryd.prog W 0 (fun _ => true) true Tryd.f8.params.toList args.toList ds p := hA
  rw [Tryd.params8] at hA hval
  obtain ⟨v0, vs0, d0, ds0, p0, q0, hargs, rfl, rfl, h0, r0⟩ := trodAll_cons hA
  obtain ⟨v1, vs1, d1, ds1, p1, q1, rfl, rfl, rfl, h1, r1⟩ := trodAll_cons r0
  obtain ⟨v2, vs2, d2, ds2, p2, q2, rfl, rfl, rfl, h2, r2⟩ := trodAll_cons r1
  obtain ⟨rfl, rfl, rfl⟩ := trodAll_nil r2
  obtain rfl : args = #[v0, v1, v2] := by cases args; simp_all
  obtain ⟨rfl, rfl⟩ := trodVars_none hV
  have hsz : (DataW.weightsEach Tryd.prog [22, 34, 60] [d0, d1, d2]).all (fun z => decide (z ≤ reachBytes)) = true := hsz0
  have hG := X5.gs_of_laid hL
  have hwt0 : X5.Wt 22 d0 := X5.wt_each hsz (j := 0) rfl rfl
  obtain ⟨fuel0, hf0⟩ := h0
  obtain ⟨A0, n0, C0, rfl⟩ := Go.WideShapes.okWide_slice Tryd.underlying22 (hval 0 22 _ rfl rfl)
  obtain ⟨A0', n0', C0', l0, hcs0, hA0, hn0, hms0⟩ := X5.open_msgs fuel0 _ _ hf0 hwt0
  simp [Value.cells] at hcs0
  obtain ⟨rfl, rfl, rfl⟩ := hcs0
  have hwt1 : X5.Wt 34 d1 := X5.wt_each hsz (j := 1) rfl rfl
  obtain ⟨fuel1, hf1⟩ := h1
  obtain ⟨A1, n1, C1, rfl⟩ := Go.WideShapes.okWide_slice Tryd.underlying34 (hval 1 34 _ rfl rfl)
  obtain ⟨A1', n1', C1', xs1, hcs1, hA1, hn1, hex1⟩ := X5.open_exts fuel1 _ _ hf1 hwt1
  simp [Value.cells] at hcs1
  obtain ⟨rfl, rfl, rfl⟩ := hcs1
  obtain ⟨fuel2, hf2⟩ := h2
  obtain ⟨cs2, rfl, hz2⟩ := X5.okWide_arr Tryd.underlying60 (hval 2 60 _ rfl rfl)
  obtain ⟨a2, b2, c2, hcs2⟩ := X5.open_arr3 fuel2 _ _ hf2 (by simpa [Value.cells] using hz2.trans X5.cells3)
  obtain rfl : cs2 = #[.int .i64 a2, .int .i64 b2, .int .i64 c2] := by
    apply Array.toList_inj.mp
    simpa [Value.cells] using hcs2
  have hlt0 : ∀ x ∈ p0, x.block < W.heap.size := fun x hx => by simpa using hW'.lt x (by simp [hx])
  have hlt1 : ∀ x ∈ p1, x.block < W.heap.size := fun x hx => by simpa using hW'.lt x (by simp [hx])
  have hlt2 : ∀ x ∈ p2, x.block < W.heap.size := fun x hx => by simpa using hW'.lt x (by simp [hx])
  clear hval0
  simp only [List.append_nil] at hW'
  refine (X5.turned_walk W hG A0 n0 C0 l0 hn0 hA0 hms0 A1 n1 C1 xs1 hn1 hA1 hex1 a2 b2 c2).mono fun e W' ⟨he, hb⟩ => ?_
  subst he
  exact ⟨_, rfl, [d0, d1, d2], [], _, [], p0 ++ (p1 ++ (p2 ++ ([]))), [], hW', trodAll_cons_mk (shut_bool Tryd.underlying4 _) trodAll_mk0, (trodAll_cons_mk (Below.trod laidOut (by kernel_rfl) (of_decide_eq_true (by kernel_rfl)) ⟨fuel0, hf0⟩ hb hlt0) (trodAll_cons_mk (Below.trod laidOut (by kernel_rfl) (of_decide_eq_true (by kernel_rfl)) ⟨fuel1, hf1⟩ hb hlt1) (trodAll_cons_mk (Below.trod laidOut (by kernel_rfl) (of_decide_eq_true (by kernel_rfl)) ⟨fuel2, hf2⟩ hb hlt2) trodAll_mk0))), rfl,
    hb.frame _, fun h => by cases h⟩

theorem over : Rows.headerTurnedRow.holds Tryd.pinned (OpenSpec.ofChange Rows.headerTurnedSpec) :=
  OpenClaim.holds_of_wide 8 Tryd.f8 rfl rfl rfl rfl rfl rfl rfl ⟨rfl, rfl, rfl, rfl, rfl⟩ rfl rfl rfl rfl rfl (by kernel_rfl) Tryd.func8 (by kernel_rfl)
    (of_decide_eq_true (by kernel_rfl)) (by unfold Func.isWrapper; first | (rw [if_pos (by decide +kernel)]; kernel_rfl) | (rw [if_neg (by decide +kernel)]; exact ⟨rfl, rfl⟩))
    (fun os started H enc _ => lifted os started H enc)

/-- The card. -/
theorem proved : Rows.HeaderTurnedCardSaid :=
  Claim7.holds_tied_plain_at .later [] [.data] true (true, "ea0006e3ceda63a3e160a54112d09f81a1587e2fc4b36ab9b219b5fa3c23eaf0") true
    over (fun _ h => by cases h) (by kernel_rfl) (fun _ h => by cases h) headerTurned_row_tie rfl ⟨rfl, rfl⟩ (by kernel_rfl) rfl
    (fun f fn hf hfn => by
      obtain rfl : f = 8 := Option.some.inj ((show Tryd.prog.funcNamed "slabvault/slabvaultlaw08.HeaderTurned" = some 8 by kernel_rfl).symm.trans hf) |>.symm
      obtain rfl : fn = Tryd.f8 := (Option.some.inj (Tryd.func8.symm.trans hfn)).symm
      exact ⟨by kernel_rfl, fun j t ht => by
        rw [Tryd.params8] at ht
        have hm : t ∈ [22, 34, 60] := by simpa using Array.mem_of_getElem? ht
        have hall : ([22, 34, 60].all fun u => !Tryd.prog.wantsStandIn u) = true := by kernel_rfl
        exact (show Tryd.prog.wantsStandIn t = false by simpa using List.all_eq_true.1 hall t hm)⟩)
    (by kernel_rfl)
#print axioms proved
end Go.Proofs.YtcgapkepbnbabaaDoor.headerTurned
namespace Go.Proofs.YtcgapkepbnbabaaDoor
/-- The card, under a short name, for the claim. -/
theorem headerTurned_holds : Rows.HeaderTurnedCardSaid := headerTurned.proved
end Go.Proofs.YtcgapkepbnbabaaDoor
