/- HeapBack: for every input the law returns true and leaves its arguments as they were; the table check.short holds what the program's text lays (the card ties it). No other condition. -/
import Derived.Test.YtpajimkebnfneaaDoorRows
import Derived.Test.YtpajimkebnfneaaDoorTie
import Derived.Test.YtpajimkebnfneaaDoorCards
import Derived.Test.YtpajimkebnfneaaDoorNp
import Derived.Test.YtpajimkebnfneaaDoorNw
import Derived.WalkKit
import Derived.ProofKit
import Derived.OpenShut
import Derived.SizedLaws
import Derived.Carry
import Derived.LaidMore
import Derived.SevenTiedAt
namespace Go.Proofs.YtpajimkebnfneaaDoor.heapBack
open Go.ChangeShapes Go.WideShapes Go.ChangeAt Go.RowKit

theorem own : ownKnob Tryd.prog.godebug = none := by kernel_rfl
theorem laidOut : laidOutB Tryd.prog = true := by kernel_rfl

set_option maxRecDepth 100000 in
theorem lifted (os : Os) (started : os.Started) (H : Type) (enc : TypeId × Value → H) :
    ReturnsInHanded {} Tryd.checked os 7 .any (fun w args => (Rows.heapBackSpec.pre enc Tryd.prog Tryd.f7 [] false w args ∧ laidMetH Tryd.prog X5.laidL w) ∧ sizedMet enc Tryd.prog Tryd.f7 (OpenSpec.ofChange Rows.heapBackSpec) false w args)
      (Rows.heapBackSpec.post enc Tryd.prog Tryd.f7 false true false false) := by
  refine returnsInHanded_of_change_and (C := Tryd.checked) (X := fun w _ => laidMetH Tryd.prog X5.laidL w) (fun _ _ _ hh h => h.of_heap hh) own started (by kernel_rfl) Tryd.func7
    (ChangeSpec.witness_shaped (enc := enc) (C := Tryd.checked) (os := os) (X := fun w _ => laidMetH Tryd.prog X5.laidL w) false (World.doorLaid Tryd.prog 400 os) #[.slice none 0 0, .slice none 0 0, .slice none 0 0] 8 rfl (World.shaped_of_RefB (by kernel_rfl) (by kernel_rfl)) (by kernel_rfl) (by kernel_rfl) (by kernel_rfl) (X5.door_met os _)) ?_
  intro W base args ds gs before hval0 hW hcnd hsz0 hL _
  have hval : ∀ (j : Nat) t v, Tryd.f7.params[j]? = some t → args[j]? = some v → Value.okWide Tryd.prog W .any base t v := hval0
  have hW' := hW
  obtain ⟨p, q, hA, hV, rfl, hfz, hnd⟩ := hW
  have hA : DataW.TrodAll enc Tryd.prog W 0 (fun _ => true) true Tryd.f7.params.toList args.toList ds p := hA
  rw [Tryd.params7] at hA hval
  obtain ⟨v0, vs0, d0, ds0, p0, q0, hargs, rfl, rfl, h0, r0⟩ := trodAll_cons hA
  obtain ⟨v1, vs1, d1, ds1, p1, q1, rfl, rfl, rfl, h1, r1⟩ := trodAll_cons r0
  obtain ⟨v2, vs2, d2, ds2, p2, q2, rfl, rfl, rfl, h2, r2⟩ := trodAll_cons r1
  obtain ⟨rfl, rfl, rfl⟩ := trodAll_nil r2
  obtain rfl : args = #[v0, v1, v2] := by cases args; simp_all
  obtain ⟨rfl, rfl⟩ := trodVars_none hV
  have hsz : (DataW.weightsEach Tryd.prog [39, 34, 39] [d0, d1, d2]).all (fun z => decide (z ≤ reachBytes)) = true := hsz0
  have hG := X5.gs_of_laid hL
  have hwt0 : X5.Wt 39 d0 := X5.wt_each hsz (j := 0) rfl rfl
  obtain ⟨fuel0, hf0⟩ := h0
  obtain ⟨A0, n0, C0, rfl⟩ := Go.WideShapes.okWide_slice Tryd.underlying39 (hval 0 39 _ rfl rfl)
  obtain ⟨A0', n0', C0', l0, hcs0, hn0, hx0⟩ := X5.open_rows2 fuel0 _ _ hf0 hwt0
  simp [Value.cells] at hcs0
  obtain ⟨rfl, rfl, rfl⟩ := hcs0
  have hwt1 : X5.Wt 34 d1 := X5.wt_each hsz (j := 1) rfl rfl
  obtain ⟨fuel1, hf1⟩ := h1
  obtain ⟨A1, n1, C1, rfl⟩ := Go.WideShapes.okWide_slice Tryd.underlying34 (hval 1 34 _ rfl rfl)
  obtain ⟨A1', n1', C1', l1, hcs1, hn1, hx1⟩ := X5.open_ints6 fuel1 _ _ hf1 hwt1
  simp [Value.cells] at hcs1
  obtain ⟨rfl, rfl, rfl⟩ := hcs1
  have hwt2 : X5.Wt 39 d2 := X5.wt_each hsz (j := 2) rfl rfl
  obtain ⟨fuel2, hf2⟩ := h2
  obtain ⟨A2, n2, C2, rfl⟩ := Go.WideShapes.okWide_slice Tryd.underlying39 (hval 2 39 _ rfl rfl)
  obtain ⟨A2', n2', C2', l2, hcs2, hn2, hx2⟩ := X5.open_rows2 fuel2 _ _ hf2 hwt2
  simp [Value.cells] at hcs2
  obtain ⟨rfl, rfl, rfl⟩ := hcs2
  have hlt0 : ∀ x ∈ p0, x.block < W.heap.size := fun x hx => by simpa using hW'.lt x (by simp [hx])
  have hlt1 : ∀ x ∈ p1, x.block < W.heap.size := fun x hx => by simpa using hW'.lt x (by simp [hx])
  have hlt2 : ∀ x ∈ p2, x.block < W.heap.size := fun x hx => by simpa using hW'.lt x (by simp [hx])
  clear hval0
  simp only [List.append_nil] at hW'
  refine (X5.back_walk W hG A0 n0 C0 l0 hn0 hx0 A1 n1 C1 l1 hn1 hx1 A2 n2 C2 l2 hn2 hx2).mono fun e W' ⟨he, hb⟩ => ?_
  subst he
  exact ⟨_, rfl, [d0, d1, d2], [], _, [], p0 ++ (p1 ++ (p2 ++ ([]))), [], hW', trodAll_cons_mk (shut_bool Tryd.underlying4 _) trodAll_mk0, (trodAll_cons_mk (Below.trod laidOut (by kernel_rfl) (of_decide_eq_true (by kernel_rfl)) ⟨fuel0, hf0⟩ hb hlt0) (trodAll_cons_mk (Below.trod laidOut (by kernel_rfl) (of_decide_eq_true (by kernel_rfl)) ⟨fuel1, hf1⟩ hb hlt1) (trodAll_cons_mk (Below.trod laidOut (by kernel_rfl) (of_decide_eq_true (by kernel_rfl)) ⟨fuel2, hf2⟩ hb hlt2) trodAll_mk0))), rfl,
    hb.frame _, fun h => by cases h⟩

theorem over : Rows.heapBackRow.holds Tryd.pinned (OpenSpec.ofChange Rows.heapBackSpec) :=
  OpenClaim.holds_of_wide 7 Tryd.f7 rfl rfl rfl rfl rfl rfl rfl ⟨rfl, rfl, rfl, rfl, rfl⟩ rfl rfl rfl rfl rfl (by kernel_rfl) Tryd.func7 (by kernel_rfl)
    (of_decide_eq_true (by kernel_rfl)) (by unfold Func.isWrapper; first | (rw [if_pos (by decide +kernel)]; kernel_rfl) | (rw [if_neg (by decide +kernel)]; exact ⟨rfl, rfl⟩))
    (fun os started H enc _ => lifted os started H enc)

/-- The card. -/
theorem proved : Rows.HeapBackCardSaid :=
  Claim7.holds_tied_plain_at .later [] [.data] true (true, "e0d8a91bc07a32d2a276d1b233ae897c15c7a5c020db525d0c81acd5dc5d2959") false
    over (fun _ h => by cases h) (by kernel_rfl) (fun _ h => by cases h) heapBack_row_tie rfl ⟨rfl, rfl⟩ (by kernel_rfl) rfl
    (fun f fn hf hfn => by
      obtain rfl : f = 7 := Option.some.inj ((show Tryd.prog.funcNamed "slabvault/slabvaultlaw06.HeapBack" = some 7 by kernel_rfl).symm.trans hf) |>.symm
      obtain rfl : fn = Tryd.f7 := (Option.some.inj (Tryd.func7.symm.trans hfn)).symm
      exact ⟨by kernel_rfl, fun j t ht => by
        rw [Tryd.params7] at ht
        have hm : t ∈ [39, 34, 39] := by simpa using Array.mem_of_getElem? ht
        have hall : ([39, 34, 39].all fun u => !Tryd.prog.wantsStandIn u) = true := by kernel_rfl
        exact (show Tryd.prog.wantsStandIn t = false by simpa using List.all_eq_true.1 hall t hm)⟩)
    (by kernel_rfl)
#print axioms proved
end Go.Proofs.YtpajimkebnfneaaDoor.heapBack
namespace Go.Proofs.YtpajimkebnfneaaDoor
/-- The card, under a short name, for the claim. -/
theorem heapBack_holds : Rows.HeapBackCardSaid := heapBack.proved
end Go.Proofs.YtpajimkebnfneaaDoor
