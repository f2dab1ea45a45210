/- header.Load's deferred closure. -/
import Derived.Test.YtcgapkepbnbabaaDoorQf
import Derived.Defers
import Derived.Recover
namespace Go.Proofs.YtcgapkepbnbabaaDoor.X5
set_option linter.unusedVariables false
set_option linter.unusedSimpArgs false
open Go.RowKit Wd Ty9

theorem bx_set {w : World} {g k : Nat} {t : TypeId} {cs : Array Value} {i : Nat} {u : Value} (h : Bx w g t cs) (hne : k ≠ g) : Bx (w.setCell ⟨k, i, none⟩ u) g t cs := (Below.heap_setCell _ _ _ _ (fun e => hne e.symm)).trans h
theorem catch_pan (g4 g5 g6 : Nat) (c4 c5 c6 : Value) (z : Int) (older : List PanicEntry) (w : World) (h4 : Bx w g4 22 #[c4]) (h5 : Bx w g5 34 #[c5]) (h6 : Bx w g6 25 #[c6]) (d1 : g4 ≠ g5) (d2 : g4 ≠ g6) (d3 : g5 ≠ g6) :
    CallsD Tryd.prog 34 #[.pointer (some ⟨g4, 0, none⟩), .pointer (some ⟨g5, 0, none⟩), .pointer (some ⟨g6, 0, none⟩)] (.panicking ({ v := .iface 25 (.int .i64 z), recovered := false } :: older)) w fun e u' w' =>
      e = .returned (.tuple #[]) ∧ u' = .panicking ({ v := .iface 25 (.int .i64 z), recovered := true } :: older) ∧ w' = ((w.setCell ⟨g4, 0, none⟩ (.slice none 0 0)).setCell ⟨g5, 0, none⟩ (.slice none 0 0)).setCell ⟨g6, 0, none⟩ (.int .i64 z) := by
  have e4 := h4.cell 0
  have e5 := h5.cell 0
  have e6 := h6.cell 0
  have f4 := h4.frozen 0
  have f5 := h5.frozen 0
  have f6 := h6.frozen 0
  have ta : ∀ (z : Int) (W : World), (Instr.typeAssert (.iface 25 (.int .i64 z)) 20 25 true).run Tryd.prog W = .ok (.tuple #[.int .i64 z, .bool true]) W := fun z W => by kernel_rfl
  have tb : ∀ (W : World), (Instr.typeAssert .nilIface 20 25 true).run Tryd.prog W = .ok (.tuple #[.int .i64 0, .bool false]) W := fun W => by kernel_rfl
  refine callsD_of_wpS Tryd.func34 rfl fun c₀ cs hu => ?_
  apply wpS_seq
  apply wpS_region
  simp [wpOpsS, go_sem, recoverD, hu, Tryd.ntmps34, Exit.thenS, ta, tb]
  apply wpS_seq
  apply wpS_region
  simp [wpOpsS, go_sem, hu, Tryd.ntmps34, Exit.thenS]
  refine wpS_cond (t := true) (by simp [Act.eval, Array.replicate]) ?_
  simp only [if_true]
  apply wpS_region
  have x5 : (w.setCell ⟨g4, 0, none⟩ (.slice none 0 0)).cell? ⟨g5, 0, none⟩ = some c5 := (bx_set h5 d1).cell 0
  have y5 : (w.setCell ⟨g4, 0, none⟩ (.slice none 0 0)).frozen? ⟨g5, 0, none⟩ = false := (bx_set h5 d1).frozen 0
  have x6 : ((w.setCell ⟨g4, 0, none⟩ (.slice none 0 0)).setCell ⟨g5, 0, none⟩ (.slice none 0 0)).cell? ⟨g6, 0, none⟩ = some c6 := (bx_set (bx_set h6 d2) d3).cell 0
  have y6 : ((w.setCell ⟨g4, 0, none⟩ (.slice none 0 0)).setCell ⟨g5, 0, none⟩ (.slice none 0 0)).frozen? ⟨g6, 0, none⟩ = false := (bx_set (bx_set h6 d2) d3).frozen 0
  simp [wpOpsS, go_sem, e4, f4, x5, y5, x6, y6, bodyPostS, results, Tryd.results34]
theorem catch_idle (g4 g5 g6 : Nat) (w : World) :
    CallsD Tryd.prog 34 #[.pointer (some ⟨g4, 0, none⟩), .pointer (some ⟨g5, 0, none⟩), .pointer (some ⟨g6, 0, none⟩)] .returning w fun e u' w' => e = .returned (.tuple #[]) ∧ u' = .returning ∧ w' = w := by
  have ta : ∀ (z : Int) (W : World), (Instr.typeAssert (.iface 25 (.int .i64 z)) 20 25 true).run Tryd.prog W = .ok (.tuple #[.int .i64 z, .bool true]) W := fun z W => by kernel_rfl
  have tb : ∀ (W : World), (Instr.typeAssert .nilIface 20 25 true).run Tryd.prog W = .ok (.tuple #[.int .i64 0, .bool false]) W := fun W => by kernel_rfl
  refine callsD_of_wpS Tryd.func34 rfl fun c₀ cs hu => ?_
  apply wpS_seq
  apply wpS_region
  simp [wpOpsS, go_sem, recoverD, hu, Tryd.ntmps34, Exit.thenS, ta, tb]
  apply wpS_seq
  apply wpS_region
  simp [wpOpsS, go_sem, hu, Tryd.ntmps34, Exit.thenS]
  refine wpS_cond (t := false) (by simp [Act.eval, Array.replicate]) ?_
  simp only [Bool.false_eq_true, if_false]
  refine wpS_of_wp (wp_skip ?_)
  cases c₀
  simp_all [bodyPostS, results, Tryd.results34]
end Go.Proofs.YtcgapkepbnbabaaDoor.X5
