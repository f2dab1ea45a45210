/- extent.join: the good list of all bytes. -/
import Derived.Test.YtcgapkepbnbabaaDoorKg
import Derived.Deep.RegionHeld3
import Derived.Deep.RegionLawGrows
import Derived.Deep.DeepCutAuto
import Derived.StillTailTactics
import Derived.WalkLawsBesides
import Derived.BigQuiet
namespace Go.Proofs.YtcgapkepbnbabaaDoor.X5
set_option linter.unusedVariables false
set_option linter.unusedSimpArgs false
open Go.RowKit Wd Ty9

theorem alloc_grow (W : World) (o : Obj) : W.alloc o = Go.Sort.grow W #[o] := by simp only [World.alloc, Go.Sort.grow, Array.push_eq_append]
set_option maxHeartbeats 1000000 in
theorem cmpc (g : Nat) (x y : Int) (W : World) : Calls Tryd.prog 47 #[.int .i64 x, .int .i64 y] W fun e w' => e = .returned (.int .i64 (Lib.compareInt x y)) ∧ w' = W := AnyG.cmp_Compare_int Sh.layCmp x y W
set_option maxHeartbeats 1000000 in
theorem compares_meets : Compares 46 := by
  intro x y W
  have hcon := fun W' => cmpc 0 x.1 y.1 W'
  generalize Lib.compareInt x.1 y.1 = r at hcon ⊢
  obtain ⟨a, s⟩ := x
  obtain ⟨b, t⟩ := y
  simp only [av] at *
  go_enter Tryd.func46, Tryd.ntmps46
  go_wp2_with (go_at_call 47; refine (hcon _).mono ?_; rintro e w' ⟨rfl, rfl⟩)
  go_ret
  exact ⟨rfl, 0, _, by rw [alloc_grow, alloc_grow, Go.Sort.grow_grow]; rfl⟩
set_option maxHeartbeats 1000000 in
theorem says_meets : Says 43 #[] fun x => !okP x := by
  intro x W
  have hm := may_any x
  obtain ⟨a, s⟩ := x
  simp only [av] at *
  have HD := Lib.hid (show (!okP (a, s)) = (!decide (mayP (a, s)) || decide (s = 0)) by simp [okP])
  generalize decide (mayP (a, s)) = r at *
  change Calls Tryd.prog _ #[.agg #[.int .i64 a, .int .i64 s]] _ _
  rw [HD.out]
  clear HD
  cases r
  all_goals
    go_enter Tryd.func43, Tryd.ntmps43
    go_wp2_with (go_at_call 44; refine (hm _).mono ?_; rintro _ w2 ⟨rfl, hb⟩; have c1 : w2.cell? ⟨W.heap.size, 1, none⟩ = some (.int .i64 s) := ((Bx.new W 49 #[.int .i64 a, .int .i64 s]).later hb (by simp)).cell 1; have HB := Lib.hid (below_more (below_new W _) hb); clear hb)
    go_ret
    exact ⟨congrArg (fun b => Ending.returned (Value.bool b)) (by rw [Bool.eq_iff_iff]; simp), HB.out⟩
end Go.Proofs.YtcgapkepbnbabaaDoor.X5
