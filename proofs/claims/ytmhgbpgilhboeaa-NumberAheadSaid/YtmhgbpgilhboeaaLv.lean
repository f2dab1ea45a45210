/- The document's examples of layer 10 hold. -/
import Derived.Test.YtmhgbpgilhboeaaPa
namespace Go.Proofs.Ytmhgbpgilhboeaa.Pa
set_option linter.unusedVariables false
set_option linter.unusedSimpArgs false
open Go.RowKit Wd Ra Fl Go.Proofs.Ytmhgbpgilhboeaa.Math10

theorem live1 (w : World) : Calls Try.prog 14 #[.int .i64 300, .int .i64 1, .bool false] w fun e w' => e = .returned (.tuple #[.int .u64 255, .int .i64 0]) ∧ Dr w w' := by
  have h := clamp_pos 300 1 false w (by omega) (by omega) (by omega) (by omega)
  rwa [show withinV false 300 false 1 false = 255 from by simp [withinV, pw_8]] at h
theorem live2 (w : World) : Calls Try.prog 14 #[.int .i64 (-300), .int .i64 1, .bool true] w fun e w' => e = .returned (.tuple #[.int .u64 128, .int .i64 0]) ∧ Dr w w' := by
  have h := clamp_neg (-300) 1 true w (by omega) (by omega) (by omega) (by omega)
  rwa [show withinV true (- -300) false 1 true = 128 from by simp only [withinV, pw_eq]; decide +kernel] at h
theorem live3 (w : World) : Calls Try.prog 24 #[.int .i64 16777217, .int .i64 4] w fun e w' => e = .returned (.tuple #[.int .u64 1266679808, .int .i64 0]) ∧ Dr w w' := by
  have h := float4 16777217 w
  rwa [show ((Ieee.single.nearest (decide ((16777217 : Int) < 0)) (16777217 : Int).natAbs 0 : Nat) : Int) = 1266679808 from by decide +kernel] at h
theorem live4 (w : World) : Calls Try.prog 19 #[.int .u32 4290772993] w fun e w' => e = .returned (.int .u64 9221120237041090560) ∧ Dr w w' :=
  widen_nan 4290772993 true 4194305 w (by decide +kernel)
set_option maxRecDepth 100000 in
theorem lives (w : World) : Calls Try.prog 18 #[] w fun e w' => e = .returned (.bool true) ∧ Dr w w' := by
  go_enter Try.func18, Try.ntmps18
  go_wp2_with (first
    | (go_at_call 14; (first | (with_reducible refine (live1 _).mono ?_) | (with_reducible refine (live2 _).mono ?_)); rintro e w' ⟨rfl, ⟨nd, rfl⟩⟩)
    | (go_at_call 24; refine (live3 _).mono ?_; rintro e w' ⟨rfl, ⟨nd, rfl⟩⟩)
    | (go_at_call 19; refine (live4 _).mono ?_; rintro e w' ⟨rfl, ⟨nd, rfl⟩⟩))
  go_ret
  exact ⟨rfl, by repeat (first | exact Dr.refl _ | apply Dr.step)⟩
end Go.Proofs.Ytmhgbpgilhboeaa.Pa
