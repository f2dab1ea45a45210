/- Names: what the program and the reference call one. -/
import Derived.Test.YtbdhihgokkcmfaaTy
import Derived.Test.YtbdhihgokkcmfaaMw
import Derived.Test.YtbdhihgokkcmfaaSh
import Derived.WalkLawsBesides
import Derived.StillTailTactics
import Derived.Deep.LoopGhost
namespace Go.Proofs.Ytbdhihgokkcmfaa.Ty9
set_option linter.unusedVariables false
set_option linter.unusedSimpArgs false
open Go.RowKit Wd

/-- strings.Contains at one byte. -/
theorem contains_one (s : ByteArray) (c : UInt8) (w : World) :
    Calls Try.prog 83 #[.string s, .string ⟨#[c]⟩] w fun e w' => e = .returned (.bool (hasB s c)) ∧ w' = w :=
  Any.strings_Contains_one Sh.layCt s c w

set_option maxHeartbeats 1000000 in
theorem name_any (s : ByteArray) (w : World) (hs : s.size ≤ 140737488355328) :
    Calls Try.prog 70 #[.string s] w fun e w' => e = .returned (.bool (nameB s)) ∧ Dr w w' := by
  go_enter Try.func70, Try.ntmps70
  go_wp2_with (go_at_call 83; refine (contains_one s _ _).mono ?_; rintro e w' ⟨rfl, rfl⟩)
  all_goals
    go_ret
    refine ⟨congrArg (fun b => Ending.returned (Value.bool b)) (Bool.eq_iff_iff.mpr ?_), Dr.refl _⟩
    rw [nameB_iff]
    have k1 : (s.size : Int) ≤ 64 ↔ s.size ≤ 64 := by omega
    have k2 : 64 < (s.size : Int) ↔ 64 < s.size := by omega
    simp only [k1, k2] at *
    rcases nil_or s with ⟨hn, hn'⟩ | ⟨hn, hn'⟩ <;> simp_all <;> omega
set_option maxHeartbeats 1000000 in
theorem Name_any (s : ByteArray) (w : World) (hs : s.size ≤ 140737488355328) :
    Calls Try.prog 74 #[.string s] w fun e w' => e = .returned (.bool (nameB s)) ∧ Dr w w' := by
  have hni := nameB_iff s
  have HNI := Lib.hid hni
  clear hni
  go_enter Try.func74, Try.ntmps74
  by_cases h1 : s.size < 1
  · go_wp2
    go_ret
    refine ⟨congrArg (fun b => Ending.returned (Value.bool b)) (Bool.eq_iff_iff.mpr ?_), Dr.refl _⟩
    rw [HNI.out]
    simp
    omega
  by_cases h2 : 64 < s.size
  · go_wp2
    go_ret
    refine ⟨congrArg (fun b => Ending.returned (Value.bool b)) (Bool.eq_iff_iff.mpr ?_), Dr.refl _⟩
    rw [HNI.out]
    simp
    omega
  by_cases h3 : s.toList = [46]
  · go_wp2
    go_ret
    refine ⟨congrArg (fun b => Ending.returned (Value.bool b)) (Bool.eq_iff_iff.mpr ?_), Dr.refl _⟩
    rw [HNI.out]
    simp [h3]
  by_cases h4 : s.toList = [46, 46]
  · go_wp2
    go_ret
    refine ⟨congrArg (fun b => Ending.returned (Value.bool b)) (Bool.eq_iff_iff.mpr ?_), Dr.refl _⟩
    rw [HNI.out]
    simp [h4]
  have b3 : (s.toList == [46]) = false := by simp [h3]
  have b4 : (s.toList == [46, 46]) = false := by simp [h4]
  go_wp2
  go_loop [3] (fun i => ∃ k : Nat, i = .int .i64 k ∧ k ≤ s.size ∧ ∀ j, j < k → s.data.toList[j]? ≠ some 47 ∧ s.data.toList[j]? ≠ some 0) (fun i => s.size - (intOf i).toNat)
  case atStart => exact ⟨0, rfl, Nat.zero_le _, fun j hj => by omega⟩
  case round =>
    obtain ⟨k, rfl, hk, hj⟩ := hrel
    have HJ := Lib.hid hj
    clear hj
    by_cases hlt : k < s.size
    · have HB0 := Lib.hid (hasB_at s k hlt 0)
      have HB47 := Lib.hid (hasB_at s k hlt 47)
      have HBA := Lib.hid (byte_at s k hlt)
      by_cases z0 : s[k].toNat = 0
      · go_wp2
        go_ret
        refine ⟨congrArg (fun b => Ending.returned (Value.bool b)) (Bool.eq_iff_iff.mpr ?_), Dr.refl _⟩
        rw [HNI.out]
        simp [HB0.out z0]
      by_cases z47 : s[k].toNat = 47
      · go_wp2
        go_ret
        refine ⟨congrArg (fun b => Ending.returned (Value.bool b)) (Bool.eq_iff_iff.mpr ?_), Dr.refl _⟩
        rw [HNI.out]
        simp [HB47.out z47]
      have y47 : ((s[k].toNat : Int) == 47) = false := by rw [beq_eq_false_iff_ne]; omega
      have y0 : ((s[k].toNat : Int) == 0) = false := by rw [beq_eq_false_iff_ne]; omega
      go_wp2
      refine ⟨⟨k + 1, by go_num, by omega, fun j hj => ?_⟩, by simp [intOf]; omega⟩
      by_cases e : j = k
      · subst e
        rw [HBA.out]
        exact ⟨fun h => z47 (by rw [Option.some.inj h]; rfl), fun h => z0 (by rw [Option.some.inj h]; rfl)⟩
      · exact HJ.out j (by omega)
    · obtain rfl : k = s.size := by omega
      have n0 := hasB_no s 0 fun j hj => (HJ.out j hj).2
      have n47 := hasB_no s 47 fun j hj => (HJ.out j hj).1
      go_wp2
      go_ret
      refine ⟨congrArg (fun b => Ending.returned (Value.bool b)) (Bool.eq_iff_iff.mpr ?_), Dr.refl _⟩
      rw [HNI.out]
      simp [h3, h4, n0, n47]
      omega
end Go.Proofs.Ytbdhihgokkcmfaa.Ty9
