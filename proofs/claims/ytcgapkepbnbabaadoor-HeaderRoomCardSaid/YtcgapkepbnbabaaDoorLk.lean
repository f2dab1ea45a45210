/- heavy. -/
import Derived.Test.YtcgapkepbnbabaaDoorLj
namespace Go.Proofs.YtcgapkepbnbabaaDoor.X5
set_option linter.unusedVariables false
set_option linter.unusedSimpArgs false
open Go.RowKit Wd Ty9

def BoolR (e : Ending) : Prop := ∃ r : Bool, e = .returned (.bool r)
theorem BoolR.mk (r : Bool) : BoolR (.returned (.bool r)) := ⟨r, rfl⟩

set_option maxHeartbeats 1000000 in
set_option maxRecDepth 100000 in
theorem heavy_any (A : Option Addr) (n C : Nat) (l : List Mg) (Ar : Option Addr) (nr Cr lo hi : Nat) (room : List Xt) (w : World) (hn : n ≤ 140737488355328) (hnr : nr ≤ 140737488355328) (h : Ms w w.heap.size A n l) (hr : Ex w lo hi Ar nr room) (hhi : hi ≤ w.heap.size) :
    Calls Tryd.prog 9 #[.slice A n C, .slice Ar nr Cr] w fun e w' => BoolR e ∧ Below w.heap.size w w' := by
  have hl := h.len
  have hrl := hr.len
  have HM := Lib.hid h
  have HX := Lib.hid hr
  clear h hr
  go_enter Tryd.func9, Tryd.ntmps9
  go_wp2
  go_loopw [5, 6] (fun v i wr => ∃ (k : Nat) (s : Int), v = .int .i64 s ∧ i = .int .i64 k ∧ k ≤ n ∧ Below w.heap.size w wr) (fun _ i _ => n - (intOf i).toNat)
  case atStart => exact ⟨0, n, rfl, rfl, Nat.zero_le _, Below.refl _ _⟩
  case round =>
    obtain ⟨k, s, rfl, rfl, hk, hbe⟩ := hrel
    have HBE := Lib.hid hbe
    clear hbe
    by_cases hlt : k < n
    · have hltz : (k : Int) < (n : Int) := by omega
      obtain ⟨b, o, x, Ai, ci, rfl, hb1, hx, c0, c1, hci, hmi, hyi⟩ := HM.out.get hlt
      rw [← HBE.out.cell (p := ⟨b, o + k * 2 + 1, none⟩) hb1] at c1
      clear c0 hyi hx
      generalize x.2.length = q at *
      go_wp2
      go_roundw
      case rel => exact ⟨k + 1, _, rfl, by go_num, by omega, HBE.out⟩
      case measure => simp [intOf]; omega
    · obtain rfl : k = n := by omega
      clear hk
      go_wp2
      generalize wr = wo at *
      go_loopw [7] (fun i wr => ∃ (j : Nat), i = .int .i64 j ∧ j ≤ nr ∧ Below w.heap.size w wr) (fun i _ => nr - (intOf i).toNat)
      case atStart => exact ⟨0, rfl, Nat.zero_le _, HBE.out⟩
      case round =>
        obtain ⟨j, rfl, hj, hbe⟩ := hrel
        have HBJ := Lib.hid hbe
        clear hbe
        by_cases hltj : j < nr
        · have hltz : (j : Int) < (nr : Int) := by omega
          obtain ⟨b, o, rfl, hb1, hb2, -⟩ := HX.out.at_ (by omega)
          obtain ⟨c0, c1⟩ := HX.out.get rfl (i := j) (by omega)
          have hbw : b < w.heap.size := Nat.lt_of_lt_of_le hb2 hhi
          rw [← HBJ.out.cell (p := ⟨b, o + j * 2 + 1, none⟩) hbw] at c1
          clear c0
          generalize (room[j]'_).2 = x1 at c1
          by_cases h1 : 5000 < x1
          · have d1 : decide (5000 < x1) = true := by simp; exact h1
            by_cases h2 : x1 ≤ 4194304
            · have d2 : decide (x1 ≤ 4194304) = true := by simp; exact h2
              go_wp2
              go_ret
              exact ⟨BoolR.mk _, HBJ.out⟩
            · have d2 : decide (x1 ≤ 4194304) = false := by simp; omega
              go_wp2
              go_roundw
              case rel => exact ⟨j + 1, by go_num, by omega, HBJ.out⟩
              case measure => simp [intOf]; omega
          · have d1 : decide (5000 < x1) = false := by simp; omega
            go_wp2
            go_roundw
            case rel => exact ⟨j + 1, by go_num, by omega, HBJ.out⟩
            case measure => simp [intOf]; omega
        · obtain rfl : j = nr := by omega
          by_cases h1 : 200000 < s
          · have d1 : decide (200000 < s) = true := by simp; exact h1
            go_wp2
            go_ret
            exact ⟨BoolR.mk _, HBJ.out⟩
          · have d1 : decide (200000 < s) = false := by simp; omega
            by_cases h2 : 100 < j
            · have d2 : decide ((100 : Int) < (j : Int)) = true := by simp; omega
              have d2' : (100 : Int) < (j : Int) := by omega
              go_wp2
              go_ret
              exact ⟨BoolR.mk _, HBJ.out⟩
            · have d2 : decide ((100 : Int) < (j : Int)) = false := by simp; omega
              have d2' : ¬ (100 : Int) < (j : Int) := by omega
              go_wp2
              go_ret
              exact ⟨BoolR.mk _, HBJ.out⟩
end Go.Proofs.YtcgapkepbnbabaaDoor.X5
