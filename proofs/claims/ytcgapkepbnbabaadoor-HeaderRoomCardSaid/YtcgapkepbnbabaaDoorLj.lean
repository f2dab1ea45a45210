/- heavy, plain: what the laws of chapter 8 begin with. -/
import Derived.Test.YtcgapkepbnbabaaDoorLg
namespace Go.Proofs.YtcgapkepbnbabaaDoor.X5
set_option linter.unusedVariables false
set_option linter.unusedSimpArgs false
open Go.RowKit Wd Ty9

theorem rmsg_info : (Tryd.prog.info? 63).map (fun i => (i.zero, i.size, i.bytes)) = some (some (.agg #[.int .i64 0, .slice none 0 0]), 2, 32) := by kernel_rfl
def lightM (l : List Mg) : Prop := l.length + (l.map fun m => m.2.length).sum ≤ 200000

set_option maxHeartbeats 1000000 in
set_option maxRecDepth 100000 in
theorem plain8_any (A : Option Addr) (n C : Nat) (l : List Mg) (w : World) (hn : n * 32 ≤ 140737488355328) (h : Ms w w.heap.size A n l) :
    Calls Tryd.prog 13 #[.slice A n C] w fun e w' => ∃ V, e = .returned V ∧ Om 63 w V l w' := by
  have hl := h.len
  have HM := Lib.hid h
  clear h
  go_enter Tryd.func13, Tryd.ntmps13
  go_wp2
  go_loopw [3, 4] (fun v i wr => ∃ (k : Nat), i = .int .i64 k ∧ k ≤ n ∧ Om 63 w v (l.take k) wr) (fun _ i _ => n - (intOf i).toNat)
  case atStart => exact ⟨0, rfl, Nat.zero_le _, Om.nil _ _⟩
  case round =>
    obtain ⟨k, rfl, hk, how⟩ := hrel
    obtain ⟨Af, Cf, hV⟩ := how.form
    have htl : (l.take k).length = k := by rw [List.length_take]; omega
    rw [htl] at hV
    subst hV
    have HOW := Lib.hid how
    have HTL := Lib.hid htl
    clear how htl
    by_cases hlt : k < n
    · have hltz : (k : Int) < (n : Int) := by omega
      obtain ⟨b, o, x, Ai, ci, rfl, hb1, hx, c0, c1, hci, hmi, hyi⟩ := HM.out.get hlt
      have HYI := Lib.hid (((hyi.later HOW.out.be).up HOW.out.be.size))
      have hbw : b < wr.heap.size := Nat.lt_of_lt_of_le hb1 HOW.out.be.size
      have HA := Lib.hid (show 0 < x.2.length → ∀ b' o', Ai = some ⟨b', o', none⟩ → (Value.slice Af k Cf).ownBlock ≠ some b' from fun h0 b' o' e => by
        obtain ⟨b2, o2, e2, hlt2, _⟩ := hyi.at_ h0
        rw [e] at e2
        cases e2
        obtain ⟨vs, hown, _⟩ := HOW.out.ex
        intro e3
        have := (hown.lt _ e3).1
        omega)
      rw [← HOW.out.be.cell (p := ⟨b, o + k * 2, none⟩) hb1] at c0
      rw [← HOW.out.be.cell (p := ⟨b, o + k * 2 + 1, none⟩) hb1] at c1
      have HTK := Lib.hid (take_snoc hx)
      have HQ := Lib.hid (rfl : x.2.length = x.2.length)
      obtain ⟨q, hq⟩ : ∃ q, x.2.length = q := ⟨_, rfl⟩
      rw [hq] at c1 hci hmi HYI HA
      have HQE := Lib.hid hq
      clear hq HQ hyi hx
      have HOE := Lib.hid (HOW.out.below (((Below.refl _ wr).drew).alloc (Nat.le_refl _) (.cells #[.int .i64 x.1, .slice Ai q ci] 63)))
      have HYE := Lib.hid ((HYI.out.later (((Below.refl _ wr).drew).alloc (Nat.le_refl _) (.cells #[.int .i64 x.1, .slice Ai q ci] 63))).up (((Below.refl _ wr).drew).alloc (Nat.le_refl _) (.cells #[.int .i64 x.1, .slice Ai q ci] 63)).size)
      have HLL := Lib.hid (show ((l.take k).length + 1) * 32 ≤ 140737488355328 by rw [HTL.out]; omega)
      go_upto_region 5 with fail
      go_region_law (refine step_push Tryd.underlying29 rmsg_info (by rfl) (.tmp 11) (.tmp 23) (by rfl) w (.slice Af k Cf) (l.take k) x Ai q ci wr.heap.size (by simp [Act.eval, Act.put]) (by simp [Act.eval, Act.put]) HOE.out HQE.out (Bx.new wr.drew _ _) hci hmi HYE.out HA.out HLL.out ?_; intro V2 w4 how4; have HO4 := Lib.hid how4; clear how4)
      all_goals
        clear c0 c1
        go_wp2
        go_roundw
        (case rel => exact ⟨k + 1, by go_num, by omega, by rw [HTK.out]; exact HO4.out⟩)
        (case measure => simp [intOf]; omega)
    · obtain rfl : k = n := by omega
      have HF := Lib.hid (show Om 63 w (.slice Af k Cf) l wr by have h1 := HOW.out; rwa [List.take_of_length_le (by omega)] at h1)
      go_wp2
      go_ret
      exact ⟨_, rfl, HF.out⟩
end Go.Proofs.YtcgapkepbnbabaaDoor.X5
