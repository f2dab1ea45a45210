/- header.block. -/
import Derived.Test.YtcgapkepbnbabaaDoorLe
namespace Go.Proofs.YtcgapkepbnbabaaDoor.X5
set_option linter.unusedVariables false
set_option linter.unusedSimpArgs false
open Go.RowKit Wd Ty9

def numH (zs : List Int) : List Nat := zs.flatMap fun z => digs 4 true z.toNat
theorem numH_len (zs : List Int) : (numH zs).length = zs.length * 4 := by
  induction zs with
  | nil => rfl
  | cons z zs ih => unfold numH at *; rw [List.flatMap_cons, List.length_append, ih, digs_len, List.length_cons]; omega

set_option maxHeartbeats 1000000 in
set_option maxRecDepth 100000 in
theorem block_any (Ap : Option Addr) (m cp a s size : Nat) (part : List Nat) (w : World) (ha : a ≤ 4194304) (hs : s ≤ 4194304) (hm : m + 16 ≤ size) (hsz : size ≤ 4194304) (hp : Byt w w.heap.size Ap m part) (hG : Gs w) :
    Calls Tryd.prog 30 #[.slice Ap m cp, .agg #[.int .i64 a, .int .i64 s], .int .i64 size] w fun e w' => ∃ V, e = .returned V ∧ RowB w' w.heap.size V (blockL part ((a : Int), (s : Int)) size) ∧ Below w.heap.size w w' := by
  have hl := hp.len
  have HP0 := Lib.hid hp
  have HG := Lib.hid hG
  have HB0 := Lib.hid (below_new w (.cells #[.int .i64 a, .int .i64 s] 49))
  clear hp hG
  have q0 : IntKind.u64.wrap (m : Int) = (m : Int) := by simp [IntKind.wrap, IntKind.bits, IntKind.signed]; omega
  have q1 : IntKind.u64.wrap (a : Int) = (a : Int) := by simp [IntKind.wrap, IntKind.bits, IntKind.signed]; omega
  have q2 : IntKind.u64.wrap (s : Int) = (s : Int) := by simp [IntKind.wrap, IntKind.bits, IntKind.signed]; omega
  have x0 : ∀ W : World, (Instr.index 60 (.agg #[.int .i64 (m : Int), .int .i64 (a : Int), .int .i64 (s : Int)]) (.int .i64 0)).run Tryd.prog W = .ok (.int .i64 m) W := fun W => by kernel_rfl
  have x1 : ∀ W : World, (Instr.index 60 (.agg #[.int .i64 (m : Int), .int .i64 (a : Int), .int .i64 (s : Int)]) (.int .i64 1)).run Tryd.prog W = .ok (.int .i64 a) W := fun W => by kernel_rfl
  have x2 : ∀ W : World, (Instr.index 60 (.agg #[.int .i64 (m : Int), .int .i64 (a : Int), .int .i64 (s : Int)]) (.int .i64 2)).run Tryd.prog W = .ok (.int .i64 s) W := fun W => by kernel_rfl
  go_enter Tryd.func30, Tryd.ntmps30
  go_wp2
  go_loopw [7, 17] (fun v i wr => ∃ (k : Nat), i = .int .i64 k ∧ k ≤ 3 ∧ RowB wr w.heap.size v (numH ([(m : Int), (a : Int), (s : Int)].take k)) ∧ Below w.heap.size w wr) (fun _ i _ => 3 - (intOf i).toNat)
  case atStart => exact ⟨0, rfl, Nat.zero_le _, RowB.nil _ _, HB0.out⟩
  case round =>
    obtain ⟨k, rfl, hk, hrow, hbe⟩ := hrel
    have HBE := Lib.hid hbe
    obtain ⟨A4, c4, hV, hby⟩ := hrow.byt
    have hnl : (numH ([(m : Int), (a : Int), (s : Int)].take k)).length = k * 4 := by rw [numH_len, List.length_take]; simp; omega
    rw [hnl] at hV hby
    subst hV
    have HRW := Lib.hid hrow
    have HBY := Lib.hid hby
    clear hrow hby hbe hnl
    have h4 : k = 0 ∨ k = 1 ∨ k = 2 ∨ k = 3 := by omega
    rcases h4 with rfl | rfl | rfl | rfl
    · have HP := Lib.hid (put_ok true 4 m 0 c4 A4 (numH ([(m : Int), (a : Int), (s : Int)].take 0)) wr (by omega) (by omega) (by omega) (by omega) HBY.out)
      go_wp2_with (go_at_call 49; refine HP.out.mono ?_; rintro _ w5 ⟨V5, rfl, hown, hb5⟩; refine Hid.out ?_)
      have HR5 := Lib.hid (show RowB w5 w.heap.size V5 (numH ([(m : Int), (a : Int), (s : Int)].take 1)) from ⟨own_base hown HBE.out.size, lt_app HBY.out.lt (digs_lt _ _ _) |> fun h => by simpa [numH] using h⟩)
      have HB5 := Lib.hid (below_more HBE.out hb5)
      clear hown hb5 HP
      refine go_on ?_
      go_wp2
      go_roundw
      case rel => exact ⟨1, rfl, by omega, HR5.out, HB5.out⟩
      case measure => simp [intOf]
    · have HP := Lib.hid (put_ok true 4 a 4 c4 A4 (numH ([(m : Int), (a : Int), (s : Int)].take 1)) wr (by omega) (by omega) (by omega) (by omega) HBY.out)
      go_wp2_with (go_at_call 49; refine HP.out.mono ?_; rintro _ w5 ⟨V5, rfl, hown, hb5⟩; refine Hid.out ?_)
      have HR5 := Lib.hid (show RowB w5 w.heap.size V5 (numH ([(m : Int), (a : Int), (s : Int)].take 2)) from ⟨own_base hown HBE.out.size, lt_app HBY.out.lt (digs_lt _ _ _) |> fun h => by simpa [numH] using h⟩)
      have HB5 := Lib.hid (below_more HBE.out hb5)
      clear hown hb5 HP
      refine go_on ?_
      go_wp2
      go_roundw
      case rel => exact ⟨2, rfl, by omega, HR5.out, HB5.out⟩
      case measure => simp [intOf]
    · have HP := Lib.hid (put_ok true 4 s 8 c4 A4 (numH ([(m : Int), (a : Int), (s : Int)].take 2)) wr (by omega) (by omega) (by omega) (by omega) HBY.out)
      go_wp2_with (go_at_call 49; refine HP.out.mono ?_; rintro _ w5 ⟨V5, rfl, hown, hb5⟩; refine Hid.out ?_)
      have HR5 := Lib.hid (show RowB w5 w.heap.size V5 (numH ([(m : Int), (a : Int), (s : Int)].take 3)) from ⟨own_base hown HBE.out.size, lt_app HBY.out.lt (digs_lt _ _ _) |> fun h => by simpa [numH] using h⟩)
      have HB5 := Lib.hid (below_more HBE.out hb5)
      clear hown hb5 HP
      refine go_on ?_
      go_wp2
      go_roundw
      case rel => exact ⟨3, rfl, by omega, HR5.out, HB5.out⟩
      case measure => simp [intOf]
    · have HHD := Lib.hid (show numH ([(m : Int), (a : Int), (s : Int)].take 3) = digs 4 true m ++ digs 4 true a ++ digs 4 true s by simp [numH])
      have HR0 := Lib.hid (show RowB wr w.heap.size (.slice A4 (3 * 4) c4) (digs 4 true m ++ digs 4 true a ++ digs 4 true s) by rw [← HHD.out]; exact HRW.out)
      have HPW := Lib.hid (HP0.out.later HBE.out)
      have HLL := Lib.hid (show (digs 4 true m ++ digs 4 true a ++ digs 4 true s).length + m ≤ 140737488355328 by simp only [List.length_append, digs_len]; omega)
      go_wp2_with (at_builtin; refine wp_rowb rfl (.tmp 28) (.tmp 29) rfl w.heap.size m cp _ (digs 4 true m ++ digs 4 true a ++ digs 4 true s) part Ap _ rfl rfl HR0.out HPW.out HLL.out HBE.out.size ?_; intro V6 w6 hrow6 hb6; refine Hid.out ?_)
      have hl6 : (digs 4 true m ++ digs 4 true a ++ digs 4 true s ++ part).length = m + 12 := by simp only [List.length_append, digs_len]; omega
      obtain ⟨g, cap, hV6, hg1, hg2⟩ := hrow6.own.form (by rw [hl6]; omega)
      have hown6 := hrow6.own
      rw [hl6] at hV6 hown6
      subst hV6
      have HR6 := Lib.hid hrow6
      have HB6 := Lib.hid (HBE.out.trans hb6)
      obtain ⟨z, hz⟩ : ∃ z, m + 16 + z = size := ⟨size - 16 - m, by omega⟩
      obtain ⟨V7, w7, hr7, hown7, hgr7⟩ := run_zeros w6 w.heap.size 31 (m + 12) z g cap _ hown6 hrow6.lt (by omega) HB6.out.size
      have HR7 := Lib.hid (show RowB w7 w.heap.size V7 (digs 4 true m ++ digs 4 true a ++ digs 4 true s ++ part ++ List.replicate z 0) from ⟨by
        have e : (digs 4 true m ++ digs 4 true a ++ digs 4 true s ++ part ++ List.replicate z 0).length = m + 12 + z := by rw [List.length_append, hl6, List.length_replicate]
        rw [e]; exact hown7, lt_app hrow6.lt (fun x hx => by have := (List.mem_replicate.mp hx).2; omega)⟩)
      have HB7 := Lib.hid (HB6.out.grown hgr7 HB6.out.size (fun j hj => by obtain rfl := Option.some.inj hj; exact hg1))
      have HRUN := Lib.hid hr7
      have HEQ := Lib.hid (show blockL part ((a : Int), (s : Int)) size = sealL (digs 4 true m ++ digs 4 true a ++ digs 4 true s ++ part ++ List.replicate z 0) by
        unfold blockL
        rw [Int.toNat_natCast, Int.toNat_natCast, hl, show size - 16 - m = z by omega])
      have r1 : IntKind.i64.wrap ((size : Int) - 4) = (size : Int) - 4 := IntWalk.i64_in _ (by omega)
      have r1' : wrap64 ((size : Int) - 4) = (size : Int) - 4 := by unfold wrap64; omega
      have r2 : IntKind.i64.wrap ((size : Int) - 4 - ((m : Int) + 12)) = (z : Int) := by rw [show (size : Int) - 4 - ((m : Int) + 12) = (z : Int) by omega]; exact IntWalk.i64_in _ (by omega)
      have r2' : wrap64 ((size : Int) - 4 - ((m : Int) + 12)) = (z : Int) := by unfold wrap64; omega
      have HL6 := Lib.hid hl6
      have HZ := Lib.hid hz
      clear hrow6 hb6 hown6 hown7 hgr7 hr7 hl6 hz q0 q1 q2
      generalize digs 4 true m ++ digs 4 true a ++ digs 4 true s ++ part = pre at *
      refine go_on ?_
      go_wp2_with (at_builtin; refine Lib.wpList_append_run w6 rfl (.tmp 31) (.tmp 36) 31 3 rfl _ _ rfl rfl V7 w7 HRUN.out ?_; refine Hid.out ?_)
      obtain ⟨A7, c7, hV7, hby7⟩ := HR7.out.byt
      subst hV7
      obtain ⟨L7, hL7⟩ : ∃ L7, (pre ++ List.replicate z 0).length = L7 := ⟨_, rfl⟩
      rw [hL7] at hby7
      rw [hL7]
      have HSE := Lib.hid (seal_any A7 L7 c7 (pre ++ List.replicate z 0) w7 (by have h1 := HL6.out; have h2 := HZ.out; rw [← hL7, List.length_append, h1, List.length_replicate]; omega) hby7 (HG.out.later HB7.out (Nat.le_refl _)))
      clear hby7 hL7 HRUN
      refine go_on ?_
      go_wp2_with (go_at_call 51; refine HSE.out.mono ?_; rintro _ w8 ⟨V8, rfl, hrow8, hb8⟩; refine Hid.out ?_)
      have HR8 := Lib.hid (hrow8.up HB7.out.size)
      have HB8 := Lib.hid (below_more HB7.out hb8)
      clear hrow8 hb8 HSE
      refine go_on ?_
      go_wp2
      go_ret
      exact ⟨V8, rfl, by rw [HEQ.out]; exact HR8.out, HB8.out⟩
end Go.Proofs.YtcgapkepbnbabaaDoor.X5
