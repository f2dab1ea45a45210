/- header.stream, header.wide. -/
import Derived.Test.YtcgapkepbnbabaaDoorLc
namespace Go.Proofs.YtcgapkepbnbabaaDoor.X5
set_option linter.unusedVariables false
set_option linter.unusedSimpArgs false
open Go.RowKit Wd Ty9

def preB (n : Nat) (l : List Mg) : List Nat := digs 4 true n ++ l.flatMap oneB
theorem preB_snoc (n : Nat) (l : List Mg) (m : Mg) : preB n (l ++ [m]) = preB n l ++ digs 4 true m.1.toNat ++ digs 4 true m.2.length ++ m.2 := by unfold preB oneB; simp
theorem preB_len (n : Nat) (l : List Mg) : (preB n l).length = sizeM l := by
  have h := stream_len l
  unfold streamM at h
  unfold preB
  rw [List.length_append, digs_len] at h ⊢
  exact h

set_option maxHeartbeats 1000000 in
set_option maxRecDepth 100000 in
theorem stream_any (A : Option Addr) (n C : Nat) (l : List Mg) (w : World) (h : Ms w w.heap.size A n l) (hm0 : IsMay l 0) :
    Calls Tryd.prog 29 #[.slice A n C] w fun e w' => ∃ V, e = .returned V ∧ RowB w' w.heap.size V (streamM l) ∧ Below w.heap.size w w' := by
  have hl := h.len
  have HM := Lib.hid h
  obtain ⟨hlen, hsm, hok⟩ : l.length ≤ 65536 ∧ (∀ m ∈ l, smallM m) ∧ ∀ m ∈ l, okM m := by
    rcases hm0 with ⟨_, h⟩ | ⟨h, ⟨_, h2⟩ | ⟨h2, _⟩⟩
    · cases h
    · cases h2
    · exact ⟨h.1, h.2, h2⟩
  have HSM := Lib.hid hsm
  have HOK := Lib.hid hok
  have HLS := Lib.hid (show preB n l = streamM l by unfold preB streamM; rw [hl])
  have hnb : n ≤ 65536 := by omega
  have HP0 := Lib.hid (put_ok true 4 n 0 0 none [] w (by omega) (by omega) (by omega) (by omega) Byt.nil)
  have q0 : IntKind.u64.wrap (n : Int) = (n : Int) := by simp [IntKind.wrap, IntKind.bits, IntKind.signed]; omega
  clear h hm0 hsm hok hlen
  go_enter Tryd.func29, Tryd.ntmps29
  go_wp2_with (go_at_call 49; refine HP0.out.mono ?_; rintro _ w1 ⟨V1, rfl, hown, hb⟩; refine Hid.out ?_)
  have HR1 := Lib.hid (show RowB w1 w.heap.size V1 (preB n (l.take 0)) from ⟨by have h1 := hown; rw [List.nil_append] at h1; unfold preB; simpa [digs_len] using h1, by unfold preB; simpa using digs_lt 4 true n⟩)
  have HB1 := Lib.hid hb
  clear hown hb HP0 q0
  refine go_on ?_
  go_wp2
  go_loopw [3, 16] (fun v i wr => ∃ (k : Nat), i = .int .i64 k ∧ k ≤ n ∧ RowB wr w.heap.size v (preB n (l.take k)) ∧ Below w.heap.size w wr) (fun _ i _ => n - (intOf i).toNat)
  case atStart => exact ⟨0, rfl, Nat.zero_le _, HR1.out, HB1.out⟩
  case round =>
    obtain ⟨k, rfl, hk, hrow, hbe⟩ := hrel
    have HBE := Lib.hid hbe
    obtain ⟨A4, c4, hV, hby⟩ := hrow.byt
    rw [preB_len] at hV hby
    subst hV
    have HRW := Lib.hid hrow
    have HBY := Lib.hid hby
    clear hrow hby hbe
    have hszk := size_bound (l := l.take k) (fun m hm => HSM.out m (List.mem_of_mem_take hm))
    rw [List.length_take] at hszk
    have hs1 : sizeM (l.take k) ≤ 4295496000 := by
      have : min k l.length ≤ 65536 := by omega
      have := Nat.mul_le_mul_right 65544 this
      omega
    clear hszk
    by_cases hlt : k < n
    · have hltz : (k : Int) < (n : Int) := by omega
      obtain ⟨b, o, x, Ai, ci, rfl, hb1, hx, c0, c1, hci, hmi, hyi⟩ := HM.out.get hlt
      have HYI := Lib.hid hyi
      rw [← HBE.out.cell (p := ⟨b, o + k * 2, none⟩) hb1] at c0
      rw [← HBE.out.cell (p := ⟨b, o + k * 2 + 1, none⟩) hb1] at c1
      have hsx := HSM.out x (List.mem_of_getElem? hx)
      have hox := HOK.out x (List.mem_of_getElem? hx)
      unfold smallM at hsx
      unfold okM at hox
      have HTK := Lib.hid (show preB n (l.take (k + 1)) = preB n (l.take k) ++ digs 4 true x.1.toNat ++ digs 4 true x.2.length ++ x.2 by rw [take_snoc hx, preB_snoc])
      obtain ⟨x0, xs⟩ := x
      simp only at c0 c1 hci hmi HYI hsx hox HTK
      obtain ⟨u, hu⟩ : ∃ u : Nat, (u : Int) = x0 := ⟨x0.toNat, by omega⟩
      subst hu
      rw [Int.toNat_natCast] at HTK
      have q0 : IntKind.u64.wrap (u : Int) = (u : Int) := by simp [IntKind.wrap, IntKind.bits, IntKind.signed]; omega
      have HBX := Lib.hid (Bx.new wr 56 #[.int .i64 u, .slice Ai xs.length ci])
      have HBN := Lib.hid (below_new wr (.cells #[.int .i64 u, .slice Ai xs.length ci] 56))
      have HP := Lib.hid (put_ok true 4 u (sizeM (l.take k)) c4 A4 (preB n (l.take k)) (wr.alloc (.cells #[.int .i64 u, .slice Ai xs.length ci] 56)) (by omega) (by omega) (by omega) (by omega) ((HBY.out.later HBN.out).up HBN.out.size))
      have HRWN := Lib.hid (HRW.out.below HBN.out)
      have HLP := Lib.hid (preB_len n (l.take k))
      have hlx := HYI.out.len
      generalize hq : xs.length = q at *
      clear hyi hx
      have HSE := Lib.hid (rfl : sizeM (l.take k) = sizeM (l.take k))
      generalize sizeM (l.take k) = s at *
      go_wp2_with (go_at_call 49; refine HP.out.mono ?_; rintro _ w5 ⟨V5, rfl, hown5, hb5⟩; refine Hid.out ?_)
      have hbx := HBX.out.later hb5 HBX.out.lt
      have x1 : w5.cell? ⟨wr.heap.size, 1, none⟩ = some (.slice Ai q ci) := hbx.cell 1
      have HW5 := Lib.hid (below_more HBE.out (below_more HBN.out hb5))
      obtain ⟨A5, C5, hV5⟩ := own_form hown5
      subst hV5
      have hby5 := Byt.of_own hown5 (lt_app HBY.out.lt (digs_lt _ _ _))
      have HPB := Lib.hid (putBytes_ok (s + 4) C5 q ci A5 Ai (preB n (l.take k) ++ digs 4 true u) xs w5 hsx (by omega) hby5 ((HYI.out.later HW5.out).up HW5.out.size))
      clear hown5 hb5 HP hbx hby5 c0 c1
      refine go_on ?_
      go_wp2_with (go_at_call 50; refine HPB.out.mono ?_; rintro _ w6 ⟨V6, rfl, hown6, hb6⟩; refine Hid.out ?_)
      have HW6 := Lib.hid (below_more HW5.out hb6)
      have HR6 := Lib.hid (show RowB w6 w.heap.size V6 (preB n (l.take (k + 1))) from by
        rw [HTK.out]
        refine ⟨own_base ?_ HW5.out.size, lt_app (lt_app (lt_app HBY.out.lt (digs_lt _ _ _)) (digs_lt _ _ _)) HYI.out.lt⟩
        rw [List.length_append, List.length_append, List.length_append, HLP.out, digs_len, digs_len, hq]
        exact hown6)
      clear hown6 hb6 HPB x1
      refine go_on ?_
      go_wp2
      go_roundw
      case rel => exact ⟨k + 1, by go_num, by omega, HR6.out, HW6.out⟩
      case measure => simp [intOf]; omega
    · obtain rfl : k = n := by omega
      have HF := Lib.hid (show RowB wr w.heap.size (.slice A4 (sizeM (l.take k)) c4) (streamM l) by
        have h1 := HRW.out
        have e : l.take k = l := List.take_of_length_le (by omega)
        rw [e] at h1 ⊢
        rw [HLS.out] at h1
        exact h1)
      generalize sizeM (l.take k) = s at *
      go_wp2
      go_ret
      exact ⟨_, rfl, HF.out, HBE.out⟩

set_option maxHeartbeats 1000000 in
set_option maxRecDepth 100000 in
theorem wide_any (x : Xt) (w : World) : Calls Tryd.prog 27 #[av x] w fun e w' => e = .returned (.bool (decide (wideP x))) ∧ Below w.heap.size w w' := by
  obtain ⟨a, s⟩ := x
  have hd : (decide (wideP (a, s)) = true) ↔ (16 < s ∧ s ≤ 4194304 ∧ 0 ≤ a ∧ a ≤ 4194304 - s) := by rw [decide_eq_true_eq]; exact Iff.rfl
  have HD := Lib.hid hd
  generalize decide (wideP (a, s)) = r at *
  clear hd
  simp only [av] at *
  have HB := Lib.hid (below_new w (.cells #[.int .i64 a, .int .i64 s] 49))
  by_cases h1 : 16 < s
  · by_cases h2 : s ≤ 4194304
    · have hw : wrap64 (4194304 - s) = 4194304 - s := by unfold wrap64; omega
      have hw2 : IntKind.i64.wrap (4194304 - s) = 4194304 - s := IntWalk.i64_in _ (by omega)
      go_enter Tryd.func27, Tryd.ntmps27
      go_wp2
      all_goals
        go_ret
        refine ⟨congrArg (fun b => Ending.returned (Value.bool b)) (Bool.eq_iff_iff.mpr ?_), HB.out⟩
        rw [HD.out]
        simp only [decide_eq_true_eq, Bool.false_eq_true, false_iff, Bool.true_eq, true_iff]
        omega
    · go_enter Tryd.func27, Tryd.ntmps27
      go_wp2
      all_goals
        go_ret
        refine ⟨congrArg (fun b => Ending.returned (Value.bool b)) (Bool.eq_iff_iff.mpr ?_), HB.out⟩
        rw [HD.out]
        simp only [decide_eq_true_eq, Bool.false_eq_true, false_iff, Bool.true_eq, true_iff]
        omega
  · go_enter Tryd.func27, Tryd.ntmps27
    go_wp2
    all_goals
      go_ret
      refine ⟨congrArg (fun b => Ending.returned (Value.bool b)) (Bool.eq_iff_iff.mpr ?_), HB.out⟩
      rw [HD.out]
      simp only [decide_eq_true_eq, Bool.false_eq_true, false_iff, Bool.true_eq, true_iff]
      omega
end Go.Proofs.YtcgapkepbnbabaaDoor.X5
