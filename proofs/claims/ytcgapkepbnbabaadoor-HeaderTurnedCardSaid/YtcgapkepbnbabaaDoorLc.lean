/- Walks of header: may, Size, stream, wide, block. -/
import Derived.Test.YtcgapkepbnbabaaDoorLa
import Derived.Deep.DeepCutAuto
import Derived.Lib.AppendZerosOnto
namespace Go.Proofs.YtcgapkepbnbabaaDoor.X5
set_option linter.unusedVariables false
set_option linter.unusedSimpArgs false
open Go.RowKit Wd Ty9

theorem all_snoc {α : Type} {p : α → Prop} {l : List α} {x : α} : (∀ m ∈ l ++ [x], p m) ↔ (∀ m ∈ l, p m) ∧ p x := by
  constructor
  · intro h; exact ⟨fun m hm => h m (by simp [hm]), h x (by simp)⟩
  · rintro ⟨h1, h2⟩ m hm
    rcases List.mem_append.mp hm with hm | hm
    · exact h1 m hm
    · rw [List.mem_singleton] at hm; rw [hm]; exact h2

set_option maxHeartbeats 1000000 in
set_option maxRecDepth 100000 in
theorem hmay_any (A : Option Addr) (n C : Nat) (l : List Mg) (w : World) (hn : n ≤ 140737488355328) (h : Ms w w.heap.size A n l) :
    Calls Tryd.prog 25 #[.slice A n C] w fun e w' => (∃ z : Int, e = .returned (.int .i64 z) ∧ IsMay l z) ∧ Below w.heap.size w w' := by
  have hl := h.len
  have HM := Lib.hid h
  clear h
  by_cases hbig : 65536 < n
  · have z1 : (65536 : Int) < (n : Int) := by omega
    go_enter Tryd.func25, Tryd.ntmps25
    go_wp2
    go_ret
    exact ⟨⟨3, rfl, .inl ⟨fun h => by omega, rfl⟩⟩, Below.refl _ _⟩
  have z1 : ¬ (65536 : Int) < (n : Int) := by omega
  go_enter Tryd.func25, Tryd.ntmps25
  go_wp2
  go_loopw [3, 11] (fun v i wr => ∃ (k : Nat) (z : Int), v = .int .i64 z ∧ i = .int .i64 k ∧ k ≤ n ∧ Below w.heap.size w wr ∧ Hid ((∀ m ∈ l.take k, smallM m) ∧ ((z = 0 ∧ ∀ m ∈ l.take k, okM m) ∨ (z = 2 ∧ ¬ ∀ m ∈ l.take k, okM m)))) (fun _ i _ => n - (intOf i).toNat)
  case atStart => exact ⟨0, 0, rfl, rfl, Nat.zero_le _, Below.refl _ _, Lib.hid ⟨by simp, .inl ⟨rfl, by simp⟩⟩⟩
  case round =>
    obtain ⟨k, z, rfl, rfl, hk, hbe, HZ⟩ := hrel
    have HBE := Lib.hid hbe
    clear hbe
    by_cases hlt : k < n
    · have hltz : (k : Int) < (n : Int) := by omega
      obtain ⟨b, o, x, Ai, ci, rfl, hb1, hx, c0, c1, hci, hmi, hyi⟩ := HM.out.get hlt
      rw [← HBE.out.cell (p := ⟨b, o + k * 2, none⟩) hb1] at c0
      rw [← HBE.out.cell (p := ⟨b, o + k * 2 + 1, none⟩) hb1] at c1
      have HTK := Lib.hid (take_snoc hx)
      have HMEM := Lib.hid (List.mem_of_getElem? hx)
      clear hx hyi
      have HBN := Lib.hid (fun (V : Value) => below_more HBE.out (below_new wr (.cells #[.int .i64 x.1, V] 56)))
      by_cases hs : smallM x
      · have HS := Lib.hid hs
        unfold smallM at hs
        have y1 : ¬ (65536 : Int) < (x.2.length : Int) := by omega
        by_cases h1 : x.1 < 1
        · have HO := Lib.hid (show ¬ okM x from fun h => by have := h.1; omega)
          have d1 : decide (x.1 < 1) = true := by simp; exact h1
          generalize x.2.length = q at *
          clear hs
          go_wp2
          go_roundw
          case rel => exact ⟨k + 1, 2, rfl, by go_num, by omega, HBN.out _, Lib.hid (by rw [HTK.out]; exact ⟨all_snoc.mpr ⟨HZ.out.1, HS.out⟩, .inr ⟨rfl, fun h => HO.out (all_snoc.mp h).2⟩⟩)⟩
          case measure => simp [intOf]; omega
        · have d1 : decide (x.1 < 1) = false := by simp; omega
          by_cases h2 : 255 < x.1
          · have HO := Lib.hid (show ¬ okM x from fun h => by have := h.2; omega)
            have d2 : decide (255 < x.1) = true := by simp; exact h2
            generalize x.2.length = q at *
            clear hs
            go_wp2
            go_roundw
            case rel => exact ⟨k + 1, 2, rfl, by go_num, by omega, HBN.out _, Lib.hid (by rw [HTK.out]; exact ⟨all_snoc.mpr ⟨HZ.out.1, HS.out⟩, .inr ⟨rfl, fun h => HO.out (all_snoc.mp h).2⟩⟩)⟩
            case measure => simp [intOf]; omega
          · have HO := Lib.hid (show okM x from ⟨by omega, by omega⟩)
            have d2 : decide (255 < x.1) = false := by simp; omega
            generalize x.2.length = q at *
            clear hs
            go_wp2
            go_roundw
            case rel => exact ⟨k + 1, z, rfl, by go_num, by omega, HBN.out _, Lib.hid (by
              rw [HTK.out]
              refine ⟨all_snoc.mpr ⟨HZ.out.1, HS.out⟩, ?_⟩
              rcases HZ.out.2 with ⟨e, h⟩ | ⟨e, h⟩
              · exact .inl ⟨e, all_snoc.mpr ⟨h, HO.out⟩⟩
              · exact .inr ⟨e, fun h3 => h (all_snoc.mp h3).1⟩)⟩
            case measure => simp [intOf]; omega
      · have HS := Lib.hid (show IsMay l 3 from .inl ⟨fun h => hs (h.2 x HMEM.out), rfl⟩)
        unfold smallM at hs
        have y1 : (65536 : Int) < (x.2.length : Int) := by omega
        generalize x.2.length = q at *
        clear hs
        go_wp2
        go_ret
        exact ⟨⟨3, rfl, HS.out⟩, HBN.out _⟩
    · obtain rfl : k = n := by omega
      have HF := Lib.hid (show IsMay l z by
        have h1 := HZ.out
        rw [List.take_of_length_le (by omega)] at h1
        refine .inr ⟨⟨by omega, h1.1⟩, ?_⟩
        rcases h1.2 with ⟨e, h⟩ | ⟨e, h⟩
        · exact .inr ⟨h, e⟩
        · exact .inl ⟨h, e⟩)
      go_wp2
      go_ret
      exact ⟨⟨z, rfl, HF.out⟩, HBE.out⟩

set_option maxHeartbeats 1000000 in
set_option maxRecDepth 100000 in
theorem size_any (A : Option Addr) (n C : Nat) (l : List Mg) (w : World) (hn : n ≤ 140737488355328) (h : Ms w w.heap.size A n l) :
    Calls Tryd.prog 11 #[.slice A n C] w fun e w' => (∃ z s : Int, e = .returned (.tuple #[.int .i64 s, .int .i64 z]) ∧ IsMay l z ∧ ((z ≠ 0 ∧ s = 0) ∨ (z = 0 ∧ s = (sizeM l : Int)))) ∧ Below w.heap.size w w' := by
  have hl := h.len
  have HM := Lib.hid h
  have HMY := Lib.hid (hmay_any A n C l w hn h)
  clear h
  go_enter Tryd.func11, Tryd.ntmps11
  go_wp2_with (go_at_call 25; refine HMY.out.mono ?_; rintro _ w1 ⟨⟨z, rfl, hmy⟩, hb⟩; refine Hid.out ?_)
  have HB1 := Lib.hid hb
  have HMZ := Lib.hid hmy
  clear HMY
  by_cases hz : z = 0
  · subst hz
    obtain ⟨hlen, hsm⟩ : l.length ≤ 65536 ∧ ∀ m ∈ l, smallM m := by
      rcases hmy with ⟨_, h⟩ | ⟨h, _⟩
      · cases h
      · exact h
    have HSM := Lib.hid hsm
    have hnb : n ≤ 65536 := by omega
    clear hb hmy hsm hlen
    refine go_on ?_
    go_wp2
    go_loopw [5, 15] (fun v i wr => ∃ (k : Nat), v = .int .i64 (sizeM (l.take k) : Int) ∧ i = .int .i64 k ∧ k ≤ n ∧ Below w1.heap.size w1 wr) (fun _ i _ => n - (intOf i).toNat)
    case atStart => exact ⟨0, rfl, rfl, Nat.zero_le _, Below.refl _ _⟩
    case round =>
      obtain ⟨k, rfl, rfl, hk, hbe⟩ := hrel
      have HBE := Lib.hid (below_more HB1.out hbe)
      have HB3 := Lib.hid hbe
      clear hbe
      by_cases hlt : k < n
      · have hltz : (k : Int) < (n : Int) := by omega
        obtain ⟨b, o, x, Ai, ci, rfl, hb1, hx, c0, c1, hci, hmi, hyi⟩ := HM.out.get hlt
        rw [← HBE.out.cell (p := ⟨b, o + k * 2, none⟩) hb1] at c0
        rw [← HBE.out.cell (p := ⟨b, o + k * 2 + 1, none⟩) hb1] at c1
        have hsx := HSM.out x (List.mem_of_getElem? hx)
        unfold smallM at hsx
        have hszk := size_bound (l := l.take k) (fun m hm => HSM.out m (List.mem_of_mem_take hm))
        rw [List.length_take] at hszk
        have HTK := Lib.hid (show sizeM (l.take (k + 1)) = sizeM (l.take k) + (8 + x.2.length) by rw [take_snoc hx, size_snoc])
        have HBN := Lib.hid (fun (V : Value) => below_more HB3.out (below_new wr (.cells #[.int .i64 x.1, V] 56)))
        clear hx hyi
        generalize sizeM (l.take k) = s at *
        generalize x.2.length = q at *
        have R1 := Lib.hid (show IntKind.i64.wrap (8 + (q : Int)) = 8 + (q : Int) from IntWalk.i64_in _ (by omega))
        have R1' := Lib.hid (show wrap64 (8 + (q : Int)) = 8 + (q : Int) by unfold wrap64; omega)
        have R2 := Lib.hid (show IntKind.i64.wrap ((s : Int) + (8 + (q : Int))) = (s : Int) + (8 + (q : Int)) from IntWalk.i64_in _ (by omega))
        have R2' := Lib.hid (show wrap64 ((s : Int) + (8 + (q : Int))) = (s : Int) + (8 + (q : Int)) by unfold wrap64; omega)
        have r1 := R1.out
        have r1' := R1'.out
        have r2 := R2.out
        have r2' := R2'.out
        clear hszk
        go_wp2
        go_roundw
        case rel => exact ⟨k + 1, by rw [HTK.out]; go_num, by go_num, by omega, HBN.out _⟩
        case measure => simp [intOf]; omega
      · obtain rfl : k = n := by omega
        rw [List.take_of_length_le (show l.length ≤ k by omega)]
        generalize hs : sizeM l = s at *
        have HS := Lib.hid hs
        clear hs
        go_wp2
        go_ret2
        exact ⟨⟨0, s, rfl, HMZ.out, .inr ⟨rfl, by rw [HS.out]⟩⟩, HBE.out⟩
  · have z1 : (z != 0) = true := by simp [bne]; exact hz
    have z2 : (z == 0) = false := beq_eq_false_iff_ne.2 hz
    have HZ := Lib.hid hz
    clear hz hmy hb
    refine go_on ?_
    go_wp2
    go_ret2
    exact ⟨⟨z, 0, rfl, HMZ.out, .inl ⟨HZ.out, rfl⟩⟩, HB1.out⟩

def preB (n : Nat) (l : List Mg) : List Nat := digs 4 true n ++ l.flatMap oneB
theorem preB_snoc (n : Nat) (l : List Mg) (m : Mg) : preB n (l ++ [m]) = preB n l ++ digs 4 true m.1.toNat ++ digs 4 true m.2.length ++ m.2 := by unfold preB oneB; simp
theorem preB_len (n : Nat) (l : List Mg) : (preB n l).length = sizeM l := by
  have h := stream_len l
  unfold streamM at h
  unfold preB
  rw [List.length_append, digs_len] at h ⊢
  exact h

set_option maxHeartbeats 1000000 in
set_option maxRecDepth 100000 in
theorem stream_any (A : Option Addr) (n C : Nat) (l : List Mg) (w : World) (h : Ms w w.heap.size A n l) (hm0 : IsMay l 0) :
    Calls Tryd.prog 29 #[.slice A n C] w fun e w' => ∃ V, e = .returned V ∧ RowB w' w.heap.size V (streamM l) ∧ Below w.heap.size w w' := by
  have hl := h.len
  have HM := Lib.hid h
  obtain ⟨hlen, hsm, hok⟩ : l.length ≤ 65536 ∧ (∀ m ∈ l, smallM m) ∧ ∀ m ∈ l, okM m := by
    rcases hm0 with ⟨_, h⟩ | ⟨h, ⟨_, h2⟩ | ⟨h2, _⟩⟩
    · cases h
    · cases h2
    · exact ⟨h.1, h.2, h2⟩
  have HSM := Lib.hid hsm
  have HOK := Lib.hid hok
  have HLS := Lib.hid (show preB n l = streamM l by unfold preB streamM; rw [hl])
  have hnb : n ≤ 65536 := by omega
  have HP0 := Lib.hid (put_ok true 4 n 0 0 none [] w (by omega) (by omega) (by omega) (by omega) Byt.nil)
  have q0 : IntKind.u64.wrap (n : Int) = (n : Int) := by simp [IntKind.wrap, IntKind.bits, IntKind.signed]; omega
  clear h hm0 hsm hok hlen
  go_enter Tryd.func29, Tryd.ntmps29
  go_wp2_with (go_at_call 49; refine HP0.out.mono ?_; rintro _ w1 ⟨V1, rfl, hown, hb⟩; refine Hid.out ?_)
  have HR1 := Lib.hid (show RowB w1 w.heap.size V1 (preB n (l.take 0)) from ⟨by have h1 := hown; rw [List.nil_append] at h1; unfold preB; simpa [digs_len] using h1, by unfold preB; simpa using digs_lt 4 true n⟩)
  have HB1 := Lib.hid hb
  clear hown hb HP0 q0
  refine go_on ?_
  go_wp2
  go_loopw [3, 16] (fun v i wr => ∃ (k : Nat), i = .int .i64 k ∧ k ≤ n ∧ RowB wr w.heap.size v (preB n (l.take k)) ∧ Below w.heap.size w wr) (fun _ i _ => n - (intOf i).toNat)
  case atStart => exact ⟨0, rfl, Nat.zero_le _, HR1.out, HB1.out⟩
  case round =>
    obtain ⟨k, rfl, hk, hrow, hbe⟩ := hrel
    have HBE := Lib.hid hbe
    obtain ⟨A4, c4, hV, hby⟩ := hrow.byt
    rw [preB_len] at hV hby
    subst hV
    have HRW := Lib.hid hrow
    have HBY := Lib.hid hby
    clear hrow hby hbe
    have hszk := size_bound (l := l.take k) (fun m hm => HSM.out m (List.mem_of_mem_take hm))
    rw [List.length_take] at hszk
    have hs1 : sizeM (l.take k) ≤ 4295496000 := by
      have : min k l.length ≤ 65536 := by omega
      have := Nat.mul_le_mul_right 65544 this
      omega
    clear hszk
    by_cases hlt : k < n
    · have hltz : (k : Int) < (n : Int) := by omega
      obtain ⟨b, o, x, Ai, ci, rfl, hb1, hx, c0, c1, hci, hmi, hyi⟩ := HM.out.get hlt
      have HYI := Lib.hid hyi
      rw [← HBE.out.cell (p := ⟨b, o + k * 2, none⟩) hb1] at c0
      rw [← HBE.out.cell (p := ⟨b, o + k * 2 + 1, none⟩) hb1] at c1
      have hsx := HSM.out x (List.mem_of_getElem? hx)
      have hox := HOK.out x (List.mem_of_getElem? hx)
      unfold smallM at hsx
      unfold okM at hox
      have HTK := Lib.hid (show preB n (l.take (k + 1)) = preB n (l.take k) ++ digs 4 true x.1.toNat ++ digs 4 true x.2.length ++ x.2 by rw [take_snoc hx, preB_snoc])
      obtain ⟨x0, xs⟩ := x
      simp only at c0 c1 hci hmi HYI hsx hox HTK
      obtain ⟨u, hu⟩ : ∃ u : Nat, (u : Int) = x0 := ⟨x0.toNat, by omega⟩
      subst hu
      rw [Int.toNat_natCast] at HTK
      have q0 : IntKind.u64.wrap (u : Int) = (u : Int) := by simp [IntKind.wrap, IntKind.bits, IntKind.signed]; omega
      have HBX := Lib.hid (Bx.new wr 56 #[.int .i64 u, .slice Ai xs.length ci])
      have HBN := Lib.hid (below_new wr (.cells #[.int .i64 u, .slice Ai xs.length ci] 56))
      have HP := Lib.hid (put_ok true 4 u (sizeM (l.take k)) c4 A4 (preB n (l.take k)) (wr.alloc (.cells #[.int .i64 u, .slice Ai xs.length ci] 56)) (by omega) (by omega) (by omega) (by omega) ((HBY.out.later HBN.out).up HBN.out.size))
      have HRWN := Lib.hid (HRW.out.below HBN.out)
      have HLP := Lib.hid (preB_len n (l.take k))
      have hlx := HYI.out.len
      generalize hq : xs.length = q at *
      clear hyi hx
      have HSE := Lib.hid (rfl : sizeM (l.take k) = sizeM (l.take k))
      generalize sizeM (l.take k) = s at *
      go_wp2_with (go_at_call 49; refine HP.out.mono ?_; rintro _ w5 ⟨V5, rfl, hown5, hb5⟩; refine Hid.out ?_)
      have hbx := HBX.out.later hb5 HBX.out.lt
      have x1 : w5.cell? ⟨wr.heap.size, 1, none⟩ = some (.slice Ai q ci) := hbx.cell 1
      have HW5 := Lib.hid (below_more HBE.out (below_more HBN.out hb5))
      obtain ⟨A5, C5, hV5⟩ := own_form hown5
      subst hV5
      have hby5 := Byt.of_own hown5 (lt_app HBY.out.lt (digs_lt _ _ _))
      have HPB := Lib.hid (putBytes_ok (s + 4) C5 q ci A5 Ai (preB n (l.take k) ++ digs 4 true u) xs w5 hsx (by omega) hby5 ((HYI.out.later HW5.out).up HW5.out.size))
      clear hown5 hb5 HP hbx hby5 c0 c1
      refine go_on ?_
      go_wp2_with (go_at_call 50; refine HPB.out.mono ?_; rintro _ w6 ⟨V6, rfl, hown6, hb6⟩; refine Hid.out ?_)
      have HW6 := Lib.hid (below_more HW5.out hb6)
      have HR6 := Lib.hid (show RowB w6 w.heap.size V6 (preB n (l.take (k + 1))) from by
        rw [HTK.out]
        refine ⟨own_base ?_ HW5.out.size, lt_app (lt_app (lt_app HBY.out.lt (digs_lt _ _ _)) (digs_lt _ _ _)) HYI.out.lt⟩
        rw [List.length_append, List.length_append, List.length_append, HLP.out, digs_len, digs_len, hq]
        exact hown6)
      clear hown6 hb6 HPB x1
      refine go_on ?_
      go_wp2
      go_roundw
      case rel => exact ⟨k + 1, by go_num, by omega, HR6.out, HW6.out⟩
      case measure => simp [intOf]; omega
    · obtain rfl : k = n := by omega
      have HF := Lib.hid (show RowB wr w.heap.size (.slice A4 (sizeM (l.take k)) c4) (streamM l) by
        have h1 := HRW.out
        have e : l.take k = l := List.take_of_length_le (by omega)
        rw [e] at h1 ⊢
        rw [HLS.out] at h1
        exact h1)
      generalize sizeM (l.take k) = s at *
      go_wp2
      go_ret
      exact ⟨_, rfl, HF.out, HBE.out⟩

set_option maxHeartbeats 1000000 in
set_option maxRecDepth 100000 in
theorem wide_any (x : Xt) (w : World) : Calls Tryd.prog 27 #[av x] w fun e w' => e = .returned (.bool (decide (wideP x))) ∧ Below w.heap.size w w' := by
  obtain ⟨a, s⟩ := x
  have hd : (decide (wideP (a, s)) = true) ↔ (16 < s ∧ s ≤ 4194304 ∧ 0 ≤ a ∧ a ≤ 4194304 - s) := by rw [decide_eq_true_eq]; exact Iff.rfl
  have HD := Lib.hid hd
  generalize decide (wideP (a, s)) = r at *
  clear hd
  simp only [av] at *
  have HB := Lib.hid (below_new w (.cells #[.int .i64 a, .int .i64 s] 49))
  by_cases h1 : 16 < s
  · by_cases h2 : s ≤ 4194304
    · have hw : wrap64 (4194304 - s) = 4194304 - s := by unfold wrap64; omega
      have hw2 : IntKind.i64.wrap (4194304 - s) = 4194304 - s := IntWalk.i64_in _ (by omega)
      go_enter Tryd.func27, Tryd.ntmps27
      go_wp2
      all_goals
        go_ret
        refine ⟨congrArg (fun b => Ending.returned (Value.bool b)) (Bool.eq_iff_iff.mpr ?_), HB.out⟩
        rw [HD.out]
        simp only [decide_eq_true_eq, Bool.false_eq_true, false_iff, Bool.true_eq, true_iff]
        omega
    · go_enter Tryd.func27, Tryd.ntmps27
      go_wp2
      all_goals
        go_ret
        refine ⟨congrArg (fun b => Ending.returned (Value.bool b)) (Bool.eq_iff_iff.mpr ?_), HB.out⟩
        rw [HD.out]
        simp only [decide_eq_true_eq, Bool.false_eq_true, false_iff, Bool.true_eq, true_iff]
        omega
  · go_enter Tryd.func27, Tryd.ntmps27
    go_wp2
    all_goals
      go_ret
      refine ⟨congrArg (fun b => Ending.returned (Value.bool b)) (Bool.eq_iff_iff.mpr ?_), HB.out⟩
      rw [HD.out]
      simp only [decide_eq_true_eq, Bool.false_eq_true, false_iff, Bool.true_eq, true_iff]
      omega

theorem zero_cells (m : Nat) : Builtin.zeroCells (Value.int .u8 0).cells m = (by8 (List.replicate m 0)).toArray := by
  apply Array.ext'
  simp [Builtin.zeroCells, by8, Value.cells]
  apply List.ext_getElem
  · simp
  · intro i h1 h2
    simp [Nat.mod_one]

theorem run_zeros (w : World) (base ty n m g cap : Nat) (bs : List Nat) (hown : w.ownsRow base 5 1 (.slice (some ⟨g, 0, none⟩) n cap) n (by8 bs)) (hlt : ∀ x ∈ bs, x < 256) (hl : n + m ≤ 140737488355328) (hb : base ≤ w.heap.size) :
    ∃ v' w', (Builtin.append_ #[31, 3] ty #[.slice (some ⟨g, 0, none⟩) n cap, .int .i64 m]).run Tryd.prog w = .ok v' w' ∧ w'.ownsRow base 5 1 v' (n + m) (by8 (bs ++ List.replicate m 0)) ∧ w.grownBy w' (some g) := by
  obtain ⟨i0, hi0, hz, hs0, hbt⟩ := info_parts byte_info
  have hw : IntKind.i64.wrap (m : Int) = m := IntWalk.i64_in _ (by omega)
  have hneg : ¬ ((m : Int) < 0) := by omega
  have h48i : ¬ (281474976710656 < (m : Int) * (i0.bytes : Int)) := by rw [hbt]; omega
  have hlen : (by8 (bs ++ List.replicate m 0)).length = (n + m) * 1 := by have h1 := hown.1; rw [by8_len] at h1; rw [by8_len, List.length_append, List.length_replicate]; omega
  have hsm : n + m ≤ maxLen := by unfold maxLen; omega
  have h1c : ∀ u ∈ by8 (List.replicate m 0), u.oneCell' = true := by
    intro u hu; simp [by8] at hu; obtain ⟨_, rfl⟩ := hu; rfl
  have hown2 := hown.2
  rcases hown2 with ⟨hv, _⟩ | ⟨g', cap', cur, hv, hbg, hg, hnc, hcm, hcs, htake⟩
  · cases hv
  · cases hv
    by_cases hroom : n + m ≤ cap
    · have hfit : n * 1 + (by8 (List.replicate m 0)).length ≤ cur.size := by rw [by8_len, List.length_replicate, hcs]; omega
      have hst := run_storeCells_at Tryd.prog g (n * 1) 5 (by8 (List.replicate m 0)) 0 cur w hg (by simpa using hfit) h1c
      simp only [Nat.add_zero] at hst
      have hr : (Builtin.append_ #[31, 3] ty #[.slice (some ⟨g, 0, none⟩) n cap, .int .i64 m]).run Tryd.prog w =
          .ok (.slice (some ⟨g, 0, none⟩) (n + m) cap) (w.setRow g (cur.toList.take (n * 1) ++ by8 (List.replicate m 0) ++ cur.toList.drop (n * 1 + (by8 (List.replicate m 0)).length)).toArray) := by
        by_cases hm : m = 0
        · subst hm
          simp [by8] at hst
          have hw0 : IntKind.i64.wrap 0 = 0 := by decide
          simp [Builtin.append_, hw0, run_underlying Tryd.underlying31, run_underlying Tryd.underlying3, sizeOf, typeInfo, zeroValue, hi0, hz, hs0, asInt, asIntOf, hw, hneg, h48i, Addr.add_lit, hnc, by8, hst]
        · simp [Builtin.append_, run_underlying Tryd.underlying31, run_underlying Tryd.underlying3, sizeOf, typeInfo, zeroValue, hi0, hz, hs0, asInt, asIntOf, hw, hneg, h48i, hm, hroom, Addr.add_lit, zero_cells]
          simp at hst
          rw [hst]
          simp
      refine ⟨_, _, hr, ⟨hlen, .inr ⟨g, cap, _, rfl, hbg, setRow_heap w g cur _ 5 _ hg, hroom, hcm, ?_, ?_⟩⟩, ⟨rfl, rfl, rfl, by simp, fun k _ hk => setRow_other w g k _ (fun e => hk (by simp [e]))⟩⟩
      · simp only [List.size_toArray, List.length_append, List.length_take, List.length_drop, Array.length_toList]
        omega
      · rw [htake, ← by8_app, ← hlen]
        exact List.take_left
    · have holds : ∀ j u, (by8 bs)[j]? = some u → w.drew.cell? ((⟨g, 0, none⟩ : Addr).add j) = some u := fun j u hu => by
        have := hown.cells (g := g) rfl j u hu
        simpa using this
      have hold := run_firstCells_some (P := Tryd.prog) w.drew i0.size n ⟨g, 0, none⟩ n cap (by8 bs) (by rw [hs0]; exact hown.1) holds
      have hr := Lib.run_append_grow_zeros (P := Tryd.prog) w 31 3 ty 5 i0 (.int .u8 0) .i64 .i64 Tryd.underlying31 Tryd.underlying3 hi0 hz (some ⟨g, 0, none⟩) n cap (by8 bs) hold m (by omega) (by rw [hs0]; decide) (by omega) (by omega) (by rw [hbt]; omega) (growslice_fits (by omega) (by rw [hbt]; omega))
      have hge := grownCap_ge w (n + m) cap 5
      have hcm2 : grownCap w (n + m) cap 5 ≤ maxLen := grownCap_le_maxLen w (n + m) cap 5 hsm
      refine ⟨_, _, hr, ⟨hlen, .inr ⟨w.heap.size, _, _, rfl, hb, heap_alloc_new w.drew _, hge, hcm2, ?_, ?_⟩⟩, ⟨rfl, rfl, rfl, by simp, fun k hk _ => by rw [heap_alloc_old w.drew _ (by simpa using hk)]; rfl⟩⟩
      · have h1 := hown.1
        simp only [Array.size_append, List.size_toArray, size_zeroCells, h1]
        simp [Value.cells]
        omega
      · rw [zero_cells]
        simp only [Array.toList_append]
        rw [← by8_app, ← hlen]
        exact List.take_left

def numH (zs : List Int) : List Nat := zs.flatMap fun z => digs 4 true z.toNat
theorem numH_len (zs : List Int) : (numH zs).length = zs.length * 4 := by
  induction zs with
  | nil => rfl
  | cons z zs ih => unfold numH at *; rw [List.flatMap_cons, List.length_append, ih, digs_len, List.length_cons]; omega

set_option maxHeartbeats 1000000 in
set_option maxRecDepth 100000 in
theorem block_any (Ap : Option Addr) (m cp a s size : Nat) (part : List Nat) (w : World) (ha : a ≤ 4194304) (hs : s ≤ 4194304) (hm : m + 16 ≤ size) (hsz : size ≤ 4194304) (hp : Byt w w.heap.size Ap m part) (hG : Gs w) :
    Calls Tryd.prog 30 #[.slice Ap m cp, .agg #[.int .i64 a, .int .i64 s], .int .i64 size] w fun e w' => ∃ V, e = .returned V ∧ RowB w' w.heap.size V (blockL part ((a : Int), (s : Int)) size) ∧ Below w.heap.size w w' := by
  have hl := hp.len
  have HP0 := Lib.hid hp
  have HG := Lib.hid hG
  have HB0 := Lib.hid (below_new w (.cells #[.int .i64 a, .int .i64 s] 49))
  clear hp hG
  have q0 : IntKind.u64.wrap (m : Int) = (m : Int) := by simp [IntKind.wrap, IntKind.bits, IntKind.signed]; omega
  have q1 : IntKind.u64.wrap (a : Int) = (a : Int) := by simp [IntKind.wrap, IntKind.bits, IntKind.signed]; omega
  have q2 : IntKind.u64.wrap (s : Int) = (s : Int) := by simp [IntKind.wrap, IntKind.bits, IntKind.signed]; omega
  have x0 : ∀ W : World, (Instr.index 60 (.agg #[.int .i64 (m : Int), .int .i64 (a : Int), .int .i64 (s : Int)]) (.int .i64 0)).run Tryd.prog W = .ok (.int .i64 m) W := fun W => by kernel_rfl
  have x1 : ∀ W : World, (Instr.index 60 (.agg #[.int .i64 (m : Int), .int .i64 (a : Int), .int .i64 (s : Int)]) (.int .i64 1)).run Tryd.prog W = .ok (.int .i64 a) W := fun W => by kernel_rfl
  have x2 : ∀ W : World, (Instr.index 60 (.agg #[.int .i64 (m : Int), .int .i64 (a : Int), .int .i64 (s : Int)]) (.int .i64 2)).run Tryd.prog W = .ok (.int .i64 s) W := fun W => by kernel_rfl
  go_enter Tryd.func30, Tryd.ntmps30
  go_wp2
  go_loopw [7, 17] (fun v i wr => ∃ (k : Nat), i = .int .i64 k ∧ k ≤ 3 ∧ RowB wr w.heap.size v (numH ([(m : Int), (a : Int), (s : Int)].take k)) ∧ Below w.heap.size w wr) (fun _ i _ => 3 - (intOf i).toNat)
  case atStart => exact ⟨0, rfl, Nat.zero_le _, RowB.nil _ _, HB0.out⟩
  case round =>
    obtain ⟨k, rfl, hk, hrow, hbe⟩ := hrel
    have HBE := Lib.hid hbe
    obtain ⟨A4, c4, hV, hby⟩ := hrow.byt
    have hnl : (numH ([(m : Int), (a : Int), (s : Int)].take k)).length = k * 4 := by rw [numH_len, List.length_take]; simp; omega
    rw [hnl] at hV hby
    subst hV
    have HRW := Lib.hid hrow
    have HBY := Lib.hid hby
    clear hrow hby hbe hnl
    have h4 : k = 0 ∨ k = 1 ∨ k = 2 ∨ k = 3 := by omega
    rcases h4 with rfl | rfl | rfl | rfl
    · have HP := Lib.hid (put_ok true 4 m 0 c4 A4 (numH ([(m : Int), (a : Int), (s : Int)].take 0)) wr (by omega) (by omega) (by omega) (by omega) HBY.out)
      go_wp2_with (go_at_call 49; refine HP.out.mono ?_; rintro _ w5 ⟨V5, rfl, hown, hb5⟩; refine Hid.out ?_)
      have HR5 := Lib.hid (show RowB w5 w.heap.size V5 (numH ([(m : Int), (a : Int), (s : Int)].take 1)) from ⟨own_base hown HBE.out.size, lt_app HBY.out.lt (digs_lt _ _ _) |> fun h => by simpa [numH] using h⟩)
      have HB5 := Lib.hid (below_more HBE.out hb5)
      clear hown hb5 HP
      refine go_on ?_
      go_wp2
      go_roundw
      case rel => exact ⟨1, rfl, by omega, HR5.out, HB5.out⟩
      case measure => simp [intOf]
    · have HP := Lib.hid (put_ok true 4 a 4 c4 A4 (numH ([(m : Int), (a : Int), (s : Int)].take 1)) wr (by omega) (by omega) (by omega) (by omega) HBY.out)
      go_wp2_with (go_at_call 49; refine HP.out.mono ?_; rintro _ w5 ⟨V5, rfl, hown, hb5⟩; refine Hid.out ?_)
      have HR5 := Lib.hid (show RowB w5 w.heap.size V5 (numH ([(m : Int), (a : Int), (s : Int)].take 2)) from ⟨own_base hown HBE.out.size, lt_app HBY.out.lt (digs_lt _ _ _) |> fun h => by simpa [numH] using h⟩)
      have HB5 := Lib.hid (below_more HBE.out hb5)
      clear hown hb5 HP
      refine go_on ?_
      go_wp2
      go_roundw
      case rel => exact ⟨2, rfl, by omega, HR5.out, HB5.out⟩
      case measure => simp [intOf]
    · have HP := Lib.hid (put_ok true 4 s 8 c4 A4 (numH ([(m : Int), (a : Int), (s : Int)].take 2)) wr (by omega) (by omega) (by omega) (by omega) HBY.out)
      go_wp2_with (go_at_call 49; refine HP.out.mono ?_; rintro _ w5 ⟨V5, rfl, hown, hb5⟩; refine Hid.out ?_)
      have HR5 := Lib.hid (show RowB w5 w.heap.size V5 (numH ([(m : Int), (a : Int), (s : Int)].take 3)) from ⟨own_base hown HBE.out.size, lt_app HBY.out.lt (digs_lt _ _ _) |> fun h => by simpa [numH] using h⟩)
      have HB5 := Lib.hid (below_more HBE.out hb5)
      clear hown hb5 HP
      refine go_on ?_
      go_wp2
      go_roundw
      case rel => exact ⟨3, rfl, by omega, HR5.out, HB5.out⟩
      case measure => simp [intOf]
    · have HHD := Lib.hid (show numH ([(m : Int), (a : Int), (s : Int)].take 3) = digs 4 true m ++ digs 4 true a ++ digs 4 true s by simp [numH])
      have HR0 := Lib.hid (show RowB wr w.heap.size (.slice A4 (3 * 4) c4) (digs 4 true m ++ digs 4 true a ++ digs 4 true s) by rw [← HHD.out]; exact HRW.out)
      have HPW := Lib.hid (HP0.out.later HBE.out)
      have HLL := Lib.hid (show (digs 4 true m ++ digs 4 true a ++ digs 4 true s).length + m ≤ 140737488355328 by simp only [List.length_append, digs_len]; omega)
      go_wp2_with (at_builtin; refine wp_rowb rfl (.tmp 28) (.tmp 29) rfl w.heap.size m cp _ (digs 4 true m ++ digs 4 true a ++ digs 4 true s) part Ap _ rfl rfl HR0.out HPW.out HLL.out HBE.out.size ?_; intro V6 w6 hrow6 hb6; refine Hid.out ?_)
      have hl6 : (digs 4 true m ++ digs 4 true a ++ digs 4 true s ++ part).length = m + 12 := by simp only [List.length_append, digs_len]; omega
      obtain ⟨g, cap, hV6, hg1, hg2⟩ := hrow6.own.form (by rw [hl6]; omega)
      have hown6 := hrow6.own
      rw [hl6] at hV6 hown6
      subst hV6
      have HR6 := Lib.hid hrow6
      have HB6 := Lib.hid (HBE.out.trans hb6)
      obtain ⟨z, hz⟩ : ∃ z, m + 16 + z = size := ⟨size - 16 - m, by omega⟩
      obtain ⟨V7, w7, hr7, hown7, hgr7⟩ := run_zeros w6 w.heap.size 31 (m + 12) z g cap _ hown6 hrow6.lt (by omega) HB6.out.size
      have HR7 := Lib.hid (show RowB w7 w.heap.size V7 (digs 4 true m ++ digs 4 true a ++ digs 4 true s ++ part ++ List.replicate z 0) from ⟨by
        have e : (digs 4 true m ++ digs 4 true a ++ digs 4 true s ++ part ++ List.replicate z 0).length = m + 12 + z := by rw [List.length_append, hl6, List.length_replicate]
        rw [e]; exact hown7, lt_app hrow6.lt (fun x hx => by have := (List.mem_replicate.mp hx).2; omega)⟩)
      have HB7 := Lib.hid (HB6.out.grown hgr7 HB6.out.size (fun j hj => by obtain rfl := Option.some.inj hj; exact hg1))
      have HRUN := Lib.hid hr7
      have HEQ := Lib.hid (show blockL part ((a : Int), (s : Int)) size = sealL (digs 4 true m ++ digs 4 true a ++ digs 4 true s ++ part ++ List.replicate z 0) by
        unfold blockL
        rw [Int.toNat_natCast, Int.toNat_natCast, hl, show size - 16 - m = z by omega])
      have r1 : IntKind.i64.wrap ((size : Int) - 4) = (size : Int) - 4 := IntWalk.i64_in _ (by omega)
      have r1' : wrap64 ((size : Int) - 4) = (size : Int) - 4 := by unfold wrap64; omega
      have r2 : IntKind.i64.wrap ((size : Int) - 4 - ((m : Int) + 12)) = (z : Int) := by rw [show (size : Int) - 4 - ((m : Int) + 12) = (z : Int) by omega]; exact IntWalk.i64_in _ (by omega)
      have r2' : wrap64 ((size : Int) - 4 - ((m : Int) + 12)) = (z : Int) := by unfold wrap64; omega
      have HL6 := Lib.hid hl6
      have HZ := Lib.hid hz
      clear hrow6 hb6 hown6 hown7 hgr7 hr7 hl6 hz q0 q1 q2
      generalize digs 4 true m ++ digs 4 true a ++ digs 4 true s ++ part = pre at *
      refine go_on ?_
      go_wp2_with (at_builtin; refine Lib.wpList_append_run w6 rfl (.tmp 31) (.tmp 36) 31 3 rfl _ _ rfl rfl V7 w7 HRUN.out ?_; refine Hid.out ?_)
      obtain ⟨A7, c7, hV7, hby7⟩ := HR7.out.byt
      subst hV7
      obtain ⟨L7, hL7⟩ : ∃ L7, (pre ++ List.replicate z 0).length = L7 := ⟨_, rfl⟩
      rw [hL7] at hby7
      rw [hL7]
      have HSE := Lib.hid (seal_any A7 L7 c7 (pre ++ List.replicate z 0) w7 (by have h1 := HL6.out; have h2 := HZ.out; rw [← hL7, List.length_append, h1, List.length_replicate]; omega) hby7 (HG.out.later HB7.out (Nat.le_refl _)))
      clear hby7 hL7 HRUN
      refine go_on ?_
      go_wp2_with (go_at_call 51; refine HSE.out.mono ?_; rintro _ w8 ⟨V8, rfl, hrow8, hb8⟩; refine Hid.out ?_)
      have HR8 := Lib.hid (hrow8.up HB7.out.size)
      have HB8 := Lib.hid (below_more HB7.out hb8)
      clear hrow8 hb8 HSE
      refine go_on ?_
      go_wp2
      go_ret
      exact ⟨V8, rfl, by rw [HEQ.out]; exact HR8.out, HB8.out⟩
end Go.Proofs.YtcgapkepbnbabaaDoor.X5
