/- The reference's Bytes. -/
import Derived.Test.YtkdfafaiabidgaaDoorKcg
import Derived.Test.YtkdfafaiabidgaaDoorKw
namespace Go.Proofs.YtkdfafaiabidgaaDoor.X5
set_option linter.unusedVariables false
set_option linter.unusedSimpArgs false
open Go.RowKit Wd Ty9

set_option maxHeartbeats 4000000 in
set_option maxRecDepth 100000 in
theorem rbytes_any (A : Option Addr) (n C lo hi : Nat) (xs : List Xt) (w : World) (hn : n ≤ 140737488355328) (h : Ex w lo hi A n xs) (hhi : hi ≤ w.heap.size) :
    Calls Tryd.prog 9 #[.slice A n C] w fun e w' => ∃ V z out, e = .returned (.tuple #[V, .int .i64 z]) ∧ IsBytes xs z out ∧ RowB w' w.heap.size V out ∧ Below w.heap.size w w' := by
  have hl := h.len
  have HX := Lib.hid h
  have HGD := Lib.hid (rgood_any A n C lo hi xs 4194304 w hn h hhi)
  clear h
  by_cases hg : goodP xs 4194304
  · have HGO := Lib.hid hg
    have hnb : n ≤ 65536 := by have := hg.2.2.1; omega
    have HMAY := Lib.hid ((goodP_iff xs 4194304).mp hg).2.2.2.2
    clear hg
    go_enter Tryd.func9, Tryd.ntmps9
    go_wp2_with (go_at_call 20; refine HGD.out.mono ?_; rintro _ w1 ⟨he, hb⟩; rw [decide_eq_true HGO.out] at he; subst he; refine Hid.out ?_)
    have HB1 := Lib.hid hb
    have HD := Lib.hid (digits_any true 4 n w1 (by omega) (by omega))
    have q0 : IntKind.u64.wrap (n : Int) = (n : Int) := by simp [IntKind.wrap, IntKind.bits, IntKind.signed]; omega
    clear hb HGD
    refine go_on ?_
    go_wp2_with (go_at_call 21; refine HD.out.mono ?_; rintro _ w2 ⟨V2, rfl, hrow, hb⟩; refine Hid.out ?_)
    have HR2 := Lib.hid (show RowB w2 w1.heap.size V2 (numB ((n : Int) :: extN (xs.take 0))) by
      have e : numB ((n : Int) :: extN (xs.take 0)) = digs 4 true n := by unfold numB extN; simp
      rw [e]; exact hrow)
    have HB2 := Lib.hid hb
    clear hrow hb HD q0
    refine go_on ?_
    go_wp2
    go_loopw [4, 5] (fun v i wr => ∃ (k : Nat), i = .int .i64 k ∧ k ≤ n ∧ RowB wr w1.heap.size v (numB ((n : Int) :: extN (xs.take k))) ∧ Below w1.heap.size w1 wr) (fun _ i _ => n - (intOf i).toNat)
    case atStart => exact ⟨0, rfl, Nat.zero_le _, HR2.out, HB2.out⟩
    case round =>
      obtain ⟨k, rfl, hk, hrow, hbe⟩ := hrel
      have HBE := Lib.hid hbe
      have hnl : (numB ((n : Int) :: extN (xs.take k))).length = (k * 2 + 1) * 4 := by rw [numB_len, List.length_cons, extN_len, List.length_take]; omega
      by_cases hlt : k < n
      · have HRW := Lib.hid hrow
        clear hrow hbe
        have hltz : (k : Int) < (n : Int) := by omega
        obtain ⟨b, o, rfl, hb1, hb2, -⟩ := HX.out.at_ (by omega)
        obtain ⟨c0, c1⟩ := HX.out.get rfl (i := k) (by omega)
        have hbw : b < w.heap.size := Nat.lt_of_lt_of_le hb2 hhi
        have HBR := Lib.hid (below_more HB1.out HBE.out)
        have C1 := Lib.hid c1
        rw [← HBR.out.cell (p := ⟨b, o + k * 2, none⟩) hbw] at c0
        have hmx := (HMAY.out xs[k] (List.getElem_mem (show k < xs.length by omega))).1
        have HTK := Lib.hid (show numB ((n : Int) :: extN (xs.take (k + 1))) = numB ((n : Int) :: extN (xs.take k)) ++ digs 4 true xs[k].1.toNat ++ digs 4 true xs[k].2.toNat by
          rw [List.take_add_one, List.getElem?_eq_getElem (by omega), Option.toList_some, extN_snoc, show (n : Int) :: (extN (xs.take k) ++ [xs[k].1, xs[k].2]) = ((n : Int) :: extN (xs.take k)) ++ [xs[k].1] ++ [xs[k].2] by simp, numB_snoc, numB_snoc])
        generalize xs[k] = x at c0 C1 HTK hmx
        clear c1
        obtain ⟨x0, x1⟩ := x
        unfold mayP at hmx
        simp only at c0 C1 HTK hmx
        obtain ⟨u, hu⟩ : ∃ u : Nat, (u : Int) = x0 := ⟨x0.toNat, by omega⟩
        obtain ⟨v, hv⟩ : ∃ v : Nat, (v : Int) = x1 := ⟨x1.toNat, by omega⟩
        subst hu hv
        rw [Int.toNat_natCast, Int.toNat_natCast] at HTK
        have q0 : IntKind.u64.wrap (u : Int) = (u : Int) := by simp [IntKind.wrap, IntKind.bits, IntKind.signed]; omega
        have q1 : IntKind.u64.wrap (v : Int) = (v : Int) := by simp [IntKind.wrap, IntKind.bits, IntKind.signed]; omega
        have HD := Lib.hid (digits_any true 4 u wr (by omega) (by omega))
        have HVB := Lib.hid (show (v : Int) ≤ 18446744073709551615 by omega)
        have HNL := Lib.hid hnl
        have hL1 : (numB ((n : Int) :: extN (xs.take k))).length + 4 ≤ 140737488355328 := by omega
        have HL1 := Lib.hid hL1
        clear hmx hnl hL1
        generalize numB ((n : Int) :: extN (xs.take k)) = pre at *
        go_wp2_with (go_at_call 21; refine HD.out.mono ?_; rintro _ w3 ⟨V3, rfl, hrow3, hb3⟩; refine Hid.out ?_)
        have HR3 := Lib.hid (HRW.out.below hb3)
        have HB3 := Lib.hid (below_more HBE.out hb3)
        obtain ⟨A3, c3, rfl, hby3⟩ := hrow3.byt
        have hd4 := digs_len 4 true u
        rw [hd4] at hby3
        have HY3 := Lib.hid hby3
        clear hrow3 hb3 hby3 HD
        rw [hd4]
        clear hd4
        refine go_on ?_
        go_wp2_with (at_builtin; refine wp_rowb rfl (.tmp 19) (.tmp 26) rfl w1.heap.size 4 c3 _ pre (digs 4 true u) A3 _ rfl rfl HR3.out HY3.out HL1.out HB3.out.size ?_; intro V4 w4 hrow4 hb4; refine Hid.out ?_)
        have HR4 := Lib.hid hrow4
        have HB4 := Lib.hid (HB3.out.trans hb4)
        have HD4 := Lib.hid (digits_any true 4 v w4 (by omega) HVB.out)
        have d1 : w4.cell? ⟨b, o + k * 2 + 1, none⟩ = some (.int .i64 v) := ((below_more HB1.out HB4.out).cell (p := ⟨b, o + k * 2 + 1, none⟩) hbw).trans C1.out
        clear hrow4 hb4 c0
        refine go_on ?_
        go_wp2_with (go_at_call 21; refine HD4.out.mono ?_; rintro _ w5 ⟨V5, rfl, hrow5, hb5⟩; refine Hid.out ?_)
        have HR5 := Lib.hid (HR4.out.below hb5)
        have HB5 := Lib.hid (below_more HB4.out hb5)
        obtain ⟨A5, c5, rfl, hby5⟩ := hrow5.byt
        have hd4 := digs_len 4 true v
        rw [hd4] at hby5
        have HY5 := Lib.hid hby5
        have HL5 := Lib.hid (show (pre ++ digs 4 true u).length + 4 ≤ 140737488355328 by rw [List.length_append, digs_len, HNL.out]; omega)
        clear hrow5 hb5 hby5 HD4 d1
        rw [hd4]
        clear hd4
        refine go_on ?_
        go_wp2_with (at_builtin; refine wp_rowb rfl (.tmp 28) (.tmp 35) rfl w1.heap.size 4 c5 _ (pre ++ digs 4 true u) (digs 4 true v) A5 _ rfl rfl HR5.out HY5.out HL5.out HB5.out.size ?_; intro V6 w6 hrow6 hb6; refine Hid.out ?_)
        rw [← HTK.out] at hrow6
        have HR6 := Lib.hid hrow6
        have HB6 := Lib.hid (HB5.out.trans hb6)
        clear hrow6 hb6
        refine go_on ?_
        go_wp2
        go_roundw
        case rel => exact ⟨k + 1, by go_num, by omega, HR6.out, HB6.out⟩
        case measure => simp [intOf]; omega
      · obtain rfl : k = n := by omega
        rw [List.take_of_length_le (show xs.length ≤ k by omega)] at hrow
        obtain ⟨A4, c4, hV, hby⟩ := hrow.byt
        have hbl : (numB ((k : Int) :: extN xs)).length = k * 8 + 4 := by rw [numB_len, List.length_cons, extN_len]; omega
        rw [hbl] at hV hby
        subst hV
        have HB6 := Lib.hid (below_more HB1.out hbe)
        have HSE := Lib.hid (rseal_any A4 (k * 8 + 4) c4 (bytesL xs) wr (by omega) (by unfold bytesL; rw [hl]; exact hby))
        clear hnl hrow hby hbe hbl
        generalize k * 8 + 4 = q4 at *
        go_wp2_with (go_at_call 22; refine HSE.out.mono ?_; rintro _ w7 ⟨V7, rfl, hrow7, hb7⟩; refine Hid.out ?_)
        have HR7 := Lib.hid (hrow7.up HB6.out.size)
        have HB7 := Lib.hid (below_more HB6.out hb7)
        clear hrow7 hb7 HSE
        refine go_on ?_
        go_wp2
        go_ret2
        first | exact ⟨V7, 0, _, rfl, .inr ⟨HGO.out, rfl, rfl⟩, HR7.out, HB7.out⟩ | exact ⟨V7, 0, rfl, _, .inr ⟨HGO.out, rfl, rfl⟩, HR7.out, HB7.out⟩
  · have HGO := Lib.hid hg
    clear hg
    go_enter Tryd.func9, Tryd.ntmps9
    go_wp2_with (go_at_call 20; refine HGD.out.mono ?_; rintro _ w1 ⟨he, hb⟩; rw [decide_eq_false HGO.out] at he; subst he; have HB1 := Lib.hid hb; clear hb)
    go_ret2
    first | exact ⟨_, 2, [], rfl, .inl ⟨HGO.out, rfl, rfl⟩, RowB.nil _ _, HB1.out⟩ | exact ⟨_, 2, rfl, [], .inl ⟨HGO.out, rfl, rfl⟩, RowB.nil _ _, HB1.out⟩
end Go.Proofs.YtkdfafaiabidgaaDoor.X5
