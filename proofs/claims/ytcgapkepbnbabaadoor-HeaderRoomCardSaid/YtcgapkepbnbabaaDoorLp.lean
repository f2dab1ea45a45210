/- The law HeaderRoom. -/
import Derived.Test.YtcgapkepbnbabaaDoorLn
namespace Go.Proofs.YtcgapkepbnbabaaDoor.X5
set_option linter.unusedVariables false
set_option linter.unusedSimpArgs false
open Go.RowKit Wd Ty9

theorem cap_int {x : Xt} (h : wideP x) : (capN x : Int) = x.2 - 16 := by unfold wideP at h; unfold capN; omega
theorem sum_succ {room : List Xt} {k : Nat} {x : Xt} (h : room[k]? = some x) : sumCap (room.take (k + 1)) = sumCap (room.take k) + capN x := by
  rw [take_snoc h]
  unfold sumCap
  rw [List.map_append, List.sum_append]
  simp
theorem sum_bound {room : List Xt} (h : ∀ x ∈ room, wideP x) (k : Nat) : sumCap (room.take k) ≤ room.length * 4194304 := by
  refine Nat.le_trans (sumCap_le k) ?_
  unfold sumCap
  induction room with
  | nil => simp
  | cons x r ih =>
    have h1 := h x (by simp)
    have h2 := ih (fun y hy => h y (by simp [hy]))
    have h3 : capN x ≤ 4194304 := by unfold wideP at h1; unfold capN; omega
    rw [List.map_cons, List.sum_cons, List.length_cons]
    omega
/-- What the blocks of a stream are. -/
theorem layL_facts : ∀ (room : List Xt) (s : List Nat), (∀ x ∈ room, wideP x) → s.length ≤ sumCap room →
    (layL s room).length ≤ room.length ∧ (∀ (i : Nat) (y : Mg), (layL s room)[i]? = some y → ∃ x, room[i]? = some x ∧ y.1 = x.1 ∧ (y.2.length : Int) = x.2 ∧ sumCap (room.take i) < s.length) ∧ s.length ≤ sumCap (room.take (layL s room).length)
  | [], s, _, hs => ⟨Nat.le_refl _, fun i y h => by simp [layL] at h, by simpa [layL, sumCap] using hs⟩
  | x :: r, s, hw, hs => by
    have hx := hw x (by simp)
    rw [layL]
    by_cases h0 : s = []
    · subst h0
      rw [if_pos rfl]
      exact ⟨Nat.zero_le _, fun i y h => by simp at h, Nat.zero_le _⟩
    · have hpos : 0 < s.length := List.length_pos_iff.mpr h0
      rw [if_neg h0]
      have hsum : sumCap (x :: r) = capN x + sumCap r := by simp [sumCap]
      obtain ⟨h1, h2, h3⟩ := layL_facts r (s.drop (capN x)) (fun y hy => hw y (by simp [hy])) (by rw [List.length_drop]; omega)
      rw [List.length_drop] at h2 h3
      refine ⟨by simp only [List.length_cons]; omega, fun i y hy => ?_, ?_⟩
      · cases i with
        | zero =>
          simp only [List.getElem?_cons_zero, Option.some.injEq] at hy
          subst hy
          refine ⟨x, rfl, rfl, ?_, ?_⟩
          · have hc := cap_int hx
            rw [block_len (by rw [List.length_take]; unfold wideP at hx; omega)]
            unfold wideP at hx
            omega
          · simpa [sumCap] using hpos
        | succ i =>
          rw [List.getElem?_cons_succ] at hy
          obtain ⟨x', e1, e2, e3, e4⟩ := h2 i y hy
          refine ⟨x', by simpa using e1, e2, e3, ?_⟩
          have : sumCap ((x :: r).take (i + 1)) = capN x + sumCap (r.take i) := by simp [sumCap]
          omega
      · have : sumCap ((x :: r).take ((layL (s.drop (capN x)) r).length + 1)) = capN x + sumCap (r.take (layL (s.drop (capN x)) r).length) := by simp [sumCap]
        simp only [List.length_cons]
        omega

set_option maxHeartbeats 4000000 in
set_option maxRecDepth 100000 in
theorem room_of (hlv : LivesSays) (hlay : LaySays) (w : World) (hG : Gs w) (A : Option Addr) (n C : Nat) (l : List Mg) (hn : (n + 1) * 32 ≤ 140737488355328) (hA : A = none → C = 0) (h : Ms w w.heap.size A n l)
    (Ar : Option Addr) (nr Cr : Nat) (room : List Xt) (hnr : (nr + 1) * 16 ≤ 140737488355328) (hAr : Ar = none → Cr = 0) (hr : Ex w 0 w.heap.size Ar nr room) :
    Calls Tryd.prog 5 #[.slice A n C, .slice Ar nr Cr] w fun e w' => e = .returned (.bool true) ∧ Below w.heap.size w w' := by
  have HG := Lib.hid hG
  have HLV := Lib.hid hlv
  have HM := Lib.hid h
  have HX := Lib.hid hr
  have hl := h.len
  have hrl := hr.len
  have HH := Lib.hid (heavy_any A n C l Ar nr Cr 0 w.heap.size room w (by omega) (by omega) h hr (Nat.le_refl _))
  have HSZ := Lib.hid (fun (W : World) (hb : Below w.heap.size w W) => size_any A n C l W (by omega) ((HM.out.later hb).up hb.size))
  have HLY := Lib.hid (fun (W : World) (hb : Below w.heap.size w W) => hlay A n C l Ar nr Cr 0 w.heap.size room W (by omega) (by omega) ((HM.out.later hb).up hb.size) (HX.out.later hb (Nat.le_refl _)) hb.size (HG.out.later hb (Nat.le_refl _)))
  have HRL := Lib.hid hrl
  have HNR := Lib.hid hnr
  clear h hG hlv hlay hA hAr hr hl hrl hn hnr
  go_enter Tryd.func5, Tryd.ntmps5
  go_wp2_with (go_at_call 9; refine HH.out.mono ?_; rintro _ w1 ⟨⟨r, rfl⟩, hb⟩; refine Hid.out ?_)
  have HB1 := Lib.hid hb
  have HLV1 := Lib.hid (HLV.out w1 (HG.out.later hb (Nat.le_refl _)))
  clear hb HH
  cases r
  case true =>
    refine go_on ?_
    go_wp2_with (go_at_call 10; refine HLV1.out.mono ?_; rintro _ w2 ⟨rfl, hb⟩; refine Hid.out ?_)
    have HB2 := Lib.hid (below_more HB1.out hb)
    clear hb
    refine go_on ?_
    go_wp2
    go_ret
    exact ⟨rfl, HB2.out⟩
  case false =>
    have HSZ1 := Lib.hid (HSZ.out w1 HB1.out)
    refine go_on ?_
    go_wp2_with (go_at_call 11; refine HSZ1.out.mono ?_; rintro _ w2 ⟨⟨z, s, rfl, hmy, hzs⟩, hb⟩; refine Hid.out ?_)
    have HMY := Lib.hid hmy
    have HZS := Lib.hid hzs
    have HB2 := Lib.hid (below_more HB1.out hb)
    have HLY2 := Lib.hid (HLY.out w2 HB2.out)
    clear hb hmy hzs HSZ1 HSZ HLV1
    refine go_on ?_
    go_wp2_with (go_at_call 15; refine HLY2.out.mono ?_; rintro _ w3 ⟨A3, C3, k, f, out, rfl, hly, hlen, hms, hb⟩; refine Hid.out ?_)
    have HIS := Lib.hid hly
    have HLEN := Lib.hid hlen
    have HMS := Lib.hid hms
    have HB3 := Lib.hid (below_more HB2.out hb)
    have HLV3 := Lib.hid (HLV.out w3 (HG.out.later HB3.out (Nat.le_refl _)))
    clear hb hly hlen hms HLY2 HLY
    by_cases hz : z = 0
    · subst hz
      have hs : s = (sizeM l : Int) := by
        rcases HZS.out with ⟨h, _⟩ | ⟨_, h⟩
        · exact absurd rfl h
        · exact h
      by_cases hf : f = 2 ∨ f = 3
      · obtain rfl : k = 0 := by
          rw [← HLEN.out]
          rcases HIS.out with ⟨z', h1, h2, h3, h4⟩ | ⟨h1, ⟨_, _, h4⟩ | ⟨_, ⟨_, _, h4⟩ | ⟨_, ⟨_, _, h4⟩ | ⟨_, h3, _⟩⟩⟩⟩
          · rw [h4]; rfl
          · rw [h4]; rfl
          · rw [h4]; rfl
          · rw [h4]; rfl
          · rw [h3] at hf; omega
        clear hs
        refine go_on ?_
        rcases hf with rfl | rfl
        all_goals
          go_wp2_with (go_at_call 10; refine HLV3.out.mono ?_; rintro _ w4 ⟨rfl, hb⟩; refine Hid.out ?_)
          have HB4 := Lib.hid (below_more HB3.out hb)
          clear hb
          refine go_on ?_
          go_wp2
          go_ret
          exact ⟨rfl, HB4.out⟩
      · have f2 : (f == 2) = false := by simp; omega
        have f3 : (f == 3) = false := by simp; omega
        have HTOT := Lib.hid (show nr ≤ 65536 ∧ (∀ x ∈ room, wideP x) ∧ ((sumCap room < sizeM l ∧ f = 7 ∧ k = 0) ∨ (sizeM l ≤ sumCap room ∧ f = 0 ∧ out = layL (streamM l) room)) by
          rcases HIS.out with ⟨z', h1, h2, h3, h4⟩ | ⟨h1, ⟨_, h3, h4⟩ | ⟨hrb, ⟨_, h3, h4⟩ | ⟨⟨hw, _⟩, ⟨h5, h3, h4⟩ | ⟨h5, h3, h4⟩⟩⟩⟩
          · exact absurd (h1.uniq HMY.out) h2
          · omega
          · omega
          · exact ⟨by rw [← HRL.out]; exact hrb, hw, .inl ⟨h5, h3, by rw [← HLEN.out, h4]; rfl⟩⟩
          · exact ⟨by rw [← HRL.out]; exact hrb, hw, .inr ⟨h5, h3, h4⟩⟩)
        clear hf
        have HS := Lib.hid hs
        clear hs
        refine go_on ?_
        go_wp2
        go_loopw [9, 10] (fun t i wr => ∃ (j T : Nat), t = .int .i64 T ∧ i = .int .i64 j ∧ j ≤ nr ∧ wr = w3 ∧ Hid (T = sumCap (room.take j))) (fun _ i _ => nr - (intOf i).toNat)
        case atStart => exact ⟨0, 0, rfl, rfl, Nat.zero_le _, rfl, Lib.hid (by simp [sumCap])⟩
        case round =>
          obtain ⟨j, T, rfl, rfl, hj, hwr, HT⟩ := hrel
          have hwr := hwr.symm
          subst hwr
          by_cases hlt : j < nr
          · have hltz : (j : Int) < (nr : Int) := by omega
            obtain ⟨b, o, rfl, hb1, hb2, -⟩ := HX.out.at_ (by have := HRL.out; omega)
            obtain ⟨c0, c1⟩ := HX.out.get rfl (i := j) (by have := HRL.out; omega)
            have hjr : j < room.length := by have := HRL.out; omega
            have hx : room[j]? = some room[j] := List.getElem?_eq_getElem hjr
            have hwx := HTOT.out.2.1 room[j] (List.getElem_mem hjr)
            rw [← HB3.out.cell (p := ⟨b, o + j * 2 + 1, none⟩) hb2] at c1
            clear c0
            generalize room[j]'_ = x at c1 hx hwx
            obtain ⟨xa, xs⟩ := x
            have hc := cap_int hwx
            have HTN := Lib.hid (show T + capN (xa, xs) = sumCap (room.take (j + 1)) by rw [sum_succ hx, HT.out])
            have hbnd := sum_bound HTOT.out.2.1 (j + 1)
            rw [← HTN.out, HRL.out] at hbnd
            have hnr := HTOT.out.1
            have hbnd : T + capN (xa, xs) ≤ 274877906944 := by omega
            have hT : (T : Int) + (xs - 16) = ((T + capN (xa, xs) : Nat) : Int) := by rw [Int.natCast_add, hc]
            generalize capN (xa, xs) = cp at *
            unfold wideP at hwx
            simp only at hc hwx c1
            obtain ⟨T2, hT2⟩ : ∃ T2, T + cp = T2 := ⟨_, rfl⟩
            rw [hT2] at hT hbnd HTN
            go_wp2
            go_roundw
            case rel => exact ⟨j + 1, T2, by first | rfl | (rw [← hT]) | (simp only [hT]) | go_num, by go_num, by omega, by first | rfl | trivial, HTN⟩
            case measure => simp [intOf]; omega
          · obtain rfl : j = nr := by omega
            have HTT := Lib.hid (show T = sumCap room by rw [HT.out, ← HRL.out, List.take_length])
            clear HT hlt hj
            rcases HTOT.out.2.2 with ⟨hlt7, rfl, rfl⟩ | ⟨hle, rfl, rfl⟩
            · have hgt : (s : Int) > (T : Int) := by rw [HS.out, HTT.out]; omega
              have hgt2 : (T : Int) < s := hgt
              clear hlt7
              go_wp2_with (go_at_call 10; refine HLV3.out.mono ?_; rintro _ w4 ⟨rfl, hb⟩; refine Hid.out ?_)
              have HB4 := Lib.hid (below_more HB3.out hb)
              clear hb
              refine go_on ?_
              go_wp2
              go_ret
              first | exact ⟨rfl, HB4.out⟩ | exact ⟨trivial, HB4.out⟩
            · have hgt : ¬ (s : Int) > (T : Int) := by rw [HS.out, HTT.out]; omega
              have hgt2 : ¬ (T : Int) < s := hgt
              obtain ⟨hf1, hf2, hf3⟩ := layL_facts room (streamM l) HTOT.out.2.1 (by rw [stream_len]; exact hle)
              rw [HLEN.out, HRL.out] at hf1
              rw [HLEN.out, stream_len] at hf3
              rw [stream_len] at hf2
              have HF := Lib.hid hf2
              have HE := Lib.hid hf3
              have hkn : ¬ (k : Int) > (j : Int) := by omega
              have hkn2 : ¬ (j : Int) < (k : Int) := hkn
              have hkn3 : decide ((j : Int) < (k : Int)) = false := by simp; omega
              clear hf2 hf3 hle
              have HJ := Lib.hid (show ∃ q, j = q from ⟨j, rfl⟩)
              go_wp2
              go_loopw [11, 12] (fun t i wr => ∃ (i' H : Nat), t = .int .i64 H ∧ i = .int .i64 i' ∧ i' ≤ k ∧ Below w3.heap.size w3 wr ∧ Hid (H = sumCap (room.take i'))) (fun _ i _ => k - (intOf i).toNat)
              case atStart => exact ⟨0, 0, rfl, rfl, Nat.zero_le _, Below.refl _ _, Lib.hid (by simp [sumCap])⟩
              case round =>
                obtain ⟨i', H, rfl, rfl, hi, hwr, HH⟩ := hrel
                have HBW := Lib.hid hwr
                have HB9 := Lib.hid (below_more HB3.out hwr)
                clear hwr
                by_cases hlt : i' < k
                · have hltz : (i' : Int) < (k : Int) := by omega
                  obtain ⟨bq, oq, y, Ai, ci, rfl, hbq, hy, d0, d1, -, -, -⟩ := HMS.out.get hlt
                  obtain ⟨x, hx, hyx, hyl, hsum⟩ := HF.out i' y hy
                  have hir : i' < room.length := by have := HRL.out; omega
                  obtain ⟨b, o, rfl, hb1, hb2, -⟩ := HX.out.at_ (by omega)
                  obtain ⟨c0, c1⟩ := HX.out.get rfl (i := i') hir
                  have hwx := HTOT.out.2.1 room[i'] (List.getElem_mem hir)
                  rw [← HB9.out.cell (p := ⟨b, o + i' * 2, none⟩) hb2] at c0
                  rw [← HBW.out.cell (p := ⟨bq, oq + i' * 2, none⟩) hbq] at d0
                  rw [← HBW.out.cell (p := ⟨bq, oq + i' * 2 + 1, none⟩) hbq] at d1
                  rw [← HB9.out.cell (p := ⟨b, o + i' * 2 + 1, none⟩) hb2] at c1
                  rw [List.getElem?_eq_getElem hir] at hx
                  have hx := Option.some.inj hx
                  rw [hx] at c0 c1 hwx
                  have hx : room[i']? = some x := by rw [List.getElem?_eq_getElem hir, hx]
                  have hc := cap_int hwx
                  have HTN := Lib.hid (show H + capN x = sumCap (room.take (i' + 1)) by rw [sum_succ hx, HH.out])
                  have hbnd := sum_bound HTOT.out.2.1 (i' + 1)
                  rw [← HTN.out, HRL.out] at hbnd
                  have hnr := HTOT.out.1
                  have hbnd : H + capN x ≤ 274877906944 := by omega
                  have hT : (H : Int) + (x.2 - 16) = ((H + capN x : Nat) : Int) := by rw [Int.natCast_add, hc]
                  rw [← HH.out] at hsum
                  have hge : decide ((H : Int) ≥ s) = false := by rw [HS.out]; simp; omega
                  have hge2 : ¬ (H : Int) ≥ s := by rw [HS.out]; omega
                  have hge3 : ¬ s ≤ (H : Int) := hge2
                  rw [hyx] at d0
                  clear hy
                  generalize y.2.length = q at d1 hyl
                  have hk2 : i' < j := by have := HRL.out; omega
                  have hj2 : (i' : Int) < (j : Int) := by omega
                  generalize capN x = cp at *
                  obtain ⟨xa, xs⟩ := x
                  unfold wideP at hwx
                  simp only at hc hwx c0 c1 d0 d1 hT hyl
                  subst hyl
                  obtain ⟨T2, hT2⟩ : ∃ T2, H + cp = T2 := ⟨_, rfl⟩
                  rw [hT2] at hT hbnd HTN
                  have e1 : (xa != xa) = false := by simp
                  have e2 : ((q : Int) != (q : Int)) = false := by simp
                  clear hyx hx hsum
                  go_wp2
                  go_quiet (fail)
                  go_wp2
                  go_roundw
                  case rel => exact ⟨i' + 1, T2, by first | rfl | (rw [← hT]) | (simp only [hT]) | go_num, by go_num, by omega, below_drewN HBW.out _, HTN⟩
                  case measure => simp [intOf]; omega
                · obtain rfl : i' = k := by omega
                  have hge : decide ((H : Int) ≥ s) = true := by rw [HS.out, HH.out]; have := HE.out; simp; omega
                  have hge2 : (H : Int) ≥ s := by rw [HS.out, HH.out]; have := HE.out; omega
                  have hge3 : s ≤ (H : Int) := hge2
                  clear HH hlt hi
                  go_wp2_with (go_at_call 10; refine (HLV.out wr (HG.out.later HB9.out (Nat.le_refl _))).mono ?_; rintro _ w4 ⟨rfl, hb⟩; refine Hid.out ?_)
                  have HB4 := Lib.hid (below_more HB9.out hb)
                  clear hb
                  refine go_on ?_
                  go_wp2
                  go_ret
                  first | exact ⟨rfl, HB4.out⟩ | exact ⟨trivial, HB4.out⟩
    · have hz2 : s = 0 ∧ f = z ∧ k = 0 := by
        refine ⟨?_, ?_, ?_⟩
        · rcases HZS.out with ⟨_, h⟩ | ⟨h, _⟩
          · exact h
          · exact absurd h hz
        · rcases HIS.out with ⟨z', h1, h2, h3, h4⟩ | ⟨h1, _⟩
          · exact h3.trans (h1.uniq HMY.out)
          · exact absurd (HMY.out.uniq h1) hz
        · rw [← HLEN.out]
          rcases HIS.out with ⟨z', h1, h2, h3, h4⟩ | ⟨h1, _⟩
          · rw [h4]; rfl
          · exact absurd (HMY.out.uniq h1) hz
      obtain ⟨rfl, rfl, rfl⟩ := hz2
      have hzb : (f != 0) = true := by simpa using hz
      have hzb2 : (f == 0) = false := by simpa using hz
      have hzz : (f == f) = true := by simp
      refine go_on ?_
      go_wp2_with (go_at_call 10; refine HLV3.out.mono ?_; rintro _ w4 ⟨rfl, hb⟩; refine Hid.out ?_)
      have HB4 := Lib.hid (below_more HB3.out hb)
      clear hb
      refine go_on ?_
      go_wp2
      go_ret
      exact ⟨rfl, HB4.out⟩
end Go.Proofs.YtcgapkepbnbabaaDoor.X5
