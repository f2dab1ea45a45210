/- The reference's Lay (printed by mklt.py). -/
import Derived.Test.YtcgapkepbnbabaaDoorLi
import Derived.Test.YtcgapkepbnbabaaDoorLj
import Derived.Test.YtcgapkepbnbabaaDoorLr
import Derived.Test.YtcgapkepbnbabaaDoorKwn
namespace Go.Proofs.YtcgapkepbnbabaaDoor.X5
set_option linter.unusedVariables false
set_option linter.unusedSimpArgs false
open Go.RowKit Wd Ty9

set_option maxHeartbeats 1000000 in
set_option maxRecDepth 100000 in
theorem rwide_any (x : Xt) (w : World) : Calls Tryd.prog 31 #[av x] w fun e w' => e = .returned (.bool (decide (wideP x))) ∧ Below w.heap.size w w' := by
  have hd : (decide (wideP x) = true) ↔ (mayP x ∧ 16 < x.2) := by rw [decide_eq_true_eq]; exact wideP_iff x
  have HD := Lib.hid hd
  generalize decide (wideP x) = r at *
  clear hd
  have HB := Lib.hid (below_new w (.cells #[.int .i64 x.1, .int .i64 x.2] 54))
  have HBX := Lib.hid (Bx.new w 54 #[.int .i64 x.1, .int .i64 x.2])
  by_cases hm : mayP x
  · have HM := Lib.hid hm
    clear hm
    by_cases h1 : 16 < x.2
    · have HR := Lib.hid (show r = true from HD.out.mpr ⟨HM.out, h1⟩)
      simp only [av]
      go_enter Tryd.func31, Tryd.ntmps31
      go_wp2_with (go_at_call 52; refine (rmay_any x _).mono ?_; rintro _ w5 ⟨he, hb5⟩; rw [decide_eq_true HM.out] at he; subst he; have hbx := HBX.out.later hb5 HBX.out.lt; have HW5 := Lib.hid (below_more HB.out hb5); have x1 := hbx.cell 1; clear hbx hb5)
      go_ret
      exact ⟨by rw [HR.out]; rfl, HW5.out⟩
    · have HR := Lib.hid (show r = false by cases hr : r; rfl; exact absurd (HD.out.mp hr).2 h1)
      have h2 : decide (16 < x.2) = false := by simpa using h1
      have h3 : ¬ x.2 > 16 := h1
      simp only [av]
      go_enter Tryd.func31, Tryd.ntmps31
      go_wp2_with (go_at_call 52; refine (rmay_any x _).mono ?_; rintro _ w5 ⟨he, hb5⟩; rw [decide_eq_true HM.out] at he; subst he; have hbx := HBX.out.later hb5 HBX.out.lt; have HW5 := Lib.hid (below_more HB.out hb5); have x1 := hbx.cell 1; clear hbx hb5)
      go_ret
      exact ⟨by rw [HR.out]; rfl, HW5.out⟩
  · have HM := Lib.hid hm
    have HR := Lib.hid (show r = false by cases hr : r; rfl; exact absurd (HD.out.mp hr).1 hm)
    clear hm
    simp only [av]
    go_enter Tryd.func31, Tryd.ntmps31
    go_wp2_with (go_at_call 52; refine (rmay_any x _).mono ?_; rintro _ w5 ⟨he, hb5⟩; rw [decide_eq_false HM.out] at he; subst he; have HW5 := Lib.hid (below_more HB.out hb5); clear hb5)
    go_ret
    exact ⟨by rw [HR.out]; rfl, HW5.out⟩

theorem rblock_info : (Tryd.prog.info? 73).map (fun i => (i.zero, i.size, i.bytes)) = some (some (.agg #[.int .i64 0, .slice none 0 0]), 2, 32) := by kernel_rfl
set_option maxHeartbeats 8000000 in
set_option maxRecDepth 100000 in
theorem rlay_any (A : Option Addr) (n C : Nat) (l : List Mg) (Ar : Option Addr) (k Cr lo hi : Nat) (room : List Xt) (w : World) (hn : n ≤ 140737488355328) (hnr : k ≤ 140737488355328) (h : Ms w w.heap.size A n l) (hr : Ex w lo hi Ar k room) (hhi : hi ≤ w.heap.size) :
    Calls Tryd.prog 16 #[.slice A n C, .slice Ar k Cr] w fun e w' => ∃ A' C' m z out, e = .returned (.tuple #[.slice A' m C', .int .i64 z]) ∧ IsLay l room z out ∧ out.length = m ∧ Ob 73 w (.slice A' m C') out w'.heap.size w' := by
  have hl := h.len
  have hrl := hr.len
  have HM := Lib.hid h
  have HX := Lib.hid hr
  have HMA := Lib.hid (rmay8_any A n C l w hn h)
  clear h hr
  go_enter Tryd.func16, Tryd.ntmps16
  go_wp2_with (go_at_call 12; refine HMA.out.mono ?_; rintro _ w1 ⟨⟨z, rfl, hmy⟩, hb⟩; refine Hid.out ?_)
  have HMY := Lib.hid hmy
  have HB1 := Lib.hid hb
  clear hmy hb HMA
  by_cases hz : z = 0
  · subst hz
    refine go_on ?_
    by_cases hbig : 65536 < k
    · have z1 : (65536 : Int) < (k : Int) := by omega
      have HL := Lib.hid (show IsLay l room 3 [] from .inr ⟨HMY.out, .inl ⟨by omega, rfl, rfl⟩⟩)
      go_wp2
      go_ret2
      first | exact ⟨none, 0, 0, 3, [], rfl, HL.out, rfl, ob_nil HB1.out⟩ | exact ⟨none, 0, 0, 3, rfl, [], HL.out, rfl, ob_nil HB1.out⟩
    · have z1 : ¬ (65536 : Int) < (k : Int) := by omega
      have hrb : room.length ≤ 65536 := by omega
      go_wp2
      go_loopw [7] (fun i wr => ∃ (j : Nat), i = .int .i64 j ∧ j ≤ k ∧ Below w1.heap.size w1 wr ∧ Hid (∀ x ∈ room.take j, wideP x)) (fun i _ => k - (intOf i).toNat)
      case atStart => exact ⟨0, rfl, Nat.zero_le _, Below.refl _ _, Lib.hid (by simp)⟩
      case round =>
        obtain ⟨j, rfl, hj, hbe, HWD⟩ := hrel
        have HBE := Lib.hid hbe
        have HBW := Lib.hid (below_more HB1.out hbe)
        clear hbe
        by_cases hlt : j < k
        · have hltz : (j : Int) < (k : Int) := by omega
          obtain ⟨b, o, rfl, hb1, hb2, -⟩ := HX.out.at_ (by omega)
          obtain ⟨c0, c1⟩ := HX.out.get rfl (i := j) (by omega)
          have hbw : b < w.heap.size := Nat.lt_of_lt_of_le hb2 hhi
          rw [← HBW.out.cell (p := ⟨b, o + j * 2, none⟩) hbw] at c0
          rw [← HBW.out.cell (p := ⟨b, o + j * 2 + 1, none⟩) hbw] at c1
          have hx : room[j]? = some (room[j]'(by omega)) := List.getElem?_eq_getElem _
          generalize room[j]'_ = x at c0 c1 hx
          have HXK := Lib.hid hx
          clear hx
          by_cases hwx : wideP x
          · have HWX := Lib.hid hwx
            clear hwx
            go_wp2_with (go_at_call 31; refine (rwide_any x _).mono ?_; rintro _ w5 ⟨he, hb5⟩; rw [decide_eq_true HWX.out] at he; subst he; have HW5 := Lib.hid (below_more HBE.out hb5); clear hb5)
            go_roundw
            case rel => exact ⟨j + 1, by go_num, by omega, HW5.out, Lib.hid (by rw [take_snoc HXK.out]; exact all_snoc.mpr ⟨HWD.out, HWX.out⟩)⟩
            case measure => simp [intOf]; omega
          · have HWX := Lib.hid hwx
            have HL := Lib.hid (show IsLay l room 2 [] from .inr ⟨HMY.out, .inr ⟨hrb, .inl ⟨fun h => HWX.out (h.1 x (List.mem_of_getElem? HXK.out)), rfl, rfl⟩⟩⟩)
            clear hwx
            go_wp2_with (go_at_call 31; refine (rwide_any x _).mono ?_; rintro _ w5 ⟨he, hb5⟩; rw [decide_eq_false HWX.out] at he; subst he; have HW5 := Lib.hid (below_more HBW.out hb5); clear hb5)
            go_ret2
            first | exact ⟨none, 0, 0, 2, [], rfl, HL.out, rfl, ob_nil HW5.out⟩ | exact ⟨none, 0, 0, 2, rfl, [], HL.out, rfl, ob_nil HW5.out⟩
        · obtain rfl : j = k := by omega
          rw [List.take_of_length_le (show room.length ≤ j by omega)] at HWD
          have HMT := Lib.hid (rmeets_any Ar j Cr lo hi room wr (by omega) (HX.out.later HBW.out hhi) (Nat.le_trans hhi HBW.out.size))
          go_wp2_with (go_at_call 32; refine HMT.out.mono ?_; rintro _ w5 ⟨rm, rfl, hrm, hb5⟩; refine Hid.out ?_)
          have HB5 := Lib.hid (below_more HBW.out hb5)
          have HRM := Lib.hid hrm.out
          clear hrm hb5 HMT
          refine go_on ?_
          rcases rm with _ | _
          · have HNM := Lib.hid (HRM.out.mp rfl)
            have HST := Lib.hid (rstream_any A n C l w5 ((HM.out.later HB5.out).up HB5.out.size) HMY.out)
            go_wp2_with (go_at_call 14; refine HST.out.mono ?_; rintro _ w6 ⟨V6, rfl, hrow6, hb6⟩; refine Hid.out ?_)
            obtain ⟨A6, c6, hV6, hc6, hby6⟩ := row_cap8 hrow6
            subst hV6
            have HB6 := Lib.hid (below_more HB5.out hb6)
            have HSL := Lib.hid (stream_len l)
            have HIS := Lib.hid (show ∀ z out, ((sumCap room < (streamM l).length ∧ z = 7 ∧ out = []) ∨ ((streamM l).length ≤ sumCap room ∧ z = 0 ∧ out = layL (streamM l) room)) → IsLay l room z out from fun z out h => .inr ⟨HMY.out, .inr ⟨hrb, .inr ⟨⟨HWD.out, HNM.out⟩, by rw [← HSL.out]; exact h⟩⟩⟩)
            have hsb : (streamM l).length ≤ 140737488355000 := by
              rw [HSL.out]
              obtain ⟨hlen, hsm⟩ : l.length ≤ 65536 ∧ ∀ m ∈ l, smallM m := by
                rcases HMY.out with ⟨_, h⟩ | ⟨h, _⟩
                · cases h
                · exact h
              have hszb := size_bound hsm
              have := Nat.mul_le_mul_right 65544 hlen
              omega
            have HSB := Lib.hid hsb
            generalize streamM l = S at *
            have HBY0 := Lib.hid (show Byt w6 w6.heap.size A6 (restAt S room 0).length (restAt S room 0) ∧ (restAt S room 0).length ≤ c6 from by rw [restAt_zero]; exact ⟨hby6, hc6⟩)
            have e0 : (.slice A6 S.length c6 : Value) = .slice A6 (restAt S room 0).length c6 := by rw [restAt_zero]
            rw [e0]
            clear hrow6 hb6 hby6 hc6 HST e0 hsb
            refine go_on ?_
            go_wp2
            go_loopw [8, 9, 10] (fun r v i wr => ∃ (m : Nat) (Aq : Option Addr) (q cq : Nat), r = .slice Aq q cq ∧ i = .int .i64 m ∧ m ≤ room.length ∧ Qst w6 S room m Aq q cq ∧ Ob 73 w6 v ((layL S room).take m) wr.heap.size wr) (fun _ _ i _ => room.length + 1 - (intOf i).toNat)
            case atStart => exact ⟨0, A6, _, c6, rfl, rfl, Nat.zero_le _, ⟨rfl, HBY0.out.2, HBY0.out.1, by simp⟩, Ob.nil _ _⟩
            case round =>
              obtain ⟨m, Aq, q, cq, rfl, rfl, hm, hQ, how⟩ := hrel
              have HQ := Lib.hid hQ
              clear hQ
              obtain ⟨Ao, co, hV⟩ := how.form
              rw [HQ.out.tk] at hV
              subst hV
              have HOW := Lib.hid how
              clear how
              by_cases hmk : m < j
              · have hmz : (m : Int) < (j : Int) := by omega
                by_cases hq0 : 0 < q
                · have hqz : (0 : Int) < (q : Int) := by omega
                  have hne : restAt S room m ≠ [] := by
                    intro e
                    have h1 := HQ.out.len
                    rw [e] at h1
                    simp at h1
                    omega
                  have hjr : m < room.length := by omega
                  have hx : room[m]? = some room[m] := List.getElem?_eq_getElem hjr
                  have hgetl := layL_get room S m room[m] hx hne
                  have HBW6 := Lib.hid (below_more HB6.out HOW.out.be)
                  obtain ⟨b, o, rfl, hb1, hb2, -⟩ := HX.out.at_ (by omega)
                  have hbw : b < w.heap.size := Nat.lt_of_lt_of_le hb2 hhi
                  obtain ⟨c0, c1⟩ := HX.out.get rfl (i := m) hjr
                  have hwx := HWD.out room[m] (List.getElem_mem hjr)
                  generalize room[m] = x at c0 c1 hx hgetl hwx
                  have HXJ := Lib.hid hx
                  have HGL := Lib.hid hgetl
                  obtain ⟨x0, x1⟩ := x
                  have hcp : ((capN (x0, x1) : Nat) : Int) = x1 - 16 := by unfold wideP at hwx; unfold capN; simp only at *; omega
                  unfold wideP at hwx
                  simp only at c0 c1 hwx
                  obtain ⟨a, ha⟩ : ∃ a : Nat, (a : Int) = x0 := ⟨x0.toNat, by omega⟩
                  obtain ⟨sx, hsx⟩ : ∃ sx : Nat, (sx : Int) = x1 := ⟨x1.toNat, by omega⟩
                  subst ha hsx
                  obtain ⟨cp, hcpe⟩ : ∃ cp, capN ((a : Int), (sx : Int)) = cp := ⟨_, rfl⟩
                  rw [hcpe] at hcp
                  have HCP := Lib.hid hcpe
                  have HC0 := Lib.hid c0
                  have HC1 := Lib.hid c1
                  rw [← HBW6.out.cell (p := ⟨b, o + m * 2, none⟩) hbw] at c0
                  rw [← HBW6.out.cell (p := ⟨b, o + m * 2 + 1, none⟩) hbw] at c1
                  have hcs : cp + 16 = sx := by omega
                  have HCS := Lib.hid hcs
                  have HWX := Lib.hid hwx
                  obtain ⟨pn, hpn⟩ : ∃ pn, pn = min q cp := ⟨_, rfl⟩
                  have hpq : pn ≤ q := by omega
                  have hpc : pn ≤ cp := by omega
                  have HPN := Lib.hid hpn
                  have hlez : min (q : Int) (cp : Int) = (pn : Int) := by omega
                  have HPQ := Lib.hid hpq
                  have HPC := Lib.hid hpc
                  have HTKL := Lib.hid (show ((layL S room).take (m + 1)).length = m + 1 by
                    have h1 := (List.getElem?_eq_some_iff.mp HGL.out).1
                    rw [List.length_take]; omega)
                  have HTKN0 := Lib.hid (show (layL S room).take (m + 1) = (layL S room).take m ++ [((a : Int), blockL ((restAt S room m).take pn) (if q ≤ cp then (0, 0) else room.getD (m + 1) (0, 0)) sx)] by
                    have h1 := HGL.out
                    rw [HCP.out, Int.toNat_natCast, HQ.out.len] at h1
                    have e1 : (restAt S room m).take pn = (restAt S room m).take cp := by
                      by_cases hle : q ≤ cp
                      · rw [List.take_of_length_le (by rw [HQ.out.len]; omega), List.take_of_length_le (by rw [HQ.out.len]; omega)]
                      · have : pn = cp := by omega
                        rw [this]
                    rw [take_snoc h1, e1])
                  have HRS := Lib.hid (show restAt S room (m + 1) = (restAt S room m).drop pn by
                    rw [restAt_succ HXJ.out, HCP.out]
                    by_cases hle : q ≤ cp
                    · rw [List.drop_eq_nil_of_le (by rw [HQ.out.len]; omega), List.drop_eq_nil_of_le (by rw [HQ.out.len]; omega)]
                    · have : pn = cp := by omega
                      rw [this])
                  obtain ⟨bq, oq, rfl, -⟩ := HQ.out.byt.at_ hq0
                  have HPART := Lib.hid (byt_pre8 HQ.out.byt (k := pn) hpq)
                  obtain ⟨AD, hAD⟩ : ∃ AD, (if cq = pn then some (⟨bq, oq, none⟩ : Addr) else some ⟨bq, oq + pn, none⟩) = AD := ⟨_, rfl⟩
                  have HNEWQ := Lib.hid (show Qst w6 S room (m + 1) AD (q - pn) (cq - pn) from (by
                    have h1 := byt_suf HQ.out.byt (k := pn) (c := cq) hpq HQ.out.cap
                    rw [hAD] at h1
                    refine ⟨by rw [HRS.out, List.length_drop, HQ.out.len], by have := HQ.out.cap; omega, by rw [HRS.out]; exact h1, HTKL.out⟩))
                  have HSX := Lib.hid (show sx ≤ 4194304 by omega)
                  have HZC := Lib.hid (show (pn : Int) ≤ (cq : Int) by have := HQ.out.cap; omega)
                  have HZQ := Lib.hid (show (pn : Int) ≤ (q : Int) by omega)
                  have HAB := Lib.hid (show a ≤ 4194304 by omega)
                  have R1 := Lib.hid (show IntKind.i64.wrap ((sx : Int) - 16) = (cp : Int) by rw [hcp]; exact IntWalk.i64_in _ (by omega))
                  have R1' := Lib.hid (show wrap64 ((sx : Int) - 16) = (cp : Int) by rw [hcp]; unfold wrap64; omega)
                  have HJL := Lib.hid HQ.out.tk
                  have HJ32 := Lib.hid (show (((layL S room).take m).length + 1) * 32 ≤ 140737488355328 by rw [HJL.out]; omega)
                  clear hcpe hne hx hgetl hcp hwx hpn
                  by_cases hle : q ≤ cp
                  · have HNX := Lib.hid (show (if q ≤ cp then ((0 : Int), (0 : Int)) else room.getD (m + 1) (0, 0)) = (((0 : Nat) : Int), ((0 : Nat) : Int)) from if_pos hle)
                    have hgt : ¬ (pn : Int) < (q : Int) := by have := HPN.out; omega
                    have r1 := R1.out
                    have r1' := R1'.out
                    go_upto_region 22 with fail
                    clear c0 c1 r1 r1' hlez 
                    obtain ⟨W0, na, ns, hW0, hbw0, hx0, hnx, hnab⟩ : ∃ (W0 : World) (na ns : Nat), wr.alloc (.cells #[.int .i64 0, .int .i64 0] 54) = W0 ∧ Below wr.heap.size wr W0 ∧ Bx W0 wr.heap.size 54 #[.int .i64 (na : Int), .int .i64 (ns : Int)] ∧ (if q ≤ cp then ((0 : Int), (0 : Int)) else room.getD (m + 1) (0, 0)) = ((na : Int), (ns : Int)) ∧ (na ≤ 4194304 ∧ ns ≤ 4194304) := ⟨_, 0, 0, rfl, below_new _ _, Bx.new _ _ _, HNX.out, by decide, by decide⟩
                    rw [hW0]
                    have HBW0 := Lib.hid hbw0
                    have HX0 := Lib.hid hx0
                    have HTKN := Lib.hid (show (layL S room).take (m + 1) = (layL S room).take m ++ [((a : Int), blockL ((restAt S room m).take pn) ((na : Int), (ns : Int)) sx)] by rw [HTKN0.out, hnx])
                    have HNA := Lib.hid hnab
                    have q0 : IntKind.u64.wrap (pn : Int) = (pn : Int) := by have h1 := HPC.out; have h2 := HCS.out; have h3 := HSX.out; simp [IntKind.wrap, IntKind.bits, IntKind.signed]; omega
                    have q1 : IntKind.u64.wrap (na : Int) = (na : Int) := by have := HNA.out.1; simp [IntKind.wrap, IntKind.bits, IntKind.signed]; omega
                    have q2 : IntKind.u64.wrap (ns : Int) = (ns : Int) := by have := HNA.out.2; simp [IntKind.wrap, IntKind.bits, IntKind.signed]; omega
                    have HD1 := Lib.hid (digits_any true 4 pn W0 (by omega) (by have h1 := HPC.out; have h2 := HCS.out; have h3 := HSX.out; omega))
                    have HD2 := Lib.hid (fun (W : World) => digits_any true 4 na W (by omega) (by have := HNA.out.1; omega))
                    have HD3 := Lib.hid (fun (W : World) => digits_any true 4 ns W (by omega) (by have := HNA.out.2; omega))
                    clear hW0 hbw0 hx0 hnx hnab
                    go_wp2_with (go_at_call 26; refine HD1.out.mono ?_; rintro _ w7 ⟨V7, rfl, hrow7, hb7⟩; refine Hid.out ?_)
                    have HR7 := Lib.hid hrow7
                    have HB7 := Lib.hid hb7
                    have n0 : w7.cell? ⟨wr.heap.size, 0, none⟩ = some (.int .i64 na) := (HX0.out.later hb7 HX0.out.lt).cell 0
                    clear hrow7 hb7 q0 HD1
                    refine go_on ?_
                    go_wp2_with (go_at_call 26; refine (HD2.out w7).mono ?_; rintro _ w8 ⟨V8, rfl, hrow8, hb8⟩; refine Hid.out ?_)
                    have HR8 := Lib.hid (HR7.out.below hb8)
                    have HB8 := Lib.hid (below_more HB7.out hb8)
                    obtain ⟨A8, c8, rfl, hby8⟩ := hrow8.byt
                    have hd4 := digs_len 4 true na
                    rw [hd4] at hby8
                    have HY8 := Lib.hid hby8
                    have HL1 := Lib.hid (show (digs 4 true pn).length + 4 ≤ 140737488355328 by rw [digs_len]; omega)
                    clear hrow8 hb8 hby8 HD2 n0 q1
                    rw [hd4]
                    clear hd4
                    refine go_on ?_
                    go_wp2_with (at_builtin; refine wp_rowb rfl (.tmp 78) (.tmp 82) rfl W0.heap.size 4 c8 _ (digs 4 true pn) (digs 4 true na) A8 _ rfl rfl HR8.out HY8.out HL1.out HB8.out.size ?_; intro V9 w9 hrow9 hb9; refine Hid.out ?_)
                    have HR9 := Lib.hid hrow9
                    have HB9 := Lib.hid (HB8.out.trans hb9)
                    have n1 : w9.cell? ⟨wr.heap.size, 1, none⟩ = some (.int .i64 ns) := (HX0.out.later HB9.out HX0.out.lt).cell 1
                    clear hrow9 hb9
                    refine go_on ?_
                    go_wp2_with (go_at_call 26; refine (HD3.out w9).mono ?_; rintro _ w10 ⟨V10, rfl, hrow10, hb10⟩; refine Hid.out ?_)
                    have HR10 := Lib.hid (HR9.out.below hb10)
                    have HB10 := Lib.hid (below_more HB9.out hb10)
                    obtain ⟨A10, c10, rfl, hby10⟩ := hrow10.byt
                    have hd4 := digs_len 4 true ns
                    rw [hd4] at hby10
                    have HY10 := Lib.hid hby10
                    have HL2 := Lib.hid (show (digs 4 true pn ++ digs 4 true na).length + 4 ≤ 140737488355328 by rw [List.length_append, digs_len, digs_len]; omega)
                    clear hrow10 hb10 hby10 HD3 n1 q2
                    rw [hd4]
                    clear hd4
                    refine go_on ?_
                    go_wp2_with (at_builtin; refine wp_rowb rfl (.tmp 84) (.tmp 88) rfl W0.heap.size 4 c10 _ (digs 4 true pn ++ digs 4 true na) (digs 4 true ns) A10 _ rfl rfl HR10.out HY10.out HL2.out HB10.out.size ?_; intro V11 w11 hrow11 hb11; refine Hid.out ?_)
                    have HR11 := Lib.hid hrow11
                    have HB11 := Lib.hid (HB10.out.trans hb11)
                    have HY11 := Lib.hid (HPART.out.later (HOW.out.be.trans ((HBW0.out.trans (HB11.out.mono HBW0.out.size)).mono HOW.out.be.size)))
                    have HL3 := Lib.hid (show (digs 4 true pn ++ digs 4 true na ++ digs 4 true ns).length + pn ≤ 140737488355328 by have h1 := HPC.out; have h2 := HCS.out; have h3 := HSX.out; rw [List.length_append, List.length_append, digs_len, digs_len, digs_len]; omega)
                    have hzc := HZC.out
                    have hzq := HZQ.out
                    clear hrow11 hb11
                    refine go_on ?_
                    go_wp2_with (at_builtin; refine wp_rowb rfl (.tmp 90) (.tmp 93) rfl W0.heap.size pn cq _ (digs 4 true pn ++ digs 4 true na ++ digs 4 true ns) ((restAt S room m).take pn) (some ⟨bq, oq, none⟩) _ rfl rfl HR11.out HY11.out HL3.out HB11.out.size ?_; intro V12 w12 hrow12 hb12; refine Hid.out ?_)
                    have HB12 := Lib.hid (HB11.out.trans hb12)
                    obtain ⟨pre, hpre⟩ : ∃ pre, digs 4 true pn ++ digs 4 true na ++ digs 4 true ns ++ (restAt S room m).take pn = pre := ⟨_, rfl⟩
                    rw [hpre] at hrow12
                    have HR12 := Lib.hid hrow12
                    have HPRE := Lib.hid hpre
                    have HPL := Lib.hid (show pre.length = 12 + pn by rw [← hpre, List.length_append, List.length_append, List.length_append, digs_len, digs_len, digs_len, HPART.out.len])
                    have R4 := Lib.hid (show IntKind.i64.wrap ((sx : Int) - 4) = (sx : Int) - 4 from IntWalk.i64_in _ (by have := HSX.out; have := HCS.out; omega))
                    have R4' := Lib.hid (show wrap64 ((sx : Int) - 4) = (sx : Int) - 4 by have := HSX.out; have := HCS.out; unfold wrap64; omega)
                    clear hrow12 hb12 hpre
                    refine go_on ?_
                    go_wp2
                    generalize wr = wo at *
                    go_loopw [13] (fun v wr => ∃ (t : Nat), t + pn + 16 ≤ sx ∧ RowB wr W0.heap.size v (pre ++ List.replicate t 0) ∧ Below W0.heap.size W0 wr) (fun v _ => sx - lenV v)
                    case atStart => exact ⟨0, by have h1 := HPC.out; have h2 := HCS.out; omega, by simpa using HR12.out, HB12.out⟩
                    case round =>
                      obtain ⟨t, ht, hrow, hbe⟩ := hrel
                      have HBZ := Lib.hid hbe
                      have HBR := Lib.hid (HOW.out.be.trans ((HBW0.out.trans (hbe.mono HBW0.out.size)).mono HOW.out.be.size))
                      have HBX := Lib.hid (below_more HB6.out HBR.out)
                      obtain ⟨At, ct, hV, hct, hbyt⟩ := row_cap8 hrow
                      have hlen : (pre ++ List.replicate t 0).length = 12 + pn + t := by rw [List.length_append, HPL.out, List.length_replicate]
                      rw [hlen] at hV hct hbyt
                      subst hV
                      have HRZ := Lib.hid hrow
                      have HLZ := Lib.hid hlen
                      have HYZ := Lib.hid hbyt
                      have c0 := (HBX.out.cell (p := ⟨b, o + m * 2, none⟩) hbw).trans HC0.out
                      have c1 := (HBX.out.cell (p := ⟨b, o + m * 2 + 1, none⟩) hbw).trans HC1.out
                      clear hrow hbe hct hbyt hlen
                      have r4 := R4.out
                      have r4' := R4'.out
                      by_cases htl : t + pn + 16 < sx
                      · have hlt4 : ((12 + pn + t : Nat) : Int) < (sx : Int) - 4 := by omega
                        have HZL := Lib.hid (show RowB (wr.alloc (.cells #[.int .u8 0] 5)) wr.heap.size (.slice (some ⟨wr.heap.size, 0, none⟩) 1 1) [0] from RowB.lit wr [0] (by simp) (by simp) (Nat.le_refl _))
                        have HRZ2 := Lib.hid (HRZ.out.below (below_new wr (.cells #[.int .u8 0] 5)))
                        have HBZ2 := Lib.hid (below_more HBZ.out (below_new wr (.cells #[.int .u8 0] 5)))
                        have HYL := Lib.hid (Byt.of_own HZL.out.own HZL.out.lt)
                        have HLL := Lib.hid (show (pre ++ List.replicate t 0).length + 1 ≤ 140737488355328 by have := HSX.out; rw [HLZ.out]; omega)
                        have HRE := Lib.hid (show pre ++ List.replicate t 0 ++ [0] = pre ++ List.replicate (t + 1) 0 by rw [List.append_assoc, List.replicate_succ'])
                        clear c0
                        go_wp2_with (at_builtin; refine wp_rowb rfl (.tmp 104) (.tmp 105) rfl W0.heap.size 1 1 _ (pre ++ List.replicate t 0) [0] (some ⟨wr.heap.size, 0, none⟩) _ rfl rfl HRZ2.out HYL.out HLL.out HBZ2.out.size ?_; intro V14 w14 hrow14 hb14; refine Hid.out ?_)
                        have HR14 := Lib.hid (show RowB w14 W0.heap.size V14 (pre ++ List.replicate (t + 1) 0) by rw [← HRE.out]; exact hrow14)
                        have HB14 := Lib.hid (HBZ2.out.trans hb14)
                        obtain ⟨A14, c14, hV14, -, -⟩ := row_cap8 HR14.out
                        rw [List.length_append, HPL.out, List.length_replicate] at hV14
                        subst hV14
                        clear hrow14 hb14 c1
                        refine go_on ?_
                        go_wp2
                        go_roundw
                        (case rel => exact ⟨t + 1, by omega, HR14.out, HB14.out⟩)
                        (case measure => simp [lenV]; omega)
                      · have htq : t = sx - 16 - pn := by omega
                        have hlt4 : ¬ ((12 + pn + t : Nat) : Int) < (sx : Int) - 4 := by omega
                        have HTQ := Lib.hid htq
                        have HSE := Lib.hid (rseal_any At (12 + pn + t) ct (pre ++ List.replicate t 0) wr.drew (by have := HSX.out; omega) HYZ.out.drew)
                        have HBL := Lib.hid (show sealL (pre ++ List.replicate t 0) = blockL ((restAt S room m).take pn) ((na : Int), (ns : Int)) sx by
                          unfold blockL
                          rw [HPART.out.len, Int.toNat_natCast, Int.toNat_natCast, HPRE.out, HTQ.out])
                        have HBLEN := Lib.hid (show (blockL ((restAt S room m).take pn) ((na : Int), (ns : Int)) sx).length = sx from block_len (by rw [HPART.out.len]; have h1 := HPC.out; have h2 := HCS.out; omega))
                        have HQM := Lib.hid (show sx ≤ 140737488355328 by have := HSX.out; omega)
                        have HOZ := Lib.hid ((HOW.out.below HBW0.out).below (HBZ.out))
                        rw [HBL.out] at HSE
                        generalize blockL ((restAt S room m).take pn) ((na : Int), (ns : Int)) sx = bl at *
                        have HLO := Lib.hid (Nat.le_trans HOW.out.be.size (Nat.le_trans HBW0.out.size HBZ.out.size))
                        have HLW := Lib.hid (Nat.le_trans HBW0.out.size HBZ.out.size)
                        go_upto_region 28 with fail
                        clear c1 r4 r4' hlt4 htl htq
                        go_region_law (first
                          | (have hgate := HSE.out; clear hgate; go_simp; go_at_call 33; refine HSE.out.mono ?_; rintro _ w8 ⟨V8, rfl, hrow8, hb8⟩; have hb8 : Below wr.heap.size wr w8 := below_then (Below.refl _ wr).drew (Nat.le_refl _) hb8; obtain ⟨g8, c8, hV8, hg8, hg8b⟩ := hrow8.own.form (by rw [HBLEN.out]; have := HCS.out; omega); rw [HBLEN.out] at hV8; subst hV8; have c0 := (hb8.cell (p := ⟨b, o + m * 2, none⟩) (Nat.lt_of_lt_of_le hbw HBX.out.size)).trans c0; have HR8 := Lib.hid (show RowB w8 w6.heap.size (.slice (some ⟨g8, 0, none⟩) sx c8) bl from hrow8.up HLO.out); have HC8 := Lib.hid (by rcases hrow8.own.2 with ⟨hv, _⟩ | ⟨g9, cap9, cur9, hv, _, _, hc9, _⟩; (cases hv); (injection hv with e1 e2 e3; rw [HBLEN.out] at hc9; rw [← e3] at hc9; exact hc9) : sx ≤ c8); have HO8 := Lib.hid (HOZ.out.below hb8); have HG8 := Lib.hid (show wo.heap.size ≤ g8 from Nat.le_trans HLW.out hg8); have HOE := Lib.hid (HO8.out.below (below_new w8 (.cells #[.int .i64 a, .slice (some ⟨g8, 0, none⟩) sx c8] 73))); have HRE := Lib.hid (HR8.out.below (below_new w8 (.cells #[.int .i64 a, .slice (some ⟨g8, 0, none⟩) sx c8] 73))); have HNE8 := Lib.hid (show (Value.slice Ao m co).ownBlock ≠ some g8 from fun e2 => by obtain ⟨vs, gs, hown, _⟩ := HOW.out.ex; exact Nat.lt_irrefl _ (Nat.lt_of_lt_of_le (hown.lt _ e2).2 HG8.out)); clear hrow8 hb8 HSE)
                          | (have hgate := HOE.out; clear hgate; refine step_pushB Tryd.underlying38 rblock_info (by rfl) (.tmp 107) (.tmp 116) (by rfl) w6 _ ((layL S room).take m) ((a : Int), bl) g8 sx c8 w8.heap.size wo.heap.size (by simp [Act.eval, Act.put]) (by simp [Act.eval, Act.put]) HOE.out HBLEN.out (Bx.new w8 _ _) HC8.out HQM.out HRE.out HG8.out HNE8.out HJ32.out ?_; intro V9 w9 how9; rw [← HTKN.out] at how9; obtain ⟨A9, c9, hV9⟩ := how9.form; rw [HTKL.out] at hV9; subst hV9; have HO9 := Lib.hid how9; clear how9))
                        all_goals
                          clear c0
                          go_wp2
                          go_roundw
                          (case rel => first | exact ⟨m + 1, AD, q - pn, cq - pn, rfl, by go_num, hjr, HNEWQ.out, HO9.out⟩ | exact ⟨m + 1, AD, q - pn, cq - pn, ⟨rfl, rfl, rfl⟩, by go_num, by omega, HNEWQ.out, HO9.out⟩)
                          (case measure => simp [intOf]; omega)
                  · have hgt : (pn : Int) < (q : Int) := by have := HPN.out; omega
                    by_cases hm1 : m + 1 < j
                    · obtain ⟨d0, d1⟩ := HX.out.get rfl (i := m + 1) (by omega)
                      rw [← HBW6.out.cell (p := ⟨b, o + (m + 1) * 2, none⟩) hbw] at d0
                      rw [← HBW6.out.cell (p := ⟨b, o + (m + 1) * 2 + 1, none⟩) hbw] at d1
                      have hy : room[m + 1]? = some (room[m + 1]'(by omega)) := List.getElem?_eq_getElem _
                      have hwy := HWD.out (room[m + 1]'(by omega)) (List.getElem_mem _)
                      generalize room[m + 1]'_ = y at d0 d1 hy hwy
                      obtain ⟨y0, y1⟩ := y
                      unfold wideP at hwy
                      simp only at d0 d1 hwy
                      obtain ⟨nb, hnb⟩ : ∃ nb : Nat, (nb : Int) = y0 := ⟨y0.toNat, by omega⟩
                      obtain ⟨nt, hnt⟩ : ∃ nt : Nat, (nt : Int) = y1 := ⟨y1.toNat, by omega⟩
                      subst hnb hnt
                      have HNX := Lib.hid (show (if q ≤ cp then ((0 : Int), (0 : Int)) else room.getD (m + 1) (0, 0)) = ((nb : Int), (nt : Int)) by
                        rw [if_neg hle, List.getD_eq_getElem?_getD, hy]; rfl)
                      have HNAB := Lib.hid (show nb ≤ 4194304 ∧ nt ≤ 4194304 by omega)
                      have hj2 : (m : Int) + 1 < (j : Int) := by omega
                      have hj3 : (0 : Int) ≤ (m : Int) + 1 := by omega
                      have HBZ := Lib.hid (below_new wr (.cells #[.int .i64 0, .int .i64 0] 54))
                      have hbr : b < wr.heap.size := Nat.lt_of_lt_of_le hbw HBW6.out.size
                      have e0 := (HBZ.out.cell (p := ⟨b, o + (m + 1) * 2, none⟩) hbr).trans d0
                      have e1 := (HBZ.out.cell (p := ⟨b, o + (m + 1) * 2 + 1, none⟩) hbr).trans d1
                      have R3 := Lib.hid (show IntKind.i64.wrap ((m : Int) + 1) = (m : Int) + 1 from IntWalk.i64_in _ (by omega))
                      have R3' := Lib.hid (show wrap64 ((m : Int) + 1) = (m : Int) + 1 by unfold wrap64; omega)
                      clear hwy hy d0 d1
                      have r1 := R1.out
                      have r1' := R1'.out
                      have r3 := R3.out
                      have r3' := R3'.out
                      go_upto_region 22 with fail
                      clear c0 c1 r1 r1' hlez e0 e1 r3 r3'
                      obtain ⟨W0, na, ns, hW0, hbw0, hx0, hnx, hnab⟩ : ∃ (W0 : World) (na ns : Nat), wr.alloc (.cells #[.int .i64 nb, .int .i64 nt] 54) = W0 ∧ Below wr.heap.size wr W0 ∧ Bx W0 wr.heap.size 54 #[.int .i64 (na : Int), .int .i64 (ns : Int)] ∧ (if q ≤ cp then ((0 : Int), (0 : Int)) else room.getD (m + 1) (0, 0)) = ((na : Int), (ns : Int)) ∧ (na ≤ 4194304 ∧ ns ≤ 4194304) := ⟨_, nb, nt, rfl, below_new _ _, Bx.new _ _ _, HNX.out, HNAB.out⟩
                      rw [hW0]
                      have HBW0 := Lib.hid hbw0
                      have HX0 := Lib.hid hx0
                      have HTKN := Lib.hid (show (layL S room).take (m + 1) = (layL S room).take m ++ [((a : Int), blockL ((restAt S room m).take pn) ((na : Int), (ns : Int)) sx)] by rw [HTKN0.out, hnx])
                      have HNA := Lib.hid hnab
                      have q0 : IntKind.u64.wrap (pn : Int) = (pn : Int) := by have h1 := HPC.out; have h2 := HCS.out; have h3 := HSX.out; simp [IntKind.wrap, IntKind.bits, IntKind.signed]; omega
                      have q1 : IntKind.u64.wrap (na : Int) = (na : Int) := by have := HNA.out.1; simp [IntKind.wrap, IntKind.bits, IntKind.signed]; omega
                      have q2 : IntKind.u64.wrap (ns : Int) = (ns : Int) := by have := HNA.out.2; simp [IntKind.wrap, IntKind.bits, IntKind.signed]; omega
                      have HD1 := Lib.hid (digits_any true 4 pn W0 (by omega) (by have h1 := HPC.out; have h2 := HCS.out; have h3 := HSX.out; omega))
                      have HD2 := Lib.hid (fun (W : World) => digits_any true 4 na W (by omega) (by have := HNA.out.1; omega))
                      have HD3 := Lib.hid (fun (W : World) => digits_any true 4 ns W (by omega) (by have := HNA.out.2; omega))
                      clear hW0 hbw0 hx0 hnx hnab
                      go_wp2_with (go_at_call 26; refine HD1.out.mono ?_; rintro _ w7 ⟨V7, rfl, hrow7, hb7⟩; refine Hid.out ?_)
                      have HR7 := Lib.hid hrow7
                      have HB7 := Lib.hid hb7
                      have n0 : w7.cell? ⟨wr.heap.size, 0, none⟩ = some (.int .i64 na) := (HX0.out.later hb7 HX0.out.lt).cell 0
                      clear hrow7 hb7 q0 HD1
                      refine go_on ?_
                      go_wp2_with (go_at_call 26; refine (HD2.out w7).mono ?_; rintro _ w8 ⟨V8, rfl, hrow8, hb8⟩; refine Hid.out ?_)
                      have HR8 := Lib.hid (HR7.out.below hb8)
                      have HB8 := Lib.hid (below_more HB7.out hb8)
                      obtain ⟨A8, c8, rfl, hby8⟩ := hrow8.byt
                      have hd4 := digs_len 4 true na
                      rw [hd4] at hby8
                      have HY8 := Lib.hid hby8
                      have HL1 := Lib.hid (show (digs 4 true pn).length + 4 ≤ 140737488355328 by rw [digs_len]; omega)
                      clear hrow8 hb8 hby8 HD2 n0 q1
                      rw [hd4]
                      clear hd4
                      refine go_on ?_
                      go_wp2_with (at_builtin; refine wp_rowb rfl (.tmp 78) (.tmp 82) rfl W0.heap.size 4 c8 _ (digs 4 true pn) (digs 4 true na) A8 _ rfl rfl HR8.out HY8.out HL1.out HB8.out.size ?_; intro V9 w9 hrow9 hb9; refine Hid.out ?_)
                      have HR9 := Lib.hid hrow9
                      have HB9 := Lib.hid (HB8.out.trans hb9)
                      have n1 : w9.cell? ⟨wr.heap.size, 1, none⟩ = some (.int .i64 ns) := (HX0.out.later HB9.out HX0.out.lt).cell 1
                      clear hrow9 hb9
                      refine go_on ?_
                      go_wp2_with (go_at_call 26; refine (HD3.out w9).mono ?_; rintro _ w10 ⟨V10, rfl, hrow10, hb10⟩; refine Hid.out ?_)
                      have HR10 := Lib.hid (HR9.out.below hb10)
                      have HB10 := Lib.hid (below_more HB9.out hb10)
                      obtain ⟨A10, c10, rfl, hby10⟩ := hrow10.byt
                      have hd4 := digs_len 4 true ns
                      rw [hd4] at hby10
                      have HY10 := Lib.hid hby10
                      have HL2 := Lib.hid (show (digs 4 true pn ++ digs 4 true na).length + 4 ≤ 140737488355328 by rw [List.length_append, digs_len, digs_len]; omega)
                      clear hrow10 hb10 hby10 HD3 n1 q2
                      rw [hd4]
                      clear hd4
                      refine go_on ?_
                      go_wp2_with (at_builtin; refine wp_rowb rfl (.tmp 84) (.tmp 88) rfl W0.heap.size 4 c10 _ (digs 4 true pn ++ digs 4 true na) (digs 4 true ns) A10 _ rfl rfl HR10.out HY10.out HL2.out HB10.out.size ?_; intro V11 w11 hrow11 hb11; refine Hid.out ?_)
                      have HR11 := Lib.hid hrow11
                      have HB11 := Lib.hid (HB10.out.trans hb11)
                      have HY11 := Lib.hid (HPART.out.later (HOW.out.be.trans ((HBW0.out.trans (HB11.out.mono HBW0.out.size)).mono HOW.out.be.size)))
                      have HL3 := Lib.hid (show (digs 4 true pn ++ digs 4 true na ++ digs 4 true ns).length + pn ≤ 140737488355328 by have h1 := HPC.out; have h2 := HCS.out; have h3 := HSX.out; rw [List.length_append, List.length_append, digs_len, digs_len, digs_len]; omega)
                      have hzc := HZC.out
                      have hzq := HZQ.out
                      clear hrow11 hb11
                      refine go_on ?_
                      go_wp2_with (at_builtin; refine wp_rowb rfl (.tmp 90) (.tmp 93) rfl W0.heap.size pn cq _ (digs 4 true pn ++ digs 4 true na ++ digs 4 true ns) ((restAt S room m).take pn) (some ⟨bq, oq, none⟩) _ rfl rfl HR11.out HY11.out HL3.out HB11.out.size ?_; intro V12 w12 hrow12 hb12; refine Hid.out ?_)
                      have HB12 := Lib.hid (HB11.out.trans hb12)
                      obtain ⟨pre, hpre⟩ : ∃ pre, digs 4 true pn ++ digs 4 true na ++ digs 4 true ns ++ (restAt S room m).take pn = pre := ⟨_, rfl⟩
                      rw [hpre] at hrow12
                      have HR12 := Lib.hid hrow12
                      have HPRE := Lib.hid hpre
                      have HPL := Lib.hid (show pre.length = 12 + pn by rw [← hpre, List.length_append, List.length_append, List.length_append, digs_len, digs_len, digs_len, HPART.out.len])
                      have R4 := Lib.hid (show IntKind.i64.wrap ((sx : Int) - 4) = (sx : Int) - 4 from IntWalk.i64_in _ (by have := HSX.out; have := HCS.out; omega))
                      have R4' := Lib.hid (show wrap64 ((sx : Int) - 4) = (sx : Int) - 4 by have := HSX.out; have := HCS.out; unfold wrap64; omega)
                      clear hrow12 hb12 hpre
                      refine go_on ?_
                      go_wp2
                      generalize wr = wo at *
                      go_loopw [13] (fun v wr => ∃ (t : Nat), t + pn + 16 ≤ sx ∧ RowB wr W0.heap.size v (pre ++ List.replicate t 0) ∧ Below W0.heap.size W0 wr) (fun v _ => sx - lenV v)
                      case atStart => exact ⟨0, by have h1 := HPC.out; have h2 := HCS.out; omega, by simpa using HR12.out, HB12.out⟩
                      case round =>
                        obtain ⟨t, ht, hrow, hbe⟩ := hrel
                        have HBZ := Lib.hid hbe
                        have HBR := Lib.hid (HOW.out.be.trans ((HBW0.out.trans (hbe.mono HBW0.out.size)).mono HOW.out.be.size))
                        have HBX := Lib.hid (below_more HB6.out HBR.out)
                        obtain ⟨At, ct, hV, hct, hbyt⟩ := row_cap8 hrow
                        have hlen : (pre ++ List.replicate t 0).length = 12 + pn + t := by rw [List.length_append, HPL.out, List.length_replicate]
                        rw [hlen] at hV hct hbyt
                        subst hV
                        have HRZ := Lib.hid hrow
                        have HLZ := Lib.hid hlen
                        have HYZ := Lib.hid hbyt
                        have c0 := (HBX.out.cell (p := ⟨b, o + m * 2, none⟩) hbw).trans HC0.out
                        have c1 := (HBX.out.cell (p := ⟨b, o + m * 2 + 1, none⟩) hbw).trans HC1.out
                        clear hrow hbe hct hbyt hlen
                        have r4 := R4.out
                        have r4' := R4'.out
                        by_cases htl : t + pn + 16 < sx
                        · have hlt4 : ((12 + pn + t : Nat) : Int) < (sx : Int) - 4 := by omega
                          have HZL := Lib.hid (show RowB (wr.alloc (.cells #[.int .u8 0] 5)) wr.heap.size (.slice (some ⟨wr.heap.size, 0, none⟩) 1 1) [0] from RowB.lit wr [0] (by simp) (by simp) (Nat.le_refl _))
                          have HRZ2 := Lib.hid (HRZ.out.below (below_new wr (.cells #[.int .u8 0] 5)))
                          have HBZ2 := Lib.hid (below_more HBZ.out (below_new wr (.cells #[.int .u8 0] 5)))
                          have HYL := Lib.hid (Byt.of_own HZL.out.own HZL.out.lt)
                          have HLL := Lib.hid (show (pre ++ List.replicate t 0).length + 1 ≤ 140737488355328 by have := HSX.out; rw [HLZ.out]; omega)
                          have HRE := Lib.hid (show pre ++ List.replicate t 0 ++ [0] = pre ++ List.replicate (t + 1) 0 by rw [List.append_assoc, List.replicate_succ'])
                          clear c0
                          go_wp2_with (at_builtin; refine wp_rowb rfl (.tmp 104) (.tmp 105) rfl W0.heap.size 1 1 _ (pre ++ List.replicate t 0) [0] (some ⟨wr.heap.size, 0, none⟩) _ rfl rfl HRZ2.out HYL.out HLL.out HBZ2.out.size ?_; intro V14 w14 hrow14 hb14; refine Hid.out ?_)
                          have HR14 := Lib.hid (show RowB w14 W0.heap.size V14 (pre ++ List.replicate (t + 1) 0) by rw [← HRE.out]; exact hrow14)
                          have HB14 := Lib.hid (HBZ2.out.trans hb14)
                          obtain ⟨A14, c14, hV14, -, -⟩ := row_cap8 HR14.out
                          rw [List.length_append, HPL.out, List.length_replicate] at hV14
                          subst hV14
                          clear hrow14 hb14 c1
                          refine go_on ?_
                          go_wp2
                          go_roundw
                          (case rel => exact ⟨t + 1, by omega, HR14.out, HB14.out⟩)
                          (case measure => simp [lenV]; omega)
                        · have htq : t = sx - 16 - pn := by omega
                          have hlt4 : ¬ ((12 + pn + t : Nat) : Int) < (sx : Int) - 4 := by omega
                          have HTQ := Lib.hid htq
                          have HSE := Lib.hid (rseal_any At (12 + pn + t) ct (pre ++ List.replicate t 0) wr.drew (by have := HSX.out; omega) HYZ.out.drew)
                          have HBL := Lib.hid (show sealL (pre ++ List.replicate t 0) = blockL ((restAt S room m).take pn) ((na : Int), (ns : Int)) sx by
                            unfold blockL
                            rw [HPART.out.len, Int.toNat_natCast, Int.toNat_natCast, HPRE.out, HTQ.out])
                          have HBLEN := Lib.hid (show (blockL ((restAt S room m).take pn) ((na : Int), (ns : Int)) sx).length = sx from block_len (by rw [HPART.out.len]; have h1 := HPC.out; have h2 := HCS.out; omega))
                          have HQM := Lib.hid (show sx ≤ 140737488355328 by have := HSX.out; omega)
                          have HOZ := Lib.hid ((HOW.out.below HBW0.out).below (HBZ.out))
                          rw [HBL.out] at HSE
                          generalize blockL ((restAt S room m).take pn) ((na : Int), (ns : Int)) sx = bl at *
                          have HLO := Lib.hid (Nat.le_trans HOW.out.be.size (Nat.le_trans HBW0.out.size HBZ.out.size))
                          have HLW := Lib.hid (Nat.le_trans HBW0.out.size HBZ.out.size)
                          go_upto_region 28 with fail
                          clear c1 r4 r4' hlt4 htl htq
                          go_region_law (first
                            | (have hgate := HSE.out; clear hgate; go_simp; go_at_call 33; refine HSE.out.mono ?_; rintro _ w8 ⟨V8, rfl, hrow8, hb8⟩; have hb8 : Below wr.heap.size wr w8 := below_then (Below.refl _ wr).drew (Nat.le_refl _) hb8; obtain ⟨g8, c8, hV8, hg8, hg8b⟩ := hrow8.own.form (by rw [HBLEN.out]; have := HCS.out; omega); rw [HBLEN.out] at hV8; subst hV8; have c0 := (hb8.cell (p := ⟨b, o + m * 2, none⟩) (Nat.lt_of_lt_of_le hbw HBX.out.size)).trans c0; have HR8 := Lib.hid (show RowB w8 w6.heap.size (.slice (some ⟨g8, 0, none⟩) sx c8) bl from hrow8.up HLO.out); have HC8 := Lib.hid (by rcases hrow8.own.2 with ⟨hv, _⟩ | ⟨g9, cap9, cur9, hv, _, _, hc9, _⟩; (cases hv); (injection hv with e1 e2 e3; rw [HBLEN.out] at hc9; rw [← e3] at hc9; exact hc9) : sx ≤ c8); have HO8 := Lib.hid (HOZ.out.below hb8); have HG8 := Lib.hid (show wo.heap.size ≤ g8 from Nat.le_trans HLW.out hg8); have HOE := Lib.hid (HO8.out.below (below_new w8 (.cells #[.int .i64 a, .slice (some ⟨g8, 0, none⟩) sx c8] 73))); have HRE := Lib.hid (HR8.out.below (below_new w8 (.cells #[.int .i64 a, .slice (some ⟨g8, 0, none⟩) sx c8] 73))); have HNE8 := Lib.hid (show (Value.slice Ao m co).ownBlock ≠ some g8 from fun e2 => by obtain ⟨vs, gs, hown, _⟩ := HOW.out.ex; exact Nat.lt_irrefl _ (Nat.lt_of_lt_of_le (hown.lt _ e2).2 HG8.out)); clear hrow8 hb8 HSE)
                            | (have hgate := HOE.out; clear hgate; refine step_pushB Tryd.underlying38 rblock_info (by rfl) (.tmp 107) (.tmp 116) (by rfl) w6 _ ((layL S room).take m) ((a : Int), bl) g8 sx c8 w8.heap.size wo.heap.size (by simp [Act.eval, Act.put]) (by simp [Act.eval, Act.put]) HOE.out HBLEN.out (Bx.new w8 _ _) HC8.out HQM.out HRE.out HG8.out HNE8.out HJ32.out ?_; intro V9 w9 how9; rw [← HTKN.out] at how9; obtain ⟨A9, c9, hV9⟩ := how9.form; rw [HTKL.out] at hV9; subst hV9; have HO9 := Lib.hid how9; clear how9))
                          all_goals
                            clear c0
                            go_wp2
                            go_roundw
                            (case rel => first | exact ⟨m + 1, AD, q - pn, cq - pn, rfl, by go_num, hjr, HNEWQ.out, HO9.out⟩ | exact ⟨m + 1, AD, q - pn, cq - pn, ⟨rfl, rfl, rfl⟩, by go_num, by omega, HNEWQ.out, HO9.out⟩)
                            (case measure => simp [intOf]; omega)
                    · have HNX := Lib.hid (show (if q ≤ cp then ((0 : Int), (0 : Int)) else room.getD (m + 1) (0, 0)) = (((0 : Nat) : Int), ((0 : Nat) : Int)) by
                        rw [if_neg hle, List.getD_eq_getElem?_getD, List.getElem?_eq_none (by omega)]; rfl)
                      have hj2 : ¬ (m : Int) + 1 < (j : Int) := by omega
                      have R3 := Lib.hid (show IntKind.i64.wrap ((m : Int) + 1) = (m : Int) + 1 from IntWalk.i64_in _ (by omega))
                      have R3' := Lib.hid (show wrap64 ((m : Int) + 1) = (m : Int) + 1 by unfold wrap64; omega)
                      have r1 := R1.out
                      have r1' := R1'.out
                      have r3 := R3.out
                      have r3' := R3'.out
                      go_upto_region 22 with fail
                      clear c0 c1 r1 r1' hlez r3 r3'
                      obtain ⟨W0, na, ns, hW0, hbw0, hx0, hnx, hnab⟩ : ∃ (W0 : World) (na ns : Nat), wr.alloc (.cells #[.int .i64 0, .int .i64 0] 54) = W0 ∧ Below wr.heap.size wr W0 ∧ Bx W0 wr.heap.size 54 #[.int .i64 (na : Int), .int .i64 (ns : Int)] ∧ (if q ≤ cp then ((0 : Int), (0 : Int)) else room.getD (m + 1) (0, 0)) = ((na : Int), (ns : Int)) ∧ (na ≤ 4194304 ∧ ns ≤ 4194304) := ⟨_, 0, 0, rfl, below_new _ _, Bx.new _ _ _, HNX.out, by decide, by decide⟩
                      rw [hW0]
                      have HBW0 := Lib.hid hbw0
                      have HX0 := Lib.hid hx0
                      have HTKN := Lib.hid (show (layL S room).take (m + 1) = (layL S room).take m ++ [((a : Int), blockL ((restAt S room m).take pn) ((na : Int), (ns : Int)) sx)] by rw [HTKN0.out, hnx])
                      have HNA := Lib.hid hnab
                      have q0 : IntKind.u64.wrap (pn : Int) = (pn : Int) := by have h1 := HPC.out; have h2 := HCS.out; have h3 := HSX.out; simp [IntKind.wrap, IntKind.bits, IntKind.signed]; omega
                      have q1 : IntKind.u64.wrap (na : Int) = (na : Int) := by have := HNA.out.1; simp [IntKind.wrap, IntKind.bits, IntKind.signed]; omega
                      have q2 : IntKind.u64.wrap (ns : Int) = (ns : Int) := by have := HNA.out.2; simp [IntKind.wrap, IntKind.bits, IntKind.signed]; omega
                      have HD1 := Lib.hid (digits_any true 4 pn W0 (by omega) (by have h1 := HPC.out; have h2 := HCS.out; have h3 := HSX.out; omega))
                      have HD2 := Lib.hid (fun (W : World) => digits_any true 4 na W (by omega) (by have := HNA.out.1; omega))
                      have HD3 := Lib.hid (fun (W : World) => digits_any true 4 ns W (by omega) (by have := HNA.out.2; omega))
                      clear hW0 hbw0 hx0 hnx hnab
                      go_wp2_with (go_at_call 26; refine HD1.out.mono ?_; rintro _ w7 ⟨V7, rfl, hrow7, hb7⟩; refine Hid.out ?_)
                      have HR7 := Lib.hid hrow7
                      have HB7 := Lib.hid hb7
                      have n0 : w7.cell? ⟨wr.heap.size, 0, none⟩ = some (.int .i64 na) := (HX0.out.later hb7 HX0.out.lt).cell 0
                      clear hrow7 hb7 q0 HD1
                      refine go_on ?_
                      go_wp2_with (go_at_call 26; refine (HD2.out w7).mono ?_; rintro _ w8 ⟨V8, rfl, hrow8, hb8⟩; refine Hid.out ?_)
                      have HR8 := Lib.hid (HR7.out.below hb8)
                      have HB8 := Lib.hid (below_more HB7.out hb8)
                      obtain ⟨A8, c8, rfl, hby8⟩ := hrow8.byt
                      have hd4 := digs_len 4 true na
                      rw [hd4] at hby8
                      have HY8 := Lib.hid hby8
                      have HL1 := Lib.hid (show (digs 4 true pn).length + 4 ≤ 140737488355328 by rw [digs_len]; omega)
                      clear hrow8 hb8 hby8 HD2 n0 q1
                      rw [hd4]
                      clear hd4
                      refine go_on ?_
                      go_wp2_with (at_builtin; refine wp_rowb rfl (.tmp 78) (.tmp 82) rfl W0.heap.size 4 c8 _ (digs 4 true pn) (digs 4 true na) A8 _ rfl rfl HR8.out HY8.out HL1.out HB8.out.size ?_; intro V9 w9 hrow9 hb9; refine Hid.out ?_)
                      have HR9 := Lib.hid hrow9
                      have HB9 := Lib.hid (HB8.out.trans hb9)
                      have n1 : w9.cell? ⟨wr.heap.size, 1, none⟩ = some (.int .i64 ns) := (HX0.out.later HB9.out HX0.out.lt).cell 1
                      clear hrow9 hb9
                      refine go_on ?_
                      go_wp2_with (go_at_call 26; refine (HD3.out w9).mono ?_; rintro _ w10 ⟨V10, rfl, hrow10, hb10⟩; refine Hid.out ?_)
                      have HR10 := Lib.hid (HR9.out.below hb10)
                      have HB10 := Lib.hid (below_more HB9.out hb10)
                      obtain ⟨A10, c10, rfl, hby10⟩ := hrow10.byt
                      have hd4 := digs_len 4 true ns
                      rw [hd4] at hby10
                      have HY10 := Lib.hid hby10
                      have HL2 := Lib.hid (show (digs 4 true pn ++ digs 4 true na).length + 4 ≤ 140737488355328 by rw [List.length_append, digs_len, digs_len]; omega)
                      clear hrow10 hb10 hby10 HD3 n1 q2
                      rw [hd4]
                      clear hd4
                      refine go_on ?_
                      go_wp2_with (at_builtin; refine wp_rowb rfl (.tmp 84) (.tmp 88) rfl W0.heap.size 4 c10 _ (digs 4 true pn ++ digs 4 true na) (digs 4 true ns) A10 _ rfl rfl HR10.out HY10.out HL2.out HB10.out.size ?_; intro V11 w11 hrow11 hb11; refine Hid.out ?_)
                      have HR11 := Lib.hid hrow11
                      have HB11 := Lib.hid (HB10.out.trans hb11)
                      have HY11 := Lib.hid (HPART.out.later (HOW.out.be.trans ((HBW0.out.trans (HB11.out.mono HBW0.out.size)).mono HOW.out.be.size)))
                      have HL3 := Lib.hid (show (digs 4 true pn ++ digs 4 true na ++ digs 4 true ns).length + pn ≤ 140737488355328 by have h1 := HPC.out; have h2 := HCS.out; have h3 := HSX.out; rw [List.length_append, List.length_append, digs_len, digs_len, digs_len]; omega)
                      have hzc := HZC.out
                      have hzq := HZQ.out
                      clear hrow11 hb11
                      refine go_on ?_
                      go_wp2_with (at_builtin; refine wp_rowb rfl (.tmp 90) (.tmp 93) rfl W0.heap.size pn cq _ (digs 4 true pn ++ digs 4 true na ++ digs 4 true ns) ((restAt S room m).take pn) (some ⟨bq, oq, none⟩) _ rfl rfl HR11.out HY11.out HL3.out HB11.out.size ?_; intro V12 w12 hrow12 hb12; refine Hid.out ?_)
                      have HB12 := Lib.hid (HB11.out.trans hb12)
                      obtain ⟨pre, hpre⟩ : ∃ pre, digs 4 true pn ++ digs 4 true na ++ digs 4 true ns ++ (restAt S room m).take pn = pre := ⟨_, rfl⟩
                      rw [hpre] at hrow12
                      have HR12 := Lib.hid hrow12
                      have HPRE := Lib.hid hpre
                      have HPL := Lib.hid (show pre.length = 12 + pn by rw [← hpre, List.length_append, List.length_append, List.length_append, digs_len, digs_len, digs_len, HPART.out.len])
                      have R4 := Lib.hid (show IntKind.i64.wrap ((sx : Int) - 4) = (sx : Int) - 4 from IntWalk.i64_in _ (by have := HSX.out; have := HCS.out; omega))
                      have R4' := Lib.hid (show wrap64 ((sx : Int) - 4) = (sx : Int) - 4 by have := HSX.out; have := HCS.out; unfold wrap64; omega)
                      clear hrow12 hb12 hpre
                      refine go_on ?_
                      go_wp2
                      generalize wr = wo at *
                      go_loopw [13] (fun v wr => ∃ (t : Nat), t + pn + 16 ≤ sx ∧ RowB wr W0.heap.size v (pre ++ List.replicate t 0) ∧ Below W0.heap.size W0 wr) (fun v _ => sx - lenV v)
                      case atStart => exact ⟨0, by have h1 := HPC.out; have h2 := HCS.out; omega, by simpa using HR12.out, HB12.out⟩
                      case round =>
                        obtain ⟨t, ht, hrow, hbe⟩ := hrel
                        have HBZ := Lib.hid hbe
                        have HBR := Lib.hid (HOW.out.be.trans ((HBW0.out.trans (hbe.mono HBW0.out.size)).mono HOW.out.be.size))
                        have HBX := Lib.hid (below_more HB6.out HBR.out)
                        obtain ⟨At, ct, hV, hct, hbyt⟩ := row_cap8 hrow
                        have hlen : (pre ++ List.replicate t 0).length = 12 + pn + t := by rw [List.length_append, HPL.out, List.length_replicate]
                        rw [hlen] at hV hct hbyt
                        subst hV
                        have HRZ := Lib.hid hrow
                        have HLZ := Lib.hid hlen
                        have HYZ := Lib.hid hbyt
                        have c0 := (HBX.out.cell (p := ⟨b, o + m * 2, none⟩) hbw).trans HC0.out
                        have c1 := (HBX.out.cell (p := ⟨b, o + m * 2 + 1, none⟩) hbw).trans HC1.out
                        clear hrow hbe hct hbyt hlen
                        have r4 := R4.out
                        have r4' := R4'.out
                        by_cases htl : t + pn + 16 < sx
                        · have hlt4 : ((12 + pn + t : Nat) : Int) < (sx : Int) - 4 := by omega
                          have HZL := Lib.hid (show RowB (wr.alloc (.cells #[.int .u8 0] 5)) wr.heap.size (.slice (some ⟨wr.heap.size, 0, none⟩) 1 1) [0] from RowB.lit wr [0] (by simp) (by simp) (Nat.le_refl _))
                          have HRZ2 := Lib.hid (HRZ.out.below (below_new wr (.cells #[.int .u8 0] 5)))
                          have HBZ2 := Lib.hid (below_more HBZ.out (below_new wr (.cells #[.int .u8 0] 5)))
                          have HYL := Lib.hid (Byt.of_own HZL.out.own HZL.out.lt)
                          have HLL := Lib.hid (show (pre ++ List.replicate t 0).length + 1 ≤ 140737488355328 by have := HSX.out; rw [HLZ.out]; omega)
                          have HRE := Lib.hid (show pre ++ List.replicate t 0 ++ [0] = pre ++ List.replicate (t + 1) 0 by rw [List.append_assoc, List.replicate_succ'])
                          clear c0
                          go_wp2_with (at_builtin; refine wp_rowb rfl (.tmp 104) (.tmp 105) rfl W0.heap.size 1 1 _ (pre ++ List.replicate t 0) [0] (some ⟨wr.heap.size, 0, none⟩) _ rfl rfl HRZ2.out HYL.out HLL.out HBZ2.out.size ?_; intro V14 w14 hrow14 hb14; refine Hid.out ?_)
                          have HR14 := Lib.hid (show RowB w14 W0.heap.size V14 (pre ++ List.replicate (t + 1) 0) by rw [← HRE.out]; exact hrow14)
                          have HB14 := Lib.hid (HBZ2.out.trans hb14)
                          obtain ⟨A14, c14, hV14, -, -⟩ := row_cap8 HR14.out
                          rw [List.length_append, HPL.out, List.length_replicate] at hV14
                          subst hV14
                          clear hrow14 hb14 c1
                          refine go_on ?_
                          go_wp2
                          go_roundw
                          (case rel => exact ⟨t + 1, by omega, HR14.out, HB14.out⟩)
                          (case measure => simp [lenV]; omega)
                        · have htq : t = sx - 16 - pn := by omega
                          have hlt4 : ¬ ((12 + pn + t : Nat) : Int) < (sx : Int) - 4 := by omega
                          have HTQ := Lib.hid htq
                          have HSE := Lib.hid (rseal_any At (12 + pn + t) ct (pre ++ List.replicate t 0) wr.drew (by have := HSX.out; omega) HYZ.out.drew)
                          have HBL := Lib.hid (show sealL (pre ++ List.replicate t 0) = blockL ((restAt S room m).take pn) ((na : Int), (ns : Int)) sx by
                            unfold blockL
                            rw [HPART.out.len, Int.toNat_natCast, Int.toNat_natCast, HPRE.out, HTQ.out])
                          have HBLEN := Lib.hid (show (blockL ((restAt S room m).take pn) ((na : Int), (ns : Int)) sx).length = sx from block_len (by rw [HPART.out.len]; have h1 := HPC.out; have h2 := HCS.out; omega))
                          have HQM := Lib.hid (show sx ≤ 140737488355328 by have := HSX.out; omega)
                          have HOZ := Lib.hid ((HOW.out.below HBW0.out).below (HBZ.out))
                          rw [HBL.out] at HSE
                          generalize blockL ((restAt S room m).take pn) ((na : Int), (ns : Int)) sx = bl at *
                          have HLO := Lib.hid (Nat.le_trans HOW.out.be.size (Nat.le_trans HBW0.out.size HBZ.out.size))
                          have HLW := Lib.hid (Nat.le_trans HBW0.out.size HBZ.out.size)
                          go_upto_region 28 with fail
                          clear c1 r4 r4' hlt4 htl htq
                          go_region_law (first
                            | (have hgate := HSE.out; clear hgate; go_simp; go_at_call 33; refine HSE.out.mono ?_; rintro _ w8 ⟨V8, rfl, hrow8, hb8⟩; have hb8 : Below wr.heap.size wr w8 := below_then (Below.refl _ wr).drew (Nat.le_refl _) hb8; obtain ⟨g8, c8, hV8, hg8, hg8b⟩ := hrow8.own.form (by rw [HBLEN.out]; have := HCS.out; omega); rw [HBLEN.out] at hV8; subst hV8; have c0 := (hb8.cell (p := ⟨b, o + m * 2, none⟩) (Nat.lt_of_lt_of_le hbw HBX.out.size)).trans c0; have HR8 := Lib.hid (show RowB w8 w6.heap.size (.slice (some ⟨g8, 0, none⟩) sx c8) bl from hrow8.up HLO.out); have HC8 := Lib.hid (by rcases hrow8.own.2 with ⟨hv, _⟩ | ⟨g9, cap9, cur9, hv, _, _, hc9, _⟩; (cases hv); (injection hv with e1 e2 e3; rw [HBLEN.out] at hc9; rw [← e3] at hc9; exact hc9) : sx ≤ c8); have HO8 := Lib.hid (HOZ.out.below hb8); have HG8 := Lib.hid (show wo.heap.size ≤ g8 from Nat.le_trans HLW.out hg8); have HOE := Lib.hid (HO8.out.below (below_new w8 (.cells #[.int .i64 a, .slice (some ⟨g8, 0, none⟩) sx c8] 73))); have HRE := Lib.hid (HR8.out.below (below_new w8 (.cells #[.int .i64 a, .slice (some ⟨g8, 0, none⟩) sx c8] 73))); have HNE8 := Lib.hid (show (Value.slice Ao m co).ownBlock ≠ some g8 from fun e2 => by obtain ⟨vs, gs, hown, _⟩ := HOW.out.ex; exact Nat.lt_irrefl _ (Nat.lt_of_lt_of_le (hown.lt _ e2).2 HG8.out)); clear hrow8 hb8 HSE)
                            | (have hgate := HOE.out; clear hgate; refine step_pushB Tryd.underlying38 rblock_info (by rfl) (.tmp 107) (.tmp 116) (by rfl) w6 _ ((layL S room).take m) ((a : Int), bl) g8 sx c8 w8.heap.size wo.heap.size (by simp [Act.eval, Act.put]) (by simp [Act.eval, Act.put]) HOE.out HBLEN.out (Bx.new w8 _ _) HC8.out HQM.out HRE.out HG8.out HNE8.out HJ32.out ?_; intro V9 w9 how9; rw [← HTKN.out] at how9; obtain ⟨A9, c9, hV9⟩ := how9.form; rw [HTKL.out] at hV9; subst hV9; have HO9 := Lib.hid how9; clear how9))
                          all_goals
                            clear c0
                            go_wp2
                            go_roundw
                            (case rel => first | exact ⟨m + 1, AD, q - pn, cq - pn, rfl, by go_num, hjr, HNEWQ.out, HO9.out⟩ | exact ⟨m + 1, AD, q - pn, cq - pn, ⟨rfl, rfl, rfl⟩, by go_num, by omega, HNEWQ.out, HO9.out⟩)
                            (case measure => simp [intOf]; omega)
                · obtain rfl : q = 0 := by omega
                  have HEND := Lib.hid (show (layL S room).take m = layL S room from List.take_of_length_le (layL_end room S m (List.eq_nil_of_length_eq_zero HQ.out.len)))
                  have HSZ := Lib.hid (show S.length ≤ sumCap room by have h1 := rest_len S room m; rw [HQ.out.len] at h1; have := sumCap_le (room := room) m; omega)
                  have HJL := Lib.hid HQ.out.tk
                  have HIS0 := Lib.hid (HIS.out 0 (layL S room) (.inr ⟨HSZ.out, rfl, rfl⟩))
                  have HOF := Lib.hid (show Ob 73 w (.slice Ao m co) (layL S room) wr.heap.size wr by rw [← HEND.out]; exact HOW.out.base HB6.out)
                  go_wp2
                  go_ret2
                  first | exact ⟨Ao, co, m, 0, layL S room, rfl, HIS0.out, by rw [← HEND.out]; exact HJL.out, HOF.out⟩ | exact ⟨Ao, co, m, 0, rfl, layL S room, HIS0.out, by rw [← HEND.out]; exact HJL.out, HOF.out⟩
              · obtain rfl : m = j := by omega
                by_cases hq0 : 0 < q
                · have hqz : (0 : Int) < (q : Int) := by omega
                  have HSZ := Lib.hid (show sumCap room < S.length by
                    have h1 := rest_len S room m
                    rw [HQ.out.len, List.take_of_length_le (by omega)] at h1
                    omega)
                  have HL := Lib.hid (HIS.out 7 [] (.inl ⟨HSZ.out, rfl, rfl⟩))
                  have HBF := Lib.hid (below_more HB6.out HOW.out.be)
                  go_wp2
                  go_ret2
                  first | exact ⟨none, 0, 0, 7, [], rfl, HL.out, rfl, ob_nil HBF.out⟩ | exact ⟨none, 0, 0, 7, rfl, [], HL.out, rfl, ob_nil HBF.out⟩
                · obtain rfl : q = 0 := by omega
                  have HEND := Lib.hid (show (layL S room).take m = layL S room from List.take_of_length_le (layL_end room S m (List.eq_nil_of_length_eq_zero HQ.out.len)))
                  have HSZ := Lib.hid (show S.length ≤ sumCap room by have h1 := rest_len S room m; rw [HQ.out.len] at h1; have := sumCap_le (room := room) m; omega)
                  have HJL := Lib.hid HQ.out.tk
                  have HIS0 := Lib.hid (HIS.out 0 (layL S room) (.inr ⟨HSZ.out, rfl, rfl⟩))
                  have HOF := Lib.hid (show Ob 73 w (.slice Ao m co) (layL S room) wr.heap.size wr by rw [← HEND.out]; exact HOW.out.base HB6.out)
                  go_wp2
                  go_ret2
                  first | exact ⟨Ao, co, m, 0, layL S room, rfl, HIS0.out, by rw [← HEND.out]; exact HJL.out, HOF.out⟩ | exact ⟨Ao, co, m, 0, rfl, layL S room, HIS0.out, by rw [← HEND.out]; exact HJL.out, HOF.out⟩
          · have HL := Lib.hid (show IsLay l room 2 [] from .inr ⟨HMY.out, .inr ⟨hrb, .inl ⟨fun h => absurd (HRM.out.mpr h.2) (by decide), rfl, rfl⟩⟩⟩)
            go_wp2
            go_ret2
            first | exact ⟨none, 0, 0, 2, [], rfl, HL.out, rfl, ob_nil HB5.out⟩ | exact ⟨none, 0, 0, 2, rfl, [], HL.out, rfl, ob_nil HB5.out⟩
  · have HL := Lib.hid (show IsLay l room z [] from .inl ⟨z, HMY.out, hz, rfl, rfl⟩)
    have hzb : (z != 0) = true := by simpa using hz
    have hzb2 : (z == 0) = false := by simpa using hz
    refine go_on ?_
    go_wp2
    go_ret2
    first | exact ⟨none, 0, 0, z, [], rfl, HL.out, rfl, ob_nil HB1.out⟩ | exact ⟨none, 0, 0, z, rfl, [], HL.out, rfl, ob_nil HB1.out⟩
end Go.Proofs.YtcgapkepbnbabaaDoor.X5
