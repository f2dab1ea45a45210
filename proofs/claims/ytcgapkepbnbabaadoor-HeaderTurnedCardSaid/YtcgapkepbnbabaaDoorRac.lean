/- The law HeaderBack. -/
import Derived.Test.YtcgapkepbnbabaaDoorRab
import Derived.Test.YtcgapkepbnbabaaDoorQl
namespace Go.Proofs.YtcgapkepbnbabaaDoor.X5
set_option linter.unusedVariables false
set_option linter.unusedSimpArgs false
open Go.RowKit Wd Ty9

theorem laid_of {l : List Mg} {room : List Xt} {out : List Mg} (h : IsLay l room 0 out) : IsMay l 0 ∧ (∀ x ∈ room, wideP x) ∧ noMeet room ∧ sizeM l ≤ sumCap room ∧ out = layL (streamM l) room := by
  rcases h with ⟨z, _, h2, h3, _⟩ | ⟨h1, ⟨_, h, _⟩ | ⟨_, ⟨_, h, _⟩ | ⟨⟨h2, h3⟩, ⟨_, h, _⟩ | ⟨h4, _, h5⟩⟩⟩⟩
  · exact absurd h3.symm h2
  · exact absurd h (by decide)
  · exact absurd h (by decide)
  · exact absurd h (by decide)
  · exact ⟨h1, h2, h3, h4, h5⟩
theorem laid_no {l : List Mg} {room : List Xt} {out : List Mg} {z : Int} (h : IsLay l room z out) (hz : z ≠ 0) : out = [] := by
  rcases h with ⟨_, _, _, _, h⟩ | ⟨_, ⟨_, _, h⟩ | ⟨_, ⟨_, _, h⟩ | ⟨_, ⟨_, _, h⟩ | ⟨_, h, _⟩⟩⟩⟩
  · exact h
  · exact h
  · exact h
  · exact h
  · exact absurd h hz
theorem laid_at {l : List Mg} {room : List Xt} {out : List Mg} (h : IsLay l room 0 out) {i : Nat} {y : Mg} (hy : out[i]? = some y) : ∃ x, room[i]? = some x ∧ y.1 = x.1 ∧ (y.2.length : Int) = x.2 ∧ wideP x := by
  obtain ⟨h1, h2, h3, h4, rfl⟩ := laid_of h
  obtain ⟨_, f, _⟩ := layL_facts room (streamM l) h2 (by rw [stream_len]; exact h4)
  obtain ⟨x, e1, e2, e3, _⟩ := f i y hy
  exact ⟨x, e1, e2, e3, h2 x (List.mem_of_getElem? e1)⟩
theorem laid_some {l : List Mg} {room : List Xt} {out : List Mg} (h : IsLay l room 0 out) : 0 < out.length := by
  obtain ⟨h1, h2, h3, h4, rfl⟩ := laid_of h
  have hne : restAt (streamM l) room 0 ≠ [] := by
    rw [restAt_zero]; intro e; have := congrArg List.length e; simp [streamM, digs_len] at this
  have hr := lay_room (by rw [stream_len]; exact h4) hne
  have := layL_get room (streamM l) 0 room[0] (List.getElem?_eq_getElem hr) hne
  exact (List.getElem?_eq_some_iff.mp this).1
theorem laid_disj {l : List Mg} {room : List Xt} {out : List Mg} (h : IsLay l room 0 out) : Disj out := by
  unfold Disj
  rw [List.pairwise_iff_getElem]
  intro i j hi hj hij
  obtain ⟨x, e1, e2, e3, e4⟩ := laid_at h (List.getElem?_eq_getElem hi)
  obtain ⟨y, f1, f2, f3, f4⟩ := laid_at h (List.getElem?_eq_getElem hj)
  obtain ⟨g1, g2⟩ := List.getElem?_eq_some_iff.mp e1
  obtain ⟨k1, k2⟩ := List.getElem?_eq_some_iff.mp f1
  have hn := List.pairwise_iff_getElem.mp (laid_of h).2.2.1 i j g1 k1 hij
  rw [g2, k2] at hn
  have hc : ¬ com x y := fun hc => hn ⟨((wideP_iff x).mp e4).1, ((wideP_iff y).mp f4).1, hc⟩
  unfold com at hc
  unfold wideP at e4 f4
  rw [e2, f2]
  omega
theorem ms_lt {w : World} {B n : Nat} {A : Option Addr} {l : List Mg} (h : Ms w B A n l) : ∀ y ∈ l, ∀ x ∈ y.2, x < 256 := by
  intro y hy
  obtain ⟨i, hi, rfl⟩ := List.getElem_of_mem hy
  obtain ⟨b, o, x, Ai, ci, _, _, hx, _, _, _, _, hb⟩ := h.get (i := i) (by rw [← h.len]; exact hi)
  rw [List.getElem?_eq_getElem hi] at hx
  obtain rfl := Option.some.inj hx
  exact hb.lt

set_option maxHeartbeats 8000000 in
set_option maxRecDepth 100000 in
theorem back8_walk (w : World) (hG : Gs w) (A : Option Addr) (n C : Nat) (l : List Mg) (hn : (n + 1) * 32 ≤ 140737488355328) (hA : A = none → C = 0) (h : Ms w w.heap.size A n l)
    (Ar : Option Addr) (nr Cr : Nat) (room : List Xt) (hnr : (nr + 1) * 16 ≤ 140737488355328) (hAr : Ar = none → Cr = 0) (hr : Ex w 0 w.heap.size Ar nr room) :
    Calls Tryd.prog 7 #[.slice A n C, .slice Ar nr Cr] w fun e w' => e = .returned (.bool true) ∧ Below w.heap.size w w' := by
  have HG := Lib.hid hG
  have HLV := Lib.hid lives8_any
  have HM := Lib.hid h
  have HX := Lib.hid hr
  have HL := Lib.hid h.len
  have HRL := Lib.hid hr.len
  have HH := Lib.hid (heavy_any A n C l Ar nr Cr 0 w.heap.size room w (by omega) (by omega) h hr (Nat.le_refl _))
  have HN := Lib.hid hn
  have HNR := Lib.hid hnr
  clear h hG hA hAr hr hn hnr
  go_enter Tryd.func7, Tryd.ntmps7
  go_wp2_with (go_at_call 9; refine HH.out.mono ?_; rintro _ w1 ⟨⟨r, rfl⟩, hb⟩; refine Hid.out ?_)
  have HB1 := Lib.hid hb
  clear hb HH
  cases r
  case true =>
    have HLV1 := Lib.hid (HLV.out w1 (HG.out.later HB1.out (Nat.le_refl _)))
    refine go_on ?_
    go_wp2_with (go_at_call 10; refine HLV1.out.mono ?_; rintro _ w2 ⟨rfl, hb⟩; refine Hid.out ?_)
    have HB2 := Lib.hid (below_more HB1.out hb)
    clear hb
    refine go_on ?_
    go_wp2
    go_ret
    exact ⟨rfl, HB2.out⟩
  case false =>
    have HLY := Lib.hid (lay_own A n C l Ar nr Cr 0 w.heap.size room w1 (by have := HN.out; omega) (by have := HNR.out; omega) ((HM.out.later HB1.out).up HB1.out.size) (HX.out.later HB1.out (Nat.le_refl _)) HB1.out.size (HG.out.later HB1.out (Nat.le_refl _)))
    refine go_on ?_
    go_wp2_with (go_at_call 15; refine HLY.out.mono ?_; (first | rintro _ w2 ⟨A5, C5, k, z, out, rfl, hly, hlen, hob⟩ | rintro _ w2 ⟨A5, C5, k, z, rfl, out, hly, hlen, hob⟩); refine Hid.out ?_)
    have HIS := Lib.hid hly
    have HK := Lib.hid hlen
    have HOB := Lib.hid hob
    have HB2 := Lib.hid (below_more HB1.out hob.be)
    have HLV2 := Lib.hid (HLV.out w2 (HG.out.later HB2.out (Nat.le_refl _)))
    have HKB := Lib.hid (show k ≤ 8796093022208 by
      have h1 := lay_len hly
      have h2 := HNR.out
      rw [hlen, HRL.out] at h1
      omega)
    clear hly hlen hob HLY
    by_cases hz : z = 0
    · subst hz
      have HMS := Lib.hid (HOB.out.om.ms HK.out)
      have HSM := Lib.hid (small_any A5 k C5 out w2 (by have := HKB.out; omega) HMS.out)
      have HKP := Lib.hid (show 0 < k by have := laid_some HIS.out; rw [HK.out] at this; exact this)
      refine go_on ?_
      go_wp2_with (go_at_call 23; refine HSM.out.mono ?_; rintro _ w3 ⟨r, rfl, hsm, hb⟩; refine Hid.out ?_)
      have HSMR := hsm
      have HB32 := Lib.hid hb
      have HB3 := Lib.hid (below_more HB2.out hb)
      have HLV3 := Lib.hid (HLV.out w3 (HG.out.later HB3.out (Nat.le_refl _)))
      clear hsm hb HSM
      cases r
      case false =>
        have z1 : (0 : Int) < (k : Int) := by have := HKP.out; omega
        refine go_on ?_
        go_wp2_with (go_at_call 10; refine HLV3.out.mono ?_; rintro _ w4 ⟨rfl, hb⟩; refine Hid.out ?_)
        have HB4 := Lib.hid (below_more HB3.out hb)
        clear hb
        refine go_on ?_
        go_wp2
        go_ret
        exact ⟨rfl, HB4.out⟩
      case true =>
        have HSMP := Lib.hid (show smallP out by first | exact HSMR.out.mp rfl | exact HSMR.out.mp trivial | exact HSMR.out)
        obtain ⟨y0, hy0⟩ : ∃ y0, out[0]? = some y0 := ⟨_, List.getElem?_eq_getElem (by have h1 := HK.out; have h2 := HKP.out; omega)⟩
        obtain ⟨x0, hx0, e1, e2, e3⟩ := laid_at HIS.out hy0
        have HX0 := Lib.hid (And.intro hx0 (And.intro e1 (And.intro e2 e3)))
        obtain ⟨b, g, ci, rfl, hbw, -, -, -, c0, c1, -, -, -, -⟩ := (HOB.out.below HB32.out).open_ hy0
        simp only [Nat.zero_mul, Nat.zero_add] at c0 c1
        have HBW := Lib.hid hbw
        have HC0 := Lib.hid (And.intro c0 c1)
        have HMS3 := Lib.hid ((HMS.out.later HB32.out).up HB32.out.size)
        have HDJ := Lib.hid (laid_disj HIS.out)
        have hend : endM out ≤ 4194304 := end_bound (fun y hy => by
          obtain ⟨i, hi, rfl⟩ := List.getElem_of_mem hy
          obtain ⟨x, f1, f2, f3, f4⟩ := laid_at HIS.out (List.getElem?_eq_getElem hi)
          unfold wideP at f4
          omega)
        have hendp : 0 < endM out := by
          have h1 := end_le (List.mem_of_getElem? hy0)
          have h2 := (HSMP.out.2 y0 (List.mem_of_getElem? hy0)).2.2
          omega
        have HEND := Lib.hid hend
        have HFL := Lib.hid (fun (W : World) (hbe : Below w3.heap.size w3 W) => file_any (some ⟨b, 0, none⟩) k C5 out W (by have := HKB.out; omega) ((HMS3.out.later hbe).up hbe.size) (fun y hy => by
          obtain ⟨i, hi, rfl⟩ := List.getElem_of_mem hy
          obtain ⟨x, f1, f2, f3, f4⟩ := laid_at HIS.out (List.getElem?_eq_getElem hi)
          have h2 := (HSMP.out.2 _ (List.getElem_mem hi)).2.2
          unfold wideP at f4
          omega) hendp (file_lt (ms_lt HMS3.out)))
        have HHO := Lib.hid (file_holds (fun y hy => (HSMP.out.2 y hy).1) HDJ.out)
        have HFN := Lib.hid (show (fileL out).length = endM out by
          unfold fileL
          rw [fold_len _ _ (fun y hy => by rw [List.length_replicate]; exact end_le hy), List.length_replicate])
        have HLOAD := Lib.hid (show IsLoad8 (fileL out) (y0.1, (y0.2.length : Int)) 0 l (room.take out.length) by
          obtain ⟨h1, h2, h3, h4, h5⟩ := laid_of HIS.out
          have hh := HHO.out
          have hx : (y0.1, (y0.2.length : Int)) = x0 := by rw [HX0.out.2.1, HX0.out.2.2.1]
          rw [hx]
          have h6 := load_laid h1 h2 h3 h4 HX0.out.1 (bs := fileL out) (by rw [← h5]; exact hh)
          rwa [← h5] at h6)
        obtain ⟨fb, hfb⟩ : ∃ fb, fileL out = fb := ⟨_, rfl⟩
        obtain ⟨fn, hfn⟩ : ∃ fn, fb.length = fn := ⟨_, rfl⟩
        have HFB := Lib.hid (show fn ≤ 4194304 by have h1 := HFN.out; have h2 := HEND.out; rw [hfb, hfn] at h1; omega)
        rw [hfb] at HLOAD HFL
        rw [hfn] at HFL
        obtain ⟨ya, yb⟩ := y0
        obtain ⟨yl, hyl⟩ : ∃ yl, yb.length = yl := ⟨_, rfl⟩
        simp only at c0 c1 HLOAD
        rw [hyl] at c1 HLOAD
        clear hy0 hx0 e1 e2 e3 hend hendp hbw HHO HFN hfb hfn hyl HX0 HC0
        have hk0 : (0 : Int) < (k : Int) := by have := HKP.out; omega
        have hk1 : 0 < k := HKP.out
        have hk2 : decide (0 < k) = true := by simpa using HKP.out
        refine go_on ?_
        go_upto_region 8 with fail
        go_region_held3 (fun w' => w'.cell? ⟨b, 0, none⟩ = some (.int .i64 ya) ∧ w'.cell? ⟨b, 1, none⟩ = some (.slice (some ⟨g, 0, none⟩) yl ci))
          (first
            | (with_reducible exact ⟨d0, d1⟩)
            | (with_reducible exact ⟨a0, a1⟩)
            | (with_reducible exact ⟨c0, c1⟩)
            | go_keep)
          (first
            | (go_at_call 24; refine (HFL.out _ ((Below.refl _ _).drew)).mono ?_; rintro _ w4 ⟨gf, rfl, hby, hb⟩; have HB43 := Lib.hid (show Below w3.heap.size w3 w4 from below_more ((Below.refl _ _).drew) hb); have a0 := (HB43.out.cell (p := ⟨b, 0, none⟩) HBW.out).trans c0; have a1 := (HB43.out.cell (p := ⟨b, 1, none⟩) HBW.out).trans c1; have HLD := Lib.hid (load8_all (some ⟨gf, 0, none⟩) fn fn ya yl fb w4 HFB.out (Nat.le_refl _) hby (HG.out.later (below_more HB3.out HB43.out) (Nat.le_refl _))); clear hby hb)
            | (go_at_call 21; refine HLD.out.mono ?_; (first | rintro _ w5 ⟨Vl, Vu, z, l2, used, rfl, his, hon, how, hll⟩ | rintro _ w5 ⟨Vl, Vu, z, rfl, l2, used, his, hon, how, hll⟩ | rintro _ w5 ⟨Vl, Vu, z, l2, rfl, used, his, hon, how, hll⟩); have HIL := Lib.hid his; have HON := Lib.hid hon; have HUS := Lib.hid how; have HB53 := Lib.hid (below_more HB43.out hon.be); have d0 := (HB53.out.cell (p := ⟨b, 0, none⟩) HBW.out).trans c0; have d1 := (HB53.out.cell (p := ⟨b, 1, none⟩) HBW.out).trans c1; clear his hon how hll))
        obtain ⟨A6, C6, hV⟩ := HON.out.form
        subst hV
        obtain ⟨A7, C7, hV, -, hex, -⟩ := own_ex HUS.out.own
        subst hV
        obtain ⟨rfl, rfl, rfl⟩ := HIL.out.uniq HLOAD.out
        have hul : (room.take out.length).length = k := by
          rw [List.length_take, HK.out]
          have h1 := lay_len HIS.out
          rw [HK.out] at h1
          omega
        rw [hul] at hex
        rw [hul, HL.out]
        have hon2 := HON.out
        rw [HL.out] at hon2
        have HON2 := Lib.hid hon2
        have HEX := Lib.hid hex
        have HB5 := Lib.hid (below_more HB3.out HB53.out)
        have HM5 := Lib.hid ((HM.out.later HB5.out).up HB5.out.size)
        have HP5 := Lib.hid (plain8_any A n C l2 w5 (by have := HN.out; omega) HM5.out)
        have zk : ((k : Int) != (k : Int)) = false := by simp
        have zk2 : ((k : Int) == (k : Int)) = true := by simp
        clear hex hul hon2 c0 c1 d0 d1 hk0 hk1 hk2
        go_wp2_with (go_at_call 13; refine HP5.out.mono ?_; rintro _ w6 ⟨V6, rfl, how6⟩; refine Hid.out ?_)
        obtain ⟨A8, C8, hV⟩ := how6.form
        rw [HL.out] at hV
        subst hV
        have HB65 := Lib.hid how6.be
        have HSM := Lib.hid (sameMsgs_yes A6 A8 n C6 C8 l2 w6 (by have := HN.out; omega) ((HON2.out.below how6.be).om.ms HL.out) (how6.ms HL.out))
        clear how6 HP5
        refine go_on ?_
        go_wp2_with (go_at_call 19; refine HSM.out.mono ?_; rintro _ w7 ⟨rfl, hb⟩; refine Hid.out ?_)
        have HB75 := Lib.hid (below_more HB65.out hb)
        have HB73 := Lib.hid (below_more HB53.out HB75.out)
        have HB7 := Lib.hid (below_more HB3.out HB73.out)
        have HEX7 := Lib.hid (HEX.out.later HB75.out (Nat.le_refl _))
        have HMS7 := Lib.hid ((HMS3.out.later HB73.out).up HB73.out.size)
        have HLV7 := Lib.hid (fun (W : World) (hbe : Below w7.heap.size w7 W) => HLV.out W (HG.out.later (below_more HB7.out hbe) (Nat.le_refl _)))
        clear hb HSM
        refine go_on ?_
        go_wp2
        go_loopw [10] (fun i wr => ∃ (q : Nat), i = .int .i64 q ∧ q ≤ k ∧ Below w7.heap.size w7 wr) (fun i _ => k - (intOf i).toNat)
        case atStart => exact ⟨0, rfl, Nat.zero_le _, Below.refl _ _⟩
        case round =>
          obtain ⟨q, rfl, hq, hbe⟩ := hrel
          have HBE := Lib.hid hbe
          have hkb := HKB.out
          clear hbe
          by_cases hlt : q < k
          · have hltz : (q : Int) < (k : Int) := by omega
            obtain ⟨b', o', y, Ai, cj, e, hb1, hy, p0, p1, -, -, -⟩ := HMS7.out.get hlt
            cases e
            obtain ⟨x, hx, f1, f2, f3⟩ := laid_at HIS.out hy
            replace p0 := (HBE.out.cell (p := ⟨b, 0 + q * 2, none⟩) hb1).trans p0
            replace p1 := (HBE.out.cell (p := ⟨b, 0 + q * 2 + 1, none⟩) hb1).trans p1
            rw [Nat.zero_add] at p0 p1
            obtain ⟨bu, ou, hAu, -, hbu, -⟩ := HEX7.out.at_ (by omega)
            have hqt : q < (room.take out.length).length := by have := HEX7.out.len; omega
            obtain ⟨q0, q1⟩ := HEX7.out.get hAu (i := q) hqt
            have hge : (room.take out.length)[q]'hqt = x := by
              rw [List.getElem_take]
              exact (List.getElem?_eq_some_iff.mp hx).2
            rw [hge] at q0 q1
            subst hAu
            have hbu7 : bu < w7.heap.size := Nat.lt_of_lt_of_le hbu HB75.out.size
            replace q0 := (HBE.out.cell (p := ⟨bu, ou + q * 2, none⟩) hbu7).trans q0
            replace q1 := (HBE.out.cell (p := ⟨bu, ou + q * 2 + 1, none⟩) hbu7).trans q1
            obtain ⟨xa, xb⟩ := x
            obtain ⟨ya2, yb2⟩ := y
            simp only at p0 p1 q0 q1 f1 f2
            obtain ⟨yl2, hyl2⟩ : ∃ yl2, yb2.length = yl2 := ⟨_, rfl⟩
            rw [hyl2] at p1 f2
            subst f1
            rw [← f2] at q1
            have g1 : (ya2 != ya2) = false := by simp
            have g2 : ((yl2 : Int) != (yl2 : Int)) = false := by simp
            have g3 : (ya2 == ya2) = true := by simp
            have g4 : ((yl2 : Int) == (yl2 : Int)) = true := by simp
            clear f2 f3 hx hy hyl2 hge hqt
            go_upto_region 14 with fail
            go_quiet (fail)
            go_wp2
            go_roundw
            case rel => exact ⟨q + 1, by go_num, by omega, below_drewN HBE.out _⟩
            case measure => simp [intOf]; omega
          · obtain rfl : q = k := by omega
            have HLV8 := Lib.hid (HLV7.out wr HBE.out)
            clear hlt
            go_wp2_with (go_at_call 10; refine HLV8.out.mono ?_; rintro _ w8 ⟨rfl, hb⟩; refine Hid.out ?_)
            have HB8 := Lib.hid (below_more (below_more HB7.out HBE.out) hb)
            clear hb
            refine go_on ?_
            go_wp2
            go_ret
            exact ⟨rfl, HB8.out⟩
    · have HOUT := Lib.hid (laid_no HIS.out hz)
      obtain rfl : k = 0 := by rw [← HK.out, HOUT.out]; rfl
      have z1 : (z != 0) = true := by simpa using hz
      have z2 : (z == 0) = false := by simpa using hz
      clear hz
      refine go_on ?_
      go_wp2_with (go_at_call 10; refine HLV2.out.mono ?_; rintro _ w3 ⟨rfl, hb⟩; refine Hid.out ?_)
      have HB3 := Lib.hid (below_more HB2.out hb)
      clear hb
      refine go_on ?_
      go_wp2
      go_ret
      exact ⟨rfl, HB3.out⟩
end Go.Proofs.YtcgapkepbnbabaaDoor.X5
