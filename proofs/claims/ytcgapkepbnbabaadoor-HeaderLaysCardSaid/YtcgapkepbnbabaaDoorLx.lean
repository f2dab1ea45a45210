/- The law HeaderLays, the walk. -/
import Derived.Test.YtcgapkepbnbabaaDoorLu
import Derived.Test.YtcgapkepbnbabaaDoorLo
namespace Go.Proofs.YtcgapkepbnbabaaDoor.X5
set_option linter.unusedVariables false
set_option linter.unusedSimpArgs false
open Go.RowKit Wd Ty9

theorem msg_info : (Tryd.prog.info? 56).map (fun i => (i.zero, i.size, i.bytes)) = some (some (.agg #[.int .i64 0, .slice none 0 0]), 2, 32) := by kernel_rfl
theorem u8_next (v : Nat) : ∃ v2 : Nat, v2 < 256 ∧ IntKind.u8.wrap ((v : Int) + 1) = (v2 : Int) := by
  refine ⟨(v + 1) % 256, Nat.mod_lt _ (by omega), ?_⟩
  simp [IntKind.wrap, IntKind.bits, IntKind.signed]
/-- What a round of the loops keeps. -/
structure Lk (w3 w9 : World) (A : Option Addr) (m c β : Nat) (out : List Mg) (wr : World) : Prop where
  ex : ∃ ls : List Mg, ls.length = m ∧ Ob 47 w3 (.slice A m c) ls β wr
  ch : Ch (fun k => w3.heap.size ≤ k ∧ k < β) w9 wr

set_option maxHeartbeats 8000000 in
set_option maxRecDepth 100000 in
theorem lays_walk (w : World) (hG : Gs w) (A : Option Addr) (n C : Nat) (l : List Mg) (hn : (n + 1) * 32 ≤ 140737488355328) (hA : A = none → C = 0) (h : Ms w w.heap.size A n l)
    (Ar : Option Addr) (nr Cr : Nat) (room : List Xt) (hnr : (nr + 1) * 16 ≤ 140737488355328) (hAr : Ar = none → Cr = 0) (hr : Ex w 0 w.heap.size Ar nr room) :
    Calls Tryd.prog 4 #[.slice A n C, .slice Ar nr Cr] w fun e w' => e = .returned (.bool true) ∧ Below w.heap.size w w' := by
  have HG := Lib.hid hG
  have HLV := Lib.hid lives8_any
  have HM := Lib.hid h
  have HX := Lib.hid hr
  have hl := h.len
  have hrl := hr.len
  have HH := Lib.hid (heavy_any A n C l Ar nr Cr 0 w.heap.size room w (by omega) (by omega) h hr (Nat.le_refl _))
  have HRL := Lib.hid hrl
  have HL := Lib.hid hl
  have HN := Lib.hid hn
  have HNR := Lib.hid hnr
  have HAN := Lib.hid hA
  have HARN := Lib.hid hAr
  clear h hG hA hAr hr hl hrl hn hnr
  go_enter Tryd.func4, Tryd.ntmps4
  go_wp2_with (go_at_call 9; refine HH.out.mono ?_; rintro _ w1 ⟨⟨r, rfl⟩, hb⟩; refine Hid.out ?_)
  have HB1 := Lib.hid hb
  clear hb HH
  cases r
  case true =>
    have HLV1 := Lib.hid (HLV.out w1 (HG.out.later HB1.out (Nat.le_refl _)))
    refine go_on ?_
    go_wp2_with (go_at_call 10; refine HLV1.out.mono ?_; rintro _ w2 ⟨rfl, hb⟩; refine Hid.out ?_)
    have HB2 := Lib.hid (below_more HB1.out hb)
    clear hb
    refine go_on ?_
    go_wp2
    go_ret
    exact ⟨rfl, HB2.out⟩
  case false =>
    have HM1 := Lib.hid ((HM.out.later HB1.out).up HB1.out.size)
    have HO1 := Lib.hid (show (w1.alloc (.cells #[] 56)).ownsRow w1.heap.size 56 2 (.slice (some ⟨w1.heap.size, 0, none⟩) 0 0) 0 [] from World.ownsRow_made w1 #[] 0 (Nat.le_refl _) (Nat.zero_le _) (by simp))
    have HBN := Lib.hid (below_new w1 (.cells #[] 56))
    refine go_on ?_
    go_wp2_with (at_builtin; refine wp_msgN Tryd.underlying22 msg_info (by rfl) (.tmp 19) (.tmp 20) (by rfl) w1 _ l A n C (by rfl) (by rfl) HAN.out HO1.out HBN.out HM1.out (by have := HN.out; omega) ?_; intro V2 w2 how2; refine Hid.out ?_)
    obtain ⟨A5, C5, hV⟩ := how2.form
    rw [HL.out] at hV
    subst hV
    have HB2 := Lib.hid (below_more HB1.out how2.be)
    have HOWN2 := Lib.hid (how2.ms HL.out)
    clear how2 HO1 HBN HM1
    have HX2 := Lib.hid (HX.out.later (HB2.out.trans ((below_new w2 (.cells #[] 49)).mono HB2.out.size)) (Nat.le_refl _))
    have HO2 := Lib.hid (show Ow 49 w2 (.slice (some ⟨w2.heap.size, 0, none⟩) 0 0) [] (w2.alloc (.cells #[] 49)) from ⟨World.ownsRow_made w2 #[] 0 (Nat.le_refl _) (Nat.zero_le _) (by simp), below_new w2 _⟩)
    refine go_on ?_
    go_wp2_with (at_builtin; refine wp_appN Tryd.underlying34 ext_info (by rfl) (.tmp 22) (.tmp 23) (by rfl) w2 _ [] room Ar nr Cr 0 w.heap.size (by rfl) (by rfl) HARN.out HO2.out HX2.out (by have := HNR.out; simp; omega) ?_; intro V3 w3 how3; refine Hid.out ?_)
    rw [List.nil_append] at how3
    obtain ⟨A6, C6, hV, -, hex, -⟩ := own_ex how3.own
    rw [HRL.out] at hV hex
    subst hV
    have HB3 := Lib.hid (below_more HB2.out how3.be)
    have HOWN3 := Lib.hid ((HOWN2.out.later how3.be).up how3.be.size)
    have HREST3 := Lib.hid hex
    clear how3 hex HOWN2 HX2 HO2
    have HLY3 := Lib.hid (lay_own A5 n C5 l A6 nr C6 w2.heap.size w3.heap.size room w3 (by have := HN.out; omega) (by have := HNR.out; omega) HOWN3.out HREST3.out (Nat.le_refl _) (HG.out.later HB3.out (Nat.le_refl _)))
    refine go_on ?_
    go_wp2_with (go_at_call 15; refine HLY3.out.mono ?_; (first | rintro _ w4 ⟨A7, C7, k, z, out, rfl, hly, hlen, hob⟩ | rintro _ w4 ⟨A7, C7, k, z, rfl, out, hly, hlen, hob⟩); refine Hid.out ?_)
    have HIS := Lib.hid hly
    have HK := Lib.hid hlen
    have HOB4 := Lib.hid hob
    have HB43 := Lib.hid hob.be
    have HB4 := Lib.hid (below_more HB3.out hob.be)
    clear hly hlen hob HLY3
    have HOWN4 := Lib.hid (HOWN3.out.later HB43.out)
    have HREST4 := Lib.hid (HREST3.out.later HB43.out (Nat.le_refl _))
    have HLY4 := Lib.hid (lay_own A5 n C5 l A6 nr C6 w2.heap.size w3.heap.size room w4 (by have := HN.out; omega) (by have := HNR.out; omega) (HOWN4.out.up HB43.out.size) HREST4.out HB43.out.size (HG.out.later HB4.out (Nat.le_refl _)))
    refine go_on ?_
    go_wp2_with (go_at_call 15; refine HLY4.out.mono ?_; (first | rintro _ w5 ⟨A9, C9, k2, z2, out2, rfl, hly, hlen, hob⟩ | rintro _ w5 ⟨A9, C9, k2, z2, rfl, out2, hly, hlen, hob⟩); refine Hid.out ?_)
    obtain ⟨rfl, rfl⟩ := hly.uniq HIS.out
    obtain rfl : k2 = k := hlen.symm.trans HK.out
    have HOB5 := Lib.hid hob
    have HB54 := Lib.hid hob.be
    have HB5 := Lib.hid (below_more HB4.out hob.be)
    clear hly hlen hob HLY4 HOWN4 HREST4
    have HM5 := Lib.hid ((HM.out.later HB5.out).up HB5.out.size)
    have HP5 := Lib.hid (plain8_any A n C l w5 (by have := HN.out; omega) HM5.out)
    refine go_on ?_
    go_wp2_with (go_at_call 13; refine HP5.out.mono ?_; rintro _ w6 ⟨V6, rfl, how6⟩; refine Hid.out ?_)
    obtain ⟨A39, C39, hV⟩ := how6.form
    rw [HL.out] at hV
    subst hV
    have HB65 := Lib.hid how6.be
    have HB6 := Lib.hid (below_more HB5.out how6.be)
    have HMP6 := Lib.hid (how6.ms HL.out)
    clear how6 HP5 HM5
    have HPL6 := Lib.hid (places_any Ar nr Cr 0 w.heap.size room w6 (by have := HNR.out; omega) (HX.out.later HB6.out (Nat.le_refl _)) HB6.out.size)
    refine go_on ?_
    go_wp2_with (go_at_call 17; refine HPL6.out.mono ?_; rintro _ w7 ⟨V7, rfl, how7⟩; refine Hid.out ?_)
    obtain ⟨A41, C41, hV, -, hex, -⟩ := own_ex how7.own
    rw [HRL.out] at hV hex
    subst hV
    have HB76 := Lib.hid how7.be
    have HB7 := Lib.hid (below_more HB6.out how7.be)
    have HMP7 := Lib.hid ((HMP6.out.later how7.be).up how7.be.size)
    have HRL7 := Lib.hid (rlay_any A39 n C39 l A41 nr C41 w6.heap.size w7.heap.size room w7 (by have := HN.out; omega) (by have := HNR.out; omega) HMP7.out hex (Nat.le_refl _))
    clear how7 hex HPL6 HMP6 HMP7
    refine go_on ?_
    go_wp2_with (go_at_call 16; refine HRL7.out.mono ?_; (first | rintro _ w8 ⟨A11, C11, k3, z3, out3, rfl, hly, hlen, hob⟩ | rintro _ w8 ⟨A11, C11, k3, z3, rfl, out3, hly, hlen, hob⟩); refine Hid.out ?_)
    obtain ⟨rfl, rfl⟩ := hly.uniq HIS.out
    obtain rfl : k3 = k2 := hlen.symm.trans HK.out
    have HOB8 := Lib.hid hob
    have HB87 := Lib.hid hob.be
    have HB8 := Lib.hid (below_more HB7.out hob.be)
    clear hly hlen hob HRL7
    have hkb : k3 ≤ 8796093022208 := by
      have h1 := lay_len HIS.out
      have h2 := HNR.out
      rw [HK.out, HRL.out] at h1
      omega
    have HKB := Lib.hid hkb
    -- what lies there behind the three answers
    have HB85 := Lib.hid (below_more (below_more HB65.out HB76.out) HB87.out)
    have HB84 := Lib.hid (below_more HB54.out HB85.out)
    have HB83 := Lib.hid (below_more HB43.out HB84.out)
    have HMX8 := Lib.hid ((HOB4.out.below HB84.out).om.ms HK.out)
    have HMW8 := Lib.hid (HOB8.out.om.ms HK.out)
    have HSB8 := Lib.hid (sameBlocks_yes A7 A11 k3 C7 C11 out3 w8 (by omega) HMX8.out HMW8.out)
    have HB74 := Lib.hid (below_more HB54.out (below_more HB65.out HB76.out))
    clear HMX8 HMW8 HB65 HB76
    clear hkb
    refine go_on ?_
    go_wp2_with (go_at_call 18; refine HSB8.out.mono ?_; rintro _ w9 ⟨rfl, hb⟩; refine Hid.out ?_)
    have HB98 := Lib.hid hb
    have HB9 := Lib.hid (below_more HB8.out hb)
    have HM9 := Lib.hid ((HM.out.later HB9.out).up HB9.out.size)
    have HP9 := Lib.hid (plain8_any A n C l w9 (by have := HN.out; omega) HM9.out)
    have n1 : (z3 != z3) = false := by simp
    have n2 : (z3 == z3) = true := by simp
    clear hb HSB8
    refine go_on ?_
    go_wp2_with (go_at_call 13; refine HP9.out.mono ?_; rintro _ w10 ⟨V10, rfl, how10⟩; refine Hid.out ?_)
    obtain ⟨A57, C57, hV⟩ := how10.form
    rw [HL.out] at hV
    subst hV
    have HB103 := Lib.hid (below_more (below_more HB83.out HB98.out) how10.be)
    have HB10 := Lib.hid (below_more HB9.out how10.be)
    have HB108 := Lib.hid (below_more HB98.out how10.be)
    have HSM10 := Lib.hid (sameMsgs_yes A5 A57 n C5 C57 l w10 (by have := HN.out; omega) ((HOWN3.out.later HB103.out).up HB103.out.size) (how10.ms HL.out))
    clear how10 HP9 HM9
    refine go_on ?_
    go_wp2_with (go_at_call 19; refine HSM10.out.mono ?_; rintro _ w11 ⟨rfl, hb⟩; refine Hid.out ?_)
    have HB113 := Lib.hid (below_more HB103.out hb)
    have HB118 := Lib.hid (below_more HB108.out hb)
    have HB11 := Lib.hid (below_more HB10.out hb)
    have HPL11 := Lib.hid (places_any Ar nr Cr 0 w.heap.size room w11 (by have := HNR.out; omega) (HX.out.later HB11.out (Nat.le_refl _)) HB11.out.size)
    clear hb HSM10 HB103 HB108
    refine go_on ?_
    go_wp2_with (go_at_call 17; refine HPL11.out.mono ?_; rintro _ w12 ⟨V12, rfl, how12⟩; refine Hid.out ?_)
    obtain ⟨A64, C64, hV, -, hex, -⟩ := own_ex how12.own
    rw [HRL.out] at hV hex
    subst hV
    have HB123 := Lib.hid (below_more HB113.out how12.be)
    have HB128 := Lib.hid (below_more HB118.out how12.be)
    have HB12 := Lib.hid (below_more HB11.out how12.be)
    have HSP12 := Lib.hid (show Calls Tryd.prog 20 #[.slice A6 nr C6, .slice A64 nr C64] w12 (fun e w' => e = .returned (.bool true) ∧ Below w12.heap.size w12 w') from
      (samePlaces_any A6 A64 nr nr C6 C64 w2.heap.size w3.heap.size w11.heap.size w12.heap.size room room w12 (by have := HNR.out; omega) (HREST3.out.later HB123.out (Nat.le_refl _)) HB123.out.size hex (Nat.le_refl _)).mono fun e w' ⟨h1, h2⟩ => ⟨by rw [h1]; simp, h2⟩)
    clear how12 hex HPL11 HB113 HB118
    refine go_on ?_
    go_wp2_with (go_at_call 20; refine HSP12.out.mono ?_; rintro _ w13 ⟨rfl, hb⟩; refine Hid.out ?_)
    have HB133 := Lib.hid (below_more HB123.out hb)
    have HB138 := Lib.hid (below_more HB128.out hb)
    have HB13 := Lib.hid (below_more HB12.out hb)
    have HB134 := Lib.hid (below_more HB84.out HB138.out)
    have HB135 := Lib.hid (below_more HB85.out HB138.out)
    have HOB13 := Lib.hid (HOB4.out.below HB134.out)
    clear hb HSP12 HB123 HB128 HOB4 HB83 HB84 HB85
    obtain ⟨β, hβ⟩ : ∃ β, β = w4.heap.size := ⟨_, rfl⟩
    have HBE4 := Lib.hid hβ
    rw [← hβ] at HOB13
    clear hβ
    refine go_on ?_
    go_wp2
    go_loopw [13] (fun i wr => ∃ (q : Nat), i = .int .i64 q ∧ q ≤ k3 ∧ Lk w3 w13 A7 k3 C7 β out3 wr) (fun i _ => k3 - (intOf i).toNat)
    case atStart => exact ⟨0, rfl, Nat.zero_le _, ⟨⟨_, HK.out, HOB13.out⟩, Ch.refl _ _⟩⟩
    case round =>
      obtain ⟨q, rfl, hq, hlk⟩ := hrel
      obtain ⟨ls, hls, hob⟩ := hlk.ex
      have HCH := Lib.hid hlk.ch
      have HKB2 := HKB.out
      by_cases hlt : q < k3
      · have hltz : (q : Int) < (k3 : Int) := by omega
        obtain ⟨x, hx⟩ : ∃ x, ls[q]? = some x := ⟨_, List.getElem?_eq_getElem (by omega)⟩
        have HST := Lib.hid (show ∃ ls : List Mg, ls.length = k3 ∧ (∃ y, ls[q]? = some y ∧ y.2.length = x.2.length) ∧ Ob 47 w3 (.slice A7 k3 C7) ls β wr from ⟨ls, hls, ⟨x, hx, rfl⟩, hob⟩)
        clear hlk hob hls
        generalize x.2.length = L at HST
        clear hx
        generalize wr = wo at *
        go_wp2
        go_loopw [14] (fun i wr => ∃ (p : Nat), i = .int .i64 p ∧ p ≤ L ∧ (∃ ls : List Mg, ls.length = k3 ∧ (∃ y, ls[q]? = some y ∧ y.2.length = L) ∧ Ob 47 w3 (.slice A7 k3 C7) ls β wr) ∧ Ch (fun k => w3.heap.size ≤ k ∧ k < β) w13 wr) (fun i _ => L - (intOf i).toNat)
        case atStart => exact ⟨0, rfl, Nat.zero_le _, HST.out, HCH.out⟩
        case round =>
          obtain ⟨p, rfl, hp, ⟨ls2, hls2, ⟨y, hy, hyL⟩, hob2⟩, hch2⟩ := hrel
          have HCH2 := Lib.hid hch2
          have HLS2 := Lib.hid hls2
          have HYL := Lib.hid hyL
          have HY := Lib.hid hy
          clear HCH HST hch2 hls2
          obtain ⟨b, g, ci, rfl, hbw, hg0, hg1, hgb, c0, c1, hci, hmx, hrow, hset⟩ := hob2.open_ hy
          rw [hyL] at c1 hci hmx hrow
          have HSET := Lib.hid hset
          have HG0 := Lib.hid hg0
          have HGB := Lib.hid hgb
          clear hset hyL c0 hy hg0 hgb
          by_cases hlt2 : p < L
          · have hltz2 : (p : Int) < (L : Int) := by omega
            obtain ⟨v, hv⟩ : ∃ v, y.2[p]? = some v := ⟨_, List.getElem?_eq_getElem (by have := HYL.out; omega)⟩
            have hown := hrow.own
            rw [HYL.out] at hown
            have cv : wr.cell? ⟨g, p, none⟩ = some (.int .u8 (v : Int)) := by
              rw [hown.cellAt p (by omega)]
              simp [by8, hv]
            have cf : wr.frozen? ⟨g, p, none⟩ = false := hown.frozenAt p
            obtain ⟨v2, hv2, hvw⟩ := u8_next v
            have HV2 := Lib.hid hv2
            clear hrow hv hv2 hown hob2
            go_upto_region 16 with fail
            go_still_tail 16, (by kernel_rfl)
            change wpList _ _ _ _ _ wr.drew
            have HSD := Lib.hid (show Ob 47 w3 (.slice (some ⟨b, 0, none⟩) k3 C7) (ls2.set q (y.1, y.2.set p v2)) β (wr.drew.setCell ⟨g, p, none⟩ (.int .u8 (v2 : Int))) from (HSET.out p v2 HV2.out).below ((Below.refl _ _).drew))
            have HCD := Lib.hid (show Ch (fun k => w3.heap.size ≤ k ∧ k < β) w13 (wr.drew.setCell ⟨g, p, none⟩ (.int .u8 (v2 : Int))) from (HCH2.out.more ((Below.refl _ _).drew)).set ⟨g, p, none⟩ _ ⟨HG0.out, HGB.out⟩)
            have cvd : wr.drew.cell? ⟨g, p, none⟩ = some (.int .u8 (v : Int)) := cv
            have cfd : wr.drew.frozen? ⟨g, p, none⟩ = false := cf
            clear cv cf c1
            go_wp2
            go_roundw
            case rel => exact ⟨p + 1, by go_num, by omega, ⟨_, by rw [List.length_set]; exact HLS2.out, ⟨_, List.getElem?_set_self (by have := HLS2.out; omega), by rw [List.length_set]; exact HYL.out⟩, HSD.out⟩, HCD.out⟩
            case measure => simp [intOf]; omega
          · obtain rfl : p = L := by omega
            clear hrow
            have HEND := Lib.hid (show Lk w3 w13 (some ⟨b, 0, none⟩) k3 C7 β out3 wr from ⟨⟨ls2, HLS2.out, hob2⟩, HCH2.out⟩)
            go_wp2
            go_roundw
            case rel => exact ⟨q + 1, by go_num, by omega, HEND.out⟩
            case measure => simp [intOf]; omega
      · obtain rfl : q = k3 := by omega
        have HB8X := Lib.hid (show ∀ k, k < w3.heap.size ∨ β ≤ k → k < w13.heap.size → wr.heap[k]? = w13.heap[k]? from fun k hk hk2 => HCH.out.block k hk2 (by omega))
        have HSZ := Lib.hid HCH.out.size
        have HBW := Lib.hid (HB13.out.trans ((HCH.out.below HB133.out.size (fun j hj => hj.1)).mono (by have h1 := HB3.out.size; exact h1)))
        have HBW3 := Lib.hid (HB133.out.trans (HCH.out.below HB133.out.size (fun j hj => hj.1)))
        have HMY := Lib.hid ((HOB5.out.below HB135.out).ms_ch HK.out HSZ.out (fun k h1 h2 => HB8X.out k (.inr (by rw [HBE4.out]; exact h1)) h2))
        have HMW := Lib.hid ((HOB8.out.below HB138.out).ms_ch HK.out HSZ.out (fun k h1 h2 => HB8X.out k (.inr (by rw [HBE4.out]; have := HB74.out.size; omega)) h2))
        have HSB := Lib.hid (sameBlocks_yes A9 A11 q C9 C11 out3 wr (by omega) HMY.out HMW.out)
        have HMWR := Lib.hid ((HM.out.later HBW.out).up HBW.out.size)
        clear hlk hob hls HMY HMW HB8X HCH
        go_wp2_with (go_at_call 18; refine HSB.out.mono ?_; rintro _ w14 ⟨rfl, hb⟩; refine Hid.out ?_)
        have HB14 := Lib.hid (below_more HBW.out hb)
        have HB143 := Lib.hid (HBW3.out.trans (hb.mono HBW3.out.size))
        have HP14 := Lib.hid (plain8_any A n C l w14 (by have := HN.out; omega) ((HMWR.out.later hb).up hb.size))
        clear hb HSB
        refine go_on ?_
        go_wp2_with (go_at_call 13; refine HP14.out.mono ?_; rintro _ w15 ⟨V15, rfl, how15⟩; refine Hid.out ?_)
        obtain ⟨A15, C15, hV⟩ := how15.form
        rw [HL.out] at hV
        subst hV
        have HB153 := Lib.hid (HB143.out.trans (how15.be.mono HB143.out.size))
        have HB15 := Lib.hid (below_more HB14.out how15.be)
        have HSM15 := Lib.hid (sameMsgs_yes A5 A15 n C5 C15 l w15 (by have := HN.out; omega) ((HOWN3.out.later HB153.out).up HB153.out.size) (how15.ms HL.out))
        clear how15 HP14
        refine go_on ?_
        go_wp2_with (go_at_call 19; refine HSM15.out.mono ?_; rintro _ w16 ⟨rfl, hb⟩; refine Hid.out ?_)
        have HB16 := Lib.hid (below_more HB15.out hb)
        have HLV16 := Lib.hid (HLV.out w16 (HG.out.later HB16.out (Nat.le_refl _)))
        clear hb HSM15
        refine go_on ?_
        go_wp2_with (go_at_call 10; refine HLV16.out.mono ?_; rintro _ w17 ⟨rfl, hb⟩; refine Hid.out ?_)
        have HB17 := Lib.hid (below_more HB16.out hb)
        clear hb
        refine go_on ?_
        go_wp2
        go_ret
        exact ⟨rfl, HB17.out⟩
end Go.Proofs.YtcgapkepbnbabaaDoor.X5
