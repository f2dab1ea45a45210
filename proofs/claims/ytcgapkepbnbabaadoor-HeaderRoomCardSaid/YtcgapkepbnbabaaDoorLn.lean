/- The law HeaderSizes. -/
import Derived.Test.YtcgapkepbnbabaaDoorLm
namespace Go.Proofs.YtcgapkepbnbabaaDoor.X5
set_option linter.unusedVariables false
set_option linter.unusedSimpArgs false
open Go.RowKit Wd Ty9

/-- What the law's examples answer. -/
def LivesSays : Prop := ∀ (w : World), Gs w → Calls Tryd.prog 10 #[] w fun e w' => e = .returned (.bool true) ∧ Below w.heap.size w w'
/-- No extents. -/
theorem ex_none (w : World) : Ex w 0 w.heap.size none 0 [] := ⟨rfl, fun h => absurd h (Nat.lt_irrefl _)⟩
theorem row_len {w : World} {B : Nat} {V : Value} {bs : List Nat} (h : RowB w B V bs) : ∃ A c, V = .slice A bs.length c := by
  rcases Nat.eq_zero_or_pos bs.length with h0 | h0
  · rcases h.own.2 with ⟨hv, _⟩ | ⟨g, cap, cur, hv, _⟩
    · exact ⟨none, 0, by rw [hv, h0]⟩
    · exact ⟨_, _, hv⟩
  · obtain ⟨g, c, hv, _⟩ := h.own.form h0
    exact ⟨_, _, hv⟩
set_option maxHeartbeats 2000000 in
set_option maxRecDepth 100000 in
theorem sizes_of (hlv : LivesSays) (w : World) (hG : Gs w) (A : Option Addr) (n C : Nat) (l : List Mg) (hn : (n + 1) * 32 ≤ 140737488355328) (hA : A = none → C = 0) (h : Ms w w.heap.size A n l) :
    Calls Tryd.prog 3 #[.slice A n C] w fun e w' => e = .returned (.bool true) ∧ Below w.heap.size w w' := by
  have HG := Lib.hid hG
  have HLV := Lib.hid hlv
  have HM := Lib.hid h
  have hl := h.len
  have HH := Lib.hid (heavy_any A n C l none 0 0 0 w.heap.size [] w (by omega) (by decide) h (ex_none w) (Nat.le_refl _))
  have HLEN := Lib.hid hl
  clear h hG hlv hA
  go_enter Tryd.func3, Tryd.ntmps3
  go_wp2_with (go_at_call 9; refine HH.out.mono ?_; rintro _ w1 ⟨⟨r, rfl⟩, hb⟩; refine Hid.out ?_)
  have HB1 := Lib.hid hb
  have HLV1 := Lib.hid (HLV.out w1 (HG.out.later hb (Nat.le_refl _)))
  have HM1 := Lib.hid ((HM.out.later hb).up hb.size)
  clear hb HH
  by_cases hc : r = true ∧ n ≤ 65536
  · obtain ⟨rfl, hc⟩ := hc
    have hc2 : (n : Int) ≤ 65536 := by omega
    refine go_on ?_
    go_wp2_with (go_at_call 10; refine HLV1.out.mono ?_; rintro _ w2 ⟨rfl, hb⟩; refine Hid.out ?_)
    have HB2 := Lib.hid (below_more HB1.out hb)
    clear hb
    refine go_on ?_
    go_wp2
    go_ret
    exact ⟨rfl, HB2.out⟩
  · have hskip : r = false ∨ (r = true ∧ ¬ (n : Int) ≤ 65536) := by
      cases r
      · exact .inl rfl
      · exact .inr ⟨rfl, fun e => hc ⟨rfl, by omega⟩⟩
    have HSZ := Lib.hid (size_any A n C l w1 (by omega) HM1.out)
    refine go_on ?_
    rcases hskip with rfl | ⟨rfl, hgt⟩
    all_goals
      go_wp2_with (go_at_call 11; refine HSZ.out.mono ?_; rintro _ w2 ⟨⟨z, s, rfl, hmy, hzs⟩, hb⟩; refine Hid.out ?_)
      have HMY := Lib.hid hmy
      have HZS := Lib.hid hzs
      have HB2 := Lib.hid (below_more HB1.out hb)
      have HM2 := Lib.hid ((HM1.out.later hb).up hb.size)
      have HP2 := Lib.hid (plain8_any A n C l w2 (by omega) HM2.out)
      clear hb hmy hzs HSZ
      refine go_on ?_
      go_wp2_with (go_at_call 13; refine HP2.out.mono ?_; rintro _ w3 ⟨V3, rfl, how3⟩; refine Hid.out ?_)
      obtain ⟨A3, C3, hV⟩ := how3.form
      rw [HLEN.out] at hV
      subst hV
      have HB3 := Lib.hid (below_more HB2.out how3.be)
      have HM3 := Lib.hid ((HM2.out.later how3.be).up how3.be.size)
      have HRM := Lib.hid (rmay8_any A3 n C3 l w3 (by omega) (how3.ms HLEN.out))
      clear how3 HP2
      refine go_on ?_
      go_wp2_with (go_at_call 12; refine HRM.out.mono ?_; rintro _ w4 ⟨⟨z2, rfl, hmy2⟩, hb⟩; refine Hid.out ?_)
      obtain rfl := hmy2.uniq HMY.out
      have HB4 := Lib.hid (below_more HB3.out hb)
      have HM4 := Lib.hid ((HM3.out.later hb).up hb.size)
      have HLV4 := Lib.hid (HLV.out w4 (HG.out.later HB4.out (Nat.le_refl _)))
      clear hb hmy2 HRM
      by_cases hz : z2 = 0
      · subst hz
        obtain rfl : s = (sizeM l : Int) := by
          rcases HZS.out with ⟨h, _⟩ | ⟨_, h⟩
          · exact absurd rfl h
          · exact h
        have HP4 := Lib.hid (plain8_any A n C l w4 (by omega) HM4.out)
        refine go_on ?_
        go_wp2_with (go_at_call 13; refine HP4.out.mono ?_; rintro _ w5 ⟨V5, rfl, how5⟩; refine Hid.out ?_)
        obtain ⟨A5, C5, hV⟩ := how5.form
        rw [HLEN.out] at hV
        subst hV
        have HB5 := Lib.hid (below_more HB4.out how5.be)
        have HST := Lib.hid (rstream_any A5 n C5 l w5 (how5.ms HLEN.out) HMY.out)
        clear how5 HP4
        refine go_on ?_
        go_wp2_with (go_at_call 14; refine HST.out.mono ?_; rintro _ w6 ⟨V6, rfl, hrow, hb⟩; refine Hid.out ?_)
        obtain ⟨A6, C6, hV⟩ := row_len hrow
        rw [stream_len] at hV
        subst hV
        have HB6 := Lib.hid (below_more HB5.out hb)
        have HLV6 := Lib.hid (HLV.out w6 (HG.out.later HB6.out (Nat.le_refl _)))
        clear hrow hb HST
        generalize sizeM l = sz at *
        have ss : ((sz : Int) == (sz : Int)) = true := by simp
        refine go_on ?_
        go_wp2_with (go_at_call 10; refine HLV6.out.mono ?_; rintro _ w7 ⟨rfl, hb⟩; refine Hid.out ?_)
        have HB7 := Lib.hid (below_more HB6.out hb)
        clear hb
        refine go_on ?_
        go_wp2
        go_ret
        exact ⟨rfl, HB7.out⟩
      · obtain rfl : s = 0 := by
          rcases HZS.out with ⟨_, h⟩ | ⟨h, _⟩
          · exact h
          · exact absurd h hz
        have hzb : (z2 != 0) = true := by simpa using hz
        have hzb2 : (z2 == 0) = false := by simpa using hz
        have hzz : (z2 == z2) = true := by simp
        refine go_on ?_
        go_wp2_with (go_at_call 10; refine HLV4.out.mono ?_; rintro _ w5 ⟨rfl, hb⟩; refine Hid.out ?_)
        have HB5 := Lib.hid (below_more HB4.out hb)
        clear hb
        refine go_on ?_
        go_wp2
        go_ret
        exact ⟨rfl, HB5.out⟩
end Go.Proofs.YtcgapkepbnbabaaDoor.X5
