/- The reference's parse. -/
import Derived.Test.YtcgapkepbnbabaaDoorQe
import Derived.Test.YtcgapkepbnbabaaDoorLj
namespace Go.Proofs.YtcgapkepbnbabaaDoor.X5
set_option linter.unusedVariables false
set_option linter.unusedSimpArgs false
open Go.RowKit Wd Ty9

/-- What parse tells. -/
def PrP (s : List Nat) (w : World) (e : Ending) (w' : World) : Prop :=
  ∃ A n C b l, e = .returned (.tuple #[.slice A n C, .bool b]) ∧ l.length = n ∧ l.length ≤ 65536 ∧ On 63 w (.slice A n C) l w' ∧ ((b = true ∧ parseS s = some l) ∨ (b = false ∧ parseS s = none))
theorem PrP.no {s : List Nat} {w w' : World} (hb : Below w.heap.size w w') (h : parseS s = none) : PrP s w (.returned (.tuple #[.slice none 0 0, .bool false])) w' :=
  ⟨none, 0, 0, false, [], rfl, rfl, Nat.zero_le _, ⟨⟨[], World.ownsRow_nil _ _ _ _, rfl, fun i v x h => by simp at h⟩, hb⟩, .inr ⟨rfl, h⟩⟩

set_option maxHeartbeats 4000000 in
set_option maxRecDepth 100000 in
theorem parse_any (A : Option Addr) (m c : Nat) (s : List Nat) (w : World) (hm : m ≤ 140737488000000) (hc : m ≤ c) (hb : Byt w w.heap.size A m s) :
    Calls Tryd.prog 39 #[.slice A m c] w fun e w' => PrP s w e w' := by
  have hl := hb.len
  have HBY := Lib.hid hb
  have HL := Lib.hid hl
  have HM := Lib.hid (And.intro hm hc)
  have HG0 := Lib.hid (show Calls Tryd.prog 38 #[.slice A m c, .int .i64 0, .int .i64 4, .bool true] w (fun e w' => GtP s 0 w e w') from rget_full 0 m c A s w hm (Nat.zero_le _) hb)
  have hlt0 := getN_lt hb.lt 0
  clear hb hl hc
  go_enter Tryd.func39, Tryd.ntmps39
  go_wp2_with (go_at_call 38; refine HG0.out.mono ?_; rintro _ w1 ⟨u, z, rfl, hb1, hp⟩; refine Hid.out ?_)
  have HB1 := Lib.hid hb1
  clear hb1 HG0
  rcases hp with ⟨h4, rfl, rfl⟩ | ⟨h4, rfl, rfl⟩
  · have H4 := Lib.hid (show 4 ≤ s.length by omega)
    obtain ⟨N, hN⟩ : ∃ N, getN s 0 = N := ⟨_, rfl⟩
    rw [hN] at hlt0
    have HN := Lib.hid hN
    rw [hN]
    clear h4 hN
    by_cases hbig : 65536 < N
    · have z1 : (65536 : Int) < (N : Int) := by omega
      have HNO := Lib.hid (parseS_head (s := s) (by have := HN.out; omega))
      clear hbig hlt0
      refine go_on ?_
      go_wp2
      go_ret2
      exact PrP.no HB1.out HNO.out
    · have z1 : ¬ (65536 : Int) < (N : Int) := by omega
      have HNB := Lib.hid (show N ≤ 65536 by omega)
      clear hbig hlt0
      refine go_on ?_
      go_wp2
      go_loopw [6, 7, 8] (fun v at_ i wr => ∃ (k p : Nat) (l : List Mg), at_ = .int .i64 p ∧ i = .int .i64 k ∧ k ≤ N ∧ On 63 w1 v l wr ∧ Hid (PsAt s N k p l)) (fun _ _ i _ => N - (intOf i).toNat)
      case atStart => exact ⟨0, 4, [], rfl, rfl, Nat.zero_le _, On.nil _ _, Lib.hid (PsAt.zero H4.out)⟩
      case round =>
        obtain ⟨k, p, l, rfl, rfl, hk, hon, HPS⟩ := hrel
        have HON := Lib.hid hon
        have HBR := Lib.hid (below_more HB1.out hon.be)
        have hnb := HNB.out
        obtain ⟨Ao, co, rfl⟩ := hon.form
        have hlk := HPS.out.1
        rw [hlk] at HON
        rw [hlk]
        have n1 : IntKind.i64.wrap (N : Int) = (N : Int) := IntWalk.i64_in _ (by omega)
        clear hon hlk
        by_cases hlt : k < N
        · have hltz : (k : Int) < (N : Int) := by omega
          have hpl := HPS.out.2.1
          have hlen := HL.out
          have HLT := Lib.hid hlt
          have HG1 := Lib.hid (rget_full p m c A s wr HM.out.1 (by omega) ((HBY.out.later HBR.out).up HBR.out.size))
          clear hpl hlen hlt
          go_wp2_with (go_at_call 38; refine HG1.out.mono ?_; rintro _ w2 ⟨u, z, rfl, hb2, hp⟩; refine Hid.out ?_)
          have HB2 := Lib.hid hb2
          have HBR2 := Lib.hid (below_more HBR.out hb2)
          clear hb2 HG1 n1
          rcases hp with ⟨h4, rfl, rfl⟩ | ⟨h4, rfl, rfl⟩
          · have hlen := HL.out
            have HP4 := Lib.hid (show p + 4 ≤ m by omega)
            have HG2 := Lib.hid (show Calls Tryd.prog 58 #[.slice A m c, .int .i64 ((p : Int) + 4)] w2 (fun e w' => GbP s (p + 4) w2 e w') from rgetb_full (p + 4) m c A s w2 HM.out.1 HM.out.2 (by omega) ((HBY.out.later HBR2.out).up HBR2.out.size))
            obtain ⟨p4, hp4⟩ : ∃ p4, p + 4 = p4 := ⟨_, rfl⟩
            have HKL := Lib.hid (getN_lt HBY.out.lt p)
            rw [hp4] at HG2 HP4
            have HP4E := Lib.hid hp4
            have s1 : wrap64 ((p : Int) + 4) = (p : Int) + 4 := by have := HM.out.1; unfold wrap64; omega
            have s2 : IntKind.i64.wrap ((p : Int) + 4) = (p : Int) + 4 := IntWalk.i64_in _ (by have := HM.out.1; omega)
            clear h4 hlen hp4
            obtain ⟨kd, hkd⟩ : ∃ kd, getN s p = kd := ⟨_, rfl⟩
            have HKD := Lib.hid hkd
            rw [hkd] at HKL
            rw [hkd]
            clear hkd
            refine go_on ?_
            go_wp2_with (go_at_call 58; refine HG2.out.mono ?_; rintro _ w3 ⟨V, nx, z, rfl, hb3, hp⟩; refine Hid.out ?_)
            have HB3 := Lib.hid (below_more HB2.out hb3)
            have HBR3 := Lib.hid (below_more HBR2.out hb3)
            clear hb3 HG2 s1 s2
            rcases hp with ⟨rfl, h5, h6, h7, h8, hrow⟩ | ⟨hz, rfl, hno⟩
            · have HNX := Lib.hid (PsAt.next HPS.out HLT.out (getMsg_yes (s := s) (p := p) (by have := HP4E.out; omega) (by rw [HP4E.out]; exact h6) (by rw [HP4E.out]; have := HP4E.out; omega)))
              have HE := Lib.hid (show p + 8 + getN s (p + 4) = nx by rw [HP4E.out]; have := HP4E.out; omega)
              rw [HE.out] at HNX
              obtain ⟨y, hy⟩ : ∃ y : Mg, ((getN s p : Int), (s.drop (p + 8)).take (getN s (p + 4))) = y := ⟨_, rfl⟩
              rw [hy] at HNX
              have hy1 : (kd : Int) = y.1 := by rw [← hy]; simp only; rw [HKD.out]
              have hy2 : (s.drop (p4 + 4)).take (getN s p4) = y.2 := by rw [← hy]; simp only; rw [HP4E.out, ← HP4E.out]
              rw [hy2] at hrow
              have hyl : y.2.length ≤ 65536 := by
                rw [← hy2, List.length_take]; omega
              have HYL := Lib.hid hyl
              obtain ⟨Av, cv, hV, hcv, -⟩ := rowb_cap hrow
              obtain ⟨yl, hyle⟩ : ∃ yl, y.2.length = yl := ⟨_, rfl⟩
              rw [hyle] at hV hcv
              subst hV
              have HRW := Lib.hid (hrow.up (Nat.le_trans HON.out.be.size HB2.out.size))
              have HON3 := Lib.hid (HON.out.below HB3.out)
              have HD := Lib.hid (show ∀ j, (Value.slice Av yl cv).ownBlock = some j → (Value.slice Ao k co).ownBlock ≠ some j from fun j hj e => by
                obtain ⟨vs, ho, -⟩ := HON.out.ex
                have h1 := (ho.lt j e).2
                have h2 := (hrow.own.lt j hj).1
                have h3 := HB2.out.size
                omega)
              have HF := Lib.hid (show ∃ A c, Value.slice Av yl cv = .slice A y.2.length c ∧ y.2.length ≤ c from ⟨Av, cv, by rw [hyle], by rw [hyle]; exact hcv⟩)
              have k1 : IntKind.i64.wrap (kd : Int) = y.1 := by rw [← hy1]; exact IntWalk.i64_in _ (by have := HKL.out; omega)
              have HBN := Lib.hid (below_new w3 (.cells #[.int .i64 y.1, .slice Av yl cv] 63))
              clear h5 h6 h7 h8 hy hy1 hy2 hyl hyle hcv hrow
              have HON4 := Lib.hid (HON3.out.below HBN.out)
              have HRW4 := Lib.hid (HRW.out.below HBN.out)
              have HLL := Lib.hid (show (l.length + 1) * 32 ≤ 140737488355328 by have := HPS.out.1; omega)
              refine go_on ?_
              go_wp2_with (at_builtin; refine wp_pushM Tryd.underlying29 rmsg_info (by rfl) (.tmp 49) (.tmp 54) (by rfl) w1 (.slice Ao k co) l y (.slice Av yl cv) w3.heap.size (by rfl) (by rfl) HON4.out (Bx.new w3 _ _) HF.out HRW4.out (by have := HYL.out; omega) HD.out HLL.out ?_; intro V5 w5 how5; refine Hid.out ?_)
              have HON5 := Lib.hid how5
              clear how5
              refine go_on ?_
              go_wp2
              go_roundw
              case rel => exact ⟨k + 1, nx, _, rfl, by first | rfl | go_num, by omega, HON5.out, HNX⟩
              case measure => simp [intOf]; omega
            · have HNO := Lib.hid (parseS_none (by rw [HN.out]; exact HPS.out.no HLT.out (getMsg_no (fun h => hno ⟨by have := HP4E.out; omega, by rw [← HP4E.out]; exact h.2.1, by rw [← HP4E.out]; have := h.2.2; omega⟩))))
              have z1 : (z != 0) = true := by simpa using hz
              have z2 : (z == 0) = false := by simpa using hz
              clear hz hno
              refine go_on ?_
              go_wp2
              go_ret2
              exact PrP.no HBR3.out HNO.out
          · have HNO := Lib.hid (parseS_none (by rw [HN.out]; exact HPS.out.no HLT.out (getMsg_no (fun h => by omega))))
            clear h4
            refine go_on ?_
            go_wp2
            go_ret2
            exact PrP.no HBR2.out HNO.out
        · obtain rfl : k = N := by omega
          have HDN := Lib.hid HPS.out.done
          have hlen := HL.out
          have HLB := Lib.hid (show l.length = k ∧ l.length ≤ 65536 by have h1 := HPS.out.1; have h2 := HNB.out; omega)
          clear hlt
          by_cases hpm : p = m
          · subst hpm
            have HMY := Lib.hid (rmay8_any Ao k co l wr (by omega) (HON.out.om.ms HPS.out.1))
            have zp : ((p : Int) == (p : Int)) = true := by simp
            go_wp2_with (go_at_call 12; refine HMY.out.mono ?_; rintro _ w4 ⟨⟨z, rfl, hmy⟩, hb4⟩; refine Hid.out ?_)
            have HON4 := Lib.hid ((HON.out.below hb4).base HB1.out)
            have HMZ := Lib.hid hmy
            clear hb4 hmy HMY
            by_cases hz : z = 0
            · subst hz
              have HYS := Lib.hid (parseS_yes H4.out (by rw [HN.out]; exact HNB.out) (by rw [HN.out]; exact HDN.out) HL.out.symm HMZ.out)
              refine go_on ?_
              go_wp2
              go_ret2
              first | exact ⟨Ao, k, co, true, l, rfl, HLB.out.1, HLB.out.2, HON4.out, .inl ⟨rfl, HYS.out⟩⟩ | exact ⟨_, _, _, _, _, rfl, HLB.out.1, HLB.out.2, HON4.out, .inl ⟨rfl, HYS.out⟩⟩
            · have HNO := Lib.hid (parseS_bad (by rw [HN.out]; exact HDN.out) (fun h => hz (HMZ.out.uniq h.2)))
              have z1 : (z != 0) = true := by simpa using hz
              have z2 : (z == 0) = false := by simpa using hz
              clear hz
              refine go_on ?_
              go_wp2
              go_ret2
              exact ⟨Ao, k, co, false, l, rfl, HLB.out.1, HLB.out.2, HON4.out, .inr ⟨rfl, HNO.out⟩⟩
          · have HNO := Lib.hid (parseS_bad (by rw [HN.out]; exact HDN.out) (fun h => hpm (by omega)))
            have zp : ((p : Int) != (m : Int)) = true := by simp; omega
            have zp2 : ((p : Int) == (m : Int)) = false := by simp; omega
            have HON4 := Lib.hid (HON.out.base HB1.out)
            clear hpm hlen
            go_wp2
            go_ret2
            exact ⟨Ao, k, co, false, l, rfl, HLB.out.1, HLB.out.2, HON4.out, .inr ⟨rfl, HNO.out⟩⟩
  · have HNO := Lib.hid (parseS_head (s := s) (by omega))
    clear h4 hlt0
    refine go_on ?_
    go_wp2
    go_ret2
    exact PrP.no HB1.out HNO.out
end Go.Proofs.YtcgapkepbnbabaaDoor.X5
