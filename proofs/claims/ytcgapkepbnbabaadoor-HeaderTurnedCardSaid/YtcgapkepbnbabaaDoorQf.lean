/- header.messages: with its panics. -/
import Derived.Test.YtcgapkepbnbabaaDoorQe
namespace Go.Proofs.YtcgapkepbnbabaaDoor.X5
set_option linter.unusedVariables false
set_option linter.unusedSimpArgs false
open Go.RowKit Wd Ty9

theorem msg_info8 : (Tryd.prog.info? 56).map (fun i => (i.zero, i.size, i.bytes)) = some (some (.agg #[.int .i64 0, .slice none 0 0]), 2, 32) := by kernel_rfl
/-- What messages tells, or that it panics. -/
def MsP (s : List Nat) (w : World) (e : Ending) (w' : World) : Prop :=
  Below w.heap.size w w' ∧ ((∃ V l, e = .returned V ∧ parseS s = some l ∧ l.length ≤ 65536 ∧ On 56 w V l w') ∨ (parseS s = none ∧ e = .panicked [{ v := .iface 25 (.int .i64 5), recovered := false }]))
theorem MsP.bad {s : List Nat} {w w' : World} (hb : Below w.heap.size w w') (h : parseS s = none) : MsP s w (.panicked [{ v := .iface 25 (.int .i64 5), recovered := false }]) w' := ⟨hb, .inr ⟨h, rfl⟩⟩
theorem MsP.ok {s : List Nat} {w w' : World} {V : Value} {l : List Mg} (hb : Below w.heap.size w w') (h : parseS s = some l) (hl : l.length ≤ 65536) (ho : On 56 w V l w') : MsP s w (.returned V) w' := ⟨hb, .inl ⟨V, l, rfl, h, hl, ho⟩⟩

set_option maxHeartbeats 4000000 in
set_option maxRecDepth 100000 in
theorem messages_any (A : Option Addr) (m c : Nat) (s : List Nat) (w : World) (hm : m ≤ 140737488000000) (hc : m ≤ c) (hb : Byt w w.heap.size A m s) :
    Calls Tryd.prog 36 #[.slice A m c] w fun e w' => MsP s w e w' := by
  have hl := hb.len
  have HBY := Lib.hid hb
  have HL := Lib.hid hl
  have HM := Lib.hid (And.intro hm hc)
  have HG0 := Lib.hid (show Calls Tryd.prog 56 #[.slice A m c, .int .i64 0, .int .i64 4, .bool true] w (fun e w' => GtP s 0 w e w') from get_full 0 m c A s w hm hc (Nat.zero_le _) hb)
  have hlt0 := getN_lt hb.lt 0
  clear hb hl hc
  go_enter Tryd.func36, Tryd.ntmps36
  go_wp2_with (go_at_call 56; refine HG0.out.mono ?_; rintro _ w1 ⟨u, z, rfl, hb1, hp⟩; refine Hid.out ?_)
  have HB1 := Lib.hid hb1
  clear hb1 HG0
  rcases hp with ⟨h4, rfl, rfl⟩ | ⟨h4, rfl, rfl⟩
  · have H4 := Lib.hid (show 4 ≤ s.length by omega)
    obtain ⟨N, hN⟩ : ∃ N, getN s 0 = N := ⟨_, rfl⟩
    rw [hN] at hlt0
    have HN := Lib.hid hN
    rw [hN]
    clear h4 hN
    by_cases hbig : 65536 < N
    · have z1 : (65536 : Int) < (N : Int) := by omega
      have HNO := Lib.hid (parseS_head (s := s) (by have := HN.out; omega))
      clear hbig hlt0
      refine go_on ?_
      go_wp2
      exact ⟨rfl, MsP.bad HB1.out HNO.out⟩
    · have z1 : ¬ (65536 : Int) < (N : Int) := by omega
      have HNB := Lib.hid (show N ≤ 65536 by omega)
      clear hbig hlt0
      refine go_on ?_
      go_wp2
      go_loopw [5, 6, 25] (fun v at_ i wr => ∃ (k p : Nat) (l : List Mg), at_ = .int .i64 p ∧ i = .int .u64 k ∧ k ≤ N ∧ On 56 w1 v l wr ∧ Hid (PsAt s N k p l)) (fun _ _ i _ => N - (intOf i).toNat)
      case atStart => exact ⟨0, 4, [], rfl, rfl, Nat.zero_le _, On.nil _ _, Lib.hid (PsAt.zero H4.out)⟩
      case round =>
        obtain ⟨k, p, l, rfl, rfl, hk, hon, HPS⟩ := hrel
        have HON := Lib.hid hon
        have HBR := Lib.hid (below_more HB1.out hon.be)
        have hnb := HNB.out
        obtain ⟨Ao, co, rfl⟩ := hon.form
        have hlk := HPS.out.1
        rw [hlk] at HON
        rw [hlk]
        clear hon hlk
        by_cases hlt : k < N
        · have hltz : (k : Int) < (N : Int) := by omega
          have hpl := HPS.out.2.1
          have hlen := HL.out
          have HLT := Lib.hid hlt
          have HG1 := Lib.hid (get_full p m c A s wr HM.out.1 HM.out.2 (by omega) ((HBY.out.later HBR.out).up HBR.out.size))
          clear hpl hlen hlt
          go_wp2_with (go_at_call 56; refine HG1.out.mono ?_; rintro _ w2 ⟨u, z, rfl, hb2, hp⟩; refine Hid.out ?_)
          have HB2 := Lib.hid hb2
          have HBR2 := Lib.hid (below_more HBR.out hb2)
          clear hb2 HG1
          rcases hp with ⟨h4, rfl, rfl⟩ | ⟨h4, rfl, rfl⟩
          · have hlen := HL.out
            have HP4 := Lib.hid (show p + 4 ≤ m by omega)
            have mi : min ((p : Int) + 4) (m : Int) = ((p + 4 : Nat) : Int) := by omega
            have HG2 := Lib.hid (getb_full (p + 4) m c A s w2 HM.out.1 HM.out.2 (by omega) ((HBY.out.later HBR2.out).up HBR2.out.size))
            obtain ⟨p4, hp4⟩ : ∃ p4, p + 4 = p4 := ⟨_, rfl⟩
            have HKL := Lib.hid (getN_lt HBY.out.lt p)
            rw [hp4] at mi HG2 HP4
            have HP4E := Lib.hid hp4
            have s1 : wrap64 ((p : Int) + 4) = (p : Int) + 4 := by have := HM.out.1; unfold wrap64; omega
            have s2 : IntKind.i64.wrap ((p : Int) + 4) = (p : Int) + 4 := IntWalk.i64_in _ (by have := HM.out.1; omega)
            have HGN := Lib.hid (show ∃ z, getN s p = z from ⟨_, rfl⟩)
            clear h4 hlen hp4
            obtain ⟨kd, hkd⟩ : ∃ kd, getN s p = kd := ⟨_, rfl⟩
            have HKD := Lib.hid hkd
            rw [hkd] at HKL
            rw [hkd]
            clear hkd
            refine go_on ?_
            go_wp2_with (go_at_call 57; refine HG2.out.mono ?_; rintro _ w3 ⟨V, nx, z, rfl, hb3, hp⟩; refine Hid.out ?_)
            have HB3 := Lib.hid (below_more HB2.out hb3)
            have HBR3 := Lib.hid (below_more HBR2.out hb3)
            clear hb3 HG2 mi s1 s2
            rcases hp with ⟨rfl, h5, h6, h7, h8, hrow⟩ | ⟨hz, rfl, hno⟩
            · have HNX := Lib.hid (PsAt.next HPS.out HLT.out (getMsg_yes (s := s) (p := p) (by have := HP4E.out; omega) (by rw [HP4E.out]; exact h6) (by rw [HP4E.out]; have := HP4E.out; omega)))
              have HE := Lib.hid (show p + 8 + getN s (p + 4) = nx by rw [HP4E.out]; have := HP4E.out; omega)
              rw [HE.out] at HNX
              obtain ⟨q, hq⟩ : ∃ q, getN s p4 = q := ⟨_, rfl⟩
              have HQ := Lib.hid hq
              obtain ⟨y, hy⟩ : ∃ y : Mg, ((getN s p : Int), (s.drop (p + 8)).take (getN s (p + 4))) = y := ⟨_, rfl⟩
              rw [hy] at HNX
              have hy1 : (kd : Int) = y.1 := by rw [← hy]; simp only; rw [HKD.out]
              have hy2 : (s.drop (p4 + 4)).take (getN s p4) = y.2 := by rw [← hy]; simp only; rw [HP4E.out, ← HP4E.out]
              rw [hy2] at hrow
              have hyl : y.2.length ≤ 65536 := by
                rw [← hy2, List.length_take]; omega
              have HYL := Lib.hid hyl
              obtain ⟨Av, cv, hV, hcv, -⟩ := rowb_cap hrow
              obtain ⟨yl, hyle⟩ : ∃ yl, y.2.length = yl := ⟨_, rfl⟩
              rw [hyle] at hV hcv
              subst hV
              have HRW := Lib.hid (hrow.up (Nat.le_trans HON.out.be.size HB2.out.size))
              have HON3 := Lib.hid (HON.out.below HB3.out)
              have HD := Lib.hid (show ∀ j, (Value.slice Av yl cv).ownBlock = some j → (Value.slice Ao k co).ownBlock ≠ some j from fun j hj e => by
                obtain ⟨vs, ho, -⟩ := HON.out.ex
                have h1 := (ho.lt j e).2
                have h2 := (hrow.own.lt j hj).1
                have h3 := HB2.out.size
                omega)
              have HF := Lib.hid (show ∃ A c, Value.slice Av yl cv = .slice A y.2.length c ∧ y.2.length ≤ c from ⟨Av, cv, by rw [hyle], by rw [hyle]; exact hcv⟩)
              have k1 : IntKind.i64.wrap (kd : Int) = y.1 := by rw [← hy1]; exact IntWalk.i64_in _ (by have := HKL.out; omega)
              have k2 : IntKind.u64.wrap ((k : Int) + 1) = (k : Int) + 1 := by simp [IntKind.wrap, IntKind.bits, IntKind.signed]; omega
              have HBN := Lib.hid (below_new w3 (.cells #[.int .i64 y.1, .slice Av yl cv] 56))
              clear h5 h6 h7 h8 hq hy hy1 hy2 hyl hyle hcv hrow HQ
              have HON4 := Lib.hid (HON3.out.below HBN.out)
              have HRW4 := Lib.hid (HRW.out.below HBN.out)
              have HLL := Lib.hid (show (l.length + 1) * 32 ≤ 140737488355328 by have := HPS.out.1; omega)
              refine go_on ?_
              go_wp2_with (at_builtin; refine wp_pushM Tryd.underlying22 msg_info8 (by rfl) (.tmp 51) (.tmp 56) (by rfl) w1 (.slice Ao k co) l y (.slice Av yl cv) w3.heap.size (by rfl) (by rfl) HON4.out (Bx.new w3 _ _) HF.out HRW4.out (by have := HYL.out; omega) HD.out HLL.out ?_; intro V5 w5 how5; refine Hid.out ?_)
              have HON5 := Lib.hid how5
              clear how5
              refine go_on ?_
              go_wp2
              go_roundw
              case rel => exact ⟨k + 1, nx, _, rfl, by first | rfl | go_num, by omega, HON5.out, HNX⟩
              case measure => simp [intOf]; omega
            · have HNO := Lib.hid (parseS_none (by rw [HN.out]; exact HPS.out.no HLT.out (getMsg_no (fun h => hno ⟨by have := HP4E.out; omega, by rw [← HP4E.out]; exact h.2.1, by rw [← HP4E.out]; have := h.2.2; omega⟩))))
              have z1 : (z != 0) = true := by simpa using hz
              have z2 : (z == 0) = false := by simpa using hz
              clear hz hno
              refine go_on ?_
              go_wp2
              exact ⟨rfl, MsP.bad HBR3.out HNO.out⟩
          · have hlen := HL.out
            have hpl := HPS.out.2.1
            have mi : min ((p : Int) + 4) (m : Int) = (m : Int) := by omega
            have HG2 := Lib.hid (getb_full m m c A s w2 HM.out.1 HM.out.2 (by omega) ((HBY.out.later HBR2.out).up HBR2.out.size))
            have s1 : wrap64 ((p : Int) + 4) = (p : Int) + 4 := by have := HM.out.1; unfold wrap64; omega
            have s2 : IntKind.i64.wrap ((p : Int) + 4) = (p : Int) + 4 := IntWalk.i64_in _ (by have := HM.out.1; omega)
            have HNO := Lib.hid (parseS_none (by rw [HN.out]; exact HPS.out.no HLT.out (getMsg_no (fun h => by omega))))
            clear h4 hlen hpl
            refine go_on ?_
            go_wp2_with (go_at_call 57; refine HG2.out.mono ?_; rintro _ w3 ⟨V, nx, z, rfl, hb3, hp⟩; refine Hid.out ?_)
            have HBR3 := Lib.hid (below_more HBR2.out hb3)
            clear hb3 HG2 mi s1 s2
            rcases hp with ⟨rfl, h5, -⟩ | ⟨hz, rfl, hno⟩
            · exfalso
              have := HL.out
              omega
            · clear hz hno
              refine go_on ?_
              go_wp2
              exact ⟨rfl, MsP.bad HBR3.out HNO.out⟩
        · obtain rfl : k = N := by omega
          have HDN := Lib.hid HPS.out.done
          have hlen := HL.out
          clear hlt
          by_cases hpm : p = m
          · subst hpm
            have HMY := Lib.hid (hmay_any Ao k co l wr (by omega) (HON.out.om.ms HPS.out.1))
            have zp : ((p : Int) != (p : Int)) = false := by simp
            go_wp2_with (go_at_call 25; refine HMY.out.mono ?_; rintro _ w4 ⟨⟨z, rfl, hmy⟩, hb4⟩; refine Hid.out ?_)
            have HB4 := Lib.hid (below_more HBR.out hb4)
            have HON4 := Lib.hid ((HON.out.below hb4).base HB1.out)
            have HMZ := Lib.hid hmy
            clear hb4 hmy HMY
            by_cases hz : z = 0
            · subst hz
              have HYS := Lib.hid (parseS_yes H4.out (by rw [HN.out]; exact HNB.out) (by rw [HN.out]; exact HDN.out) HL.out.symm HMZ.out)
              have HLB := Lib.hid (show l.length ≤ 65536 by have h1 := HPS.out.1; have h2 := HNB.out; omega)
              refine go_on ?_
              go_wp2
              go_ret
              exact MsP.ok HB4.out HYS.out HLB.out HON4.out
            · have HNO := Lib.hid (parseS_bad (by rw [HN.out]; exact HDN.out) (fun h => hz (HMZ.out.uniq h.2)))
              have z1 : (z != 0) = true := by simpa using hz
              have z2 : (z == 0) = false := by simpa using hz
              clear hz
              refine go_on ?_
              go_wp2
              exact ⟨rfl, MsP.bad HB4.out HNO.out⟩
          · have HNO := Lib.hid (parseS_bad (by rw [HN.out]; exact HDN.out) (fun h => hpm (by omega)))
            have zp : ((p : Int) != (m : Int)) = true := by simp; omega
            have zp2 : ((p : Int) == (m : Int)) = false := by simp; omega
            clear hpm hlen
            go_wp2
            exact ⟨rfl, MsP.bad HBR.out HNO.out⟩
  · have HNO := Lib.hid (parseS_head (s := s) (by omega))
    clear h4 hlt0
    refine go_on ?_
    go_wp2
    exact ⟨rfl, MsP.bad HB1.out HNO.out⟩
end Go.Proofs.YtcgapkepbnbabaaDoor.X5
