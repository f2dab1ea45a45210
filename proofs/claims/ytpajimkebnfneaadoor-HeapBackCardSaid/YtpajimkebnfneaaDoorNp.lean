/- The law HeapBack, the walk. -/
import Derived.Test.YtpajimkebnfneaaDoorNo
namespace Go.Proofs.YtpajimkebnfneaaDoor.X5
set_option linter.unusedVariables false
set_option linter.unusedSimpArgs false
open Go.RowKit Go.Maps Wd Ty9

set_option maxHeartbeats 8000000 in
set_option maxRecDepth 100000 in
theorem back_walk (w : World) (hG : Gs w) (A : Option Addr) (n C : Nat) (ls : List (List Nat)) (hn : n ≤ 140737488355328) (h : Ls w A n ls) (A2 : Option Addr) (n2 C2 : Nat) (zs : List Int) (hn2 : n2 ≤ 140737488355328) (h2 : Zs w A2 n2 zs) (A3 : Option Addr) (n3 C3 : Nat) (ms : List (List Nat)) (hn3 : n3 ≤ 140737488355328) (h3 : Ls w A3 n3 ms) :
    Calls Tryd.prog 7 #[.slice A n C, .slice A2 n2 C2, .slice A3 n3 C3] w fun e w' => e = .returned (.bool true) ∧ Below w.heap.size w w' := by
  have HGS := Lib.hid hG
  have HL := Lib.hid h
  have HM := Lib.hid h3
  have HLV := Lib.hid (lives6_any w hG)
  have hnn : IntKind.i64.wrap ((n : Int) + (n3 : Int)) = ((n + n3 : Nat) : Int) := by rw [IntKind.wrap_i64]; omega
  obtain ⟨s, hs⟩ : ∃ s, n + n3 = s := ⟨_, rfl⟩
  rw [hs] at hnn
  have HS := Lib.hid hs
  by_cases hbig : 100 < s
  · have z1 : (100 : Int) < (s : Int) := by omega
    clear h hG h3 h2 hs
    go_enter Tryd.func7, Tryd.ntmps7
    go_wp2_with (go_at_call 14; refine HLV.out.mono ?_; rintro _ w2 ⟨rfl, hb⟩; refine Hid.out ?_)
    have HB2 := Lib.hid hb
    clear hb
    refine go_on ?_
    go_wp2
    go_ret
    exact ⟨rfl, HB2.out⟩
  have z1 : ¬ (100 : Int) < (s : Int) := by omega
  have HS100 := Lib.hid (show s ≤ 100 by omega)
  have HF := Lib.hid (filled_any w A n C ls h (by omega) A2 n2 C2 zs h2 hn2)
  obtain ⟨L, hL⟩ : ∃ L, zs.foldl dropL (fillL ls) = L := ⟨_, rfl⟩
  have hLn : L.length ≤ n := by
    rw [← hL, drops_len]
    exact Nat.le_trans (fill_len ls) (by rw [h.len]; exact Nat.le_refl _)
  rw [hL] at HF
  have HLN := Lib.hid hLn
  clear h hG h3 h2 hs hbig hLn hL HLV hn hn2 hn3
  go_enter Tryd.func7, Tryd.ntmps7
  go_wp2_with (go_at_call 15; refine HF.out.mono ?_; rintro _ w1 ⟨hb, S, rfl, ⟨mb, D, Lv, hh⟩, hS, hb1⟩; refine Hid.out ?_)
  have HB1 := Lib.hid hb1
  have HBY := Lib.hid (bytes_any hh (by have := HLN.out; have := HS.out; have := HS100.out; omega) (HGS.out.later hb1 (Nat.le_refl _)))
  have HSM := Lib.hid hh.small
  have HH1 := Lib.hid hh
  have HSW := Lib.hid hS
  clear hh hS hb1 HF
  refine go_on ?_
  go_wp2_with (go_at_call 13; refine HBY.out.mono ?_; rintro _ w2 ⟨V, rfl, hr, hb2⟩; refine Hid.out ?_)
  obtain ⟨Ab, Cb, rfl, hcp, hy2⟩ : ∃ A2 C2, V = .slice A2 (sealL (heapB L)).length C2 ∧ (sealL (heapB L)).length ≤ C2 ∧ Byt w2 w2.heap.size A2 (sealL (heapB L)).length (sealL (heapB L)) := by
    obtain ⟨A2, C2, rfl, hy⟩ := hr.byt
    refine ⟨A2, C2, rfl, ?_, hy⟩
    rcases hr.own.2 with ⟨hv, h1⟩ | ⟨g, cap, cur, hv, _, _, hc, _⟩
    · injection hv with e1 e2 e3; omega
    · injection hv with e1 e2 e3; omega
  have HB2 := Lib.hid (below_more HB1.out hb2)
  have HB12 := Lib.hid hb2
  have HLD := Lib.hid (load_good L HSM.out (by have := HLN.out; have := HS.out; have := HS100.out; omega) Ab _ Cb w2 hcp hy2 (HGS.out.later HB2.out (Nat.le_refl _)))
  clear hr hb2 hcp hy2 HBY
  generalize (sealL (heapB L)).length = lb at *
  refine go_on ?_
  go_wp2_with (go_at_call 16; refine HLD.out.mono ?_; rintro _ w3 ⟨g, S3, rfl, ⟨mb3, D3, Lv3, hg⟩, hS3, hb3⟩; refine Hid.out ?_)
  have HP3 := Lib.hid (show Hps w w3 hb g L (L.take (lastN L)) from ⟨S, S3, mb, D, Lv, mb3, D3, Lv3, HH1.out.later (below_more HB12.out hb3), hg, fun j hj hk => by
      have e1 := HH1.out.sb j hj
      have e2 := hS3 j hk
      have e3 := HB12.out.size
      omega, fun j hj => hj.elim (HSW.out j) (fun hk => Nat.le_trans HB2.out.size (hS3 j hk)), below_more HB2.out hb3⟩)
  have HSI := Lib.hid (sim_take L)
  have HLG := Lib.hid (len_any hg)
  have HLH := Lib.hid (len_any (HH1.out.later (below_more HB12.out hb3)))
  have hcc := (sim_take L).cnt
  have HL2 := Lib.hid (show (L.take (lastN L)).length ≤ n by have := HLN.out; rw [List.length_take]; omega)
  rw [hcc] at HLH
  generalize cntL (L.take (lastN L)) = cn at *
  generalize L.take (lastN L) = L2 at *
  have c0 : ((cn : Int) != (cn : Int)) = false := by simp
  clear hg hS3 hb3 hcc HLD
  refine go_on ?_
  go_wp2_with (first
    | (go_at_call_of 11 (Value.pointer (some ⟨g, 0, none⟩)); refine HLG.out.mono ?_; rintro _ w4 ⟨rfl, hw4⟩; subst hw4; clear HLG)
    | (go_at_call_of 11 (Value.pointer (some ⟨hb, 0, none⟩)); refine HLH.out.mono ?_; rintro _ w5 ⟨rfl, hw5⟩; subst hw5; clear HLH))
  go_loopw [10] (fun i wr => ∃ (k : Nat) (L1 L2 : List (Option (List Nat))), i = .int .i64 k ∧ k ≤ n3 ∧ Sim L1 L2 ∧ Hps w wr hb g L1 L2 ∧ L1.length ≤ n + k ∧ L2.length ≤ n + k) (fun i _ => n3 - (RowKit.intOf i).toNat)
  case atStart => exact ⟨0, L, L2, rfl, Nat.zero_le _, HSI.out, HP3.out, HLN.out, HL2.out⟩
  case round =>
    obtain ⟨k, L1, L2', rfl, hk, hsi, hps, hl1, hl2⟩ := hrel
    have HP4 := Lib.hid hps
    have HSI4 := Lib.hid hsi
    have HL1 := Lib.hid hl1
    have HL2 := Lib.hid hl2
    clear hps hsi hl1 hl2 HP3 HSI
    by_cases hlt : k < n3
    · have hltz : (k : Int) < (n3 : Int) := by omega
      have hk9 : k < 100 := by have := HS.out; have := HS100.out; omega
      have hk0 : (0 : Int) ≤ (k : Int) := by omega
      have hml := HM.out.len
      obtain ⟨b, o, fA, fC, e1, e2⟩ := HM.out.at_
      obtain ⟨hAe, hbl⟩ := e1 (by omega)
      subst hAe
      obtain ⟨d1, d2, d3, d4⟩ := e2 k (by omega)
      obtain ⟨x, hx⟩ : ∃ x, ms[k]'(by omega) = x := ⟨_, rfl⟩
      rw [hx] at d1 d2 d3 d4
      have HD1 := Lib.hid d1
      have HD4 := Lib.hid d4
      have HAD := Lib.hid (HP4.out.add1 (by have := HL1.out; have := HS.out; have := HS100.out; omega) (d := fC k) ((d4.later HP4.out.be).up HP4.out.be.size))
      have hI : addI L1 x = addI L2' x := by unfold addI; rw [HSI4.out.hole]
      have HAD2 := Lib.hid (fun (w' : World) (L1' : List (Option (List Nat))) (hp : Hps w w' hb g L1' L2') => hp.swap.add1 (by have := HL2.out; have := HS.out; have := HS100.out; omega) (d := fC k) ((d4.later hp.be).up hp.be.size))
      rw [← hI] at HAD2
      have HSX := Lib.hid (HSI4.out.add x)
      have hA1 := addL_len L1 x
      have hA2 := addL_len L2' x
      have HA1 := Lib.hid (show (addL L1 x).length ≤ n + (k + 1) by have := HL1.out; omega)
      have HA2 := Lib.hid (show (addL L2' x).length ≤ n + (k + 1) by have := HL2.out; omega)
      have c1 : wr.cell? ⟨b, o + k, none⟩ = some (.slice (fA k) x.length (fC k)) := (HP4.out.be.cell (p := ⟨b, o + k, none⟩) hbl).trans d1
      clear e1 e2 d1 d2 d3 d4 hI hA1 hA2 hx
      generalize addI L1 x = ai at *
      generalize addE x = ae at *
      generalize addL L1 x = X1 at *
      generalize addL L2' x = X2 at *
      generalize x.length = lx at *
      have n1 : (ai != ai) = false := by simp
      have n2 : (ae != ae) = false := by simp
      go_wp2_with (go_at_call 8; refine HAD.out.mono ?_; rintro _ w6 ⟨rfl, hp6⟩; refine Hid.out ?_)
      have HP6 := Lib.hid hp6
      have c2 : w6.cell? ⟨b, o + k, none⟩ = some (.slice (fA k) lx (fC k)) := (HP6.out.be.cell (p := ⟨b, o + k, none⟩) hbl).trans HD1.out
      have HAD6 := Lib.hid (HAD2.out w6 X1 HP6.out)
      clear hp6 HAD c1
      refine go_on ?_
      go_wp2_with (go_at_call 8; refine HAD6.out.mono ?_; rintro _ w7 ⟨rfl, hp7⟩; refine Hid.out ?_)
      have HP7 := Lib.hid hp7.swap
      clear hp7 HAD6 c2
      refine go_on ?_
      go_wp2
      go_roundw
      case rel => exact ⟨k + 1, X1, X2, by go_num, by omega, HSX.out, HP7.out, HA1.out, HA2.out⟩
      case measure => simp [RowKit.intOf]; omega
    · obtain rfl : k = n3 := by omega
      clear hlt hk
      have HLL := Lib.hid (show L1.length ≤ 60000 ∧ L2'.length ≤ 60000 by have := HL1.out; have := HL2.out; have := HS.out; have := HS100.out; omega)
      go_wp2
      generalize hwo : wr = wo at *
      go_loopw [15] (fun i wx => ∃ j : Nat, i = .int .i64 j ∧ j ≤ s ∧ Hps w wx hb g L1 L2') (fun i _ => s - (RowKit.intOf i).toNat)
      case atStart => exact ⟨0, rfl, Nat.zero_le _, HP4.out⟩
      case round =>
        obtain ⟨j, rfl, hj, hps⟩ := hrel
        have HP5 := Lib.hid hps
        clear hps HP4
        by_cases hlt : j < s
        · have hltz : (j : Int) < (s : Int) := by omega
          have hj9 : j < 100 := by have := HS100.out; omega
          have HG1 := Lib.hid (HP5.out.get1 j (by omega))
          have HG2 := Lib.hid (fun (w' : World) (hp : Hps w w' hb g L1 L2') => hp.swap.get1 j (by omega))
          obtain ⟨he, hx⟩ := HSI4.out.getEX j
          rw [← he, ← hx] at HG2
          generalize getE L1 j = ge at *
          generalize getX L1 j = gx at *
          have n1 : (ge != ge) = false := by simp
          have n2 : ((Ty9.strOf gx).toList != (Ty9.strOf gx).toList) = false := by simp
          clear he hx
          go_wp2_with (go_at_call 9; refine HG1.out.mono ?_; rintro _ w6 ⟨A6, m6, C6, rfl, hy6, hb6⟩; refine Hid.out ?_)
          have HP6 := Lib.hid (HP5.out.later hb6)
          have HY6 := Lib.hid hy6
          have HG6 := Lib.hid (HG2.out w6 HP6.out)
          clear hy6 hb6 HG1 HG2
          refine go_on ?_
          go_wp2_with (go_at_call 9; refine HG6.out.mono ?_; rintro _ w7 ⟨A7, m7, C7, rfl, hy7, hb7⟩; refine Hid.out ?_)
          have HP7 := Lib.hid (HP6.out.later hb7)
          have hcv1 := conv_bytes (HY6.out.later hb7) C6
          have hcv2 := conv_bytes hy7 C7
          generalize Ty9.strOf gx = sg at *
          clear hy7 hb7 HG6 HY6
          refine go_on ?_
          go_wp2
          go_roundw
          case rel => exact ⟨j + 1, by go_num, by omega, HP7.out⟩
          case measure => simp [RowKit.intOf]; omega
        · obtain rfl : j = s := by omega
          clear hlt hj
          have hhb := HSI4.out.heapB
          have HY1 : Hid (∀ W : World, Hps w W hb g L1 L2' → Calls Tryd.prog 13 #[.pointer (some ⟨hb, 0, none⟩)] W fun e w' => ∃ V, e = .returned V ∧ RowB w' W.heap.size V (sealL (heapB L1)) ∧ Below W.heap.size W w') := Lib.hid fun W hp => by
            obtain ⟨S1, S2, mb1, D1, Lv1, mb2, D2, Lv2, a, b, c, hd, e⟩ := hp
            exact bytes_any a HLL.out.1 (HGS.out.later e (Nat.le_refl _))
          have HY2 : Hid (∀ W : World, Hps w W hb g L1 L2' → Calls Tryd.prog 13 #[.pointer (some ⟨g, 0, none⟩)] W fun e w' => ∃ V, e = .returned V ∧ RowB w' W.heap.size V (sealL (heapB L1)) ∧ Below W.heap.size W w') := Lib.hid fun W hp => by
            rw [hhb]
            obtain ⟨S1, S2, mb1, D1, Lv1, mb2, D2, Lv2, a, b, c, hd, e⟩ := hp
            exact bytes_any b HLL.out.2 (HGS.out.later e (Nat.le_refl _))
          have HPD := Lib.hid (HP5.out.later (Below.refl wr.heap.size wr).drew)
          have HYA := Lib.hid (HY1.out _ HPD.out)
          have HL6 := Lib.hid (fun (W : World) (hp : Hps w W hb g L1 L2') => lives6_any W (HGS.out.later hp.be (Nat.le_refl _)))
          generalize sealL (heapB L1) = o1 at *
          have n2 : ((Ty9.strOf o1).toList == (Ty9.strOf o1).toList) = true := by simp
          clear hhb HY1
          go_wp2
          go_upto_region 21 with fail
          go_region_law (first
            | (have hgate := HYA.out; clear hgate; go_simp; go_at_call_of 13 (Value.pointer (some ⟨hb, 0, none⟩)); refine HYA.out.mono ?_; rintro _ w6 ⟨V6, rfl, hr6, hb6⟩; have HP6 := Lib.hid (HPD.out.later hb6); obtain ⟨A6, C6, rfl, hy6⟩ := hr6.byt; have hcv6 := conv_bytes hy6 C6; have HY6 := Lib.hid hy6; have HYB := Lib.hid (HY2.out _ HP6.out); clear hr6 hb6 hy6 HYA)
            | (have hgate := HYB.out; clear hgate; go_simp; go_at_call_of 13 (Value.pointer (some ⟨g, 0, none⟩)); refine HYB.out.mono ?_; rintro _ w7 ⟨V7, rfl, hr7, hb7⟩; have HP7 := Lib.hid (HP6.out.later hb7); obtain ⟨A7, C7, rfl, hy7⟩ := hr7.byt; have hcv7 := conv_bytes hy7 C7; have hcv67 := conv_bytes (HY6.out.later hb7) C6; have HLX := Lib.hid (HL6.out _ HP7.out); clear hr7 hb7 hy7 HYB)
            | (have hgate := HLX.out; clear hgate; go_simp; go_at_call 14; refine HLX.out.mono ?_; rintro _ w8 ⟨rfl, hb8⟩; have HP8 := Lib.hid (HP7.out.later hb8); clear hb8 HLX))
          all_goals
            go_wp2
            go_ret
            exact ⟨rfl, HP8.out.be⟩
end Go.Proofs.YtpajimkebnfneaaDoor.X5
