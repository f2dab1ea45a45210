/- The law HeapAgain, the walk. -/
import Derived.Test.YtpajimkebnfneaaDoorNh
namespace Go.Proofs.YtpajimkebnfneaaDoor.X5
set_option linter.unusedVariables false
set_option linter.unusedSimpArgs false
open Go.RowKit Go.Maps Wd Ty9

theorem fill_all {ls : List (List Nat)} (h : ∀ x ∈ ls, x.length ≤ 65536) : fillL ls = ls.map some := by
  unfold fillL
  rw [List.filter_eq_self.mpr (fun x hx => by simpa using h x hx)]
theorem cnt_map {α : Type} : ∀ l : List α, cntL (l.map some) = l.length
  | [] => rfl
  | x :: l => by simp [cntL, cnt_map l]
/-- All but number k; then k again. -/
theorem again_hole {ls : List (List Nat)} {k : Nat} (hk : k < ls.length) : hole ((ls.map some).set k none) = k := by
  have h1 : ¬ hole ((ls.map some).set k none) < k := fun h => by
    have h2 := hole_at ((ls.map some).set k none)
    have h3 : ((ls.map some).set k none)[hole ((ls.map some).set k none)]? = some (some (ls[hole ((ls.map some).set k none)]'(by omega))) := by
      rw [List.getElem?_set, if_neg (by omega), List.getElem?_map, List.getElem?_eq_getElem (by omega)]
      rfl
    exact h2 _ h3
  have h4 : ¬ k < hole ((ls.map some).set k none) := fun h => by
    obtain ⟨v, hv⟩ := hole_lt _ k h
    simp [hk] at hv
  omega
theorem again_drop {ls : List (List Nat)} {k : Nat} (hk : k < ls.length) : dropL (ls.map some) (k : Int) = (ls.map some).set k none := by
  unfold dropL
  rw [if_pos ((idsL_mem _ _).mpr ⟨by omega, ls[k], by simp [hk]⟩)]
  simp
theorem again_put {ls : List (List Nat)} {k : Nat} (hk : k < ls.length) (x : List Nat) : putL ((ls.map some).set k none) k (some x) = (ls.set k x).map some := by
  unfold putL
  rw [if_pos (by simpa using hk), List.set_set, List.map_set]

set_option maxHeartbeats 8000000 in
set_option maxRecDepth 100000 in
theorem again_walk (w : World) (hG : Gs w) (A : Option Addr) (n C : Nat) (ls : List (List Nat)) (h : Ls w A n ls) (p : Int) (hp : -9223372036854775808 ≤ p ∧ p ≤ 9223372036854775807) (A2 : Option Addr) (m c : Nat) (bs : List Nat) (hm : m ≤ 140737488355328) (hc : m ≤ c) (hb : Byt w w.heap.size A2 m bs) :
    Calls Tryd.prog 4 #[.slice A n C, .int .i64 p, .slice A2 m c] w fun e w' => e = .returned (.bool true) ∧ Below w.heap.size w w' := by
  have HGS := Lib.hid hG
  have HL := Lib.hid h
  have HB := Lib.hid hb
  have HLV := Lib.hid (lives6_any w hG)
  clear h hG hb
  by_cases hn0 : n = 0
  · have z0 : ((n : Int) == 0) = true := by simp [hn0]
    go_enter Tryd.func4, Tryd.ntmps4
    go_wp2_with (go_at_call 14; refine HLV.out.mono ?_; rintro _ w2 ⟨rfl, hb⟩; refine Hid.out ?_)
    have HB2 := Lib.hid hb
    clear hb
    refine go_on ?_
    go_wp2
    go_ret
    exact ⟨rfl, HB2.out⟩
  have z0 : ((n : Int) == 0) = false := by simp; omega
  by_cases hbig : 100 < n
  · have z1 : (100 : Int) < (n : Int) := by omega
    go_enter Tryd.func4, Tryd.ntmps4
    go_wp2_with (go_at_call 14; refine HLV.out.mono ?_; rintro _ w2 ⟨rfl, hb⟩; refine Hid.out ?_)
    have HB2 := Lib.hid hb
    clear hb
    refine go_on ?_
    go_wp2
    go_ret
    exact ⟨rfl, HB2.out⟩
  have z1 : ¬ (100 : Int) < (n : Int) := by omega
  by_cases hmb : 65536 < m
  · have z2 : (65536 : Int) < (m : Int) := by omega
    go_enter Tryd.func4, Tryd.ntmps4
    go_wp2_with (go_at_call 14; refine HLV.out.mono ?_; rintro _ w2 ⟨rfl, hb⟩; refine Hid.out ?_)
    have HB2 := Lib.hid hb
    clear hb
    refine go_on ?_
    go_wp2
    go_ret
    exact ⟨rfl, HB2.out⟩
  have z2 : ¬ (65536 : Int) < (m : Int) := by omega
  have HN1 := Lib.hid (show 0 < n by omega)
  have HN2 := Lib.hid (show n ≤ 100 by omega)
  have HM := Lib.hid (show m ≤ 65536 by omega)
  clear hn0 hbig hmb
  go_enter Tryd.func4, Tryd.ntmps4
  go_wp2
  go_loopw [7] (fun i wr => wr = w ∧ ∃ k : Nat, i = .int .i64 k ∧ k ≤ n ∧ ∀ x ∈ ls.take k, x.length ≤ 65536) (fun i _ => n - (RowKit.intOf i).toNat)
  case atStart => exact ⟨rfl, 0, rfl, Nat.zero_le _, fun x hx => by simp at hx⟩
  case round =>
    obtain ⟨rfl, k, rfl, hk, hall⟩ := hrel
    have HALL := Lib.hid hall
    have hll := HL.out.len
    clear hall
    by_cases hlt : k < n
    · have hltz : (k : Int) < (n : Int) := by omega
      have hk0 : (0 : Int) ≤ (k : Int) := by omega
      obtain ⟨b, o, fA, fC, e1, e2⟩ := HL.out.at_
      obtain ⟨rfl, hbl⟩ := e1 (by omega)
      obtain ⟨c1, c2, c3, c4⟩ := e2 k (by omega)
      have hts : ls.take (k + 1) = ls.take k ++ [ls[k]] := by rw [List.take_add_one, List.getElem?_eq_getElem (by omega)]; rfl
      have HTS := Lib.hid hts
      clear hts e1 e2 c2 c3 c4 hbl
      generalize ls[k] = x at *
      by_cases hx : 65536 < x.length
      · have zx : (65536 : Int) < (x.length : Int) := by omega
        generalize x.length = lx at *
        go_wp2_with (go_at_call 14; refine HLV.out.mono ?_; rintro _ w2 ⟨rfl, hb⟩; refine Hid.out ?_)
        have HB2 := Lib.hid hb
        clear hb
        refine go_on ?_
        go_wp2
        go_ret
        exact ⟨rfl, HB2.out⟩
      · have zx : ¬ (65536 : Int) < (x.length : Int) := by omega
        have HA2 := Lib.hid (show ∀ y ∈ ls.take (k + 1), y.length ≤ 65536 by
          rw [HTS.out]
          intro y hy
          rcases List.mem_append.mp hy with hy | hy
          · exact HALL.out y hy
          · rw [List.mem_singleton.mp hy]; omega)
        generalize x.length = lx at *
        go_wp2
        go_roundw
        case rel => exact ⟨(by trivial), k + 1, by go_num, by omega, HA2.out⟩
        case measure => simp [RowKit.intOf]; omega
    · obtain rfl : k = n := by omega
      have hall : ∀ x ∈ ls, x.length ≤ 65536 := fun x hx => HALL.out x (by rw [List.take_of_length_le (by omega)]; exact hx)
      obtain ⟨q, hqL, hq2, hq3, hq4⟩ := tmod_k p k HN1.out
      have HQL := Lib.hid hqL
      have q1 : IntKind.i64.wrap (p.tmod k + k) = p.tmod k + k := by have := HN2.out; exact IntWalk.i64_in _ (by omega)
      have q1' : wrap64 (p.tmod k + k) = p.tmod k + k := by have := HN2.out; unfold wrap64; omega
      have hLz : (k : Int) ≠ 0 := by have := HN1.out; omega
      have HBN := Lib.hid (below_new wr (.cells #[.int .i64 q] 3))
      have HX1 := Lib.hid (Bx.new wr 3 #[.int .i64 q])
      have HF := Lib.hid (filled_any (wr.alloc (.cells #[.int .i64 q] 3)) A k C ls (HL.out.later HBN.out) (by have := HN2.out; omega) (some ⟨wr.heap.size, 0, none⟩) 1 1 [(q : Int)]
        ⟨rfl, fun z hz => by rw [List.mem_singleton.mp hz]; have := HN2.out; omega, wr.heap.size, 0, fun _ => ⟨rfl, HX1.out.lt⟩, fun i hi => by
          obtain rfl : i = 0 := by simpa using hi
          exact HX1.out.cell 0⟩ (by omega))
      have hLd : List.foldl dropL (fillL ls) [(q : Int)] = (ls.map some).set q none := by
        rw [fill_all hall]
        exact again_drop (by omega)
      rw [hLd] at HF
      have HALLX := Lib.hid hall
      clear hlt hall hk hq3 hq4 hLd
      go_wp2_with (go_at_call 15; refine HF.out.mono ?_; rintro _ w1 ⟨hb, S, rfl, ⟨mb, D, Lv, hh⟩, hS, hb1⟩; refine Hid.out ?_)
      have HB1 := Lib.hid (below_more HBN.out hb1)
      have HMB := Lib.hid (show wr.heap.size ≤ mb from Nat.le_trans HBN.out.size (hS _ hh.sm))
      have HLEN := Lib.hid (len_any hh)
      have hcnt : cntL ((ls.map some).set q none) + 1 = k := by
        rw [cntL_drop (ls.map some) q ls[q] (by rw [List.getElem?_map, List.getElem?_eq_getElem (by omega)]; rfl), cnt_map, hll]
      have HAD := Lib.hid (add_any hh (by simp; omega) ((HB.out.later HB1.out).up HB1.out.size) HM.out (d := c))
      rw [again_hole (by omega), again_put (by omega)] at HAD
      obtain ⟨c1, hc1⟩ : ∃ c1, cntL ((ls.map some).set q none) = c1 := ⟨_, rfl⟩
      rw [hc1] at hcnt HLEN
      have q5 : IntKind.i64.wrap ((k : Int) - 1) = (c1 : Int) := by have := HN2.out; rw [IntKind.wrap_i64]; omega
      have n0 : ((c1 : Int) != (c1 : Int)) = false := by simp
      have n1 : ((q : Int) != (q : Int)) = false := by simp
      have n2 : ((k : Int) != (k : Int)) = false := by simp
      have n3 : ((0 : Int) != 0) = false := by decide
      clear hh hS hb1 hc1 hcnt HF
      refine go_on ?_
      go_wp2_with (go_at_call 11; refine HLEN.out.mono ?_; rintro _ w2 ⟨rfl, hw2⟩; subst hw2; refine Hid.out ?_)
      refine go_on ?_
      go_wp2_with (go_at_call 8; refine HAD.out.mono ?_; rintro _ w3 ⟨rfl, ⟨S3, D3, Lv3, h3, hS3⟩, hg3⟩; refine Hid.out ?_)
      have HB3 := Lib.hid (below_turn HB1.out HB1.out.size hg3 HMB.out)
      have HLEN3 := Lib.hid (len_any h3)
      rw [cnt_map, List.length_set, hll] at HLEN3
      have HH3 := Lib.hid h3
      clear h3 hS3 hg3 HLEN HAD
      refine go_on ?_
      go_wp2_with (go_at_call 11; refine HLEN3.out.mono ?_; rintro _ w4 ⟨rfl, hw4⟩; subst hw4; refine Hid.out ?_)
      refine go_on ?_
      go_wp2
      generalize hwo : wr = wo at *
      have HWO := Lib.hid hwo
      clear hwo
      go_loopw [12] (fun i wx => ∃ j : Nat, i = .int .i64 j ∧ j ≤ k ∧ Below w4.heap.size w4 wx) (fun i _ => k - (RowKit.intOf i).toNat)
      case atStart => exact ⟨0, rfl, Nat.zero_le _, Below.refl _ _⟩
      case round =>
        obtain ⟨j, rfl, hj, hbx⟩ := hrel
        have HBX := Lib.hid hbx
        have HBO := Lib.hid (below_more HB3.out hbx)
        have HHX := Lib.hid (HH3.out.later hbx)
        clear hbx
        by_cases hlt : j < k
        · have hltz : (j : Int) < (k : Int) := by omega
          have hj0 : (0 : Int) ≤ (j : Int) := by omega
          obtain ⟨x, hx⟩ : ∃ x, (ls.set q bs)[j]? = some x := ⟨_, List.getElem?_eq_getElem (by simp; omega)⟩
          have HGT := Lib.hid (get_yes HHX.out (i := j) (x := x) (by rw [List.getElem?_map, hx]; rfl) (by have := HN2.out; omega))
          obtain ⟨ss, hss⟩ : ∃ ss, Ty9.strOf x = ss := ⟨_, rfl⟩
          have HSS := Lib.hid hss
          have n4 : (ss.toList != ss.toList) = false := by simp
          obtain ⟨b, o, fA, fC, e1, e2⟩ := HL.out.at_
          obtain ⟨hAe, hbl⟩ := e1 (by omega)
          subst hAe
          obtain ⟨d1, d2, d3, d4⟩ := e2 j (by omega)
          have HD1 := Lib.hid d1
          have HD4 := Lib.hid d4
          clear d1 d2 d3 d4 e1 e2
          by_cases hjq : j = q
          · subst hjq
            have hxb : x = bs := by
              rw [List.getElem?_set, if_pos rfl, if_pos (by omega)] at hx
              exact (Option.some.inj hx).symm
            have e1 : ((j : Int) == (j : Int)) = true := by simp
            have HXB := Lib.hid hxb
            clear hx hss hxb
            go_wp2_with (go_at_call 9; refine HGT.out.mono ?_; rintro _ w5 ⟨V5, rfl, hr5, hb5⟩; refine Hid.out ?_)
            obtain ⟨A5, C5, rfl, hy5⟩ := hr5.byt
            have hcv1 := conv_bytes hy5 C5
            have hcv2 := conv_bytes ((HB.out.later (below_more HBO.out hb5))) c
            have cj : w5.cell? ⟨b, o + j, none⟩ = some (.slice (fA j) ls[j].length (fC j)) := ((below_more HBO.out hb5).cell (p := ⟨b, o + j, none⟩) hbl).trans HD1.out
            generalize ls[j].length = lj at *
            rw [← HXB.out] at hcv2
            rw [HSS.out] at hcv1 hcv2
            generalize x.length = lx at *
            have HB5 := Lib.hid (below_more HBX.out hb5)
            clear hr5 hb5 hy5
            refine go_on ?_
            go_wp2
            go_roundw
            case rel => exact ⟨j + 1, by go_num, by omega, HB5.out⟩
            case measure => simp [RowKit.intOf]; omega
          · have hxb : x = ls[j] := by
              rw [List.getElem?_set, if_neg (fun e => hjq e.symm), List.getElem?_eq_getElem (by omega)] at hx
              exact (Option.some.inj hx).symm
            rw [← hxb] at HD1 HD4
            have e9 : ((j : Int) == (q : Int)) = false := beq_eq_false_iff_ne.mpr (by omega)
            clear hx hss hxb
            go_wp2_with (go_at_call 9; refine HGT.out.mono ?_; rintro _ w5 ⟨V5, rfl, hr5, hb5⟩; refine Hid.out ?_)
            obtain ⟨A5, C5, rfl, hy5⟩ := hr5.byt
            have hbo5 := below_more HBO.out hb5
            have hcv1 := conv_bytes hy5 C5
            have hcv2 := conv_bytes (HD4.out.later hbo5) (fC j)
            have cj : w5.cell? ⟨b, o + j, none⟩ = some (.slice (fA j) x.length (fC j)) := (hbo5.cell (p := ⟨b, o + j, none⟩) hbl).trans HD1.out
            rw [HSS.out] at hcv1 hcv2
            generalize x.length = lx at *
            have HB5 := Lib.hid (below_more HBX.out hb5)
            clear hr5 hb5 hy5 hbo5
            refine go_on ?_
            go_wp2
            go_roundw
            case rel => exact ⟨j + 1, by go_num, by omega, HB5.out⟩
            case measure => simp [RowKit.intOf]; omega
        · obtain rfl : j = k := by omega
          have HLX := Lib.hid (lives6_any wr (HGS.out.later HBO.out (Nat.le_refl _)))
          go_wp2_with (go_at_call 14; refine HLX.out.mono ?_; rintro _ w9 ⟨rfl, hb⟩; refine Hid.out ?_)
          have HB9 := Lib.hid (below_more HBO.out hb)
          clear hb
          refine go_on ?_
          go_wp2
          go_ret
          exact ⟨rfl, by have h := HB9.out; rw [← HWO.out] at h; exact h⟩
end Go.Proofs.YtpajimkebnfneaaDoor.X5
