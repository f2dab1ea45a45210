/- The law HeaderLoads, the walk. -/
import Derived.Test.YtcgapkepbnbabaaDoorQl
namespace Go.Proofs.YtcgapkepbnbabaaDoor.X5
set_option linter.unusedVariables false
set_option linter.unusedSimpArgs false
open Go.RowKit Wd Ty9

theorem u8_next8 (v : Nat) : ∃ v2 : Nat, v2 < 256 ∧ IntKind.u8.wrap ((v : Int) + 1) = (v2 : Int) := by
  refine ⟨(v + 1) % 256, Nat.mod_lt _ (by omega), ?_⟩
  simp [IntKind.wrap, IntKind.bits, IntKind.signed]
theorem chain_used {b : List Nat} {u : List Xt} {a : List Nat} {x : Xt} {r : Int × List Nat × List Xt} (h : Chain b u a x r) : (∀ y ∈ u, wideP y ∧ y.1 + y.2 ≤ (b.length : Int)) → noMeet (u ++ [x]) → wideP x → r.2.2.length * 17 ≤ b.length := by
  have key : ∀ (v : List Xt) (z : Xt), (∀ y ∈ v, wideP y ∧ y.1 + y.2 ≤ (b.length : Int)) → wideP z → z.1 + z.2 ≤ (b.length : Int) → ∀ y ∈ v ++ [z], wideP y ∧ y.1 + y.2 ≤ (b.length : Int) := by
    intro v z hv hz hz2 y hy
    rcases List.mem_append.mp hy with hy | hy
    · exact hv y hy
    · obtain rfl := List.mem_singleton.mp hy
      exact ⟨hz, hz2⟩
  induction h with
  | short h => intro _ _ _; simp
  | bad h k => intro _ _ _; simp
  | last h k =>
    intro hu hn hw
    have h1 := key _ _ hu hw h
    have h2 := tot_le hn h1
    have h3 := tot_len _ (fun y hy => (h1 y hy).1)
    simp only
    omega
  | stop h k n e => intro _ _ _; simp
  | more h k n e _ ih =>
    intro hu hn hw
    exact ih (key _ _ hu hw h) e.2.2 e.2.1
theorem load_used {b : List Nat} {x : Xt} {z : Int} {l : List Mg} {used : List Xt} (h : IsLoad8 b x z l used) : used.length * 17 ≤ b.length := by
  rcases h with ⟨_, _, _, rfl⟩ | ⟨hw, r, hc, h⟩
  · simp
  · have h1 := chain_used hc (fun y hy => absurd hy List.not_mem_nil) (by simp [noMeet]) hw
    rcases h with ⟨_, _, _, rfl⟩ | ⟨_, ⟨_, _, _, rfl⟩ | ⟨_, _, rfl⟩⟩
    · simp
    · simp
    · exact h1

set_option maxHeartbeats 8000000 in
set_option maxRecDepth 100000 in
theorem loads_walk (w : World) (hG : Gs w) (A : Option Addr) (n C : Nat) (bs : List Nat) (hn : n ≤ 140737488355328) (hc : n ≤ C) (h : Byt w w.heap.size A n bs) (x : Xt) :
    Calls Tryd.prog 6 #[.slice A n C, .agg #[.int .i64 x.1, .int .i64 x.2]] w fun e w' => e = .returned (.bool true) ∧ Below w.heap.size w w' := by
  obtain ⟨xa, xs⟩ := x
  have HG := Lib.hid hG
  have HLV := Lib.hid lives8_any
  have HB := Lib.hid h
  have HL := Lib.hid h.len
  have HC := Lib.hid hc
  have HBN := Lib.hid (below_new w (.cells #[.int .i64 xa, .int .i64 xs] 49))
  have HBX := Lib.hid (Bx.new w 49 #[.int .i64 xa, .int .i64 xs])
  clear h hG hc
  simp only
  go_enter Tryd.func6, Tryd.ntmps6
  by_cases hbig : 5000 < n
  · have z1 : (5000 : Int) < (n : Int) := by omega
    have HLV1 := Lib.hid (HLV.out _ (HG.out.later HBN.out (Nat.le_refl _)))
    clear hbig
    go_wp2_with (go_at_call 10; refine HLV1.out.mono ?_; rintro _ w2 ⟨rfl, hb⟩; refine Hid.out ?_)
    have HB2 := Lib.hid (below_more HBN.out hb)
    clear hb
    refine go_on ?_
    go_wp2
    go_ret
    exact ⟨rfl, HB2.out⟩
  · have z1 : ¬ (5000 : Int) < (n : Int) := by omega
    have HN := Lib.hid (show n ≤ 5000 by omega)
    clear hbig hn
    go_upto_region 3 with fail
    generalize hw1 : w.alloc (.cells #[.int .i64 xa, .int .i64 xs] 49) = w1 at *
    have HR1 := Lib.hid (RowB.lit w1 [] (fun x h => absurd h (List.not_mem_nil)) (by simp) (Nat.le_refl w1.heap.size))
    have HA1 := Lib.hid (below_new w1 (.cells (by8 []).toArray 5))
    have HBA := Lib.hid (HB.out.later (HBN.out.trans (HA1.out.mono HBN.out.size)))
    have HW1 := Lib.hid hw1
    clear hw1
    go_wp2_with (at_builtin; refine wp_rowb rfl (.tmp 18) (.tmp 19) rfl w1.heap.size n C _ [] bs A w.heap.size rfl rfl HR1.out HBA.out (by have := HN.out; show 0 + n ≤ _; omega) HA1.out.size ?_; intro V2 w2 hrow2 hb2; refine Hid.out ?_)
    rw [List.nil_append] at hrow2
    have HB2 := Lib.hid (HA1.out.trans hb2)
    obtain ⟨A2, C2, hV⟩ := own_form hrow2.own
    rw [HL.out] at hV
    subst hV
    have HR2 := Lib.hid (hrow2.below (below_new w2 (.cells (by8 [90]).toArray 5)))
    have HY2 := Lib.hid (Byt.lit w2 [90] (by decide))
    have HA2 := Lib.hid (below_new w2 (.cells (by8 [90]).toArray 5))
    clear hrow2 hb2 HR1 HA1 HBA
    refine go_on ?_
    go_wp2_with (at_builtin; refine wp_rowb rfl (.tmp 20) (.tmp 21) rfl w1.heap.size 1 1 _ bs [90] (some ⟨w2.heap.size, 0, none⟩) _ rfl rfl HR2.out HY2.out (by have h1 := HN.out; have h2 := HL.out; omega) (Nat.le_trans HB2.out.size HA2.out.size) ?_; intro V3 w3 hrow3 hb3; refine Hid.out ?_)
    have HB3 := Lib.hid (HB2.out.trans ((HA2.out.mono HB2.out.size).trans hb3))
    obtain ⟨A5, C5, hV, hc5, hby5⟩ := rowb_cap hrow3
    have hl3 : (bs ++ [90]).length = n + 1 := by rw [List.length_append, HL.out]; rfl
    rw [hl3] at hV hc5 hby5
    subst hV
    have HY5 := Lib.hid hby5
    have HB30 := Lib.hid (HBN.out.trans (HB3.out.mono HBN.out.size))
    have HYP := Lib.hid (show Byt w3 w3.heap.size A5 n bs by
      have h1 := byt_pre hby5 (k := n) (by omega)
      rw [List.take_append_of_le_length (by rw [HL.out]; exact Nat.le_refl _), List.take_of_length_le (by rw [HL.out]; exact Nat.le_refl _)] at h1
      exact h1)
    have HX3 := Lib.hid (HBX.out.later HB3.out HBX.out.lt)
    have HLD := Lib.hid (fun (W : World) (hbe : Below w3.heap.size w3 W) => load8_all A5 n C5 xa xs bs W (by have := HN.out; omega) (by omega) ((HYP.out.later hbe).up hbe.size) (HG.out.later (below_more HB30.out hbe) (Nat.le_refl _)))
    have c0 := HX3.out.cell 0
    have c1 := HX3.out.cell 1
    have k1 : (n : Int) ≤ (C5 : Int) := by omega
    have k2 : (0 : Int) ≤ (n : Int) := by omega
    clear hrow3 hb3 hc5 hby5 hl3 HR2 HY2 HA2
    refine go_on ?_
    go_upto_region 4 with fail
    go_region_held3 (fun w' => w'.cell? ⟨w.heap.size, 0, none⟩ = some (.int .i64 xa) ∧ w'.cell? ⟨w.heap.size, 1, none⟩ = some (.int .i64 xs))
      (first
        | (with_reducible exact ⟨d0, d1⟩)
        | (with_reducible exact ⟨c0, c1⟩)
        | go_keep)
      (first
        | (go_at_call 21; refine (HLD.out _ ((Below.refl _ _).drew)).mono ?_; (first | rintro _ w4 ⟨Vl, Vu, z, l, used, rfl, his, hon, how, hll⟩ | rintro _ w4 ⟨Vl, Vu, z, rfl, l, used, his, hon, how, hll⟩ | rintro _ w4 ⟨Vl, Vu, z, l, rfl, used, his, hon, how, hll⟩); have HIS := Lib.hid his; have HON4 := Lib.hid (hon.base ((Below.refl w3.heap.size w3).drew)); have HUS4 := Lib.hid how; have HLN := Lib.hid hll; have HB43 := Lib.hid (show Below w3.heap.size w3 w4 from below_more ((Below.refl w3.heap.size w3).drew) hon.be); have HX4 := Lib.hid (HX3.out.later HB43.out HX3.out.lt); have d0 := HX4.out.cell 0; have d1 := HX4.out.cell 1; clear his hon how hll))
    obtain ⟨A6, C6, hV⟩ := HON4.out.form
    subst hV
    obtain ⟨A7, C7, hV, -, hex, -⟩ := own_ex HUS4.out.own
    subst hV
    have HEX := Lib.hid hex
    have HB4 := Lib.hid (HB30.out.trans (HB43.out.mono HB30.out.size))
    have HLR := Lib.hid (rload8_all A n C xa xs bs w4 (by have := HN.out; omega) HC.out ((HB.out.later HB4.out).up HB4.out.size))
    obtain ⟨k, hk⟩ : ∃ k, l.length = k := ⟨_, rfl⟩
    obtain ⟨m, hm⟩ : ∃ m, used.length = m := ⟨_, rfl⟩
    rw [hk] at HON4
    rw [hm] at hex
    rw [hk, hm]
    have HK := Lib.hid hk
    have HMU := Lib.hid hm
    rw [hm] at HEX
    clear c0 c1 k1 k2 HLD hex hk hm HUS4
    go_wp2_with (go_at_call 22; refine HLR.out.mono ?_; rintro _ w5 ⟨Al, nl, Cl, Au, nu, Cu, z2, l2, used2, rfl, his, hms, hex2, hb5⟩; refine Hid.out ?_)
    obtain ⟨rfl, rfl, rfl⟩ := his.uniq HIS.out
    have hl1 := hms.len
    have hl2 := hex2.len
    rw [HK.out] at hl1
    rw [HMU.out] at hl2
    subst hl1 hl2
    have HON5 := Lib.hid (HON4.out.below hb5)
    have HMS5 := Lib.hid hms
    have HEX5 := Lib.hid hex2
    have HB54 := Lib.hid hb5
    have HEXX := Lib.hid (HEX.out.later hb5 (Nat.le_refl _))
    have HKB := Lib.hid (show k ≤ 65536 by have := HLN.out; rw [HK.out] at this; exact this)
    have HB53 := Lib.hid (below_more HB43.out hb5)
    have HB5 := Lib.hid (HB30.out.trans (HB53.out.mono HB30.out.size))
    have HSM := Lib.hid (sameMsgs_yes A6 Al k C6 Cl l2 w5 (by have := HKB.out; omega) (HON5.out.om.ms HK.out) HMS5.out)
    clear his hms hex2 hb5 d0 d1 HLR
    refine go_on ?_
    go_wp2_with (go_at_call 19; refine HSM.out.mono ?_; rintro _ w6 ⟨rfl, hb⟩; refine Hid.out ?_)
    have HB64 := Lib.hid (below_more HB54.out hb)
    have HB6 := Lib.hid (below_more HB5.out hb)
    have HON6 := Lib.hid (HON5.out.below hb)
    have HSP := Lib.hid (show Calls Tryd.prog 20 #[.slice A7 m C7, .slice Au m Cu] w6 (fun e w' => e = .returned (.bool true) ∧ Below w6.heap.size w6 w') from
      (samePlaces_any A7 Au m m C7 Cu _ _ _ _ used2 used2 w6 (by have h1 := load_used HIS.out; have h2 := HMU.out; have h3 := HN.out; have h4 := HL.out; omega) (HEXX.out.later hb HB54.out.size) (Nat.le_trans HB54.out.size hb.size) (HEX5.out.later hb (Nat.le_refl _)) hb.size).mono fun e w' ⟨h1, h2⟩ => ⟨by rw [h1]; simp, h2⟩)
    clear hb HSM
    refine go_on ?_
    go_wp2_with (go_at_call 20; refine HSP.out.mono ?_; rintro _ w7 ⟨rfl, hb⟩; refine Hid.out ?_)
    have HB74 := Lib.hid (below_more HB64.out hb)
    have HB73 := Lib.hid (HB43.out.trans (HB74.out.mono HB43.out.size))
    have HB7 := Lib.hid (below_more HB6.out hb)
    have HON7 := Lib.hid (HON6.out.below hb)
    have hcv1 := conv_bytes ((HY5.out.later HB73.out)) C5
    have hcv2 := conv_bytes ((HB.out.later HB7.out)) C
    have n1 : (z2 != z2) = false := by simp
    have n2 : (z2 == z2) = true := by simp
    rw [strOf_app, show strOf [90] = (⟨#[90]⟩ : ByteArray) from rfl] at hcv1
    obtain ⟨ss, hss⟩ : ∃ ss, strOf bs = ss := ⟨_, rfl⟩
    have HSS := Lib.hid hss
    rw [hss] at hcv1 hcv2
    have zs : ((ss ++ (⟨#[90]⟩ : ByteArray)).toList != (ss ++ (⟨#[90]⟩ : ByteArray)).toList) = false := by simp
    have zs2 : ((ss ++ (⟨#[90]⟩ : ByteArray)).toList == (ss ++ (⟨#[90]⟩ : ByteArray)).toList) = true := by simp
    have hsz : ¬ (9223372036854775807 < ss.size + 1) := by
      have h1 : ss.size = bs.length := by rw [← hss]; simp [strOf, ByteArray.size]
      have h2 := HL.out
      have h3 := HN.out
      omega
    have HSZ := Lib.hid hsz
    clear hb HSP hss
    refine go_on ?_
    go_wp2
    clear hcv1 hcv2 hsz
    go_loopw [12] (fun i wr => ∃ (q : Nat), i = .int .i64 q ∧ q ≤ k ∧ ∃ ls : List Mg, ls.length = k ∧ On 56 w3 (.slice A6 k C6) ls wr) (fun i _ => k - (intOf i).toNat)
    case atStart => exact ⟨0, rfl, Nat.zero_le _, _, HK.out, HON7.out⟩
    case round =>
      obtain ⟨q, rfl, hq, ls, hls, hon⟩ := hrel
      have HKB2 := HKB.out
      by_cases hlt : q < k
      · have hltz : (q : Int) < (k : Int) := by omega
        obtain ⟨x, hx⟩ : ∃ x, ls[q]? = some x := ⟨_, List.getElem?_eq_getElem (by omega)⟩
        have HST := Lib.hid (show ∃ ls : List Mg, ls.length = k ∧ (∃ y, ls[q]? = some y ∧ y.2.length = x.2.length) ∧ On 56 w3 (.slice A6 k C6) ls wr from ⟨ls, hls, ⟨x, hx, rfl⟩, hon⟩)
        clear hon hls
        generalize x.2.length = L at HST
        clear hx
        generalize wr = wo at *
        go_wp2
        go_loopw [13] (fun i wr => ∃ (p : Nat), i = .int .i64 p ∧ p ≤ L ∧ (∃ ls : List Mg, ls.length = k ∧ (∃ y, ls[q]? = some y ∧ y.2.length = L) ∧ On 56 w3 (.slice A6 k C6) ls wr)) (fun i _ => L - (intOf i).toNat)
        case atStart => exact ⟨0, rfl, Nat.zero_le _, HST.out⟩
        case round =>
          obtain ⟨p, rfl, hp, ls2, hls2, ⟨y, hy, hyL⟩, hon2⟩ := hrel
          have HLS2 := Lib.hid hls2
          have HYL := Lib.hid hyL
          have HY := Lib.hid hy
          have HON2 := Lib.hid hon2
          clear HST hls2
          obtain ⟨b, ci, Ai, rfl, c0, c1, hci, hmx, hrow, hset⟩ := hon2.open_ hy
          rw [hyL] at c1 hci hmx
          have HSET := Lib.hid hset
          have hown := hrow.own
          rw [hyL] at hown
          clear hset hon2 hyL c0 hy hrow
          by_cases hlt2 : p < L
          · have hltz2 : (p : Int) < (L : Int) := by omega
            obtain ⟨g, cg, hV, hg1, hg2⟩ := hown.form (by omega)
            injection hV with e1 e2 e3
            subst e1
            obtain ⟨v, hv⟩ : ∃ v, y.2[p]? = some v := ⟨_, List.getElem?_eq_getElem (by have := HYL.out; omega)⟩
            have cv : wr.cell? ⟨g, p, none⟩ = some (.int .u8 (v : Int)) := by
              rw [hown.cellAt p (by omega)]
              simp [by8, hv]
            have cf : wr.frozen? ⟨g, p, none⟩ = false := hown.frozenAt p
            obtain ⟨v2, hv2, hvw⟩ := u8_next8 v
            have HV2 := Lib.hid hv2
            clear hv hv2 hown e2 e3 hg1 hg2
            go_upto_region 14 with fail
            go_still_tail 16, (by kernel_rfl)
            change wpList _ _ _ _ _ wr.drew
            have HSD := Lib.hid (show ∃ ls : List Mg, ls.length = k ∧ (∃ y, ls[q]? = some y ∧ y.2.length = L) ∧ On 56 w3 (.slice (some ⟨b, 0, none⟩) k C6) ls (wr.drew.setCell ⟨g, p, none⟩ (.int .u8 (v2 : Int))) by
              obtain ⟨out', h1, h2, h3⟩ := HSET.out g rfl p v2 HV2.out
              obtain ⟨y', h4, h5⟩ := h2 q y HY.out
              exact ⟨out', h1.trans HLS2.out, ⟨y', h4, h5.trans HYL.out⟩, h3.below ((Below.refl _ _).drew)⟩)
            have cvd : wr.drew.cell? ⟨g, p, none⟩ = some (.int .u8 (v : Int)) := cv
            have cfd : wr.drew.frozen? ⟨g, p, none⟩ = false := cf
            clear cv cf c1
            go_wp2
            go_roundw
            case rel => exact ⟨p + 1, by go_num, by omega, HSD.out⟩
            case measure => simp [intOf]; omega
          · obtain rfl : p = L := by omega
            clear hown
            go_wp2
            go_roundw
            case rel => exact ⟨q + 1, by go_num, by omega, ls2, HLS2.out, HON2.out⟩
            case measure => simp [intOf]; omega
      · obtain rfl : q = k := by omega
        have HBW3 := Lib.hid hon.be
        have HBW := Lib.hid (HB30.out.trans (hon.be.mono HB30.out.size))
        have hcv1 := conv_bytes ((HY5.out.later HBW3.out)) C5
        have hcv2 := conv_bytes ((HB.out.later HBW.out)) C
        rw [strOf_app, show strOf [90] = (⟨#[90]⟩ : ByteArray) from rfl] at hcv1
        rw [HSS.out] at hcv1 hcv2
        have hsz := HSZ.out
        have HLV8 := Lib.hid (HLV.out wr (HG.out.later HBW.out (Nat.le_refl _)))
        clear hon hls
        go_wp2_with (go_at_call 10; refine HLV8.out.mono ?_; rintro _ w8 ⟨rfl, hb⟩; refine Hid.out ?_)
        have HB8 := Lib.hid (below_more HBW.out hb)
        clear hb
        refine go_on ?_
        go_wp2
        go_ret
        exact ⟨rfl, HB8.out⟩
end Go.Proofs.YtcgapkepbnbabaaDoor.X5
