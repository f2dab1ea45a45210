/- The law HeaderTurned. -/
import Derived.Test.YtcgapkepbnbabaaDoorRba
namespace Go.Proofs.YtcgapkepbnbabaaDoor.X5
set_option linter.unusedVariables false
set_option linter.unusedSimpArgs false
open Go.RowKit Wd Ty9

theorem streamM_lt {l : List Mg} (h : ∀ y ∈ l, ∀ x ∈ y.2, x < 256) : ∀ x ∈ streamM l, x < 256 := by
  refine lt_app (digs_lt _ _ _) ?_
  intro x hx
  obtain ⟨y, hy, hxy⟩ := List.mem_flatMap.mp hx
  exact lt_app (digs_lt _ _ _) (lt_app (digs_lt _ _ _) (h y hy)) x hxy
theorem turn_get {out : List Mg} {k p v : Nat} {y : Mg} (hy : out[k]? = some y) {i : Nat} {z : Mg} (hz : (turnM out k p v y)[i]? = some z) : ∃ z0, out[i]? = some z0 ∧ z.1 = z0.1 ∧ z.2.length = z0.2.length := by
  unfold turnM at hz
  by_cases hi : i = k
  · subst hi
    rw [List.getElem?_set_self (List.getElem?_eq_some_iff.mp hy).1] at hz
    obtain rfl := Option.some.inj hz
    exact ⟨y, hy, rfl, List.length_set ..⟩
  · rw [List.getElem?_set_ne (Ne.symm hi)] at hz
    exact ⟨z, hz, rfl, rfl⟩
theorem turn_disj {out : List Mg} {k p v : Nat} {y : Mg} (hy : out[k]? = some y) (hd : Disj out) : Disj (turnM out k p v y) := by
  unfold Disj
  rw [List.pairwise_iff_getElem]
  intro i j hi hj hij
  obtain ⟨a, a1, a2, a3⟩ := turn_get hy (List.getElem?_eq_getElem hi)
  obtain ⟨b, b1, b2, b3⟩ := turn_get hy (List.getElem?_eq_getElem hj)
  obtain ⟨g1, g2⟩ := List.getElem?_eq_some_iff.mp a1
  obtain ⟨k1, k2⟩ := List.getElem?_eq_some_iff.mp b1
  have h := List.pairwise_iff_getElem.mp hd i j g1 k1 hij
  rw [g2, k2] at h
  rw [a2, a3, b2, b3]
  exact h
theorem turn_at {l : List Mg} {room : List Xt} {out : List Mg} (h : IsLay l room 0 out) {k p v : Nat} {y : Mg} (hy : out[k]? = some y) {i : Nat} {z : Mg} (hz : (turnM out k p v y)[i]? = some z) : ∃ x, room[i]? = some x ∧ z.1 = x.1 ∧ (z.2.length : Int) = x.2 ∧ wideP x := by
  obtain ⟨z0, a1, a2, a3⟩ := turn_get hy hz
  obtain ⟨x, e1, e2, e3, e4⟩ := laid_at h a1
  exact ⟨x, e1, a2.trans e2, by rw [a3]; exact e3, e4⟩
theorem u8_of (z : Int) : ∃ bv : Nat, bv < 256 ∧ IntKind.u8.wrap z = (bv : Int) ∧ (bv = 0 ↔ z.tmod 256 = 0) := by
  refine ⟨(z % 256).toNat, by omega, ?_, ?_⟩
  · simp [IntKind.wrap, IntKind.bits, IntKind.signed]
    omega
  · have h1 : z.tmod 256 = 0 ↔ z % 256 = 0 := ⟨fun h => Int.emod_eq_zero_of_dvd (Int.dvd_of_tmod_eq_zero h), fun h => Int.tmod_eq_zero_of_dvd (Int.dvd_of_emod_eq_zero h)⟩
    rw [h1]
    omega

set_option maxHeartbeats 8000000 in
set_option maxRecDepth 100000 in
theorem turned_walk (w : World) (hG : Gs w) (A : Option Addr) (n C : Nat) (l : List Mg) (hn : (n + 1) * 32 ≤ 140737488355328) (hA : A = none → C = 0) (h : Ms w w.heap.size A n l)
    (Ar : Option Addr) (nr Cr : Nat) (room : List Xt) (hnr : (nr + 1) * 16 ≤ 140737488355328) (hAr : Ar = none → Cr = 0) (hr : Ex w 0 w.heap.size Ar nr room) (x0 x1 x2 : Int) :
    Calls Tryd.prog 8 #[.slice A n C, .slice Ar nr Cr, .agg #[.int .i64 x0, .int .i64 x1, .int .i64 x2]] w fun e w' => e = .returned (.bool true) ∧ Below w.heap.size w w' := by
  have HG := Lib.hid hG
  have HLV := Lib.hid lives8_any
  have HM := Lib.hid h
  have HX := Lib.hid hr
  have HL := Lib.hid h.len
  have HRL := Lib.hid hr.len
  have HBN := Lib.hid (below_new w (.cells #[.int .i64 x0, .int .i64 x1, .int .i64 x2] 60))
  have HBX := Lib.hid (Bx.new w 60 #[.int .i64 x0, .int .i64 x1, .int .i64 x2])
  have HN := Lib.hid hn
  have HNR := Lib.hid hnr
  clear h hG hA hAr hr hn hnr
  go_enter Tryd.func8, Tryd.ntmps8
  go_upto_region 1 with fail
  have HH := Lib.hid (heavy_any A n C l Ar nr Cr 0 w.heap.size room (w.alloc (.cells #[.int .i64 x0, .int .i64 x1, .int .i64 x2] 60)) (by have := HN.out; omega) (by have := HNR.out; omega) ((HM.out.later HBN.out).up HBN.out.size) (HX.out.later HBN.out (Nat.le_refl _)) HBN.out.size)
  go_wp2_with (go_at_call 9; refine HH.out.mono ?_; rintro _ w1 ⟨⟨r, rfl⟩, hb⟩; refine Hid.out ?_)
  have HB1 := Lib.hid (below_more HBN.out hb)
  have HBX1 := Lib.hid (HBX.out.later hb HBX.out.lt)
  clear hb HH
  cases r
  case true =>
    have HLV1 := Lib.hid (HLV.out w1 (HG.out.later HB1.out (Nat.le_refl _)))
    refine go_on ?_
    go_wp2_with (go_at_call 10; refine HLV1.out.mono ?_; rintro _ w2 ⟨rfl, hb⟩; refine Hid.out ?_)
    have HB2 := Lib.hid (below_more HB1.out hb)
    clear hb
    refine go_on ?_
    go_wp2
    go_ret
    exact ⟨rfl, HB2.out⟩
  case false =>
    have HLY := Lib.hid (lay_own A n C l Ar nr Cr 0 w.heap.size room w1 (by have := HN.out; omega) (by have := HNR.out; omega) ((HM.out.later HB1.out).up HB1.out.size) (HX.out.later HB1.out (Nat.le_refl _)) HB1.out.size (HG.out.later HB1.out (Nat.le_refl _)))
    refine go_on ?_
    go_wp2_with (go_at_call 15; refine HLY.out.mono ?_; (first | rintro _ w2 ⟨A5, C5, k, z, out, rfl, hly, hlen, hob⟩ | rintro _ w2 ⟨A5, C5, k, z, rfl, out, hly, hlen, hob⟩); refine Hid.out ?_)
    have HIS := Lib.hid hly
    have HK := Lib.hid hlen
    have HOB := Lib.hid hob
    have HB2 := Lib.hid (below_more HB1.out hob.be)
    have HBX2 := Lib.hid (HBX1.out.later hob.be HBX1.out.lt)
    have HLV2 := Lib.hid (HLV.out w2 (HG.out.later HB2.out (Nat.le_refl _)))
    have HKB := Lib.hid (show k ≤ 8796093022208 by
      have h1 := lay_len hly
      have h2 := HNR.out
      rw [hlen, HRL.out] at h1
      omega)
    clear hly hlen hob HLY
    by_cases hz : z = 0
    · subst hz
      have HMS := Lib.hid (HOB.out.om.ms HK.out)
      have HSM := Lib.hid (small_any A5 k C5 out w2 (by have := HKB.out; omega) HMS.out)
      have HKP := Lib.hid (show 0 < k by have := laid_some HIS.out; rw [HK.out] at this; exact this)
      refine go_on ?_
      go_wp2_with (go_at_call 23; refine HSM.out.mono ?_; rintro _ w3 ⟨r, rfl, hsm, hb⟩; refine Hid.out ?_)
      have HSMR := hsm
      have HB32 := Lib.hid hb
      have HB3 := Lib.hid (below_more HB2.out hb)
      have HBX3 := Lib.hid (HBX2.out.later hb HBX2.out.lt)
      have HLV3 := Lib.hid (HLV.out w3 (HG.out.later HB3.out (Nat.le_refl _)))
      clear hsm hb HSM
      cases r
      case false =>
        have z1 : (0 : Int) < (k : Int) := by have := HKP.out; omega
        refine go_on ?_
        go_wp2_with (go_at_call 10; refine HLV3.out.mono ?_; rintro _ w4 ⟨rfl, hb⟩; refine Hid.out ?_)
        have HB4 := Lib.hid (below_more HB3.out hb)
        clear hb
        refine go_on ?_
        go_wp2
        go_ret
        exact ⟨rfl, HB4.out⟩
      case true =>
        have HSMP := Lib.hid (show smallP out by first | exact HSMR.out.mp rfl | exact HSMR.out.mp trivial | exact HSMR.out)
        have b0 := HBX3.out.cell 0
        have b1 := HBX3.out.cell 1
        have b2 := HBX3.out.cell 2
        obtain ⟨bv, hbv, hbw, hbz⟩ := u8_of x2
        by_cases hx2 : x2.tmod 256 = 0
        · have z2 : (x2.tmod 256 == 0) = true := by simpa using hx2
          clear hbv hbw hbz
          refine go_on ?_
          go_wp2_with (go_at_call 10; refine HLV3.out.mono ?_; rintro _ w4 ⟨rfl, hb⟩; refine Hid.out ?_)
          have HB4 := Lib.hid (below_more HB3.out hb)
          clear hb
          refine go_on ?_
          go_wp2
          go_ret
          exact ⟨rfl, HB4.out⟩
        · have z2 : (x2.tmod 256 == 0) = false := by simpa using hx2
          have HBV := Lib.hid (show bv ≠ 0 ∧ bv < 256 from ⟨fun e => hx2 (hbz.mp e), hbv⟩)
          clear hbz hbv
          have kp := HKP.out
          have kb := HKB.out
          obtain ⟨q, hqk, hq2, hq3, hq4⟩ := tmod_kh x0 k kp
          have Q1 := Lib.hid (show IntKind.i64.wrap (x0.tmod k + k) = x0.tmod k + k from IntWalk.i64_in _ (by omega))
          have Q1' := Lib.hid (show wrap64 (x0.tmod k + k) = x0.tmod k + k by unfold wrap64; omega)
          obtain ⟨y, hy⟩ : ∃ y, out[q]? = some y := ⟨_, List.getElem?_eq_getElem (by have := HK.out; omega)⟩
          have hy17 := (HSMP.out.2 y (List.mem_of_getElem? hy)).2.2
          obtain ⟨b, g, ci, rfl, hbw3, hg0, hg1, hgb, c0, c1, hci, hmx, hrow, hset⟩ := (HOB.out.below HB32.out).open_ hy
          obtain ⟨L, hL⟩ : ∃ L, y.2.length = L := ⟨_, rfl⟩
          rw [hL] at c1 hci hmx hy17
          have HYL := Lib.hid hL
          have HY := Lib.hid hy
          have HSET := Lib.hid hset
          obtain ⟨p, hpL, hp2, hp3, hp4⟩ := tmod_kh x1 L (by omega)
          have P1 := Lib.hid (show IntKind.i64.wrap (x1.tmod L + L) = x1.tmod L + L from IntWalk.i64_in _ (by omega))
          have P1' := Lib.hid (show wrap64 (x1.tmod L + L) = x1.tmod L + L by unfold wrap64; omega)
          obtain ⟨uv, huv⟩ : ∃ uv, y.2[p]? = some uv := ⟨_, List.getElem?_eq_getElem (by omega)⟩
          have hown := hrow.own
          rw [hL] at hown
          have cv : w3.cell? ⟨g, p, none⟩ = some (.int .u8 (uv : Int)) := by
            rw [hown.cellAt p (by omega)]
            simp [by8, huv]
          have cf : w3.frozen? ⟨g, p, none⟩ = false := hown.frozenAt p
          have hu8 := hrow.lt uv (List.mem_of_getElem? huv)
          have hxo := bxor8h uv bv hu8 HBV.out.2
          have hxc : uv ^^^ bv < 256 := Nat.xor_lt_two_pow (n := 8) (by omega) (by have := HBV.out.2; omega)
          have HXN := Lib.hid (show ∀ u, y.2[p]? = some u → uv ^^^ bv ≠ u from fun u hu => by rw [huv] at hu; obtain rfl := Option.some.inj hu; exact xor_neh HBV.out.1)
          obtain ⟨v, hv⟩ : ∃ v, uv ^^^ bv = v := ⟨_, rfl⟩
          rw [hv] at hxo hxc HXN
          have HVC := Lib.hid hxc
          have HPL := Lib.hid hpL
          have HG0 := Lib.hid (show w.heap.size ≤ g from Nat.le_trans HB1.out.size hg0)
          have qk : (q : Int) < (k : Int) := by omega
          have pL : (p : Int) < (L : Int) := by omega
          have q0 : (0 : Int) ≤ (q : Int) := by omega
          have kz : ¬ (k : Int) = 0 := by omega
          have kz2 : ((k : Int) == 0) = false := by simp; omega
          have kz3 : ¬ k = 0 := by omega
          have lz : ¬ (L : Int) = 0 := by omega
          have lz2 : ((L : Int) == 0) = false := by simp; omega
          have lz3 : ¬ L = 0 := by omega
          have s1 := Q1.out
          have s1' := Q1'.out
          have s2 := P1.out
          have s2' := P1'.out
          clear hx2 hset hrow hown hy huv hv hu8 hxc hq3 hq4 hp3 hp4 hg0 hgb hL
          refine go_on ?_
          go_upto_region 11 with fail
          go_still_tail 19, (by kernel_rfl)
          change wpList _ _ _ _ _ w3.drew
          have HOB4 := Lib.hid (show Ob 47 w1 (.slice (some ⟨b, 0, none⟩) k C5) (turnM out q p v y) w2.heap.size ((w3.setCell ⟨g, p, none⟩ (.int .u8 (v : Int))).drew) from (HSET.out p v HVC.out).below ((Below.refl _ _).drew))
          have HB4 := Lib.hid (show Below w.heap.size w ((w3.setCell ⟨g, p, none⟩ (.int .u8 (v : Int))).drew) from (HB3.out.setCell (p := ⟨g, p, none⟩) HG0.out (.int .u8 (v : Int))).drew)
          have cvd : w3.drew.cell? ⟨g, p, none⟩ = some (.int .u8 (uv : Int)) := cv
          have cfd : w3.drew.frozen? ⟨g, p, none⟩ = false := cf
          clear cv cf c0 c1 s1 s1' s2 s2' hq2 hp2
          go_upto_region 12 with fail
          clear cvd cfd b0 b1 b2
          have HTL := Lib.hid (show (turnM out q p v y).length = k by unfold turnM; rw [List.length_set]; exact HK.out)
          obtain ⟨y0, hy0⟩ : ∃ y0, (turnM out q p v y)[0]? = some y0 := ⟨_, List.getElem?_eq_getElem (by have h1 := HTL.out; have h2 := HKP.out; omega)⟩
          obtain ⟨x0', hx0, e1, e2, e3⟩ := turn_at HIS.out HY.out hy0
          obtain ⟨b', g', ci', e, hbw', -, -, -, c0, c1, -, -, -, -⟩ := HOB4.out.open_ hy0
          cases e
          simp only [Nat.zero_mul, Nat.zero_add] at c0 c1
          have HBW := Lib.hid hbw'
          have HMS4 := Lib.hid (HOB4.out.om.ms HTL.out)
          have HDJ := Lib.hid (turn_disj (p := p) (v := v) HY.out (laid_disj HIS.out))
          have hsml : ∀ z ∈ turnM out q p v y, 0 ≤ z.1 ∧ z.1 ≤ 4194304 ∧ z.2.length ≤ 4194304 ∧ 1 ≤ z.2.length := fun z hz => by
            obtain ⟨i, hi, rfl⟩ := List.getElem_of_mem hz
            obtain ⟨x, f1, f2, f3, f4⟩ := turn_at HIS.out HY.out (List.getElem?_eq_getElem hi)
            unfold wideP at f4
            omega
          have HSML := Lib.hid hsml
          have hend : endM (turnM out q p v y) ≤ 4194304 := end_bound (fun z hz => by
            obtain ⟨i, hi, rfl⟩ := List.getElem_of_mem hz
            obtain ⟨x, f1, f2, f3, f4⟩ := turn_at HIS.out HY.out (List.getElem?_eq_getElem hi)
            unfold wideP at f4
            omega)
          have hendp : 0 < endM (turnM out q p v y) := by
            have h1 := end_le (List.mem_of_getElem? hy0)
            have h2 := (hsml y0 (List.mem_of_getElem? hy0)).2.2.2
            omega
          have HFN := Lib.hid (show (fileL (turnM out q p v y)).length = endM (turnM out q p v y) by
            unfold fileL
            rw [fold_len _ _ (fun y hy => by rw [List.length_replicate]; exact end_le hy), List.length_replicate])
          have HLOAD := Lib.hid (show IsLoad8 (fileL (turnM out q p v y)) (y0.1, (y0.2.length : Int)) 5 [] [] by
            obtain ⟨h1, h2, h3, h4, h5⟩ := laid_of HIS.out
            have hh := file_holds (fun z hz => (HSML.out z hz).1) HDJ.out
            have hx : (y0.1, (y0.2.length : Int)) = x0' := by rw [e1, e2]
            rw [hx]
            have hyy := HY.out
            rw [h5] at hyy hh
            rw [h5]
            exact load_turned h2 h3 (by rw [stream_len]; exact h4) (streamM_lt (ms_lt HM.out)) hyy (by rw [HYL.out]; exact HPL.out) HVC.out HXN.out hh hx0)
          generalize (w3.setCell ⟨g, p, none⟩ (.int .u8 (v : Int))).drew = w4 at *
          have HFL := Lib.hid (fun (W : World) (hbe : Below w4.heap.size w4 W) => file_any (some ⟨b, 0, none⟩) k C5 (turnM out q p v y) W (by have := HKB.out; omega) ((HMS4.out.later hbe).up hbe.size) HSML.out hendp (file_lt (ms_lt HMS4.out)))
          obtain ⟨fb, hfb⟩ : ∃ fb, fileL (turnM out q p v y) = fb := ⟨_, rfl⟩
          obtain ⟨fn, hfn⟩ : ∃ fn, fb.length = fn := ⟨_, rfl⟩
          have HFB := Lib.hid (show fn ≤ 4194304 by have h1 := HFN.out; rw [hfb, hfn] at h1; omega)
          rw [hfb] at HLOAD HFL
          rw [hfn] at HFL
          obtain ⟨ya, yb⟩ := y0
          obtain ⟨yl, hyl⟩ : ∃ yl, yb.length = yl := ⟨_, rfl⟩
          simp only at c0 c1 HLOAD
          rw [hyl] at c1 HLOAD
          have hk1 : 0 < k := HKP.out
          have hk2 : decide (0 < k) = true := by simpa using HKP.out
          have hk0 : (0 : Int) < (k : Int) := by omega
          clear hy0 hx0 e1 e2 e3 hend hendp hbw' HFN hfb hfn hyl hsml HDJ HSML
          go_region_held3 (fun w' => w'.cell? ⟨b, 0, none⟩ = some (.int .i64 ya) ∧ w'.cell? ⟨b, 1, none⟩ = some (.slice (some ⟨g', 0, none⟩) yl ci'))
            (first
              | (with_reducible exact ⟨d0, d1⟩)
              | (with_reducible exact ⟨a0, a1⟩)
              | (with_reducible exact ⟨c0, c1⟩)
              | go_keep)
            (first
              | (go_at_call 24; refine (HFL.out _ ((Below.refl _ _).drew)).mono ?_; rintro _ w5 ⟨gf, rfl, hby, hb⟩; have HB54 := Lib.hid (show Below w4.heap.size w4 w5 from below_more ((Below.refl _ _).drew) hb); have a0 := (HB54.out.cell (p := ⟨b, 0, none⟩) HBW.out).trans c0; have a1 := (HB54.out.cell (p := ⟨b, 1, none⟩) HBW.out).trans c1; have HLD := Lib.hid (load8_all (some ⟨gf, 0, none⟩) fn fn ya yl fb w5 HFB.out (Nat.le_refl _) hby (HG.out.later (below_more HB4.out HB54.out) (Nat.le_refl _))); clear hby hb)
              | (go_at_call 21; refine HLD.out.mono ?_; (first | rintro _ w6 ⟨Vl, Vu, z, l2, used, rfl, his, hon, how, hll⟩ | rintro _ w6 ⟨Vl, Vu, z, rfl, l2, used, his, hon, how, hll⟩ | rintro _ w6 ⟨Vl, Vu, z, l2, rfl, used, his, hon, how, hll⟩); have HIL := Lib.hid his; have HON := Lib.hid hon; have HUS := Lib.hid how; have HB64 := Lib.hid (below_more HB54.out hon.be); have d0 := (HB64.out.cell (p := ⟨b, 0, none⟩) HBW.out).trans c0; have d1 := (HB64.out.cell (p := ⟨b, 1, none⟩) HBW.out).trans c1; clear his hon how hll))
          obtain ⟨A6, C6, hV⟩ := HON.out.form
          subst hV
          obtain ⟨A7, C7, hV, -, -, -⟩ := own_ex HUS.out.own
          subst hV
          obtain ⟨rfl, rfl, rfl⟩ := HIL.out.uniq HLOAD.out
          have HB6 := Lib.hid (below_more HB4.out HB64.out)
          have HLV6 := Lib.hid (HLV.out w6 (HG.out.later HB6.out (Nat.le_refl _)))
          clear c0 c1 d0 d1 hk0 hk1 hk2
          simp only [List.length_nil]
          go_wp2_with (go_at_call 10; refine HLV6.out.mono ?_; rintro _ w7 ⟨rfl, hb⟩; refine Hid.out ?_)
          have HB7 := Lib.hid (below_more HB6.out hb)
          clear hb
          refine go_on ?_
          go_wp2
          go_ret
          exact ⟨rfl, HB7.out⟩
    · have HOUT := Lib.hid (laid_no HIS.out hz)
      obtain rfl : k = 0 := by rw [← HK.out, HOUT.out]; rfl
      have z1 : (z != 0) = true := by simpa using hz
      have z2 : (z == 0) = false := by simpa using hz
      clear hz
      refine go_on ?_
      go_wp2_with (go_at_call 10; refine HLV2.out.mono ?_; rintro _ w3 ⟨rfl, hb⟩; refine Hid.out ?_)
      have HB3 := Lib.hid (below_more HB2.out hb)
      clear hb
      refine go_on ?_
      go_wp2
      go_ret
      exact ⟨rfl, HB3.out⟩
end Go.Proofs.YtcgapkepbnbabaaDoor.X5
