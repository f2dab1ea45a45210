/- The closure of Places at an array and an enum; Places. -/
import Derived.Test.YtbdhihgokkcmfaaPm
namespace Go.Proofs.Ytbdhihgokkcmfaa.Ty9
set_option linter.unusedVariables false
set_option linter.unusedSimpArgs false
open Go.RowKit Wd

/-- What holds of the elements that are left. -/
structure ArrLeft (s q r : Int) (all : List Pl) (f : Int → List Pl) (m : Nat) (ys : List Pl) : Prop where
  rest : r = s * m
  q0 : 0 ≤ q
  q1 : q + r ≤ 1000
  len : ys.length + r ≤ 1000
  all : ys ++ reps m s f q = all
theorem ArrLeft.step {s q r : Int} {all : List Pl} {f : Int → List Pl} {m : Nat} {ys : List Pl} (hs : 1 ≤ s) (hf : ((f q).length : Int) ≤ s) (h : ArrLeft s q r all f (m + 1) ys) :
    s ≤ r ∧ ArrLeft s (q + s) (r - s) all f m (ys ++ f q) := by
  have h1 := h.rest
  rw [Int.natCast_add, Int.mul_add] at h1
  have h2 : 0 ≤ s * (m : Int) := Int.mul_nonneg (by omega) (by omega)
  have h3 := h.q0
  have h4 := h.q1
  have h5 := h.len
  refine ⟨by omega, by omega, by omega, by omega, by rw [List.length_append]; omega, ?_⟩
  rw [List.append_assoc]
  exact h.all
theorem ArrLeft.bound {s q r : Int} {all : List Pl} {f : Int → List Pl} {m : Nat} {ys : List Pl} (hs : 1 ≤ s) (h : ArrLeft s q r all f m ys) : 0 ≤ r ∧ (m = 0 ↔ r = 0) := by
  have h1 := h.rest
  have h2 : 0 ≤ s * (m : Int) := Int.mul_nonneg (by omega) (by omega)
  refine ⟨by omega, fun e => by rw [h1, e]; simp, fun e => ?_⟩
  rcases Nat.eq_zero_or_pos m with h0 | h0
  · exact h0
  · have : s * 1 ≤ s * (m : Int) := Int.mul_le_mul_of_nonneg_left (by omega) (by omega)
    omega


set_option maxHeartbeats 2000000 in
set_option maxRecDepth 100000 in
theorem pl_arr (d : Nat) (hd : d ≤ 3) (ih : PlOk d) (gw go base B : Nat) (t : Ty) (v : Value) (p : Int) (V : Value) (xs : List Pl) (w : World) (hc : t.c = 6) (hz : sz (d + 1) t ≠ 0) (hgg : gw ≠ go) (hgw : gw < base) (hgo : go < base) (hB : B ≤ go) (hb : base ≤ w.heap.size)
    (ht : TyAt w B t v) (hs : PSt gw go base V xs w) (hp0 : 0 ≤ p) (hp1 : p + sz (d + 1) t ≤ 1000) (hx : xs.length + sz (d + 1) t ≤ 1000) :
    Calls Try.prog 35 #[v, .int .i64 p, .pointer (some ⟨gw, 0, none⟩), .pointer (some ⟨go, 0, none⟩)] w (PPost gw go base V (xs ++ pls t p) w) := by
  have HT := Lib.hid ht
  have hz4 := sz_deep (by omega) hz
  obtain ⟨b, hbs, hb0, e, hpr, hbig, hw0, hfn, hd1, hd2, hdm⟩ := sz_arr hc hz
  have hb4 := sz_deep (by omega) hb0
  have hgb := sz_ge d b
  have hlb := sz_le d b
  have hlt4 := sz_le (d + 1) t
  rw [pls_arr hc hbs, hb4]
  have HB4 := Lib.hid hb4
  have HZ4 := Lib.hid hz4
  have hplen : ∀ q, ((pls b q).length : Int) ≤ sz d b := fun q => pls_len d (by omega) b q hb0
  have HPL := Lib.hid hplen
  have hal : ArrLeft (sz d b) p (sz (d + 1) t) (xs ++ reps (prod t.ds).toNat (sz d b) (fun q => pls b q) p) (fun q => pls b q) (prod t.ds).toNat xs :=
    ⟨by rw [e, Int.toNat_of_nonneg (by omega)], hp0, hp1, hx, rfl⟩
  generalize (xs ++ reps (prod t.ds).toNat (sz d b) (fun q => pls b q) p) = all at *
  generalize hsd : sz d b = s at *
  generalize hrt : sz (d + 1) t = r at *
  have HAL := Lib.hid hal
  have HSD := Lib.hid hsd
  have HRT := Lib.hid hrt
  clear hz4 hb4 e hdm hplen hal hsd hrt
  revert hc; revert hbs; revert hbig; revert hw0; revert hfn; revert hd1; revert hd2; revert HT; revert HAL; revert HZ4; revert HRT; revert hpr
  cases ht with
  | mk c wd bb fs ds bs ns fA dA bA nA fC dC bC nC fb fo db dO bbb bo nb nO fv bv hf hd' hb' hn hfz hnz hnr hcap hfA hdA hbA hnA hf0 hf1' hf2' hft hd0 hb0' hbt hn0' hn1' =>
  intro hpr HRT HZ4 HAL HT hd2 hd1 hfn hw0 hbig hbs hc
  obtain rfl : c = 6 := hc
  obtain rfl : bb = false := hbig
  obtain rfl : bs = [b] := hbs
  obtain rfl : wd = 0 := hw0
  simp only [Ty.w, Ty.fs, Ty.ds, Ty.bs, Ty.ns] at *
  clear hfz hnz hnr hfA hdA hnA hf0 hf1' hf2' hft hd0 hn0' hn1' hpr
  have HB0 := Lib.hid hb0'
  have HBT := Lib.hid hbt
  have IH := Lib.hid ih
  clear hb0' hbt ih
  obtain ⟨rfl, hnb⟩ := hbA (by simp)
  have hlt := hs.out.lt
  have hlt2 := hs.walk.lt
  have hs1 : 1 ≤ s := by omega
  have HBN := Lib.hid (below_new w (.cells #[.int .i64 6, .int .i64 0, .bool false, .slice fA fs.length fC, .slice dA ds.length dC, .slice (some ⟨bbb, bo, none⟩) 1 bC, .slice nA ns.length nC] 28))
  have HBX := Lib.hid (Bx.new w 28 #[.int .i64 6, .int .i64 0, .bool false, .slice fA fs.length fC, .slice dA ds.length dC, .slice (some ⟨bbb, bo, none⟩) 1 bC, .slice nA ns.length nC])
  have HS := Lib.hid hs
  have HS1 := Lib.hid (hs.below HBN.out)
  have hBw : B ≤ w.heap.size := by omega
  have HT1 := Lib.hid ((HT.out.later (HBN.out.mono hBw)).up (Nat.le_trans hBw HBN.out.size))
  have HOW := Lib.hid hs.own.lt
  clear hs
  go_enter Try.func35, Try.ntmps35
  go_wp2_with (go_at_call 33; refine (psize_any 4 (by omega) (.mk 6 0 false fs ds [b] ns) _ _ ?_).mono ?_)
  · simpa using HT1.out
  rintro _ w2 he hb2
  have hb2 := below_succ hb2
  rw [HZ4.out] at he
  subst he
  have hc := fun o : Nat => (HBN.out.trans (hb2.mono (by simp))).cell (p := ⟨bbb, o, none⟩) (by show bbb < w.heap.size; omega)
  have a0 := (hc bo).trans (HB0.out 0 (by simp) 0 (by omega))
  have a1 := (hc (bo + 1)).trans (HB0.out 0 (by simp) 1 (by omega))
  have a2 := (hc (bo + 2)).trans (HB0.out 0 (by simp) 2 (by omega))
  have a3 := (hc (bo + 3)).trans (HB0.out 0 (by simp) 3 (by omega))
  have a4 := (hc (bo + 4)).trans (HB0.out 0 (by simp) 4 (by omega))
  have a5 := (hc (bo + 5)).trans (HB0.out 0 (by simp) 5 (by omega))
  have a6 := (hc (bo + 6)).trans (HB0.out 0 (by simp) 6 (by omega))
  clear hc
  have HW2 := Lib.hid (show Below w.heap.size w w2 from HBN.out.trans (hb2.mono (by simp)))
  have HR2 := Lib.hid (Rs.start HS1.out hb2)
  have HBX2 := Lib.hid (HBX.out.later hb2 (by simp))
  have c5 := HBX2.out.cell 5
  have hsz2 := hb2.size
  simp at hsz2
  clear hb2
  go_wp2_with (go_at_call 33; refine (psize_any 4 (by omega) b _ _ ?_).mono ?_)
  · exact ((HBT.out 0 (by simp)).keep fun q hq => HW2.out.cell (p := q) (by omega)).up (by omega)
  rintro _ w3 ⟨he, hb3⟩
  rw [HB4.out] at he
  subst he
  have HR3 := Lib.hid (HR2.out.below hb3)
  clear hb3 HR2 HBX2 HW2 a0 a1 a2 a3 a4 a5 a6 c5 hsz2
  go_wp2
  go_loopw [1, 8] (fun x i wr => ∃ (q r : Int) (m : Nat) (V' : Value) (ys : List Pl), x = .int .i64 q ∧ i = .int .i64 r ∧ ArrLeft s q r all (fun q => pls b q) m ys ∧
      Rs gw go base V (w.alloc (.cells #[.int .i64 6, .int .i64 0, .bool false, .slice fA fs.length fC, .slice dA ds.length dC, .slice (some ⟨bbb, bo, none⟩) 1 bC, .slice nA ns.length nC] 28)) V' ys wr) (fun _ i _ => (intOf i).toNat)
  case atStart => exact ⟨p, r, _, V, xs, rfl, rfl, HAL.out, HR3.out⟩
  case round =>
    clear HR3 HAL
    obtain ⟨q, r', m, V', ys, rfl, rfl, hal, hr⟩ := hrel
    obtain ⟨hr0, hm0⟩ := hal.bound hs1
    have hq0 := hal.q0
    have hq1 := hal.q1
    have hl1 := hal.len
    have HAL := Lib.hid hal
    have HR := Lib.hid hr
    clear hal hr
    by_cases hpos : 0 < r'
    · obtain ⟨m, rfl⟩ : ∃ m', m = m' + 1 := ⟨m - 1, by omega⟩
      obtain ⟨k1, k2⟩ := HAL.out.step hs1 (HPL.out q)
      have K2 := Lib.hid k2
      clear k2 HAL
      have HW := Lib.hid (show Below B w wr from ((Gr.of_below (r := V.ownBlock) HBN.out).trans (.inl rfl) HR.out.gr).below (by omega) hB (fun k hk => by have := (HOW.out k hk).1; omega))
      have hc := fun o : Nat => HW.out.cell (p := ⟨bbb, o, none⟩) hnb
      have a0 := (hc bo).trans (HB0.out 0 (by simp) 0 (by omega))
      have a1 := (hc (bo + 1)).trans (HB0.out 0 (by simp) 1 (by omega))
      have a2 := (hc (bo + 2)).trans (HB0.out 0 (by simp) 2 (by omega))
      have a3 := (hc (bo + 3)).trans (HB0.out 0 (by simp) 3 (by omega))
      have a4 := (hc (bo + 4)).trans (HB0.out 0 (by simp) 4 (by omega))
      have a5 := (hc (bo + 5)).trans (HB0.out 0 (by simp) 5 (by omega))
      have a6 := (hc (bo + 6)).trans (HB0.out 0 (by simp) 6 (by omega))
      clear hc
      have hbx := HR.out.gr.bx HBX.out (by omega) (fun e => by have := (HOW.out _ e.symm).2; omega)
      have c5 := hbx.cell 5
      have o0 := HR.out.st.walk.cell 0
      have hsz := HR.out.gr.size
      have hsd' : sz d b ≠ 0 := by have := HSD.out; omega
      have HSD2 := Lib.hid hsd'
      simp at hsz
      clear hbx hsd'
      go_wp2
      go_still_tail 6, (by kernel_rfl)
      go_wp2_with (go_at_call 35; refine (IH.out gw go base B b _ q V' ys _ HSD2.out hgg hgw hgo hB ?_ ?_ ?_ ?_ ?_ ?_).mono ?_)
      · show base ≤ wr.heap.size; omega
      · exact ((HBT.out 0 (by simp)).keep fun q hq => HW.out.cell (p := q) hq).drew
      · exact HR.out.st.below (Below.refl _ _).drew
      · omega
      · rw [HSD.out]; omega
      · rw [HSD.out]; omega
      rintro _ w4 ⟨rfl, V2, hs2, hg2, ho2⟩
      have HR2 := Lib.hid ((HR.out.below (Below.refl _ _).drew).step hs2 hg2 ho2)
      clear hs2 hg2 ho2 HR HW a0 a1 a2 a3 a4 a5 a6 c5 o0
      go_wp2
      go_roundw
      case rel => exact ⟨q + s, r' - s, m, V2, _, rfl, rfl, K2.out, HR2.out⟩
      case measure => simp [intOf]; omega
    · obtain rfl : r' = 0 := by omega
      obtain rfl : m = 0 := hm0.mpr rfl
      have ha := HAL.out.all
      rw [reps, List.append_nil] at ha
      have HA := Lib.hid ha
      clear ha
      go_wp2
      go_end0
      have hr := HR.out
      rw [← HA.out]
      refine ⟨rfl, V', hr.st, (Gr.of_below HBN.out).trans (.inl rfl) hr.gr, ?_⟩
      rcases hr.ow with h | ⟨k, h, hk⟩
      · exact .inl h
      · exact .inr ⟨k, h, by simp at hk; omega⟩
end Go.Proofs.Ytbdhihgokkcmfaa.Ty9
