/- The walk of DatatypeSames. -/
import Derived.Test.YtbdhihgokkcmfaaHe
import Derived.Test.YtbdhihgokkcmfaaEf
import Derived.Test.YtbdhihgokkcmfaaLi
namespace Go.Proofs.Ytbdhihgokkcmfaa.Ty9
set_option linter.unusedVariables false
set_option linter.unusedSimpArgs false
open Go.RowKit Wd

theorem dec_of {P : Program} {f : FuncId} {args : Array Value} {w : World} {R : Prop} {r : Bool} (h : Calls P f args w fun e w' => ∃ b, e = .returned (.bool b) ∧ (b = true ↔ R) ∧ Below w.heap.size w w') (hr : r = true ↔ R) :
    Calls P f args w fun e w' => e = .returned (.bool r) ∧ Below w.heap.size w w' := h.mono fun e w' ⟨b, he, hb, hbe⟩ => ⟨by rw [he]; cases b <;> cases r <;> simp_all, hbe⟩
theorem psame_at (x y : Ty) (v u : Value) (w : World) (h1 : TyAt w w.heap.size x v) (h2 : TyAt w w.heap.size y u) : Calls Try.prog 27 #[v, u] w fun e w' => ∃ b, e = .returned (.bool b) ∧ (b = true ↔ x = y) ∧ Below w.heap.size w w' := psame_any x y v u w h1 h2
theorem rsame_at (x y : Ty) (v u : Value) (w : World) (h1 : TyAt w w.heap.size x v) (h2 : TyAt w w.heap.size y u) : Calls Try.prog 18 #[v, u] w fun e w' => ∃ b, e = .returned (.bool b) ∧ (b = true ↔ x = y) ∧ Below w.heap.size w w' := rsame_any x y v u w h1 h2
open Classical in
theorem dec_is (R : Prop) : ∃ r : Bool, r = true ↔ R := by
  by_cases h : R
  · exact ⟨true, by simp [h]⟩
  · exact ⟨false, by simp [h]⟩

set_option maxHeartbeats 4000000 in
set_option maxRecDepth 100000 in
theorem sames_walk (a b : Ty) (v u : Value) (w : World) (ht : TyAt w w.heap.size a v) (hu : TyAt w w.heap.size b u) (hfa : Fit a) (hfb : Fit b) :
    Calls Try.prog 8 #[v, u] w fun e w' => e = .returned (.bool true) ∧ Below w.heap.size w w' := by
  obtain ⟨fA, dA, bA, nA, fC, dC, bC, nC, rfl⟩ := ht.shape
  obtain ⟨fA2, dA2, bA2, nA2, fC2, dC2, bC2, nC2, rfl⟩ := hu.shape
  have HT := Lib.hid (Two.new w 28 #[.int .i64 a.c, .int .i64 a.w, .bool a.big, .slice fA a.fs.length fC, .slice dA a.ds.length dC, .slice bA a.bs.length bC, .slice nA a.ns.length nC] #[.int .i64 b.c, .int .i64 b.w, .bool b.big, .slice fA2 b.fs.length fC2, .slice dA2 b.ds.length dC2, .slice bA2 b.bs.length bC2, .slice nA2 b.ns.length nC2])
  have H1 := Lib.hid ht
  have H2 := Lib.hid hu
  have HFA := Lib.hid hfa
  have HFB := Lib.hid hfb
  clear ht hu hfa hfb
  have HX1 := Lib.hid ((H1.out.later HT.out.be).up HT.out.be.size)
  by_cases hbig : a.left 2000 ≤ 0
  · have HBG := Lib.hid (decide_eq_true hbig)
    clear hbig
    go_enter Try.func8, Try.ntmps8
    go_wp2_with (go_at_call 12; refine (big_any a _ _ ?_).mono ?_)
    · exact HX1.out
    rintro _ w2 ⟨he, hb2⟩
    rw [HBG.out] at he
    subst he
    have HT2 := Lib.hid (HT.out.more (show Below _ _ _ by first | exact hb2 | (rw [size_alloc, size_alloc]; exact hb2)))
    clear hb2
    go_wp2_with (go_at_call 13; refine (lives_any _).mono ?_)
    rintro _ w3 ⟨rfl, hb3⟩
    have HT3 := Lib.hid (HT2.out.more hb3)
    clear hb3
    go_wp2
    go_ret
    exact ⟨rfl, HT3.out.be⟩
  have HBG := Lib.hid (decide_eq_false hbig)
  clear hbig
  by_cases hbig2 : b.left 2000 ≤ 0
  · have HBG2 := Lib.hid (decide_eq_true hbig2)
    clear hbig2
    go_enter Try.func8, Try.ntmps8
    go_wp2_with (go_at_call 12; refine (big_any a _ _ ?_).mono ?_)
    · exact HX1.out
    rintro _ w2 ⟨he, hb2⟩
    rw [HBG.out] at he
    subst he
    have HT2 := Lib.hid (HT.out.more (show Below _ _ _ by first | exact hb2 | (rw [size_alloc, size_alloc]; exact hb2)))
    clear hb2
    have d0 : w2.cell? ⟨w.heap.size + 1, 0, none⟩ = some (.int .i64 b.c) := HT2.out.b2.cell 0
    have d1 : w2.cell? ⟨w.heap.size + 1, 1, none⟩ = some (.int .i64 b.w) := HT2.out.b2.cell 1
    have d2 : w2.cell? ⟨w.heap.size + 1, 2, none⟩ = some (.bool b.big) := HT2.out.b2.cell 2
    have d3 : w2.cell? ⟨w.heap.size + 1, 3, none⟩ = some (.slice fA2 b.fs.length fC2) := HT2.out.b2.cell 3
    have d4 : w2.cell? ⟨w.heap.size + 1, 4, none⟩ = some (.slice dA2 b.ds.length dC2) := HT2.out.b2.cell 4
    have d5 : w2.cell? ⟨w.heap.size + 1, 5, none⟩ = some (.slice bA2 b.bs.length bC2) := HT2.out.b2.cell 5
    have d6 : w2.cell? ⟨w.heap.size + 1, 6, none⟩ = some (.slice nA2 b.ns.length nC2) := HT2.out.b2.cell 6
    go_wp2_with (go_at_call 12; refine (big_any b _ w2 ((H2.out.later HT2.out.be).up HT2.out.be.size)).mono ?_)
    rintro _ w3 ⟨he, hb3⟩
    rw [HBG2.out] at he
    subst he
    have HT3 := Lib.hid (HT2.out.more hb3)
    clear hb3
    clear d0 d1 d2 d3 d4 d5 d6
    go_wp2_with (go_at_call 13; refine (lives_any _).mono ?_)
    rintro _ w4 ⟨rfl, hb4⟩
    have HT4 := Lib.hid (HT3.out.more hb4)
    clear hb4
    go_wp2
    go_ret
    exact ⟨rfl, HT4.out.be⟩
  have HBG2 := Lib.hid (decide_eq_false hbig2)
  clear hbig2
  obtain ⟨T, hT⟩ : ∃ T, tT true a = T := ⟨_, rfl⟩
  have HTT := Lib.hid hT
  obtain ⟨z, hz⟩ : ∃ z, errV a = z := ⟨_, rfl⟩
  have HEV := Lib.hid hz
  have HCASE := Lib.hid (show (sz 4 a = 0 ∧ z = 15) ∨ (z = 0 ∧ Swp a T ∧ Fit T) by
    by_cases h : sz 4 a = 0
    · exact .inl ⟨h, by rw [← hz]; exact if_pos h⟩
    · refine .inr ⟨by rw [← hz]; exact if_neg h, ?_⟩
      rw [← hT, tT, if_neg h]
      exact ⟨⟨h, by rw [sz_tn]; exact h, by rw [tn_tn]⟩, fit_tn _ HFA.out⟩)
  obtain ⟨r0, hr0⟩ := dec_is (a = T)
  obtain ⟨r1, hr1⟩ := dec_is (a = b)
  obtain ⟨r2, hr2⟩ := dec_is (Swp a b)
  have HR0 := Lib.hid hr0
  have HR1 := Lib.hid hr1
  have HR2 := Lib.hid hr2
  clear hT hz hr0 hr1 hr2
  go_enter Try.func8, Try.ntmps8
  go_wp2_with (go_at_call 12; refine (big_any a _ _ ?_).mono ?_)
  · exact HX1.out
  rintro _ w2 ⟨he, hb2⟩
  rw [HBG.out] at he
  subst he
  have HT2 := Lib.hid (HT.out.more (show Below _ _ _ by first | exact hb2 | (rw [size_alloc, size_alloc]; exact hb2)))
  clear hb2 HX1
  have d0 : w2.cell? ⟨w.heap.size + 1, 0, none⟩ = some (.int .i64 b.c) := HT2.out.b2.cell 0
  have d1 : w2.cell? ⟨w.heap.size + 1, 1, none⟩ = some (.int .i64 b.w) := HT2.out.b2.cell 1
  have d2 : w2.cell? ⟨w.heap.size + 1, 2, none⟩ = some (.bool b.big) := HT2.out.b2.cell 2
  have d3 : w2.cell? ⟨w.heap.size + 1, 3, none⟩ = some (.slice fA2 b.fs.length fC2) := HT2.out.b2.cell 3
  have d4 : w2.cell? ⟨w.heap.size + 1, 4, none⟩ = some (.slice dA2 b.ds.length dC2) := HT2.out.b2.cell 4
  have d5 : w2.cell? ⟨w.heap.size + 1, 5, none⟩ = some (.slice bA2 b.bs.length bC2) := HT2.out.b2.cell 5
  have d6 : w2.cell? ⟨w.heap.size + 1, 6, none⟩ = some (.slice nA2 b.ns.length nC2) := HT2.out.b2.cell 6
  go_wp2_with (go_at_call 12; refine (big_any b _ w2 ((H2.out.later HT2.out.be).up HT2.out.be.size)).mono ?_)
  rintro _ w3 ⟨he, hb3⟩
  rw [HBG2.out] at he
  subst he
  have HT3 := Lib.hid (HT2.out.more hb3)
  clear hb3
  clear d0 d1 d2 d3 d4 d5 d6
  have c0 : w3.cell? ⟨w.heap.size, 0, none⟩ = some (.int .i64 a.c) := HT3.out.b1.cell 0
  have c1 : w3.cell? ⟨w.heap.size, 1, none⟩ = some (.int .i64 a.w) := HT3.out.b1.cell 1
  have c2 : w3.cell? ⟨w.heap.size, 2, none⟩ = some (.bool a.big) := HT3.out.b1.cell 2
  have c3 : w3.cell? ⟨w.heap.size, 3, none⟩ = some (.slice fA a.fs.length fC) := HT3.out.b1.cell 3
  have c4 : w3.cell? ⟨w.heap.size, 4, none⟩ = some (.slice dA a.ds.length dC) := HT3.out.b1.cell 4
  have c5 : w3.cell? ⟨w.heap.size, 5, none⟩ = some (.slice bA a.bs.length bC) := HT3.out.b1.cell 5
  have c6 : w3.cell? ⟨w.heap.size, 6, none⟩ = some (.slice nA a.ns.length nC) := HT3.out.b1.cell 6
  go_wp2_with (go_at_call 24; refine (rturn_any true a HFA.out _ w3 ((H1.out.later HT3.out.be).up HT3.out.be.size)).mono ?_)
  first
    | rintro _ w4 u rfl hsg hb4
    | rintro _ w4 ⟨u, rfl, hsg, hb4⟩
  rw [HTT.out] at hsg
  rw [HEV.out]
  obtain ⟨fA8, dA8, bA8, nA8, fC8, dC8, bC8, nC8, rfl⟩ := hsg.shape
  have HT4 := Lib.hid (HT3.out.more hb4)
  have HSG := Lib.hid hsg
  clear hb4 hsg
  clear c0 c1 c2 c3 c4 c5 c6
  go_upto_region 4 with fail
  have hn := below_new w4 (.cells #[.int .i64 T.c, .int .i64 T.w, .bool T.big, .slice fA8 T.fs.length fC8, .slice dA8 T.ds.length dC8, .slice bA8 T.bs.length bC8, .slice nA8 T.ns.length nC8] 28)
  have hx := Bx.new w4 28 #[.int .i64 T.c, .int .i64 T.w, .bool T.big, .slice fA8 T.fs.length fC8, .slice dA8 T.ds.length dC8, .slice bA8 T.bs.length bC8, .slice nA8 T.ns.length nC8]
  generalize hw5 : (w4.alloc (.cells #[.int .i64 T.c, .int .i64 T.w, .bool T.big, .slice fA8 T.fs.length fC8, .slice dA8 T.ds.length dC8, .slice bA8 T.bs.length bC8, .slice nA8 T.ns.length nC8] 28)) = w5 at hn hx
  clear hw5
  have HT5 := Lib.hid (HT4.out.more hn)
  have HB5 := Lib.hid hx
  have HSG5 := Lib.hid ((HSG.out.later hn).up hn.size)
  clear hn hx HSG
  go_cut [35] (fun s35 wx => s35 = .bool false ∧ Two w wx 28 #[.int .i64 a.c, .int .i64 a.w, .bool a.big, .slice fA a.fs.length fC, .slice dA a.ds.length dC, .slice bA a.bs.length bC, .slice nA a.ns.length nC] #[.int .i64 b.c, .int .i64 b.w, .bool b.big, .slice fA2 b.fs.length fC2, .slice dA2 b.ds.length dC2, .slice bA2 b.bs.length bC2, .slice nA2 b.ns.length nC2])
  case first =>
    rcases HCASE.out with ⟨_, rfl⟩ | ⟨rfl, hsw, hft⟩
    · go_quiet (fail)
      go_wp2
      go_meet
      exact ⟨rfl, HT5.out.drewN nq⟩
    · have HSW := Lib.hid hsw
      have HFT := Lib.hid hft
      clear hsw hft
      have HTD := Lib.hid HT5.out.drew
      have HBD := Lib.hid HB5.out.drew
      have HTAd := Lib.hid ((H1.out.later HTD.out.be).up HTD.out.be.size)
      have HSGd := Lib.hid (show TyAt w5.drew w5.drew.heap.size T (.agg #[.int .i64 T.c, .int .i64 T.w, .bool T.big, .slice fA8 T.fs.length fC8, .slice dA8 T.ds.length dC8, .slice bA8 T.bs.length bC8, .slice nA8 T.ns.length nC8]) from HSG5.out.drew)
      go_region_held3 (fun w' => w'.cell? ⟨w.heap.size, 0, none⟩ = some (.int .i64 a.c) ∧ w'.cell? ⟨w.heap.size, 1, none⟩ = some (.int .i64 a.w) ∧ w'.cell? ⟨w.heap.size, 2, none⟩ = some (.bool a.big) ∧ w'.cell? ⟨w.heap.size, 3, none⟩ = some (.slice fA a.fs.length fC) ∧ w'.cell? ⟨w.heap.size, 4, none⟩ = some (.slice dA a.ds.length dC) ∧ w'.cell? ⟨w.heap.size, 5, none⟩ = some (.slice bA a.bs.length bC) ∧ w'.cell? ⟨w.heap.size, 6, none⟩ = some (.slice nA a.ns.length nC) ∧ w'.cell? ⟨w4.heap.size, 0, none⟩ = some (.int .i64 T.c) ∧ w'.cell? ⟨w4.heap.size, 1, none⟩ = some (.int .i64 T.w) ∧ w'.cell? ⟨w4.heap.size, 2, none⟩ = some (.bool T.big) ∧ w'.cell? ⟨w4.heap.size, 3, none⟩ = some (.slice fA8 T.fs.length fC8) ∧ w'.cell? ⟨w4.heap.size, 4, none⟩ = some (.slice dA8 T.ds.length dC8) ∧ w'.cell? ⟨w4.heap.size, 5, none⟩ = some (.slice bA8 T.bs.length bC8) ∧ w'.cell? ⟨w4.heap.size, 6, none⟩ = some (.slice nA8 T.ns.length nC8))
        (first
          | (with_reducible exact two14 (w := w) HT8.out.b1 HB8.out)
          | (with_reducible exact two14 (w := w) HT7.out.b1 HB7.out)
          | (with_reducible exact two14 (w := w) HT6.out.b1 HB6.out)
          | exact two14 (w := w) HTD.out.b1 HBD.out)
        (first
          | (go_at_call 26; refine (yes_of (pswap_any a T HFA.out HFT.out _ _ w5.drew HTAd.out HSGd.out) HSW.out).mono ?_; rintro _ w6 ⟨rfl, hb6⟩; have HT6 := Lib.hid (HTD.out.more hb6); have HB6 := Lib.hid (HBD.out.later hb6 HBD.out.lt); have HSG6 := Lib.hid ((HSGd.out.later hb6).up hb6.size); have HTA6 := Lib.hid ((H1.out.later HT6.out.be).up HT6.out.be.size); clear hb6)
          | (go_at_call 27; refine (dec_of (psame_any a T _ _ w6 HTA6.out HSG6.out) HR0.out).mono ?_; rintro _ w7 ⟨rfl, hb7⟩; have HT7 := Lib.hid (HT6.out.more hb7); have HB7 := Lib.hid (HB6.out.later hb7 HB6.out.lt); have HSG7 := Lib.hid ((HSG6.out.later hb7).up hb7.size); have HTA7 := Lib.hid ((H1.out.later HT7.out.be).up HT7.out.be.size); clear hb7)
          | (go_at_call 18; refine (dec_of (rsame_any a T _ _ w7 HTA7.out HSG7.out) HR0.out).mono ?_; rintro _ w8 ⟨rfl, hb8⟩; have HT8 := Lib.hid (HT7.out.more hb8); have HB8 := Lib.hid (HB7.out.later hb8 HB7.out.lt); clear hb8))
      all_goals
        go_wp2_with (fail)
        go_meet
        refine ⟨?_, HT8.out⟩
        cases r0 <;> rfl
  case rest =>
    obtain ⟨rfl, htw⟩ := hcut
    have HTW := Lib.hid htw
    clear htw HT HT2 HT3 HT4 HT5 HB5 HSG5 HCASE
    rename_i hKK
    refine hKK _ _ ?_
    clear hKK
    go_upto_region 6 with fail
    have HTD := Lib.hid HTW.out.drew
    have HA0 := Lib.hid ((H1.out.later HTD.out.be).up HTD.out.be.size)
    have HB0 := Lib.hid ((H2.out.later HTD.out.be).up HTD.out.be.size)
    go_region_held3 (fun w' => w'.cell? ⟨w.heap.size, 0, none⟩ = some (.int .i64 a.c) ∧ w'.cell? ⟨w.heap.size, 1, none⟩ = some (.int .i64 a.w) ∧ w'.cell? ⟨w.heap.size, 2, none⟩ = some (.bool a.big) ∧ w'.cell? ⟨w.heap.size, 3, none⟩ = some (.slice fA a.fs.length fC) ∧ w'.cell? ⟨w.heap.size, 4, none⟩ = some (.slice dA a.ds.length dC) ∧ w'.cell? ⟨w.heap.size, 5, none⟩ = some (.slice bA a.bs.length bC) ∧ w'.cell? ⟨w.heap.size, 6, none⟩ = some (.slice nA a.ns.length nC) ∧ w'.cell? ⟨w.heap.size + 1, 0, none⟩ = some (.int .i64 b.c) ∧ w'.cell? ⟨w.heap.size + 1, 1, none⟩ = some (.int .i64 b.w) ∧ w'.cell? ⟨w.heap.size + 1, 2, none⟩ = some (.bool b.big) ∧ w'.cell? ⟨w.heap.size + 1, 3, none⟩ = some (.slice fA2 b.fs.length fC2) ∧ w'.cell? ⟨w.heap.size + 1, 4, none⟩ = some (.slice dA2 b.ds.length dC2) ∧ w'.cell? ⟨w.heap.size + 1, 5, none⟩ = some (.slice bA2 b.bs.length bC2) ∧ w'.cell? ⟨w.heap.size + 1, 6, none⟩ = some (.slice nA2 b.ns.length nC2))
      (first
        | (with_reducible exact two14 (w := w) HT17.out.b1 HT17.out.b2)
        | (with_reducible exact two14 (w := w) HT16.out.b1 HT16.out.b2)
        | (with_reducible exact two14 (w := w) HT15.out.b1 HT15.out.b2)
        | (with_reducible exact two14 (w := w) HT14.out.b1 HT14.out.b2)
        | (with_reducible exact two14 (w := w) HT13.out.b1 HT13.out.b2)
        | (with_reducible exact two14 (w := w) HT12.out.b1 HT12.out.b2)
        | (with_reducible exact two14 (w := w) HT11.out.b1 HT11.out.b2)
        | exact two14 (w := w) HTD.out.b1 HTD.out.b2)
      (first
        | (go_at_call 27; (with_reducible refine (dec_of (psame_at a b _ _ wc.drew HA0.out HB0.out) HR1.out).mono ?_); rintro _ w11 ⟨rfl, hb11⟩; have HT11 := Lib.hid (HTD.out.more hb11); have HA11 := Lib.hid ((H1.out.later HT11.out.be).up HT11.out.be.size); have HB11 := Lib.hid ((H2.out.later HT11.out.be).up HT11.out.be.size); clear hb11)
        | (go_at_call 18; (with_reducible refine (dec_of (rsame_at a b _ _ w11 HA11.out HB11.out) HR1.out).mono ?_); rintro _ w12 ⟨rfl, hb12⟩; have HT12 := Lib.hid (HT11.out.more hb12); have HA12 := Lib.hid ((H1.out.later HT12.out.be).up HT12.out.be.size); have HB12 := Lib.hid ((H2.out.later HT12.out.be).up HT12.out.be.size); clear hb12)
        | (go_at_call 14; (with_reducible refine (own_any a HFA.out _ w12 HA12.out).mono ?_); rintro _ w13 ⟨u, S, rfl, hL, hS, hb13⟩; have HO13 := Lib.hid hL.here; clear hL hS; have HT13 := Lib.hid (HT12.out.more hb13); have HA13 := Lib.hid ((H1.out.later HT13.out.be).up HT13.out.be.size); have HB13 := Lib.hid ((H2.out.later HT13.out.be).up HT13.out.be.size); clear hb13)
        | (go_at_call 27; (with_reducible refine (yes_of (psame_at a a _ _ w13 HA13.out HO13.out) rfl).mono ?_); rintro _ w14 ⟨rfl, hb14⟩; have HT14 := Lib.hid (HT13.out.more hb14); have HA14 := Lib.hid ((H1.out.later HT14.out.be).up HT14.out.be.size); have HB14 := Lib.hid ((H2.out.later HT14.out.be).up HT14.out.be.size); clear hb14)
        | (go_at_call 26; (with_reducible refine (dec_of (pswap_any a b HFA.out HFB.out _ _ w14 HA14.out HB14.out) HR2.out).mono ?_); rintro _ w15 ⟨rfl, hb15⟩; have HT15 := Lib.hid (HT14.out.more hb15); have HA15 := Lib.hid ((H1.out.later HT15.out.be).up HT15.out.be.size); have HB15 := Lib.hid ((H2.out.later HT15.out.be).up HT15.out.be.size); clear hb15)
        | (go_at_call 28; (with_reducible refine (dec_of (rswap_any a b HFA.out HFB.out _ _ w15 HA15.out HB15.out) HR2.out).mono ?_); rintro _ w16 ⟨rfl, hb16⟩; have HT16 := Lib.hid (HT15.out.more hb16); have HA16 := Lib.hid ((H1.out.later HT16.out.be).up HT16.out.be.size); have HB16 := Lib.hid ((H2.out.later HT16.out.be).up HT16.out.be.size); clear hb16)
        | (go_at_call 13; (with_reducible refine (lives_any _).mono ?_); rintro _ w17 ⟨rfl, hb17⟩; have HT17 := Lib.hid (HT16.out.more hb17); clear hb17))
    all_goals go_wp2
    all_goals go_ret
    all_goals exact ⟨by cases r1 <;> cases r2 <;> rfl, HT17.out.be⟩
end Go.Proofs.Ytbdhihgokkcmfaa.Ty9
