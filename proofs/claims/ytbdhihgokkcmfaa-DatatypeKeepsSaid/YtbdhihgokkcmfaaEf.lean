/- The law's own: a deep copy of a type, in blocks of its own. -/
import Derived.Test.YtbdhihgokkcmfaaEb
namespace Go.Proofs.Ytbdhihgokkcmfaa.Ty9
set_option linter.unusedVariables false
set_option linter.unusedSimpArgs false
open Go.RowKit Wd

set_option maxHeartbeats 4000000 in
set_option maxRecDepth 100000 in
theorem own_any (t : Ty) : Fit t → ∀ (v : Value) (w : World), TyAt w w.heap.size t v →
    Calls Try.prog 14 #[v] w fun e w' => ∃ u S, e = .returned u ∧ Lies S w' t u ∧ (∀ g, S g → w.heap.size ≤ g) ∧ Below w.heap.size w w' := by
  induction t using Ty.ind with
  | h c wd b fs ds bs ns ihf ihb =>
    intro hfit v w ht
    cases hfit with
    | mk _ _ _ _ _ _ _ kf kd kb kn k1 k2 =>
    have hrb : reachBytes ≤ 140737488355328 := by decide
    rw [bytes8] at kd
    rw [bytes24] at kn
    have KF := Lib.hid kf
    have KB := Lib.hid kb
    have K1 := Lib.hid k1
    have K2 := Lib.hid k2
    have IF := Lib.hid ihf
    have IB := Lib.hid ihb
    cases ht with
    | mk _ _ _ _ _ _ _ fA dA bA nA fC dC bC nC fb fo db dO bb bo nb nO fv bv hf hd hb hn hfz hnz hnr hcap hfA hdA hbA hnA hf0 hf1 hf2 hft hd0 hb0 hbt hn0' hn1' =>
    have HF0 := Lib.hid hf0
    have HF1 := Lib.hid hf1
    have HF2 := Lib.hid hf2
    have HFT := Lib.hid hft
    have HB0 := Lib.hid hb0
    have HBT := Lib.hid hbt
    have HFA := Lib.hid hfA
    have HBA := Lib.hid hbA
    have HN := Lib.hid (show Below w.heap.size w (((w.alloc (.cells #[.int .i64 c, .int .i64 wd, .bool b, .slice fA fs.length fC, .slice dA ds.length dC, .slice bA bs.length bC, .slice nA ns.length nC] 28)).alloc (.cells #[.int .i64 0, .int .i64 0, .bool false, .slice none 0 0, .slice none 0 0, .slice none 0 0, .slice none 0 0] 28)).alloc (.cells #[.int .i64 c, .int .i64 wd, .bool b, .slice fA fs.length fC, .slice dA ds.length dC, .slice bA bs.length bC, .slice nA ns.length nC] 28)) from below_more (below_more (below_new _ _) (below_new _ _)) (below_new _ _))
    have srcd : 0 < ds.length → ∃ ad, dA = some ad ∧ ad.block < (((w.alloc (.cells #[.int .i64 c, .int .i64 wd, .bool b, .slice fA fs.length fC, .slice dA ds.length dC, .slice bA bs.length bC, .slice nA ns.length nC] 28)).alloc (.cells #[.int .i64 0, .int .i64 0, .bool false, .slice none 0 0, .slice none 0 0, .slice none 0 0, .slice none 0 0] 28)).alloc (.cells #[.int .i64 c, .int .i64 wd, .bool b, .slice fA fs.length fC, .slice dA ds.length dC, .slice bA bs.length bC, .slice nA ns.length nC] 28)).heap.size ∧ ∀ j u, (nums ds)[j]? = some u → (((w.alloc (.cells #[.int .i64 c, .int .i64 wd, .bool b, .slice fA fs.length fC, .slice dA ds.length dC, .slice bA bs.length bC, .slice nA ns.length nC] 28)).alloc (.cells #[.int .i64 0, .int .i64 0, .bool false, .slice none 0 0, .slice none 0 0, .slice none 0 0, .slice none 0 0] 28)).alloc (.cells #[.int .i64 c, .int .i64 wd, .bool b, .slice fA fs.length fC, .slice dA ds.length dC, .slice bA bs.length bC, .slice nA ns.length nC] 28)).cell? (ad.add j) = some u := by
      intro hm
      obtain ⟨rfl, hlt⟩ := hdA hm
      refine ⟨_, rfl, Nat.lt_of_lt_of_le hlt HN.out.size, fun j u hu => ?_⟩
      obtain ⟨hj, rfl⟩ := nums_at hu
      rw [addr_add9]
      exact (HN.out.cell (p := ⟨db, dO + j, none⟩) hlt).trans (hd0 j hj)
    have srcn : 0 < ns.length → ∃ ad, nA = some ad ∧ ad.block < (((w.alloc (.cells #[.int .i64 c, .int .i64 wd, .bool b, .slice fA fs.length fC, .slice dA ds.length dC, .slice bA bs.length bC, .slice nA ns.length nC] 28)).alloc (.cells #[.int .i64 0, .int .i64 0, .bool false, .slice none 0 0, .slice none 0 0, .slice none 0 0, .slice none 0 0] 28)).alloc (.cells #[.int .i64 c, .int .i64 wd, .bool b, .slice fA fs.length fC, .slice dA ds.length dC, .slice bA bs.length bC, .slice nA ns.length nC] 28)).heap.size ∧ ∀ j u, (mem2 ns)[j]? = some u → (((w.alloc (.cells #[.int .i64 c, .int .i64 wd, .bool b, .slice fA fs.length fC, .slice dA ds.length dC, .slice bA bs.length bC, .slice nA ns.length nC] 28)).alloc (.cells #[.int .i64 0, .int .i64 0, .bool false, .slice none 0 0, .slice none 0 0, .slice none 0 0, .slice none 0 0] 28)).alloc (.cells #[.int .i64 c, .int .i64 wd, .bool b, .slice fA fs.length fC, .slice dA ds.length dC, .slice bA bs.length bC, .slice nA ns.length nC] 28)).cell? (ad.add j) = some u := by
      intro hm
      obtain ⟨rfl, hlt⟩ := hnA hm
      refine ⟨_, rfl, Nat.lt_of_lt_of_le hlt HN.out.size, fun j u hu => ?_⟩
      rw [addr_add9]
      obtain ⟨i, hi, ⟨rfl, rfl⟩ | ⟨rfl, rfl⟩⟩ := mem2_at hu
      · exact (HN.out.cell (p := ⟨nb, nO + i * 2, none⟩) hlt).trans (hn0' i hi)
      · exact (HN.out.cell (p := ⟨nb, nO + i * 2 + 1, none⟩) hlt).trans (hn1' i hi)
    clear hf0 hf1 hf2 hft hd0 hb0 hbt hn0' hn1' hfA hdA hbA hnA ihf ihb
    have HNB := Lib.hid hnz
    have HNR := Lib.hid hnr
    have HFZ := Lib.hid hfz
    clear hnz hnr hfz
    obtain ⟨id_, hid, hzd, hyd, hwd⟩ := info_parts int_info
    obtain ⟨in_, hin, hzn, hyn, hwn⟩ := info_parts member_info
    have hx0 := Bx.new ((w.alloc (.cells #[.int .i64 c, .int .i64 wd, .bool b, .slice fA fs.length fC, .slice dA ds.length dC, .slice bA bs.length bC, .slice nA ns.length nC] 28)).alloc (.cells #[.int .i64 0, .int .i64 0, .bool false, .slice none 0 0, .slice none 0 0, .slice none 0 0, .slice none 0 0] 28)) 28 #[.int .i64 c, .int .i64 wd, .bool b, .slice fA fs.length fC, .slice dA ds.length dC, .slice bA bs.length bC, .slice nA ns.length nC]
    rw [size_alloc, size_alloc] at hx0
    have HX3 := Lib.hid hx0
    clear hx0
    have HX1 := Lib.hid (((Bx.new w 28 #[.int .i64 c, .int .i64 wd, .bool b, .slice fA fs.length fC, .slice dA ds.length dC, .slice bA bs.length bC, .slice nA ns.length nC]).later (below_new _ (.cells #[.int .i64 0, .int .i64 0, .bool false, .slice none 0 0, .slice none 0 0, .slice none 0 0, .slice none 0 0] 28)) (by simp)).later (below_new _ (.cells #[.int .i64 c, .int .i64 wd, .bool b, .slice fA fs.length fC, .slice dA ds.length dC, .slice bA bs.length bC, .slice nA ns.length nC] 28)) (by first | (simp; omega) | simp))
    have hx0 := (Bx.new (w.alloc (.cells #[.int .i64 c, .int .i64 wd, .bool b, .slice fA fs.length fC, .slice dA ds.length dC, .slice bA bs.length bC, .slice nA ns.length nC] 28)) 28 #[.int .i64 0, .int .i64 0, .bool false, .slice none 0 0, .slice none 0 0, .slice none 0 0, .slice none 0 0]).later (below_new _ (.cells #[.int .i64 c, .int .i64 wd, .bool b, .slice fA fs.length fC, .slice dA ds.length dC, .slice bA bs.length bC, .slice nA ns.length nC] 28)) (by simp)
    rw [size_alloc] at hx0
    have HX2 := Lib.hid hx0
    clear hx0
    have q4 : _ = some (Value.slice dA ds.length dC) := HX1.out.cell 4
    have q6 : _ = some (Value.slice nA ns.length nC) := HX1.out.cell 6
    have hmd : ds.length ≤ maxLen := by unfold maxLen; omega
    have hnd : ds.length * 8 ≤ 140737488355328 := by omega
    have hmn : ns.length ≤ maxLen := by unfold maxLen; omega
    have hnn : ns.length * 24 ≤ 140737488355328 := by omega
    clear kf kd kb kn k1 k2 hrb
    go_enter Try.func14, Try.ntmps14
    go_upto_region 2 with fail
    go_cut [3] (fun s3 wx => s3 = .pointer (some ⟨w.heap.size + 1 + 1, 0, none⟩) ∧ ∃ dA2 nA2 dC2 nC2, OwnSt w wx #[.int .i64 c, .int .i64 wd, .bool b, .slice fA fs.length fC, .slice dA ds.length dC, .slice bA bs.length bC, .slice nA ns.length nC] #[.int .i64 c, .int .i64 wd, .bool b, .slice none 0 0, .slice dA2 ds.length dC2, .slice none 0 0, .slice nA2 ns.length nC2] dA2 nA2 dC2 nC2 ds ns)
    case first =>
     go_region_held3 (fun w' => w'.cell? ⟨w.heap.size, 4, none⟩ = some (.slice dA ds.length dC) ∧ w'.cell? ⟨w.heap.size, 6, none⟩ = some (.slice nA ns.length nC))
       (first
         | (with_reducible exact ⟨q4n, q6n⟩)
         | (with_reducible exact ⟨q4d, q6d⟩)
         | (simp only [sc_far]; with_reducible exact ⟨q4n, q6n⟩)
         | (simp only [sc_far]; with_reducible exact ⟨q4d, q6d⟩)
         | go_keep)
       (first
         | (refine step_copy ?_ (.tmp 8) (.tmp 10) 24 ?_ 3 id_ (.int .i64 0) 1 8 Try.underlying24 hid hzd hyd hwd rfl (by decide) dA ds.length dC ?_ ?_ (nums ds) (nums_len ds) (((w.alloc (.cells #[.int .i64 c, .int .i64 wd, .bool b, .slice fA fs.length fC, .slice dA ds.length dC, .slice bA bs.length bC, .slice nA ns.length nC] 28)).alloc (.cells #[.int .i64 0, .int .i64 0, .bool false, .slice none 0 0, .slice none 0 0, .slice none 0 0, .slice none 0 0] 28)).alloc (.cells #[.int .i64 c, .int .i64 wd, .bool b, .slice fA fs.length fC, .slice dA ds.length dC, .slice bA bs.length bC, .slice nA ns.length nC] 28)) ?_ srcd (nums_one ds) hmd hnd ?_; rfl; rfl; exact ⟨_, rfl⟩; rfl; (focus (repeat' (first | exact Below.refl _ _ | exact hbd | exact hbn | exact hbd.size | exact hbn.size | (refine Below.drew ?_) | (refine Below.alloc ?_ ?_ _) | (simp; omega) | simp))); intro dA2 dC2 wD hcd hbd; have q4d := (hbd.cell (p := ⟨w.heap.size, 4, none⟩) (by first | (simp; omega) | simp)).trans q4; have q6d := (hbd.cell (p := ⟨w.heap.size, 6, none⟩) (by first | (simp; omega) | simp)).trans q6; have hxd := HX3.out.later hbd (by simp); have s3d := hxd.cell 3; have s4d := hxd.cell 4; have s5d := hxd.cell 5; have s6d := hxd.cell 6; have t3d := hxd.frozen 3; have t4d := hxd.frozen 4; have t5d := hxd.frozen 5; have t6d := hxd.frozen 6)
         | (refine step_copy ?_ (.tmp 12) (.tmp 14) 26 ?_ 68 in_ (.agg #[.string ⟨#[]⟩, .int .i64 0]) 2 24 Try.underlying26 hin hzn hyn hwn rfl (by decide) nA ns.length nC ?_ ?_ (mem2 ns) (mem2_len ns) (((w.alloc (.cells #[.int .i64 c, .int .i64 wd, .bool b, .slice fA fs.length fC, .slice dA ds.length dC, .slice bA bs.length bC, .slice nA ns.length nC] 28)).alloc (.cells #[.int .i64 0, .int .i64 0, .bool false, .slice none 0 0, .slice none 0 0, .slice none 0 0, .slice none 0 0] 28)).alloc (.cells #[.int .i64 c, .int .i64 wd, .bool b, .slice fA fs.length fC, .slice dA ds.length dC, .slice bA bs.length bC, .slice nA ns.length nC] 28)) ?_ srcn (mem2_one ns) hmn hnn ?_; rfl; rfl; exact ⟨_, rfl⟩; rfl; (focus (repeat' (first | exact Below.refl _ _ | exact hbd | exact hbn | exact hbd.size | exact hbn.size | (refine Below.drew ?_) | (refine Below.alloc ?_ ?_ _) | (simp; omega) | simp))); intro nA2 nC2 wN hcn hbn; have q4n := (hbn.cell (p := ⟨w.heap.size, 4, none⟩) (by first | (simp; omega) | simp)).trans q4; have q6n := (hbn.cell (p := ⟨w.heap.size, 6, none⟩) (by first | (simp; omega) | simp)).trans q6; have hxn := HX3.out.later hbn (by simp); have s3n := hxn.cell 3; have s4n := hxn.cell 4; have s5n := hxn.cell 5; have s6n := hxn.cell 6; have t3n := hxn.frozen 3; have t4n := hxn.frozen 4; have t5n := hxn.frozen 5; have t6n := hxn.frozen 6))
     all_goals (go_wp2_with fail; go_meet; refine ⟨rfl, dA2, nA2, dC2, nC2, ?_⟩)
     all_goals exact own_start (by simp) HN.out HX1.out HX2.out HX3.out hcd (by simp) hcn (by first | exact hbd.size | (simp; have := hbd.size; simp at this; omega)) (below_more (by repeat' (first | exact Below.refl _ _ | (refine Below.drew ?_) | (refine Below.alloc ?_ ?_ _) | exact Nat.le_refl _ | (simp; omega) | simp)) hcn.be) hbn
    case rest =>
     obtain ⟨rfl, dA2, nA2, dC2, nC2, hst⟩ := hcut
     have HST := Lib.hid (hst.lp 66 9 (hdF fs) (fs.map Fd.ty))
     have HDC := Lib.hid hst.dc
     have HNC := Lib.hid hst.nc
     clear hst srcd srcn HX1 HX2 HX3 HN q4 q6 hid hzd hyd hwd hin hzn hyn hwn hmd hnd hmn hnn
     clear id_ in_
     obtain ⟨i0, hi0, hz0, hz1, hz2⟩ := info_parts field_info
     obtain ⟨j0, hj0, hj1, hj2, hj3⟩ := info_parts type_info
     go_wp2
     go_loopw [4] (fun i wr => ∃ (k : Nat) (V : Value) (rs : List (List Value)) (S : Nat → Prop), rs.length = k ∧ k ≤ fs.length ∧ i = .int .i64 k ∧
        Lp 0 w wr #[.int .i64 c, .int .i64 wd, .bool b, .slice fA fs.length fC, .slice dA ds.length dC, .slice bA bs.length bC, .slice nA ns.length nC] #[.int .i64 c, .int .i64 wd, .bool b, V, .slice dA2 ds.length dC2, .slice none 0 0, .slice nA2 ns.length nC2] S (E0 dA2 nA2 ds ns) 66 9 V (hdF fs) (fs.map Fd.ty) rs ∧
        ∀ g, S0 dA2 nA2 ds ns g → S g) (fun i _ => fs.length - (intOf i).toNat)
     case atStart => exact ⟨0, _, [], _, rfl, Nat.zero_le _, rfl, HST.out, fun g h => h⟩
     case round =>
       clear HST
       obtain ⟨k, V, rs, S, hkr, hk, rfl, hlp, hsub⟩ := hrel
       have HLP := Lib.hid hlp
       have HSUB := Lib.hid hsub
       have HKR := Lib.hid hkr
       have c3 := hlp.b1.cell 3
       have c5 := hlp.b1.cell 5
       clear hlp hsub hkr
       by_cases hlt : k < fs.length
       · obtain ⟨rfl, hnb⟩ := HFA.out (by omega)
         have hc := fun o : Nat => HLP.out.be.cell (p := ⟨fb, o, none⟩) hnb
         have g0 := (hc (fo + k * 9)).trans (HF0.out k hlt)
         have g1 := (hc (fo + k * 9 + 1)).trans (HF1.out k hlt)
         have a0 : wr.cell? ⟨fb, fo + k * 9 + 2, none⟩ = some (fv k 0) := (hc _).trans (HF2.out k hlt 0 (by omega))
         have a1 := (hc (fo + k * 9 + 2 + 1)).trans (HF2.out k hlt 1 (by omega))
         have a2 := (hc (fo + k * 9 + 2 + 2)).trans (HF2.out k hlt 2 (by omega))
         have a3 := (hc (fo + k * 9 + 2 + 3)).trans (HF2.out k hlt 3 (by omega))
         have a4 := (hc (fo + k * 9 + 2 + 4)).trans (HF2.out k hlt 4 (by omega))
         have a5 := (hc (fo + k * 9 + 2 + 5)).trans (HF2.out k hlt 5 (by omega))
         have a6 := (hc (fo + k * 9 + 2 + 6)).trans (HF2.out k hlt 6 (by omega))
         clear hc
         have hbt := HFT.out k hlt
         have hm := List.getElem_mem hlt
         generalize hfk : fs[k] = fk at g0 g1 hbt hm
         have HFK := Lib.hid (show fs[k]? = some fk by rw [List.getElem?_eq_getElem hlt, hfk])
         clear hfk
         obtain ⟨fA', dA', bA', nA', fC', dC', bC', nC', e0, e1, e2, e3, e4, e5, e6⟩ := hbt.cells
         rw [e0] at a0 hbt
         rw [e1] at a1 hbt
         rw [e2] at a2 hbt
         rw [e3] at a3 hbt
         rw [e4] at a4 hbt
         rw [e5] at a5 hbt
         rw [e6] at a6 hbt
         have HBT1 := Lib.hid ((hbt.later HLP.out.be).up HLP.out.be.size)
         clear e0 e1 e2 e3 e4 e5 e6 hbt
         have HNB := Lib.hid (below_new wr (.cells (#[.string fk.name, .int .i64 fk.pos, .int .i64 fk.ty.c, .int .i64 fk.ty.w, .bool fk.ty.big, .slice fA' fk.ty.fs.length fC', .slice dA' fk.ty.ds.length dC', .slice bA' fk.ty.bs.length bC', .slice nA' fk.ty.ns.length nC']) 66))
         go_wp2_with (go_at_call 14; refine (IF.out fk hm (K1.out _ hm) _ _ ((HBT1.out.later HNB.out).up HNB.out.size)).mono ?_)
         first
           | rintro _ w2 u rfl S' hL hS' hb2
           | rintro _ w2 ⟨u, S', rfl, hL, hS', hb2⟩
         obtain ⟨fA9, dA9, bA9, nA9, fC9, dC9, bC9, nC9, rfl⟩ := hL.here.shape
         have hsm := size_alloc wr (.cells (#[.string fk.name, .int .i64 fk.pos, .int .i64 fk.ty.c, .int .i64 fk.ty.w, .bool fk.ty.big, .slice fA' fk.ty.fs.length fC', .slice dA' fk.ty.ds.length dC', .slice bA' fk.ty.bs.length bC', .slice nA' fk.ty.ns.length nC']) 66)
         have HS' := Lib.hid (show ∀ g, S' g → wr.heap.size < g from fun g hg => by first | exact hS' g hg | (have := hS' g hg; rw [hsm] at this; exact this) | (have := hS' g hg; simp at this; omega))
         have HL := Lib.hid hL
         have hb3 := below_succ hb2
         have hfx := (Bx.new wr 66 #[.string fk.name, .int .i64 fk.pos, .int .i64 fk.ty.c, .int .i64 fk.ty.w, .bool fk.ty.big, .slice fA' fk.ty.fs.length fC', .slice dA' fk.ty.ds.length dC', .slice bA' fk.ty.bs.length bC', .slice nA' fk.ty.ns.length nC']).later hb3 (by rw [hsm]; exact Nat.lt_succ_self _)
         have HW2 := Lib.hid (below_more HNB.out hb3)
         have x2 : w2.cell? ⟨wr.heap.size, 2, none⟩ = some (.int .i64 fk.ty.c) := hfx.cell 2
         have x3 : w2.cell? ⟨wr.heap.size, 3, none⟩ = some (.int .i64 fk.ty.w) := hfx.cell 3
         have x4 : w2.cell? ⟨wr.heap.size, 4, none⟩ = some (.bool fk.ty.big) := hfx.cell 4
         have x5 : w2.cell? ⟨wr.heap.size, 5, none⟩ = some (.slice fA' fk.ty.fs.length fC') := hfx.cell 5
         have x6 : w2.cell? ⟨wr.heap.size, 6, none⟩ = some (.slice dA' fk.ty.ds.length dC') := hfx.cell 6
         have x7 : w2.cell? ⟨wr.heap.size, 7, none⟩ = some (.slice bA' fk.ty.bs.length bC') := hfx.cell 7
         have x8 : w2.cell? ⟨wr.heap.size, 8, none⟩ = some (.slice nA' fk.ty.ns.length nC') := hfx.cell 8
         have y2 := hfx.frozen 2
         have y3 := hfx.frozen 3
         have y4 := hfx.frozen 4
         have y5 := hfx.frozen 5
         have y6 := hfx.frozen 6
         have y7 := hfx.frozen 7
         have y8 := hfx.frozen 8
         obtain ⟨wq, hwq, hq1, hq2, hq3, hq4⟩ := set7 (r := none) hfx (Gr.of_below HW2.out) (.int .i64 fk.ty.c) (.int .i64 fk.ty.w) (.bool fk.ty.big) (.slice fA9 fk.ty.fs.length fC9) (.slice dA9 fk.ty.ds.length dC9) (.slice bA9 fk.ty.bs.length bC9) (.slice nA9 fk.ty.ns.length nC9)
         have HWQ := Lib.hid hwq
         have HQ1 := Lib.hid hq1
         have HQ2 := Lib.hid hq2
         have HQ3 := Lib.hid hq3
         have HQ4 := Lib.hid hq4
         clear hfx hL hS' hb2 hb3 hsm a0 a1 a2 a3 a4 a5 a6 g0 g1 c3 hwq hq1 hq2 hq3 hq4
         go_upto_region 8 with fail
         rw [HWQ.out]
         clear x2 x3 x4 x5 x6 x7 x8 y2 y3 y4 y5 y6 y7 y8
         have hVne : ∀ g, g < w.heap.size + 1 + 1 + 1 → V.ownBlock ≠ some g := fun g hg e => by have := (HLP.out.row.lt g e).1; omega
         have hVwr : V.ownBlock ≠ some wr.heap.size := fun e => by have := (HLP.out.row.lt _ e).2; omega
         have l3 := HLP.out.b3.lt
         have hb3 := HQ2.out.bx HLP.out.b3 (by omega) (by simp)
         have v3 : wq.cell? ⟨w.heap.size + 1 + 1, 3, none⟩ = some V := hb3.cell 3
         have x0 : wq.cell? ⟨wr.heap.size, 0, none⟩ = some (.string fk.name) := HQ1.out.cell 0
         have x1 : wq.cell? ⟨wr.heap.size, 1, none⟩ = some (.int .i64 fk.pos) := HQ1.out.cell 1
         have x2 : wq.cell? ⟨wr.heap.size, 2, none⟩ = some (.int .i64 fk.ty.c) := HQ1.out.cell 2
         have x3 : wq.cell? ⟨wr.heap.size, 3, none⟩ = some (.int .i64 fk.ty.w) := HQ1.out.cell 3
         have x4 : wq.cell? ⟨wr.heap.size, 4, none⟩ = some (.bool fk.ty.big) := HQ1.out.cell 4
         have x5 : wq.cell? ⟨wr.heap.size, 5, none⟩ = some (.slice fA9 fk.ty.fs.length fC9) := HQ1.out.cell 5
         have x6 : wq.cell? ⟨wr.heap.size, 6, none⟩ = some (.slice dA9 fk.ty.ds.length dC9) := HQ1.out.cell 6
         have x7 : wq.cell? ⟨wr.heap.size, 7, none⟩ = some (.slice bA9 fk.ty.bs.length bC9) := HQ1.out.cell 7
         have x8 : wq.cell? ⟨wr.heap.size, 8, none⟩ = some (.slice nA9 fk.ty.ns.length nC9) := HQ1.out.cell 8
         have hkb : (k + 1) * 144 ≤ 140737488355328 := by have h1 := KF.out; rw [bytesF9] at h1; have h2 : reachBytes ≤ 140737488355328 := by decide
                                                          omega
         have hkm : k + 1 ≤ maxLen := by unfold maxLen; omega
         have hgA := HQ2.out.alloc (.cells #[.string fk.name, .int .i64 fk.pos, .int .i64 fk.ty.c, .int .i64 fk.ty.w, .bool fk.ty.big, .slice fA9 fk.ty.fs.length fC9, .slice dA9 fk.ty.ds.length dC9, .slice bA9 fk.ty.bs.length bC9, .slice nA9 fk.ty.ns.length nC9] 66)
         have HGA := Lib.hid hgA
         have HRA := Lib.hid (show (wq.alloc (.cells #[.string fk.name, .int .i64 fk.pos, .int .i64 fk.ty.c, .int .i64 fk.ty.w, .bool fk.ty.big, .slice fA9 fk.ty.fs.length fC9, .slice dA9 fk.ty.ds.length dC9, .slice bA9 fk.ty.bs.length bC9, .slice nA9 fk.ty.ns.length nC9] 66)).ownsRow (w.heap.size + 1 + 1 + 1) 66 9 V k rs.flatten from by
           have h1 := HLP.out.row
           rw [HKR.out] at h1
           exact hgA.own h1 hVwr)
         have HBA3 := Lib.hid (hgA.bx HLP.out.b3 (by omega) (by simp))
         have HSZ := Lib.hid (show w.heap.size + 1 + 1 + 1 ≤ (wq.alloc (.cells #[.string fk.name, .int .i64 fk.pos, .int .i64 fk.ty.c, .int .i64 fk.ty.w, .bool fk.ty.big, .slice fA9 fk.ty.fs.length fC9, .slice dA9 fk.ty.ds.length dC9, .slice bA9 fk.ty.bs.length bC9, .slice nA9 fk.ty.ns.length nC9] 66)).heap.size from Nat.le_trans l3 hgA.size)
         have HAN := Lib.hid (heap_alloc_new wq (.cells #[.string fk.name, .int .i64 fk.pos, .int .i64 fk.ty.c, .int .i64 fk.ty.w, .bool fk.ty.big, .slice fA9 fk.ty.fs.length fC9, .slice dA9 fk.ty.ds.length dC9, .slice bA9 fk.ty.bs.length bC9, .slice nA9 fk.ty.ns.length nC9] 66))
         clear hgA hb3 l3
         go_wp2_with (at_builtin; refine wpList_append_lies _ rfl (.tmp 37) (.tmp 39) 23 rfl (w.heap.size + 1 + 1 + 1) 66 i0 _ 9 144 Try.underlying23 hi0 hz0 hz1 hz2 rfl (by decide) V k rs.flatten rfl HRA.out ⟨wq.heap.size, 0, none⟩ 1 1 [.string fk.name, .int .i64 fk.pos, .int .i64 fk.ty.c, .int .i64 fk.ty.w, .bool fk.ty.big, .slice fA9 fk.ty.fs.length fC9, .slice dA9 fk.ty.ds.length dC9, .slice bA9 fk.ty.bs.length bC9, .slice nA9 fk.ty.ns.length nC9] rfl rfl (World.news_of_block HAN.out) (by simp [Value.oneCell']) (by decide) hkm hkb HSZ.out _ rfl ?_; intro g9 cap9 wt hown hgr hat hlt9; have hbt3 := hgr.block (w.heap.size + 1 + 1) HBA3.out.lt (fun e => hVne _ (by omega) e.symm); have hbt4 := hbt3.trans HBA3.out; have o1 := Bx.cell hbt4 3; have o2 := Bx.frozen hbt4 3)
         have HOWN := Lib.hid hown
         have hwqs : (wq.alloc (.cells #[.string fk.name, .int .i64 fk.pos, .int .i64 fk.ty.c, .int .i64 fk.ty.w, .bool fk.ty.big, .slice fA9 fk.ty.fs.length fC9, .slice dA9 fk.ty.ds.length dC9, .slice bA9 fk.ty.bs.length bC9, .slice nA9 fk.ty.ns.length nC9] 66)).heap.size = w2.heap.size + 1 := by rw [size_alloc, HQ3.out]
         have hst := Lp.step HLP.out HKR.out (w2 := w2) (wt := wt) (S' := S') (V' := .slice (some ⟨g9, 0, none⟩) (k + 1) cap9) (by simpa using hlt) (HGA.out.weak.trans (.inl rfl) (.of_grown hgr)) (fun g h1 h2 => (hgr.block g (by rw [hwqs]; omega) (fun e => by have := (HLP.out.row.lt g e.symm).2; have := HS'.out g h1; omega)).trans (((below_new wq _).block g (by rw [HQ3.out]; exact h2)).trans (HQ4.out g (by have := HS'.out g h1; omega))))
           (by have := hgr.size; rw [hwqs] at this; omega) HW2.out.size
           (by
             have e : (fs.map Fd.ty)[k]'(by simpa using hlt) = fk.ty := by
               rw [List.getElem_map]
               exact congrArg Fd.ty (Option.some.inj ((List.getElem?_eq_getElem hlt).symm.trans HFK.out))
             rw [e]
             exact HL.out) (fun g h => .inl (Nat.le_of_lt (HS'.out g h))) 3 (by rw [hdF_at HFK.out]; exact HOWN.out) (by
             rcases hat with h | h
             · exact .inl h.symm
             · exact .inr ⟨g9, rfl, by rw [h, hwqs]; omega⟩)
         have HSTP := Lib.hid hst
         clear hst hown hgr hat hwqs
         go_roundw
         case rel => exact ⟨k + 1, _, _, _, by simp [HKR.out], by omega, by go_num, HSTP.out, fun g h => .inl (HSUB.out g h)⟩
         case measure => simp [intOf]; omega
       · obtain rfl : k = fs.length := by omega
         obtain ⟨Af, Cf, hVe⟩ := own_form HLP.out.row
         subst hVe
         have hnx := HLP.out.next (e2 := 28) (size2 := 7) (fun _ => []) bs
         have hsub1 : ∀ g, S0 dA2 nA2 ds ns g → (fun g => S g ∨ (Value.slice Af rs.length Cf).ownBlock = some g) g := fun g h => .inl (HSUB.out g h)
         generalize hS1 : (fun g => S g ∨ (Value.slice Af rs.length Cf).ownBlock = some g) = S1 at hnx hsub1
         clear hS1
         have HNX := Lib.hid hnx
         have HSUB1 := Lib.hid hsub1
         clear hnx hsub1 HLP HSUB
         go_wp2
         clear c3 c5 IF K1 KF HFA HF0 HF1 HF2 HFT
         go_loopw [6] (fun i wx => ∃ (k : Nat) (V2 : Value) (rb : List (List Value)) (S : Nat → Prop), rb.length = k ∧ k ≤ bs.length ∧ i = .int .i64 k ∧
            Lp 0 w wx #[.int .i64 c, .int .i64 wd, .bool b, .slice fA fs.length fC, .slice dA ds.length dC, .slice bA bs.length bC, .slice nA ns.length nC] #[.int .i64 c, .int .i64 wd, .bool b, .slice Af rs.length Cf, .slice dA2 ds.length dC2, V2, .slice nA2 ns.length nC2] S (fun w' => E0 dA2 nA2 ds ns w' ∧ RowsAt S1 (.slice Af rs.length Cf) (hdF fs) (fs.map Fd.ty) rs w') 28 7 V2 (fun _ => []) bs rb ∧
            ∀ g, S1 g → S g) (fun i _ => bs.length - (intOf i).toNat)
         case atStart => exact ⟨0, _, [], _, rfl, Nat.zero_le _, rfl, HNX.out, fun g h => h⟩
         case round =>
           clear HNX
           obtain ⟨k, V2, rb, S2, hkr2, hk, rfl, hlp, hsub⟩ := hrel
           have HLP := Lib.hid hlp
           have HSUB := Lib.hid hsub
           have HKR2 := Lib.hid hkr2
           have c5 : wr.cell? ⟨w.heap.size, 5, none⟩ = some (.slice bA bs.length bC) := hlp.b1.cell 5
           have v5 : wr.cell? ⟨w.heap.size + 1 + 1, 5, none⟩ = some V2 := hlp.b3.cell 5
           clear hlp hsub hkr2
           by_cases hlt : k < bs.length
           · obtain ⟨rfl, hnb⟩ := HBA.out (by omega)
             have hc := fun o : Nat => HLP.out.be.cell (p := ⟨bb, o, none⟩) hnb
             have a0 : wr.cell? ⟨bb, bo + k * 7, none⟩ = some (bv k 0) := (hc _).trans (HB0.out k hlt 0 (by omega))
             have a1 := (hc (bo + k * 7 + 1)).trans (HB0.out k hlt 1 (by omega))
             have a2 := (hc (bo + k * 7 + 2)).trans (HB0.out k hlt 2 (by omega))
             have a3 := (hc (bo + k * 7 + 3)).trans (HB0.out k hlt 3 (by omega))
             have a4 := (hc (bo + k * 7 + 4)).trans (HB0.out k hlt 4 (by omega))
             have a5 := (hc (bo + k * 7 + 5)).trans (HB0.out k hlt 5 (by omega))
             have a6 := (hc (bo + k * 7 + 6)).trans (HB0.out k hlt 6 (by omega))
             clear hc
             have hbt := HBT.out k hlt
             have hm := List.getElem_mem hlt
             generalize hxk : bs[k] = xk at hbt hm
             have HXK := Lib.hid hxk
             clear hxk
             obtain ⟨fA', dA', bA', nA', fC', dC', bC', nC', e0, e1, e2, e3, e4, e5, e6⟩ := hbt.cells
             rw [e0] at a0 hbt
             rw [e1] at a1 hbt
             rw [e2] at a2 hbt
             rw [e3] at a3 hbt
             rw [e4] at a4 hbt
             rw [e5] at a5 hbt
             rw [e6] at a6 hbt
             have HBT1 := Lib.hid (((hbt.later HLP.out.be).up HLP.out.be.size).drew)
             clear e0 e1 e2 e3 e4 e5 e6 hbt
             have l3 := HLP.out.b3.lt
             have hlw : w.heap.size < wr.heap.size := by omega
             have hbw : bb < wr.heap.size := by omega
             have hlv : w.heap.size < w.heap.size + 1 + 1 := by omega
             have hbv : bb < w.heap.size + 1 + 1 := by omega
             have hkb : (k + 1) * 120 ≤ 140737488355328 := by have h1 := KB.out; rw [bytesT7] at h1; have h2 : reachBytes ≤ 140737488355328 := by decide
                                                              omega
             have hkm : k + 1 ≤ maxLen := by unfold maxLen; omega
             have hkl : (k : Int) < (bs.length : Int) := by omega
             have hk0 : (0 : Int) ≤ (k : Int) := by omega
             have v5d : wr.drew.cell? ⟨w.heap.size + 1 + 1, 5, none⟩ = some V2 := v5
             have HVne := Lib.hid (show ∀ g, g < w.heap.size + 1 + 1 + 1 → V2.ownBlock ≠ some g from fun g hg e => by have := (HLP.out.row.lt g e).1; omega)
             go_upto_region 12 with fail
             go_region_law
               (first
                 | (refine step_append_lies (w2.alloc (.cells #[.int .i64 xk.c, .int .i64 xk.w, .bool xk.big, .slice fA9 xk.fs.length fC9, .slice dA9 xk.ds.length dC9, .slice bA9 xk.bs.length bC9, .slice nA9 xk.ns.length nC9] 28)) (by rfl) (.tmp 50) (.tmp 57) 25 (by rfl) (w.heap.size + 1 + 1 + 1) 28 j0 (.agg #[.int .i64 0, .int .i64 0, .bool false, .slice none 0 0, .slice none 0 0, .slice none 0 0, .slice none 0 0]) 7 120 Try.underlying25 hj0 hj1 hj2 hj3 (by rfl) (by decide) V2 k rb.flatten (by rfl) (HGA.out.own (by rw [← HKR2.out]; exact HLP.out.row) (fun e => absurd (HLP.out.row.lt _ e).2 (Nat.lt_irrefl _))) ⟨w2.heap.size, 0, none⟩ 1 1 [.int .i64 xk.c, .int .i64 xk.w, .bool xk.big, .slice fA9 xk.fs.length fC9, .slice dA9 xk.ds.length dC9, .slice bA9 xk.bs.length bC9, .slice nA9 xk.ns.length nC9] (by rfl) (by rfl) (World.news_of_block (heap_alloc_new w2 (.cells #[.int .i64 xk.c, .int .i64 xk.w, .bool xk.big, .slice fA9 xk.fs.length fC9, .slice dA9 xk.ds.length dC9, .slice bA9 xk.bs.length bC9, .slice nA9 xk.ns.length nC9] 28))) (by simp [Value.oneCell']) (by decide) hkm hkb (Nat.le_trans l3 HGA.out.size) (w2.heap.size + 1) (by rw [size_alloc]) ?_; intro g9 cap9 wt hown hgr hat hlt9;
                     have hk4 : ∀ (b o : Nat), b < w.heap.size + 1 + 1 → wt.cell? ⟨b, o, none⟩ = wr.cell? ⟨b, o, none⟩ := fun b o hb => (World.cell?_of_block (w := w2.alloc (.cells #[.int .i64 xk.c, .int .i64 xk.w, .bool xk.big, .slice fA9 xk.fs.length fC9, .slice dA9 xk.ds.length dC9, .slice bA9 xk.bs.length bC9, .slice nA9 xk.ns.length nC9] 28)) (a := ⟨b, o, none⟩) (hgr.block b (Nat.lt_of_lt_of_le (by omega) HGA.out.size) (fun e => HVne.out b (by omega) e.symm))).trans (hk3 _ b o (by omega));
                     have hk5 : ∀ (u : Value) (b o : Nat), b < w.heap.size + 1 + 1 → (wt.setCell ⟨w.heap.size + 1 + 1, 5, none⟩ u).cell? ⟨b, o, none⟩ = wr.cell? ⟨b, o, none⟩ := fun u b o hb => (World.cell?_setCell_far _ _ _ _ (by show w.heap.size + 1 + 1 ≠ b; omega)).trans (hk4 b o hb);
                     have hbt4 := (hgr.block (w.heap.size + 1 + 1) (Nat.lt_of_lt_of_le l3 HGA.out.size) (fun e => HVne.out _ (by omega) e.symm)).trans (HGA.out.bx HLP.out.b3 (by omega) (by simp)); have o1 := Bx.cell hbt4 5; have o2 := Bx.frozen hbt4 5)
                 | (go_simp; go_at_call 14; refine (IB.out xk hm (K2.out _ hm) _ _ HBT1.out).mono ?_; rintro _ w2 ⟨u, S', rfl, hL, hS', hb2⟩; obtain ⟨fA9, dA9, bA9, nA9, fC9, dC9, bC9, nC9, rfl⟩ := hL.here.shape; have hk2 : ∀ (b o : Nat), b < wr.heap.size → w2.cell? ⟨b, o, none⟩ = wr.cell? ⟨b, o, none⟩ := fun b o hb => hb2.cell (p := ⟨b, o, none⟩) hb; have hk3 : ∀ (x : Obj) (b o : Nat), b < wr.heap.size → (w2.alloc x).cell? ⟨b, o, none⟩ = wr.cell? ⟨b, o, none⟩ := fun x b o hb => (cell_old w2 x (Nat.lt_of_lt_of_le hb hb2.size) o).trans (hk2 b o hb); have v5n := (hk2 _ 5 l3).trans v5; have v5m := (hk3 (.cells #[.int .i64 xk.c, .int .i64 xk.w, .bool xk.big, .slice fA9 xk.fs.length fC9, .slice dA9 xk.ds.length dC9, .slice bA9 xk.bs.length bC9, .slice nA9 xk.ns.length nC9] 28) _ 5 l3).trans v5; have HW2 := Lib.hid hb2; have HL := Lib.hid hL; have HS' := Lib.hid hS';
                     have HGA := Lib.hid (show Gr wr.heap.size none wr (w2.alloc (.cells #[.int .i64 xk.c, .int .i64 xk.w, .bool xk.big, .slice fA9 xk.fs.length fC9, .slice dA9 xk.ds.length dC9, .slice bA9 xk.bs.length bC9, .slice nA9 xk.ns.length nC9] 28)) from ((Gr.of_below (Below.refl _ wr).drew).trans (.inl rfl) (Gr.of_below hb2)).alloc _); clear hb2 hL hS'))
             all_goals
               have hwqs : (w2.alloc (.cells #[.int .i64 xk.c, .int .i64 xk.w, .bool xk.big, .slice fA9 xk.fs.length fC9, .slice dA9 xk.ds.length dC9, .slice bA9 xk.bs.length bC9, .slice nA9 xk.ns.length nC9] 28)).heap.size = w2.heap.size + 1 := by rw [size_alloc]
               have hst := Lp.step HLP.out HKR2.out (w2 := w2) (wt := wt) (S' := S') (V' := .slice (some ⟨g9, 0, none⟩) (k + 1) cap9) hlt (HGA.out.weak.trans (.inl rfl) (.of_grown hgr)) (fun g h1 h2 => (hgr.block g (by rw [hwqs]; omega) (fun e => by have h3 := (HLP.out.row.lt g e.symm).2; have h4 : wr.heap.size ≤ g := HS'.out g h1; omega)).trans ((below_new w2 _).block g h2))
                 (by have := hgr.size; rw [hwqs] at this; omega) HW2.out.size (by rw [HXK.out]; exact HL.out) (fun g h => .inl (HS'.out g h)) 5 hown (by
                   rcases hat with h | h
                   · exact .inl h.symm
                   · exact .inr ⟨g9, rfl, by rw [h]; omega⟩)
               have HSTP := Lib.hid hst
               clear hst hown hgr hat hwqs hk2 hk3 hk4 hk5 a0 a1 a2 a3 a4 a5 a6 c5
               go_wp2
               go_roundw
               (case rel => exact ⟨k + 1, _, _, _, by simp [HKR2.out], by omega, by go_num, HSTP.out, fun g h => .inl (HSUB.out g h)⟩)
               (case measure => simp [intOf]; omega)
           · obtain rfl : k = bs.length := by omega
             obtain ⟨Ab, Cb, hVe⟩ := own_form HLP.out.row
             subst hVe
             have hlies : ∃ S3 : Nat → Prop, Lies S3 wr (.mk c wd b fs ds bs ns) (.agg #[.int .i64 c, .int .i64 wd, .bool b, .slice Af rs.length Cf, .slice dA2 ds.length dC2, .slice Ab rb.length Cb, .slice nA2 ns.length nC2]) ∧ ∀ g, S3 g → w.heap.size + 1 + 1 < g := by
               refine ⟨fun g => S2 g ∨ (Value.slice Ab rb.length Cb).ownBlock = some g, ⟨fun g hg => ?_, fun w3 hw3 B hB => ?_⟩, fun g hg => ?_⟩
               · rcases hg with hg | hg
                 · exact (HLP.out.sb g hg).2
                 · exact (HLP.out.row.lt g hg).2
               · have hrb := HLP.out.rows w3 hw3
                 obtain ⟨⟨hE1, hE2⟩, hE3⟩ := HLP.out.ex w3 (fun g hg => hw3 g (.inl hg))
                 exact own_mk hf hd hb hn HFZ.out HNB.out HNR.out (hE1.more fun g hg => .inl (HSUB.out g (HSUB1.out g hg))) (hE2.more fun g hg => .inl (HSUB.out g (HSUB1.out g hg))) (hE3.more fun g hg => .inl (HSUB.out g hg)) HKR.out hrb HKR2.out HDC.out HNC.out B hB
               · rcases hg with hg | hg
                 · have := HLP.out.sb g hg; omega
                 · exact (HLP.out.row.lt g hg).1
             obtain ⟨S3, hl3, hs3⟩ := hlies
             have HL3 := Lib.hid hl3
             have HS3 := Lib.hid hs3
             have HBE := Lib.hid HLP.out.be
             have d0 : wr.cell? ⟨w.heap.size + 1 + 1, 0, none⟩ = some (.int .i64 c) := HLP.out.b3.cell 0
             have d1 : wr.cell? ⟨w.heap.size + 1 + 1, 1, none⟩ = some (.int .i64 wd) := HLP.out.b3.cell 1
             have d2 : wr.cell? ⟨w.heap.size + 1 + 1, 2, none⟩ = some (.bool b) := HLP.out.b3.cell 2
             have d3 : wr.cell? ⟨w.heap.size + 1 + 1, 3, none⟩ = some (.slice Af rs.length Cf) := HLP.out.b3.cell 3
             have d4 : wr.cell? ⟨w.heap.size + 1 + 1, 4, none⟩ = some (.slice dA2 ds.length dC2) := HLP.out.b3.cell 4
             have d5 : wr.cell? ⟨w.heap.size + 1 + 1, 5, none⟩ = some (.slice Ab rb.length Cb) := HLP.out.b3.cell 5
             have d6 : wr.cell? ⟨w.heap.size + 1 + 1, 6, none⟩ = some (.slice nA2 ns.length nC2) := HLP.out.b3.cell 6
             have r0 : wr.cell? ⟨w.heap.size + 1, 0, none⟩ = some (.int .i64 0) := HLP.out.b2.cell 0
             have r1 : wr.cell? ⟨w.heap.size + 1, 1, none⟩ = some (.int .i64 0) := HLP.out.b2.cell 1
             have r2 : wr.cell? ⟨w.heap.size + 1, 2, none⟩ = some (.bool false) := HLP.out.b2.cell 2
             have r3 : wr.cell? ⟨w.heap.size + 1, 3, none⟩ = some (.slice none 0 0) := HLP.out.b2.cell 3
             have r4 : wr.cell? ⟨w.heap.size + 1, 4, none⟩ = some (.slice none 0 0) := HLP.out.b2.cell 4
             have r5 : wr.cell? ⟨w.heap.size + 1, 5, none⟩ = some (.slice none 0 0) := HLP.out.b2.cell 5
             have r6 : wr.cell? ⟨w.heap.size + 1, 6, none⟩ = some (.slice none 0 0) := HLP.out.b2.cell 6
             have z0 := HLP.out.b2.frozen 0
             have z1 := HLP.out.b2.frozen 1
             have z2 := HLP.out.b2.frozen 2
             have z3 := HLP.out.b2.frozen 3
             have z4 := HLP.out.b2.frozen 4
             have z5 := HLP.out.b2.frozen 5
             have z6 := HLP.out.b2.frozen 6
             clear hl3 hs3 HLP HSUB HSUB1 v5
             go_wp2
             refine bodyPost_ret (v := .agg #[.int .i64 c, .int .i64 wd, .bool b, .slice Af rs.length Cf, .slice dA2 ds.length dC2, .slice Ab rb.length Cb, .slice nA2 ns.length nC2]) (by simp [results, Try.results14, go_sem, r0, r1, r2, r3, r4, r5, r6]) rfl ⟨_, S3, rfl, HL3.out.keep (fun g hg => ?_) (by simp [World.setCell]), fun g hg => by have := HS3.out g hg; omega, ?_⟩
             · have h := HS3.out g hg
               have hne : g ≠ w.heap.size + 1 := by omega
               rw [Below.heap_setCell _ _ _ _ hne, Below.heap_setCell _ _ _ _ hne, Below.heap_setCell _ _ _ _ hne, Below.heap_setCell _ _ _ _ hne, Below.heap_setCell _ _ _ _ hne, Below.heap_setCell _ _ _ _ hne, Below.heap_setCell _ _ _ _ hne]
             · refine Below.setCell (Below.setCell (Below.setCell (Below.setCell (Below.setCell (Below.setCell (Below.setCell HBE.out ?_ _) ?_ _) ?_ _) ?_ _) ?_ _) ?_ _) ?_ _ <;> exact Nat.le_succ _
end Go.Proofs.Ytbdhihgokkcmfaa.Ty9
